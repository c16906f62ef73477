/- The abstract interpreter 'Vi', thirty-sixth part: the rounds of a range over a function. No condition beyond those typed in each theorem. -/
import Derived.Test.YtncngmcojppmgaaGreatVi35
namespace Go.Vi
open Go.RowKit
section
variable {P : Program} {C : Ctx} {cfg : jM} {R : Type} {r : R} {s s' : St} {a a' : Act} {w w' W W' : World} {H H' : FH} {Φ Φ' : Nat → qC}
def AV.calm : AV → Bool
 | .upd _ _ _ _ _ => false
 | .cons a b => a.calm && b.calm
 | .fn _ a b => a.calm && b.calm
 | .gh _ a => a.calm
 | _ => true
theorem qch : ∀ {av : AV}, av.calm = true → av.killIf AV.isUpd = av
 | .dead, _ => rfl
 | .val _ _, _ => rfl
 | .ref _ _, _ => rfl
 | .ptr _ _, _ => rfl
 | .view _ _, _ => rfl
 | .upd _ _ _ _ _, h => by cases h
 | .cut _ _ _ _, _ => rfl
 | .nil, _ => rfl
 | .cv _ _ _, _ => rfl
 | .gh _ a, h => by
  simp only [AV.calm] at h
  simp only [AV.killIf, qch h]
 | .cons a b, h => by
  simp only [AV.calm, Bool.and_eq_true] at h
  simp only [AV.killIf, qch h.1, qch h.2]
 | .fn f a b, h => by
  simp only [AV.calm, Bool.and_eq_true] at h
  simp only [AV.killIf, qch h.1, qch h.2]
theorem qce : ∀ av : AV, (av.killIf AV.isUpd).calm = true
 | .dead => rfl
 | .val _ _ => rfl
 | .ref _ _ => rfl
 | .ptr _ _ => rfl
 | .view _ _ => rfl
 | .upd _ _ _ _ _ => rfl
 | .cut _ _ _ _ => rfl
 | .nil => rfl
 | .cv _ _ _ => rfl
 | .gh _ a => by simp only [AV.killIf, AV.calm, qce a]
 | .cons a b => by simp only [AV.killIf, AV.calm, qce a, qce b, Bool.and_self]
 | .fn _ a b => by simp only [AV.killIf, AV.calm, qce a, qce b, Bool.and_self]
def St.calm (s : St) : Prop := ∀ t av, s.get t = some av → av.calm = true
theorem qg.calm_ctx {C C' : Ctx} {os : Nat → Option Obj} (hg : C'.gh = C.gh) (hp : C'.pin = C.pin) : ∀ {av : AV} {v : Value}, av.calm = true → qg P C w H Φ os av v → qg P C' w H Φ os av v
 | .dead, _, _, h => h
 | .val _ _, _, _, h => h
 | .ref _ _, _, _, h => h
 | .ptr _ _, _, _, h => h
 | .view _ _, _, _, h => h
 | .upd _ _ _ _ _, _, hc, _ => by cases hc
 | .cut _ _ _ _, _, _, h => h
 | .fn _ _ _, _, hc, ⟨vs, us, h1, h2, h3⟩ => by
  simp only [AV.calm, Bool.and_eq_true] at hc
  exact ⟨vs, us, h1, qg.calm_ctx hg hp hc.1 h2, qg.calm_ctx hg hp hc.2 h3⟩
 | .nil, _, _, h => h
 | .cv _ _ _, _, _, ⟨b, cv, h1, h2⟩ => ⟨b, cv, h1, by rw [hp]; exact h2⟩
 | .gh _ _, _, hc, ⟨u, h1, h2⟩ => ⟨u, by rw [hg]; exact h1, qg.calm_ctx hg hp (by simpa [AV.calm] using hc) h2⟩
 | .cons _ _, _, hc, ⟨u, us, h1, h2, h3⟩ => by
  simp only [AV.calm, Bool.and_eq_true] at hc
  exact ⟨u, us, h1, qg.calm_ctx hg hp hc.1 h2, qg.calm_ctx hg hp hc.2 h3⟩
def qfi (w : World) (M : Nat → Prop) (pl : List (Nat × qC)) (nt : Nat) (O : Nat → Prop) (W : World) (H : FH) : Ctx := ⟨W, fun b => (M b ∨ w.heap.size ≤ b) ∧ (∃ c t f, W.heap[b]? = some (.cells c t f)) ∧ ¬ O b, H, nt, lk pl, [], fun _ => none⟩
variable {M O O' : Nat → Prop} {pl : List (Nat × qC)} {nt : Nat}
theorem qk.rebaseK {W0 : World} {H0 : FH} (hW : w.heap.size ≤ W0.heap.size) (hO : ∀ b, O b → b < W0.heap.size) (hs : qk P (qfi w M pl nt O W0 H0) s a W H Φ) : qk P (qfi w M pl nt O W H) s a W H Φ := by
 have hmay : ∀ b, (qfi w M pl nt O W0 H0).M0 b ∨ (qfi w M pl nt O W0 H0).w0.heap.size ≤ b → (M b ∨ w.heap.size ≤ b) ∧ ¬ O b := by
  rintro b (hb | hb)
  ·exact ⟨hb.1, hb.2.2⟩
  ·have hb' : W0.heap.size ≤ b := hb
   exact ⟨.inr (Nat.le_trans hW hb'), fun h => absurd (hO b h) (Nat.not_lt.2 hb')⟩
 refine ⟨hs.defers, hs.size, FH.le_refl _, hs.hok, fun b c hb => .inl hb, j7.refl _ _, ?_, ?_, hs.disj, hs.pins⟩
 ·intro t av ht
  exact qg.ctx (C := qfi w M pl nt O W0 H0) (C' := qfi w M pl nt O W H) rfl rfl (fun b hb hc => (⟨hb.fz, hb.obj, .inl ⟨(hmay b hb.may).1, hc, (hmay b hb.may).2⟩, hb.lt⟩ : qao (qfi w M pl nt O W H) W H Φ s.obj b)) (hs.ts t av ht)
 ·intro id o ho
  have h := hs.os id o ho
  exact ⟨h.1, fun b hb => ⟨(h.2 b hb).1, .inl ⟨(hmay b (h.2 b hb).2.1).1, h.1.cells b hb, (hmay b (h.2 b hb).2.1).2⟩, (h.2 b hb).2.2⟩⟩
theorem qk.moveK (hc : s.calm) (hs : qk P (qfi w M pl nt O W H) s a W H Φ) (hm : W'.os = W.os ∧ W'.tape = W.tape ∧ W'.output = W.output) (hsz : W.heap.size ≤ W'.heap.size) (hsame : ∀ (b : Nat) (c : Array Value) (t : TypeId) (f : Nat × Nat), ¬ O b → W.heap[b]? = some (.cells c t f) → W'.heap[b]? = some (.cells c t f)) (hOH : ∀ b, O b → H b = none) (hO' : ∀ b, O' b → O b ∨ W.heap.size ≤ b) :
  qk P (qfi w M pl nt O' W' H) s a W' H Φ := by
 have hown : ∀ id o, s.obj id = some o → ∀ b ∈ (Φ id).fp, (M b ∨ w.heap.size ≤ b) ∧ ¬ O b ∧ b < W.heap.size := by
  intro id o ho b hb
  have h := (hs.os id o ho).2 b hb
  rcases h.2.1 with h1 | h1
  ·exact ⟨h1.1, h1.2.2, h.2.2⟩
  ·exact absurd h.2.2 (Nat.not_lt.2 h1)
 have hfp : ∀ id o, s.obj id = some o → ∀ b ∈ (Φ id).fp, W'.heap[b]? = W.heap[b]? := by
  intro id o ho b hb
  obtain ⟨c, t, f, e⟩ := (hs.os id o ho).1.cells b hb
  rw [e, hsame _ _ _ _ (hown id o ho b hb).2.1 e]
 have hok' : HOk H W' := by
  intro b c hb
  obtain ⟨t, f, e⟩ := hs.hok b c hb
  exact ⟨t, f, hsame _ _ _ _ (fun h => by rw [hOH b h] at hb; cases hb) e⟩
 obtain ⟨C1, hC1⟩ : ∃ C1 : Ctx, C1 = ⟨W, fun _ => True, H, nt, lk pl, [], fun _ => none⟩ := ⟨_, rfl⟩
 have h1 : qk P C1 s a W H Φ := by
  subst hC1
  exact ⟨hs.defers, hs.size, FH.le_refl _, hs.hok, fun b c hb => .inl hb, j7.refl _ _, fun t av ht => qg.calm_ctx (by first | rfl | (rw [hC1]; rfl)) (by first | rfl | (rw [hC1]; rfl)) (hc t av ht) (hs.ts t av ht), fun id o ho => ⟨(hs.os id o ho).1, fun b hb => ⟨((hs.os id o ho).2 b hb).1, .inl trivial, ((hs.os id o ho).2 b hb).2.2⟩⟩, hs.disj, hs.pins⟩
 have h2 := h1.changes (s' := s.killIf AV.isUpd) (ch := fun _ => none) (F := AV.isUpd) (w' := W') (H' := H) (fun id x hx => by cases hx) (fun id => rfl) (fun t => St.get_killIf _ _ _) (fun id x hx => by cases hx) (fun _ h => h) (FH.le_refl _) hok' h1.hnew
  (by subst hC1; exact ⟨hm.1, hm.2.1, hm.2.2, hsz, fun k _ hk => absurd trivial hk⟩) hsz (fun j o' _ ho b hb => ⟨hfp j o' ho b hb, ((hs.os j o' ho).2 b hb).1⟩) (fun id x hx => by cases hx) (fun i j x y _ hx => by cases hx)
 have h2 : qk P C1 (s.killIf AV.isUpd) a W' H Φ := h2
 refine ⟨hs.defers, hs.size, FH.le_refl _, hok', fun b c hb => .inl hb, j7.refl _ _, ?_, ?_, hs.disj, hs.pins⟩
 ·intro t av ht
  have h3 := h2.ts t av (by rw [St.get_killIf, ht]; simp only [Option.map_some, qch (hc t av ht)])
  exact qg.calm_ctx (by first | rfl | (rw [hC1]; rfl)) (by first | rfl | (rw [hC1]; rfl)) (hc t av ht) h3
 ·intro id o ho
  have h := hs.os id o ho
  refine ⟨h.1.frame (FH.le_refl _) (hfp id o ho), fun b hb => ⟨(h.2 b hb).1, .inl ⟨(hown id o ho b hb).1, ?_, fun hh => ?_⟩, Nat.lt_of_lt_of_le (h.2 b hb).2.2 hsz⟩⟩
  ·obtain ⟨c, t, f, e⟩ := h.1.cells b hb
   exact ⟨c, t, f, hsame _ _ _ _ (hown id o ho b hb).2.1 e⟩
  ·rcases hO' b hh with h3 | h3
   ·exact (hown id o ho b hb).2.1 h3
   ·have := (hown id o ho b hb).2.2
    omega
end
end Go.Vi
