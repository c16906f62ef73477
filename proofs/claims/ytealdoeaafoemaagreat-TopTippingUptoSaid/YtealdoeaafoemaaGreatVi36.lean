/- The abstract interpreter 'Vi', thirty-sixth part: the rounds of a range over a function. No condition beyond those typed in each theorem. -/
import Derived.Test.YtealdoeaafoemaaGreatVi35
namespace Go.Vi
open Go.RowKit
section
variable {P : Program} {C : Ctx} {cfg : qS} {R : Type} {r : R} {s s' : St} {a a' : Act} {w w' W W' : World} {H H' : FH} {Φ Φ' : Nat → qF}
def AV.calm : AV → Bool
 | .upd _ _ _ _ _ => false
 | .cons a b => a.calm && b.calm
 | .fn _ a b => a.calm && b.calm
 | .gh _ a => a.calm
 | _ => true
theorem qcD : ∀ {av : AV}, av.calm = true → av.killIf AV.isUpd = av
 | .dead, _ => rfl
 | .val _ _, _ => rfl
 | .ref _ _, _ => rfl
 | .ptr _ _, _ => rfl
 | .view _ _, _ => rfl
 | .upd _ _ _ _ _, h => by cases h
 | .cut _ _ _, _ => rfl
 | .nil, _ => rfl
 | .cv _ _ _, _ => rfl
 | .gh _ a, h => by
  simp only [AV.calm] at h
  simp only [AV.killIf, qcD h]
 | .cons a b, h => by
  simp only [AV.calm, Bool.and_eq_true] at h
  simp only [AV.killIf, qcD h.1, qcD h.2]
 | .fn f a b, h => by
  simp only [AV.calm, Bool.and_eq_true] at h
  simp only [AV.killIf, qcD h.1, qcD h.2]
theorem qcz : ∀ av : AV, (av.killIf AV.isUpd).calm = true
 | .dead => rfl
 | .val _ _ => rfl
 | .ref _ _ => rfl
 | .ptr _ _ => rfl
 | .view _ _ => rfl
 | .upd _ _ _ _ _ => rfl
 | .cut _ _ _ => rfl
 | .nil => rfl
 | .cv _ _ _ => rfl
 | .gh _ a => by simp only [AV.killIf, AV.calm, qcz a]
 | .cons a b => by simp only [AV.killIf, AV.calm, qcz a, qcz b, Bool.and_self]
 | .fn _ a b => by simp only [AV.killIf, AV.calm, qcz a, qcz b, Bool.and_self]
def St.calm (s : St) : Prop := ∀ t av, s.get t = some av → av.calm = true
theorem qn.calm_ctx {C C' : Ctx} {os : Nat → Option Obj} (hg : C'.gh = C.gh) (hp : C'.pin = C.pin) : ∀ {av : AV} {v : Value}, av.calm = true → qn P C w H Φ os av v → qn P C' w H Φ os av v
 | .dead, _, _, h => h
 | .val _ _, _, _, h => h
 | .ref _ _, _, _, h => h
 | .ptr _ _, _, _, h => h
 | .view _ _, _, _, h => h
 | .upd _ _ _ _ _, _, hc, _ => by cases hc
 | .cut _ _ _, _, _, h => h
 | .fn _ _ _, _, hc, ⟨vs, us, h1, h2, h3⟩ => by
  simp only [AV.calm, Bool.and_eq_true] at hc
  exact ⟨vs, us, h1, qn.calm_ctx hg hp hc.1 h2, qn.calm_ctx hg hp hc.2 h3⟩
 | .nil, _, _, h => h
 | .cv _ _ _, _, _, ⟨b, cv, h1, h2⟩ => ⟨b, cv, h1, by rw [hp]; exact h2⟩
 | .gh _ _, _, hc, ⟨u, h1, h2⟩ => ⟨u, by rw [hg]; exact h1, qn.calm_ctx hg hp (by simpa [AV.calm] using hc) h2⟩
 | .cons _ _, _, hc, ⟨u, us, h1, h2, h3⟩ => by
  simp only [AV.calm, Bool.and_eq_true] at hc
  exact ⟨u, us, h1, qn.calm_ctx hg hp hc.1 h2, qn.calm_ctx hg hp hc.2 h3⟩
def qdP (w : World) (M : Nat → Prop) (pl : List (Nat × qF)) (nt : Nat) (O : Nat → Prop) (W : World) (H : FH) : Ctx := ⟨W, fun b => (M b ∨ w.heap.size ≤ b) ∧ (∃ c t f, W.heap[b]? = some (.cells c t f)) ∧ ¬ O b, H, nt, lk pl, [], fun _ => none⟩
variable {M O O' : Nat → Prop} {pl : List (Nat × qF)} {nt : Nat}
theorem qm.rebaseK {W0 : World} {H0 : FH} (hW : w.heap.size ≤ W0.heap.size) (hO : ∀ b, O b → b < W0.heap.size) (hs : qm P (qdP w M pl nt O W0 H0) s a W H Φ) : qm P (qdP w M pl nt O W H) s a W H Φ := by
 have hmay : ∀ b, (qdP w M pl nt O W0 H0).M0 b ∨ (qdP w M pl nt O W0 H0).w0.heap.size ≤ b → (M b ∨ w.heap.size ≤ b) ∧ ¬ O b := by
  rintro b (hb | hb)
  ·exact ⟨hb.1, hb.2.2⟩
  ·have hb' : W0.heap.size ≤ b := hb
   exact ⟨.inr (Nat.le_trans hW hb'), fun h => absurd (hO b h) (Nat.not_lt.2 hb')⟩
 refine ⟨hs.defers, hs.size, FH.le_refl _, hs.hok, fun b c hb => .inl hb, j9.refl _ _, ?_, ?_, hs.disj, hs.pins⟩
 ·intro t av ht
  exact qn.ctx (C := qdP w M pl nt O W0 H0) (C' := qdP w M pl nt O W H) rfl rfl (fun b hb hc => (⟨hb.fz, hb.obj, .inl ⟨(hmay b hb.may).1, hc, (hmay b hb.may).2⟩, hb.lt⟩ : qaB (qdP w M pl nt O W H) W H Φ s.obj b)) (hs.ts t av ht)
 ·intro id o ho
  have h := hs.os id o ho
  exact ⟨h.1, fun b hb => ⟨(h.2 b hb).1, .inl ⟨(hmay b (h.2 b hb).2.1).1, h.1.cells b hb, (hmay b (h.2 b hb).2.1).2⟩, (h.2 b hb).2.2⟩⟩
theorem qm.moveK (hc : s.calm) (hs : qm P (qdP w M pl nt O W H) s a W H Φ) (hm : W'.os = W.os ∧ W'.tape = W.tape ∧ W'.output = W.output) (hsz : W.heap.size ≤ W'.heap.size) (hsame : ∀ (b : Nat) (c : Array Value) (t : TypeId) (f : Nat × Nat), ¬ O b → W.heap[b]? = some (.cells c t f) → W'.heap[b]? = some (.cells c t f)) (hOH : ∀ b, O b → H b = none) (hO' : ∀ b, O' b → O b ∨ W.heap.size ≤ b) :
  qm P (qdP w M pl nt O' W' H) s a W' H Φ := by
 have hown : ∀ id o, s.obj id = some o → ∀ b ∈ (Φ id).fp, (M b ∨ w.heap.size ≤ b) ∧ ¬ O b ∧ b < W.heap.size := by
  intro id o ho b hb
  have h := (hs.os id o ho).2 b hb
  rcases h.2.1 with h1 | h1
  ·exact ⟨h1.1, h1.2.2, h.2.2⟩
  ·exact absurd h.2.2 (Nat.not_lt.2 h1)
 have hfp : ∀ id o, s.obj id = some o → ∀ b ∈ (Φ id).fp, W'.heap[b]? = W.heap[b]? := by
  intro id o ho b hb
  obtain ⟨c, t, f, e⟩ := (hs.os id o ho).1.cells b hb
  rw [e, hsame _ _ _ _ (hown id o ho b hb).2.1 e]
 have hok' : HOk H W' := by
  intro b c hb
  obtain ⟨t, f, e⟩ := hs.hok b c hb
  exact ⟨t, f, hsame _ _ _ _ (fun h => by rw [hOH b h] at hb; cases hb) e⟩
 obtain ⟨C1, hC1⟩ : ∃ C1 : Ctx, C1 = ⟨W, fun _ => True, H, nt, lk pl, [], fun _ => none⟩ := ⟨_, rfl⟩
 have h1 : qm P C1 s a W H Φ := by
  subst hC1
  exact ⟨hs.defers, hs.size, FH.le_refl _, hs.hok, fun b c hb => .inl hb, j9.refl _ _, fun t av ht => qn.calm_ctx (by first | rfl | (rw [hC1]; rfl)) (by first | rfl | (rw [hC1]; rfl)) (hc t av ht) (hs.ts t av ht), fun id o ho => ⟨(hs.os id o ho).1, fun b hb => ⟨((hs.os id o ho).2 b hb).1, .inl trivial, ((hs.os id o ho).2 b hb).2.2⟩⟩, hs.disj, hs.pins⟩
 have h2 := h1.changes (s' := s.killIf AV.isUpd) (ch := fun _ => none) (F := AV.isUpd) (w' := W') (H' := H) (fun id x hx => by cases hx) (fun id => rfl) (fun t => St.get_killIf _ _ _) (fun id x hx => by cases hx) (fun _ h => h) (FH.le_refl _) hok' h1.hnew
  (by subst hC1; exact ⟨hm.1, hm.2.1, hm.2.2, hsz, fun k _ hk => absurd trivial hk⟩) hsz (fun j o' _ ho b hb => ⟨hfp j o' ho b hb, ((hs.os j o' ho).2 b hb).1⟩) (fun id x hx => by cases hx) (fun i j x y _ hx => by cases hx)
 have h2 : qm P C1 (s.killIf AV.isUpd) a W' H Φ := h2
 refine ⟨hs.defers, hs.size, FH.le_refl _, hok', fun b c hb => .inl hb, j9.refl _ _, ?_, ?_, hs.disj, hs.pins⟩
 ·intro t av ht
  have h3 := h2.ts t av (by rw [St.get_killIf, ht]; simp only [Option.map_some, qcD (hc t av ht)])
  exact qn.calm_ctx (by first | rfl | (rw [hC1]; rfl)) (by first | rfl | (rw [hC1]; rfl)) (hc t av ht) h3
 ·intro id o ho
  have h := hs.os id o ho
  refine ⟨h.1.frame (FH.le_refl _) (hfp id o ho), fun b hb => ⟨(h.2 b hb).1, .inl ⟨(hown id o ho b hb).1, ?_, fun hh => ?_⟩, Nat.lt_of_lt_of_le (h.2 b hb).2.2 hsz⟩⟩
  ·obtain ⟨c, t, f, e⟩ := h.1.cells b hb
   exact ⟨c, t, f, hsame _ _ _ _ (hown id o ho b hb).2.1 e⟩
  ·rcases hO' b hh with h3 | h3
   ·exact (hown id o ho b hb).2.1 h3
   ·have := (hown id o ho b hb).2.2
    omega
def qeM (tl : List Nat) (ps : List jL) (d : PDens ps) : St := ⟨tl.zip ((jV ps 0 d).map (·.2)), jG ps 0 d, none⟩
theorem qbp : ∀ {ps : List jL} {d : PDens ps} {m m' : MDens ps}, j2 ps (j2 ps d m) m' = j2 ps d m'
 | [], _, _, _ => rfl
 | .v _ :: ps, d, _, _ => by simp only [j2, qbp (ps := ps)]
 | .r _ :: ps, d, _, _ => by simp only [j2, qbp (ps := ps)]
 | .c _ :: ps, d, _, _ => by simp only [j2, qbp (ps := ps)]
 | .m _ :: ps, d, _, _ => by simp only [j2, qbp (ps := ps)]
 | .mr _ _ :: ps, d, _, _ => by simp only [j2, qbp (ps := ps)]
 | .t _ _ :: ps, d, _, _ => by simp only [j2, qbp (ps := ps)]
 | .gm _ :: ps, d, _, _ => by simp only [j2, qbp (ps := ps)]
 | .cm _ _ :: ps, d, _, _ => by simp only [j2, qbp (ps := ps)]
theorem qbq : ∀ {ps : List jL} {d : PDens ps}, j2 ps d (qbt ps d) = d
 | [], _ => rfl
 | .v _ :: ps, d => by simp only [j2, qbt, qbq (ps := ps)]
 | .r _ :: ps, d => by simp only [j2, qbt, qbq (ps := ps)]
 | .c _ :: ps, d => by simp only [j2, qbt, qbq (ps := ps)]
 | .m _ :: ps, d => by simp only [j2, qbt, qbq (ps := ps)]
 | .mr _ _ :: ps, d => by simp only [j2, qbt, qbq (ps := ps)]
 | .t _ _ :: ps, d => by simp only [j2, qbt, qbq (ps := ps)]
 | .gm _ :: ps, d => by simp only [j2, qbt, qbq (ps := ps)]
 | .cm _ _ :: ps, d => by simp only [j2, qbt, qbq (ps := ps)]
theorem qa4 : ∀ {ps : List jL} {d : PDens ps} {m : MDens ps}, qbt ps (j2 ps d m) = m
 | [], _, _ => rfl
 | .v _ :: ps, d, m => by simp only [j2, qbt]; exact qa4 (ps := ps)
 | .r _ :: ps, d, m => by simp only [j2, qbt]; exact qa4 (ps := ps)
 | .c _ :: ps, d, m => by simp only [j2, qbt]; exact qa4 (ps := ps)
 | .m _ :: ps, d, m => by simp only [j2, qbt, qa4 (ps := ps)]
 | .mr _ _ :: ps, d, m => by simp only [j2, qbt, qa4 (ps := ps)]
 | .t _ _ :: ps, d, m => by simp only [j2, qbt]; exact qa4 (ps := ps)
 | .gm _ :: ps, d, m => by simp only [j2, qbt]; exact qa4 (ps := ps)
 | .cm _ _ :: ps, d, m => by simp only [j2, qbt, qa4 (ps := ps)]
theorem qec (τ : Ty) (x : τ.den) : qL τ τ x = some x := by unfold qL; rw [dif_pos rfl]
theorem qay : ∀ {ps : List jL} {d : PDens ps} (i : Nat), (∀ x ∈ jG ps i d, pid i ≤ x.1) ∧ ((jG ps i d).map (·.1)).Nodup
 | [], _, _ => ⟨by simp [jG], by simp [jG]⟩
 | .v _ :: ps, d, i => by
  obtain ⟨h1, h2⟩ := qay (ps := ps) (d := d.2) (i + 1)
  exact ⟨fun x hx => Nat.le_trans (Nat.le_of_lt (qaj (Nat.lt_succ_self i))) (h1 x hx), h2⟩
 | .r _ :: ps, d, i => by
  obtain ⟨h1, h2⟩ := qay (ps := ps) (d := d.2) (i + 1)
  exact ⟨fun x hx => Nat.le_trans (Nat.le_of_lt (qaj (Nat.lt_succ_self i))) (h1 x hx), h2⟩
 | .c _ :: ps, d, i => by
  obtain ⟨h1, h2⟩ := qay (ps := ps) (d := d.2) (i + 1)
  exact ⟨fun x hx => Nat.le_trans (Nat.le_of_lt (qaj (Nat.lt_succ_self i))) (h1 x hx), h2⟩
 | .m _ :: ps, d, i => by
  obtain ⟨h1, h2⟩ := qay (ps := ps) (d := d.2) (i + 1)
  have hlt : pid i < pid (i + 1) := qaj (Nat.lt_add_one i)
  refine ⟨fun x hx => ?_, ?_⟩
  ·rcases List.mem_cons.1 hx with rfl | hx
   ·exact Nat.le_refl _
   ·exact Nat.le_trans (Nat.le_of_lt hlt) (h1 x hx)
  ·simp only [jG, List.map_cons, List.nodup_cons]
   refine ⟨fun hm => ?_, h2⟩
   obtain ⟨x, hx, e⟩ := List.mem_map.1 hm
   have := h1 x hx
   omega
 | .mr _ _ :: ps, d, i => by
  obtain ⟨h1, h2⟩ := qay (ps := ps) (d := d.2) (i + 1)
  have hlt : pid i < pid (i + 1) := qaj (Nat.lt_add_one i)
  refine ⟨fun x hx => ?_, ?_⟩
  ·rcases List.mem_cons.1 hx with rfl | hx
   ·exact Nat.le_refl _
   ·exact Nat.le_trans (Nat.le_of_lt hlt) (h1 x hx)
  ·simp only [jG, List.map_cons, List.nodup_cons]
   refine ⟨fun hm => ?_, h2⟩
   obtain ⟨x, hx, e⟩ := List.mem_map.1 hm
   have := h1 x hx
   omega
 | .t _ _ :: ps, d, i => by
  obtain ⟨h1, h2⟩ := qay (ps := ps) (d := d.2) (i + 1)
  have hlt : pid i < pid (i + 1) := qaj (Nat.lt_add_one i)
  refine ⟨fun x hx => ?_, ?_⟩
  ·rcases List.mem_cons.1 hx with rfl | hx
   ·exact Nat.le_refl _
   ·exact Nat.le_trans (Nat.le_of_lt hlt) (h1 x hx)
  ·simp only [jG, List.map_cons, List.nodup_cons]
   refine ⟨fun hm => ?_, h2⟩
   obtain ⟨x, hx, e⟩ := List.mem_map.1 hm
   have := h1 x hx
   omega
 | .gm _ :: ps, d, i => by
  obtain ⟨h1, h2⟩ := qay (ps := ps) (d := d.2) (i + 1)
  have hlt : pid i < pid (i + 1) := qaj (Nat.lt_add_one i)
  refine ⟨fun x hx => ?_, ?_⟩
  ·rcases List.mem_cons.1 hx with rfl | hx
   ·exact Nat.le_refl _
   ·exact Nat.le_trans (Nat.le_of_lt hlt) (h1 x hx)
  ·simp only [jG, List.map_cons, List.nodup_cons]
   refine ⟨fun hm => ?_, h2⟩
   obtain ⟨x, hx, e⟩ := List.mem_map.1 hm
   have := h1 x hx
   omega
 | .cm _ _ :: ps, d, i => by
  obtain ⟨h1, h2⟩ := qay (ps := ps) (d := d.2) (i + 1)
  have hlt : pid i < pid (i + 1) := qaj (Nat.lt_add_one i)
  refine ⟨fun x hx => ?_, ?_⟩
  ·rcases List.mem_cons.1 hx with rfl | hx
   ·exact Nat.le_refl _
   ·exact Nat.le_trans (Nat.le_of_lt hlt) (h1 x hx)
  ·simp only [jG, List.map_cons, List.nodup_cons]
   refine ⟨fun hm => ?_, h2⟩
   obtain ⟨x, hx, e⟩ := List.mem_map.1 hm
   have := h1 x hx
   omega
theorem qaQ (s : St) : ∀ {ps : List jL} {d : PDens ps} {i : Nat}, (∀ id o, (id, some o) ∈ jG ps i d → s.obj id = some o) → jB s ps i = some (qbt ps d)
 | [], _, _, _ => rfl
 | .v _ :: ps, d, i, h => qaQ s (ps := ps) (d := d.2) (i := i + 1) h
 | .r _ :: ps, d, i, h => qaQ s (ps := ps) (d := d.2) (i := i + 1) h
 | .c _ :: ps, d, i, h => qaQ s (ps := ps) (d := d.2) (i := i + 1) h
 | .m τ :: ps, d, i, h => by
  have h0 := h (pid i) ⟨false, τ, d.1⟩ List.mem_cons_self
  have h1 := qaQ s (ps := ps) (d := d.2) (i := i + 1) (fun id o hm => h id o (List.mem_cons_of_mem _ hm))
  simp only [jB, h0, cond_false, qec, h1, qbt]
 | .mr tid e :: ps, d, i, h => by
  have h0 := h (pid i) ⟨true, .list true tid e, d.1⟩ List.mem_cons_self
  have h1 := qaQ s (ps := ps) (d := d.2) (i := i + 1) (fun id o hm => h id o (List.mem_cons_of_mem _ hm))
  simp only [jB, h0, cond_true, qec, h1, qbt]
 | .t _ _ :: ps, d, i, h => qaQ s (ps := ps) (d := d.2) (i := i + 1) (fun id o hm => h id o (List.mem_cons_of_mem _ hm))
 | .gm _ :: ps, d, i, h => qaQ s (ps := ps) (d := d.2) (i := i + 1) (fun id o hm => h id o (List.mem_cons_of_mem _ hm))
 | .cm f τ :: ps, d, i, h => by
  have h0 := h (pid i) ⟨false, τ, d.1⟩ List.mem_cons_self
  have h1 := qaQ s (ps := ps) (d := d.2) (i := i + 1) (fun id o hm => h id o (List.mem_cons_of_mem _ hm))
  simp only [jB, h0, cond_false, qec, h1, qbt]
theorem qfJ {tl : List Nat} {ps : List jL} {d : PDens ps} {id : Nat} {o : Obj} : (qeM tl ps d).obj id = some o ↔ (id, some o) ∈ jG ps 0 d := by
 have hn := (qay (ps := ps) (d := d) 0).2
 show (lk (jG ps 0 d) id).join = some o ↔ _
 constructor
 ·intro h
  cases e : lk (jG ps 0 d) id with
  | none => rw [e] at h; cases h
  | some x => rw [e] at h; simp only [Option.join_some] at h; rw [← h]; exact qbh e
 ·intro h
  rw [qeB hn h]
  rfl
theorem qb1 {C' : Ctx} {s2 : St} {Hf H2 : FH} {Φ2 : Nat → qF} (hle : Hf.le H2) : ∀ {ps : List jL} {d0 : PDens ps} {vs : List Value} {Φs : List qF} {md : MDens ps} (i : Nat), ps.all jL.noT = true → jR P w Hf ps d0 vs Φs → jB s2 ps i = some md → (∀ x ∈ qad ps Φs i, (Φ2 x.1).b = x.2.b ∧ (Φ2 x.1).hdr = x.2.hdr) →
  (∀ id o, (id, some o) ∈ jG ps i (j2 ps d0 md) → s2.obj id = some o) ∧
  (∀ os : Nat → Option Obj, (∀ id o, (id, some o) ∈ jG ps i (j2 ps d0 md) → os id = some o) → ∀ (j : Nat) (av : AV) (v : Value), ((jV ps i (j2 ps d0 md)).map (·.2))[j]? = some av → vs[j]? = some v → qn P C' W H2 Φ2 os av v ∧ av.calm = true)
 | [], d0, vs, Φs, md, i, _, _, _, _ => ⟨by simp [jG], by simp [jV]⟩
 | .v τ :: ps, d0, vs, Φs, md, i, hnT, h, hom, hp => by
  obtain ⟨v, vs', φ, Φs', rfl, rfl, hfz, hφ, hv, h⟩ := h
  obtain ⟨h1, h2⟩ := qb1 hle (i + 1) (by simpa [jL.noT] using hnT) h hom hp
  refine ⟨h1, fun os hos j av u hj hu => ?_⟩
  cases j with
  | zero =>
   simp only [jV, j2, List.map_cons, List.getElem?_cons_zero, Option.some.injEq] at hj hu
   subst hj; subst hu
   obtain ⟨cs, e, hr⟩ := hv
   exact ⟨⟨hfz, cs, e, qx.mono _ hle (by simp) hr⟩, rfl⟩
  | succ j => exact h2 os hos j av u (by simpa [jV, j2] using hj) (by simpa using hu)
 | .r τ :: ps, d0, vs, Φs, md, i, hnT, h, hom, hp => by
  obtain ⟨v, vs', φ, Φs', rfl, rfl, hfz, hφ, hv, h⟩ := h
  obtain ⟨h1, h2⟩ := qb1 hle (i + 1) (by simpa [jL.noT] using hnT) h hom hp
  refine ⟨h1, fun os hos j av u hj hu => ?_⟩
  cases j with
  | zero =>
   simp only [jV, j2, List.map_cons, List.getElem?_cons_zero, Option.some.injEq] at hj hu
   subst hj; subst hu
   obtain ⟨b, o, blk, e, hb, hr⟩ := hv
   exact ⟨⟨hfz, b, o, blk, e, hle _ _ hb, qx.mono _ hle (by simp) hr⟩, rfl⟩
  | succ j => exact h2 os hos j av u (by simpa [jV, j2] using hj) (by simpa using hu)
 | .c _ :: ps, d0, vs, Φs, md, i, hnT, h, hom, hp => by
  obtain ⟨v, vs', φ, Φs', rfl, rfl, hfz, hφ, hv, h⟩ := h
  obtain ⟨h1, h2⟩ := qb1 hle (i + 1) (by simpa [jL.noT] using hnT) h hom hp
  refine ⟨h1, fun os hos j av u hj hu => ?_⟩
  cases j with
  | zero =>
   simp only [jV, j2, List.map_cons, List.getElem?_cons_zero, Option.some.injEq] at hj hu
   subst hj; subst hu
   exact ⟨⟨#[], #[], hv, rfl, rfl⟩, rfl⟩
  | succ j => exact h2 os hos j av u (by simpa [jV, j2] using hj) (by simpa using hu)
 | .m τ :: ps, d0, vs, Φs, md, i, hnT, h, hom, hp => by
  obtain ⟨v, vs', φ, Φs', rfl, rfl, hv, _, h⟩ := h
  simp only [jB] at hom
  split at hom
  case h_2 => cases hom
  rename_i o ho
  obtain ⟨row, σ, x0⟩ := o
  cases row with
  | true => cases hom
  | false =>
  simp only [cond_false] at hom
  split at hom
  case h_2 => cases hom
  rename_i x d' hx hd'
  cases hom
  obtain ⟨e1, hx⟩ := qj hx
  subst e1
  subst hx
  obtain ⟨h1, h2⟩ := qb1 hle (i + 1) (by simpa [jL.noT] using hnT) h hd' (fun x hx => hp x (List.mem_cons_of_mem _ hx))
  have hb := (hp (pid i, φ) List.mem_cons_self).1
  simp only at hb
  refine ⟨fun id o hm => ?_, fun os hos j av u hj hu => ?_⟩
  ·rcases List.mem_cons.1 hm with e | hm
   ·cases e; exact ho
   ·exact h1 id o hm
  ·cases j with
   | zero =>
    simp only [jV, j2, List.map_cons, List.getElem?_cons_zero, Option.some.injEq] at hj hu
    subst hj; subst hu
    refine ⟨⟨⟨false, σ, x⟩, ⟨σ, x⟩, φ.b, 0, hos _ _ List.mem_cons_self, rfl, qO _ _, ?_, hv⟩, rfl⟩
    rw [← hb]
    exact jU _ _ _ _
   | succ j => exact h2 os (fun id o hm => hos id o (List.mem_cons_of_mem _ hm)) j av u (by simpa [jV, j2] using hj) (by simpa using hu)
 | .mr tid e :: ps, d0, vs, Φs, md, i, hnT, h, hom, hp => by
  obtain ⟨v, vs', φ, Φs', rfl, rfl, hv, _, h⟩ := h
  simp only [jB] at hom
  split at hom
  case h_2 => cases hom
  rename_i o ho
  obtain ⟨row, σ, x0⟩ := o
  cases row with
  | false => cases hom
  | true =>
  simp only [cond_true] at hom
  split at hom
  case h_2 => cases hom
  rename_i x d' hx hd'
  cases hom
  obtain ⟨e1, hx⟩ := qj hx
  subst e1
  subst hx
  obtain ⟨h1, h2⟩ := qb1 hle (i + 1) (by simpa [jL.noT] using hnT) h hd' (fun x hx => hp x (List.mem_cons_of_mem _ hx))
  have hb := (hp (pid i, φ) List.mem_cons_self).2
  simp only at hb
  refine ⟨fun id o hm => ?_, fun os hos j av u hj hu => ?_⟩
  ·rcases List.mem_cons.1 hm with e | hm
   ·cases e; exact ho
   ·exact h1 id o hm
  ·cases j with
   | zero =>
    simp only [jV, j2, List.map_cons, List.getElem?_cons_zero, Option.some.injEq] at hj hu
    subst hj; subst hu
    refine ⟨⟨⟨true, .list true tid e, x⟩, ⟨.list true tid e, x⟩, hos _ _ List.mem_cons_self, qO _ _, ?_⟩, rfl⟩
    simp only [List.isEmpty_nil, Bool.and_self]
    rw [hb]
    exact hv
   | succ j => exact h2 os (fun id o hm => hos id o (List.mem_cons_of_mem _ hm)) j av u (by simpa [jV, j2] using hj) (by simpa using hu)
 | .t _ _ :: _, _, _, _, _, _, hnT, _, _, _ => by simp [jL.noT] at hnT
 | .gm _ :: _, _, _, _, _, _, hnT, _, _, _ => by simp [jL.noT] at hnT
 | .cm f τ :: ps, d0, vs, Φs, md, i, hnT, h, hom, hp => by
  obtain ⟨v, vs', φ, Φs', rfl, rfl, hv, _, h⟩ := h
  simp only [jB] at hom
  split at hom
  case h_2 => cases hom
  rename_i o ho
  obtain ⟨row, σ, x0⟩ := o
  cases row with
  | true => cases hom
  | false =>
  simp only [cond_false] at hom
  split at hom
  case h_2 => cases hom
  rename_i x d' hx hd'
  cases hom
  obtain ⟨e1, hx⟩ := qj hx
  subst e1
  subst hx
  obtain ⟨h1, h2⟩ := qb1 hle (i + 1) (by simpa [jL.noT] using hnT) h hd' (fun x hx => hp x (List.mem_cons_of_mem _ hx))
  have hb := (hp (pid i, φ) List.mem_cons_self).1
  simp only at hb
  refine ⟨fun id o hm => ?_, fun os hos j av u hj hu => ?_⟩
  ·rcases List.mem_cons.1 hm with e | hm
   ·cases e; exact ho
   ·exact h1 id o hm
  ·cases j with
   | zero =>
    simp only [jV, j2, List.map_cons, List.getElem?_cons_zero, Option.some.injEq] at hj hu
    subst hj; subst hu
    refine ⟨⟨#[], #[.pointer (some ⟨φ.b, 0, none⟩)], hv, rfl, _, [], rfl, ⟨⟨false, σ, x⟩, ⟨σ, x⟩, φ.b, 0, hos _ _ List.mem_cons_self, rfl, qO _ _, ?_, rfl⟩, rfl⟩, rfl⟩
    rw [← hb]
    exact jU _ _ _ _
   | succ j => exact h2 os (fun id o hm => hos id o (List.mem_cons_of_mem _ hm)) j av u (by simpa [jV, j2] using hj) (by simpa using hu)
theorem lk_zip {β : Type} {t : Nat} {x : β} : ∀ {l : List Nat} {r : List β}, lk (l.zip r) t = some x → ∃ j : Nat, l[j]? = some t ∧ r[j]? = some x
 | [], _, h => by cases h
 | _ :: _, [], h => by cases h
 | u :: l, y :: r, h => by
  rw [List.zip_cons_cons, jP] at h
  cases hb : Nat.beq u t with
  | true =>
   rw [hb] at h
   cases h
   obtain rfl := Nat.eq_of_beq_eq_true hb
   exact ⟨0, rfl, rfl⟩
  | false =>
   rw [hb] at h
   obtain ⟨j, h1, h2⟩ := lk_zip h
   exact ⟨j + 1, by simpa using h1, by simpa using h2⟩
theorem qie {C' : Ctx} {s2 : St} {a2 aε : Act} {tl : List Nat} {ps : List jL} {d0 : PDens ps} {vs : List Value} {Φs : List qF} {md : MDens ps} {Hf H2 : FH} {Φ2 : Nat → qF} (hnT : ps.all jL.noT = true) (hargs : jR P w Hf ps d0 vs Φs) (hpin : C'.pin = lk (qad ps Φs 0)) (hpn : ((qad ps Φs 0).map (·.1)).Nodup) (hds : C'.ds = [])
  (hs : qm P C' s2 a2 W H2 Φ2) (hle : Hf.le H2) (hom : jB s2 ps 0 = some md) (hsz : aε.tmps.size = C'.nt) (hae : aε.defers = []) (hvs : vs = tl.map fun t => aε.tmps.getD t undef) :
  qm P C' (qeM tl ps (j2 ps d0 md)) aε W H2 Φ2 ∧ (qeM tl ps (j2 ps d0 md)).calm := by
 have hp : ∀ x ∈ qad ps Φs 0, (Φ2 x.1).b = x.2.b ∧ (Φ2 x.1).hdr = x.2.hdr := fun x hx => hs.pins.1 x.1 x.2 (by rw [hpin]; exact qeB hpn hx)
 obtain ⟨h1, h2⟩ := qb1 (C' := C') (W := W) (Φ2 := Φ2) hle 0 hnT hargs hom hp
 have hsub : ∀ id o, (qeM tl ps (j2 ps d0 md)).obj id = some o → s2.obj id = some o := fun id o ho => h1 id o (qfJ.1 ho)
 have key : ∀ t av, (qeM tl ps (j2 ps d0 md)).get t = some av → qn P C' W H2 Φ2 (qeM tl ps (j2 ps d0 md)).obj av (aε.tmps.getD t undef) ∧ av.calm = true := by
  intro t av ht
  obtain ⟨j, e1, e2⟩ := lk_zip (show lk (tl.zip ((jV ps 0 (j2 ps d0 md)).map (·.2))) t = some av from ht)
  exact h2 _ (fun id o hm => qfJ.2 hm) j av _ e2 (by rw [hvs, List.getElem?_map, e1]; rfl)
 exact ⟨⟨hae.trans hds.symm, hsz, hs.le, hs.hok, hs.hnew, hs.mod, fun t av ht => (key t av ht).1, fun id o ho => hs.os id o (hsub id o ho), fun i j o o' hij hi hj => hs.disj i j o o' hij (hsub i o hi) (hsub j o' hj), hs.pins⟩, fun t av ht => (key t av ht).2⟩
end
section
variable {P : Program} {C : Ctx} {cfg : qS} {R : Type} {r : R} {s s' s1 : St} {a a' a1 : Act} {w w' W W' W1 : World} {H H' Hf : FH} {Φ Φ' : Nat → qF} {Φs : List qF} {M O O' : Nat → Prop} {pl : List (Nat × qF)} {nt : Nat} {G : List Nat}
def encE (a : Ty) (cs : List Value) : Array Value :=
 match a with
 | .pair x y => #[jZ x (cs.take x.size), jZ y (cs.drop x.size)]
 | a => #[jZ a cs]
def itF (f : Nat) : Nat := cond (Nat.ble 5000000 f) (f - 5000000) f
def itAr (f : Nat) (l : Array Value) (y : Value) : Array Value := cond (Nat.ble 5000000 f) (l ++ #[y]) (#[y] ++ l)
def qeg (P : Program) (f : FuncId) (it : Iter) : Prop := jJ P (itF f) ∧ it.a.isFz = true ∧ ∀ (d : PDens it.ps) (xs : List it.a.den), it.g d = some xs → ∀ (w : World) (H : FH) (vs : List Value) (Φs : List qF), HOk H w → jR P w H it.ps d vs Φs → (qf Φs).Nodup → (∀ b ∈ qf Φs, H b = none ∧ b < w.heap.size) →
 ∃ cs : Nat → List Value, (∀ (i : Nat) x, xs[i]? = some x → qx P it.a w H x (cs i) []) ∧ qdH P (itF f) (itAr f vs.toArray) xs.length (fun i => encE it.a (cs i)) H (· ∈ qf Φs) w
theorem qaL {s s' : St} (h : ∀ id, s'.obj id = s.obj id) : ∀ {ps : List jL} {i : Nat}, jB s' ps i = jB s ps i
 | [], _ => rfl
 | .v _ :: ps, i => by simp only [jB, qaL h (ps := ps)]
 | .r _ :: ps, i => by simp only [jB, qaL h (ps := ps)]
 | .c _ :: ps, i => by simp only [jB, qaL h (ps := ps)]
 | .m _ :: ps, i => by simp only [jB, qaL h (ps := ps), h]
 | .mr _ _ :: ps, i => by simp only [jB, qaL h (ps := ps), h]
 | .t _ _ :: ps, i => by simp only [jB, qaL h (ps := ps)]
 | .gm _ :: ps, i => by simp only [jB, qaL h (ps := ps)]
 | .cm _ _ :: ps, i => by simp only [jB, qaL h (ps := ps), h]
theorem qm.killU (h : qm P C s a w H Φ) : qm P C (s.killIf AV.isUpd) a w H Φ := by
 refine ⟨h.defers, h.size, h.le, h.hok, h.hnew, h.mod, ?_, h.os, h.disj, h.pins⟩
 intro t av ht
 rw [St.get_killIf] at ht
 obtain ⟨av0, h0, rfl⟩ := Option.map_eq_some_iff.1 ht
 exact qn.transfer AV.isUpd (FH.le_refl H) (fun _ _ _ _ hh => hh) (fun _ _ _ _ hh => hh) (fun _ _ _ _ _ _ hf _ => by cases hf) av0 _ (h.ts t av0 h0)
theorem qiM (s : St) : (s.killIf AV.isUpd).calm := by
 intro t av ht
 rw [St.get_killIf] at ht
 obtain ⟨av0, _, rfl⟩ := Option.map_eq_some_iff.1 ht
 exact qcz av0
def Mid (P : Program) (w : World) (Hf : FH) (M : Nat → Prop) (pl : List (Nat × qF)) (nt : Nat) (s : St) (a : Act) (O : Nat → Prop) (W : World) : Prop :=
 ∃ H' Φ', qm P (qdP w M pl nt O W H') s a W H' Φ' ∧ s.calm ∧ Hf.le H' ∧ (∀ b c, H' b = some c → Hf b = some c ∨ M b ∨ w.heap.size ≤ b) ∧ j9 (fun b => M b) w W ∧ ∀ b, O b → b < W.heap.size ∧ H' b = none
theorem Mid.move (h : Mid P w Hf M pl nt s a O W) (hMO : ∀ b, O b → M b ∨ w.heap.size ≤ b) (hg : qfW w.heap.size O O' W W') : Mid P w Hf M pl nt s a O' W' := by
 obtain ⟨H', Φ', hs, hc, hle, hn, hm, hO⟩ := h
 obtain ⟨row, hg, hr, hO'⟩ := hg
 refine ⟨H', Φ', hs.moveK hc ⟨hg.os, hg.tape, hg.output⟩ hg.size ?_ (fun b hb => (hO b hb).2) (fun b hb => ((hO' b).1 hb).imp id And.left), hc, hle, hn, hm.trans_new (N := fun k => some k = row) ⟨hg.os, hg.tape, hg.output, hg.size, fun k hk hne => hg.block k hk (fun e => hne e)⟩ (fun i hi => ?_), fun b hb => ?_⟩
 ·intro b c t f hb e
  refine (hg.block b (Array.getElem?_eq_some_iff.1 e).1 (fun e2 => ?_)).trans e
  rcases hr b e2.symm with h1 | ⟨_, o, ho, hoc⟩
  ·exact hb h1
  ·rw [e] at ho; cases ho; cases hoc
 ·rcases hr i hi.symm with h1 | h1
  ·exact hMO i h1
  ·exact .inr h1.1
 ·rcases (hO' b).1 hb with h1 | h1
  ·exact ⟨Nat.lt_of_lt_of_le (hO b h1).1 hg.size, (hO b h1).2⟩
  ·refine ⟨h1.2, ?_⟩
   cases hq : H' b with
   | none => rfl
   | some c =>
    obtain ⟨t, f, e⟩ := hs.hok b c hq
    have := (Array.getElem?_eq_some_iff.1 e).1
    omega
theorem Mid.run (_hs : qm P (qdP w M pl nt O W H) s a W H Φ) (hle : Hf.le H) (hn : ∀ b c, H b = some c → Hf b = some c ∨ M b ∨ w.heap.size ≤ b) (hm : j9 (fun b => M b) w W) (hO : ∀ b, O b → b < W.heap.size ∧ H b = none) (hok : HOk Hf w) (hfr : ∀ b, M b → Hf b = none)
  (h1 : jY P (qdP w M pl nt O W H) s1 a1 W1) : Mid P w Hf M pl nt (s1.killIf AV.isUpd) a1 O W1 ∧ KeepsFrom w.heap.size W W1 ∧ qck Hf W W1 ∧ qeT O W W1 := by
 obtain ⟨H1, Φ1, h1, _⟩ := h1
 have hM : ∀ i, (qdP w M pl nt O W H).M0 i → M i ∨ w.heap.size ≤ i := fun i hi => hi.1
 refine ⟨⟨H1, Φ1, (h1.rebaseK hm.size (fun b hb => (hO b hb).1)).killU, qiM s1, FH.le_trans hle h1.le, ?_, hm.trans_new h1.mod hM, fun b hb => ⟨Nat.lt_of_lt_of_le (hO b hb).1 h1.mod.size, ?_⟩⟩, ⟨h1.mod.size, ?_⟩, ?_, ?_⟩
 ·intro b c hb
  rcases h1.hnew b c hb with h2 | h2 | h2
  ·exact hn b c h2
  ·exact .inr (hM b h2)
  ·exact .inr (.inr (Nat.le_trans hm.size h2))
 ·cases hq : H1 b with
  | none => rfl
  | some c =>
   rcases h1.hnew b c hq with h2 | h2 | h2
   ·have h2' : H b = some c := h2
    rw [(hO b hb).2] at h2'; cases h2'
   ·exact absurd hb h2.2.2
   ·exact absurd (hO b hb).1 (Nat.not_lt.2 h2)
 ·intro k o _ hk ho
  refine (h1.mod.block k (Array.getElem?_eq_some_iff.1 hk).1 ?_).trans hk
  rintro ⟨_, ⟨c, t, f, e⟩, _⟩
  have e' : W.heap[k]? = some (.cells c t f) := e
  rw [hk] at e'
  cases e'
  cases ho
 ·intro b c hb
  obtain ⟨t, f, e⟩ := hok b c hb
  have hlt := (Array.getElem?_eq_some_iff.1 e).1
  refine h1.mod.block b (Nat.lt_of_lt_of_le hlt hm.size) ?_
  rintro ⟨h2 | h2, _⟩
  ·rw [hfr b h2] at hb; cases hb
  ·exact absurd hlt (Nat.not_lt.2 h2)
 ·intro b hb
  exact h1.mod.block b (hO b hb).1 (fun h2 => h2.2.2 hb)
def After (P : Program) (w : World) (Hf : FH) (Φs : List qF) (G : List Nat) (ps : List jL) (vs : List Value) (md : MDens ps) (W : World) : Prop :=
 ∃ H' Φs', j9 (· ∈ qf Φs ++ G) w W ∧ Hf.le H' ∧ HOk H' W ∧ (∀ b c, H' b = some c → Hf b = some c ∨ b ∈ qf Φs ++ G ∨ w.heap.size ≤ b) ∧ jQ P W H' ps md vs Φs' ∧ (qf Φs').Nodup ∧ ∀ b ∈ qf Φs', H' b = none ∧ (b ∈ qf Φs ++ G ∨ w.heap.size ≤ b) ∧ b < W.heap.size
theorem Mid.after {ps : List jL} {d : PDens ps} {vs : List Value} {md : MDens ps} (hargs : jR P w Hf ps d vs Φs) (hpn : ((qad ps Φs 0).map (·.1)).Nodup) (h : Mid P w Hf (· ∈ qf Φs ++ G) (qad ps Φs 0) nt s a O W) (hom : jB s ps 0 = some md) : After P w Hf Φs G ps vs md W := by
 obtain ⟨H', Φ', hs, _, hle, hn, hm, _⟩ := h
 obtain ⟨Φs', k1, k2, k3⟩ := qar hs (FH.le_refl H') (i := 0) hargs (fun x hx => hs.pins.1 x.1 x.2 (qeB hpn hx)) hom
 have hids := qaI (ps := ps) (i := 0)
 refine ⟨H', Φs', hm, hle, hs.hok, hn, k1, ?_, ?_⟩
 ·rw [k2]
  refine qaS hids.2 (fun id hid => ?_) (fun i hi j hj hij b hb' => ?_)
  ·obtain ⟨o, ho⟩ := k3 id hid
   exact (hs.os id o ho).1.2.1
  ·obtain ⟨o, ho⟩ := k3 i hi
   obtain ⟨o', ho'⟩ := k3 j hj
   exact hs.disj i j o o' hij ho ho' b hb'
 ·intro b hb
  rw [k2] at hb
  obtain ⟨j, hj, hbj⟩ := List.mem_flatMap.1 hb
  obtain ⟨o', ho'⟩ := k3 j hj
  obtain ⟨q1, q2, q3⟩ := (hs.os j o' ho').2 b hbj
  refine ⟨q1, ?_, q3⟩
  rcases q2 with q2 | q2
  ·exact q2.1
  ·exact absurd q3 (Nat.not_lt.2 q2)
def qkD : X → Exit
 | .norm => .normal
 | .exit i => .exit i
 | .ret => .ret
def codeOf : X → Code
 | .norm => .skip
 | .exit i => .exit i
 | .ret => .ret
theorem qlb {x : X} {Q : Exit → Act → World → Prop} (h : Q (qkD x) a w) : (codeOf x).wp P Q a w := by
 cases x with
 | norm => exact wp_skip h
 | exit i => exact wp_exit h
 | ret => exact wp_ret h
theorem bind_sim {C' : Ctx} {ts : List (Nat × AV)} {os : List (Nat × Option Obj)} {nt : Nat} (hnt : C'.nt = nt) {a : Ty} {x : a.den} {cs : List Value} {pl : List Nat} {aε : Act} (hok : okP nt pl a = true) (hs : qm P C' ⟨ts, os, none⟩ aε w H Φ) (hfz : a.isFz = true) (hr : qx P a w H x cs []) :
  qm P C' ⟨bindP pl a x ++ ts, os, none⟩ { tmps := ((pl.toArray).zip (encE a cs)).foldl (fun t (x : Tmp × Value) => t.setIfInBounds x.1 x.2) aε.tmps, defers := aε.defers } w H Φ := by
 have one : ∀ {a : Ty} {x : a.den} {cs : List Value} {p : Nat}, Nat.blt p nt = true → a.isFz = true → qx P a w H x cs [] → qm P C' ⟨[(p, .val a x)] ++ ts, os, none⟩ { tmps := ((#[p] : Array Tmp).zip #[jZ a cs]).foldl (fun t (x : Tmp × Value) => t.setIfInBounds x.1 x.2) aε.tmps, defers := aε.defers } w H Φ := by
  intro a x cs p hp hfz hr
  have hset := hs.set (d := p) (by rw [hnt]; exact Eq.mp Nat.blt_eq hp) (av := .val a x) (v := jZ a cs) ⟨hfz, cs, rfl, hr⟩
  have hact : ({ tmps := ((#[p] : Array Tmp).zip #[jZ a cs]).foldl (fun t (x : Tmp × Value) => t.setIfInBounds x.1 x.2) aε.tmps, defers := aε.defers } : Act) = aε.put (some p) (jZ a cs) := by
   simp [Act.put]
  rw [hact]
  exact hset
 cases pl with
 | nil => cases a <;> cases hok
 | cons p pl =>
  cases pl with
  | nil =>
   cases a with
   | pair t u => cases hok
   | int k => exact one hok hfz hr
   | bool => exact one hok hfz hr
   | list o t e => exact one hok hfz hr
   | str t => exact one hok hfz hr
   | ptr t => exact one hok hfz hr
   | arr n e => exact one hok hfz hr
   | fn a r => exact one hok hfz hr
   | fn2 a b r => exact one hok hfz hr
  | cons q pl =>
   cases pl with
   | cons _ _ => cases a <;> cases hok
   | nil =>
    cases a with
    | pair t u =>
     have hok : (Nat.blt p nt && Nat.blt q nt) = true := hok
     rw [Bool.and_eq_true] at hok
     have hfz : (t.isFz && u.isFz) = true := hfz
     rw [Bool.and_eq_true] at hfz
     obtain ⟨c1, c2, f1, f2, rfl, hf, h1, h2⟩ := hr
     obtain ⟨rfl, rfl⟩ := List.append_eq_nil_iff.1 hf.symm
     have hl := qx.length t h1
     have e1 : (c1 ++ c2).take t.size = c1 := by rw [← hl]; exact List.take_left' rfl
     have e2 : (c1 ++ c2).drop t.size = c2 := by rw [← hl]; exact List.drop_left' rfl
     have s1 := hs.set (d := p) (by rw [hnt]; exact Eq.mp Nat.blt_eq hok.1) (av := .val t x.1) (v := jZ t c1) ⟨hfz.1, c1, rfl, h1⟩
     have s2 := s1.set (d := q) (by rw [hnt]; exact Eq.mp Nat.blt_eq hok.2) (av := .val u x.2) (v := jZ u c2) ⟨hfz.2, c2, rfl, h2⟩
     have hact : ({ tmps := (([p, q].toArray : Array Tmp).zip (encE (.pair t u) (c1 ++ c2))).foldl (fun t (x : Tmp × Value) => t.setIfInBounds x.1 x.2) aε.tmps, defers := aε.defers } : Act) = (aε.put (some p) (jZ t c1)).put (some q) (jZ u c2) := by
      unfold encE
      simp only [e1, e2]
      simp [Act.put]
     rw [hact]
     exact s2
    | _ => cases hok
theorem qlE {nt : Nat} {a : Ty} {pl : List Nat} (hok : okP nt pl a = true) (cs : List Value) : (encE a cs).size = pl.length := by
 cases pl with
 | nil => cases a <;> cases hok
 | cons p pl =>
  cases pl with
  | nil => cases a <;> first | rfl | cases hok
  | cons q pl =>
   cases pl with
   | cons _ _ => cases a <;> cases hok
   | nil => cases a <;> first | rfl | cases hok
theorem qll {li : qcj} (hmx : P.follows .mixedOrders = true) (hnT : li.ps.all jL.noT = true) (hcfg : qB P cfg) {n : Nat} {assign body : Code} {prms : Array Tmp} {gop : Operand} (heq : qi7 cfg li prms.toList assign body) (hla : qac cfg assign) (hlb : qac cfg body) (hra : qag cfg assign = true) (hrb : qag cfg body = true)
  (hp : okP cfg.nt prms.toList li.a = true) (hnt : li.ps.length ≤ cfg.nt) (hok : HOk Hf w) {d : PDens li.ps} {vs : List Value} (hargs : jR P w Hf li.ps d vs Φs) (hnd : (qf Φs).Nodup) (hfr : ∀ b ∈ qf Φs, Hf b = none ∧ b < w.heap.size) (hG : ∀ b ∈ G, Hf b = none ∧ b < w.heap.size ∧ b ∉ qf Φs)
  (hsz : a.tmps.size = cfg.nt) (hvs : vs = li.tl.map fun t => a.tmps.getD t undef) {gf : FuncId} {pre lb : Array Value} {ar : Value → Array Value} (har : ∀ y, ar y = pre ++ #[y] ++ lb) (hg : a.eval gop = .func (.func gf) pre lb) (hcal : jJ P gf) (hfz : li.a.isFz = true) {xs : List li.a.den} {cs : Nat → List Value}
  (hcs : ∀ (i : Nat) x, xs[i]? = some x → qx P li.a w Hf x (cs i) []) (hseq : qdH P gf ar xs.length (fun i => encE li.a (cs i)) Hf (· ∈ G) w) {o : X × MDens li.ps} (ho : li.g n xs d = some o) {Q : Exit → Act → World → Prop}
  (hend : ∀ (D : Nat) (W : World), w.heap.size ≤ D → After P w Hf Φs G li.ps vs o.2 W → W.heap[D]? = some (.deferred (some [])) → Q (qkD o.1) { a with defers := { target := .collected D, args := #[] } :: a.defers } W) :
  (Code.rangeFunc gop prms assign body).wp P Q a w := by
 obtain ⟨_, _, _, hpn, _⟩ := qaD (C := qa8 w Hf cfg.nt li.ps Φs) 0 hargs
 have hC : ∀ O W H', qM (qdP w (· ∈ qf Φs ++ G) (qad li.ps Φs 0) cfg.nt O W H') cfg := by
  intro O W H'
  refine ⟨rfl, fun id hid => ?_⟩
  obtain ⟨_, _, h3, _⟩ := qaD (C := qa8 w Hf cfg.nt li.ps Φs) 0 hargs
  show lk (qad li.ps Φs 0) id = none
  cases hq : lk (qad li.ps Φs 0) id with
  | none => rfl
  | some φ =>
   have h : pid 0 ≤ id := h3 _ (qbh hq)
   unfold pid at h
   omega
 obtain ⟨aε, haε⟩ : ∃ aε : Act, aε = { tmps := a.tmps, defers := [] } := ⟨_, rfl⟩
 have hsz' : aε.tmps.size = cfg.nt := by rw [haε]; exact hsz
 have hvs' : vs = li.tl.map fun t => aε.tmps.getD t undef := by rw [haε]; exact hvs
 have hde : aε.defers = [] := by rw [haε]
 have hend2 : ∀ {s2 : St} {a2 : Act} {D : Nat} {O : Nat → Prop} {W : World}, Mid P w Hf (· ∈ qf Φs ++ G) (qad li.ps Φs 0) cfg.nt s2 a2 O W → jB s2 li.ps 0 = some o.2 → w.heap.size ≤ D → W.heap[D]? = some (.deferred (some [])) → Q (qkD o.1) { a with defers := { target := .collected D, args := #[] } :: a.defers } W :=
  fun hM hom hD hh => hend _ _ hD (hM.after hargs hpn hom) hh
 have hstep : ∀ {O O' : Nat → Prop} {A B : World}, j9 (· ∈ qf Φs ++ G) w A → (∀ b, O b → b ∈ qf Φs ++ G ∨ w.heap.size ≤ b) → qfW w.heap.size O O' A B → ∀ b, O' b → b ∈ qf Φs ++ G ∨ w.heap.size ≤ b := by
  rintro O O' A B hm hO ⟨_, _, _, hO'⟩ b hb
  rcases (hO' b).1 hb with h | h
  ·exact hO b h
  ·exact .inr (Nat.le_trans hm.size h.1)
 have hfr2 : ∀ b, b ∈ qf Φs ++ G → Hf b = none := fun b hb => (List.mem_append.1 hb).elim (fun h => (hfr b h).1) (fun h => (hG b h).1)
 refine qh0 har hg (fun args w' => ?_) ?_ hseq (fun i => (qlE hp (cs i)).trans (by simp)) (fun b hb => (hG b hb).2.1)
  (fun i O W => (∀ b, O b → b ∈ qf Φs ++ G ∨ w.heap.size ≤ b) ∧ ∃ md, Mid P w Hf (· ∈ qf Φs ++ G) (qad li.ps Φs 0) cfg.nt (qeM li.tl li.ps (j2 li.ps d md)) aε O W ∧ li.g n (xs.drop i) (j2 li.ps d md) = some o)
  (fun x O W => (∀ b, O b → b ∈ qf Φs ++ G ∨ w.heap.size ≤ b) ∧ ∃ s1 md, Mid P w Hf (· ∈ qf Φs ++ G) (qad li.ps Φs 0) cfg.nt s1 x.2 O W ∧ s1.mp = none ∧ run cfg n body s1 (qix li n (xs.drop (x.1 + 1)) (j2 li.ps d md)) = some o)
  (fun c O W => (∀ b, O b → b ∈ qf Φs ++ G ∨ w.heap.size ≤ b) ∧ ∃ s2 a2, c = codeOf o.1 ∧ Mid P w Hf (· ∈ qf Φs ++ G) (qad li.ps Φs 0) cfg.nt s2 a2 O W ∧ jB s2 li.ps 0 = some o.2)
  ?_ ?_ ?_ ?_ ?_ ?_ ?_ ?_
 ·exact qeo hcal args w'
 ·intro b c hb
  obtain ⟨t, f, e⟩ := hok b c hb
  exact (Array.getElem?_eq_some_iff.1 e).1
 ·rintro i O O' A B ⟨hO, md, hM, hg⟩ hgr
  exact ⟨hstep (by obtain ⟨_, _, _, _, _, _, hm, _⟩ := hM; exact hm) hO hgr, md, hM.move hO hgr, hg⟩
 ·rintro i O O' A B ⟨hO, s1, md, hM, h1, h2⟩ hgr
  exact ⟨hstep (by obtain ⟨_, _, _, _, _, _, hm, _⟩ := hM; exact hm) hO hgr, s1, md, hM.move hO hgr, h1, h2⟩
 ·rintro i O O' A B ⟨hO, s2, a2, e, hM, hom⟩ hgr
  exact ⟨hstep (by obtain ⟨_, _, _, _, _, _, hm, _⟩ := hM; exact hm) hO hgr, s2, a2, e, hM.move hO hgr, hom⟩
 ·-- at the beginning
  have hsim := qdi hok hargs hnd hfr hnt
  have h0 : qm P (qdP w (· ∈ qf Φs ++ G) (qad li.ps Φs 0) cfg.nt (· ∈ G) w Hf) (qbB li.ps d) { tmps := vs.toArray ++ Array.replicate (cfg.nt - vs.toArray.size) undef, defers := [] } w Hf (fun id => (lk (qad li.ps Φs 0) id).getD (nilI id)) := by
   refine ⟨rfl, hsim.size, FH.le_refl _, hok, fun b c hb => .inl hb, j9.refl _ _, ?_, ?_, hsim.disj, hsim.pins⟩
   ·intro t av ht
    exact qn.ctx (C := qa8 w Hf cfg.nt li.ps Φs) (by rfl) (by rfl) (fun b hb hc => (⟨hb.fz, hb.obj, .inl ⟨hb.may.imp (fun h => List.mem_append_left _ h) (fun h => h), hc, fun h => hb.may.elim (fun h2 => (hG b h).2.2 h2) (fun h2 => absurd hb.lt (Nat.not_lt.2 h2))⟩, hb.lt⟩ : qaB (qdP w (· ∈ qf Φs ++ G) (qad li.ps Φs 0) cfg.nt (· ∈ G) w Hf) w Hf _ _ b)) (hsim.ts t av ht)
   ·intro id o ho
    have h := hsim.os id o ho
    exact ⟨h.1, fun b hb => ⟨(h.2 b hb).1, .inl ⟨(h.2 b hb).2.1.imp (fun h => List.mem_append_left _ h) (fun h => h), h.1.cells b hb, fun h3 => (h.2 b hb).2.1.elim (fun h2 => (hG b h3).2.2 h2) (fun h2 => absurd (h.2 b hb).2.2 (Nat.not_lt.2 h2))⟩, (h.2 b hb).2.2⟩⟩
  have hom : jB (qbB li.ps d) li.ps 0 = some (qbt li.ps d) := qaQ _ (fun id o hm => by
   show (lk (jG li.ps 0 d) id).join = some o
   rw [qeB (qay 0).2 hm]
   rfl)
  obtain ⟨h1, h2⟩ := qie (tl := li.tl) hnT hargs rfl hpn rfl h0 (FH.le_refl Hf) hom hsz' hde hvs'
  exact ⟨fun b hb => .inl (List.mem_append_right _ hb), qbt li.ps d, ⟨Hf, _, h1, h2, FH.le_refl _, fun b c hb => .inl hb, j9.refl _ _, fun b hb => ⟨(hG b hb).2.1, (hG b hb).1⟩⟩, by rw [qbq]; exact ho⟩
 ·-- the loop variable
  rintro l m i O W hi ⟨hOw, md, ⟨H', Φ', hs, hc, hle, hn, hm, hO⟩, hgo⟩
  have hx : xs[i]? = some (xs[i]'hi) := List.getElem?_eq_getElem hi
  rw [List.drop_eq_getElem_cons hi, heq.2] at hgo
  have hset := bind_sim (C' := qdP w (· ∈ qf Φs ++ G) (qad li.ps Φs 0) cfg.nt O W H') rfl hp hs hfz (qx.mono _ hle (by simp) (hcs i _ hx))
  rw [hde, Array.toArray_toList, haε] at hset
  refine wpIn_mono (qb9 hmx hcfg (hC O W H') assign hla hra ⟨H', Φ', hset, trivial⟩ hgo) ?_
  rintro e a1 W1 hp1
  cases e with
  | normal =>
   obtain ⟨s1, hs1, h1⟩ := hp1
   simp only [qeW, qga] at h1
   cases hmp : s1.mp.isNone with
   | false => rw [hmp] at h1; cases h1
   | true =>
    rw [hmp, cond_true] at h1
    obtain ⟨k1, k2, k3, k4⟩ := Mid.run hs hle hn hm hO hok hfr2 hs1
    exact ⟨⟨hOw, _, md, k1, Option.isNone_iff_eq_none.1 hmp, h1⟩, k2, k3, k4⟩
  | exit j => obtain ⟨s1, hs1, h1⟩ := hp1; cases h1
  | ret => obtain ⟨s1, hs1, h1⟩ := hp1; cases h1
  | _ => exact hp1.elim
 ·-- a round
  rintro l m i O a₁ W hi ⟨hOw, s1, md, ⟨H', Φ', hs, hc, hle, hn, hm, hO⟩, hmp, hgo⟩
  refine wpIn_mono (qb9 hmx hcfg (hC O W H') body hlb hrb ⟨H', Φ', hs, by rw [hmp]; trivial⟩ hgo) ?_
  rintro e a2 W2 hp2
  have fin : ∀ {x : X} {s2 : St}, jY P (qdP w (· ∈ qf Φs ++ G) (qad li.ps Φs 0) cfg.nt O W H') s2 a2 W2 → qix li n (xs.drop (i + 1)) (j2 li.ps d md) x s2 = some o → ∃ md2, jB (s2.killIf AV.isUpd) li.ps 0 = some md2 ∧ (Mid P w Hf (· ∈ qf Φs ++ G) (qad li.ps Φs 0) cfg.nt (s2.killIf AV.isUpd) a2 O W2 ∧ KeepsFrom w.heap.size W W2 ∧ qck Hf W W2 ∧ qeT O W W2) ∧
    (match x with | .norm => li.g n (xs.drop (i + 1)) (j2 li.ps (j2 li.ps d md) md2) | e => some (e, md2)) = some o := by
   intro x s2 hs2 h2
   unfold qix at h2
   split at h2
   ·rename_i md2 hmd2
    exact ⟨md2, (qaL (s := s2) (s' := s2.killIf AV.isUpd) (fun _ => rfl)).trans hmd2, Mid.run hs hle hn hm hO hok hfr2 hs2, h2⟩
   ·cases h2
  cases e with
  | normal =>
   obtain ⟨s2, hs2, h2⟩ := hp2
   obtain ⟨md2, hom, ⟨⟨H2, Φ2, k1, _, k2, k3, k4, k7⟩, k5, k6, k8⟩, h3⟩ := fin hs2 h2
   simp only at h3
   rw [qbp] at h3
   obtain ⟨q1, q2⟩ := qie (tl := li.tl) hnT hargs rfl hpn rfl k1 k2 hom hsz' hde hvs'
   exact ⟨k5, k6, k8, hOw, md2, ⟨H2, Φ2, q1, q2, k2, k3, k4, k7⟩, h3⟩
  | exit j =>
   obtain ⟨s2, hs2, h2⟩ := hp2
   obtain ⟨md2, hom, ⟨k1, k5, k6, k8⟩, h3⟩ := fin hs2 h2
   cases h3
   exact ⟨k5, hOw, _, _, rfl, k1, hom⟩
  | ret =>
   obtain ⟨s2, hs2, h2⟩ := hp2
   obtain ⟨md2, hom, ⟨k1, k5, k6, k8⟩, h3⟩ := fin hs2 h2
   cases h3
   exact ⟨k5, hOw, _, _, rfl, k1, hom⟩
  | _ => exact hp2.elim
 ·-- all have come
  rintro D O W hD ⟨_, md, hM, hgo⟩ hh
  rw [List.drop_length, heq.1, qa4] at hgo
  cases hgo
  exact hend2 hM ((qaQ _ (fun id o hm => qfJ.2 hm)).trans (by rw [qa4])) hD hh
 ·rintro D c O W hD ⟨_, s2, a2, rfl, hM, hom⟩ hh
  exact qlb (hend2 hM hom hD hh)
end
section
variable {P : Program} {C : Ctx} {cfg : qS} {R : Type} {r : R} {s s' s1 : St} {a a' a1 : Act} {w w' W W' W1 : World} {H H' Hf : FH} {Φ Φ' : Nat → qF}
theorem qhd (hs : qm P C s a w H Φ) : ∀ {tl : List Nat} {l : List AV}, qiQ s tl = some l → j7 (qn P C w H Φ s.obj) l (tl.map fun t => a.tmps.getD t undef)
 | [], l, h => by cases h; trivial
 | t :: tl, l, h => by
  simp only [qiQ] at h
  split at h
  ·rename_i av r h1 h2
   cases h
   exact ⟨hs.ts t av h1, qhd hs h2⟩
  ·cases h
theorem qjt {x : X} {k : X → Option R} : ∀ {l : List X}, pickK l x k = some r → k x = some r
 | [], h => by cases h
 | y :: l, h => by
  unfold pickK at h
  cases hb : y.same x with
  | true => rw [hb, cond_true, X.same_eq hb] at h; exact h
  | false => rw [hb] at h; exact qjt h
theorem qbQ {os : Nat → Option Obj} : ∀ {ps : List jL} {l : List AV} {Φs : List qF} {s : St}, ps.all reads = true → qdm os Φ ps l Φs → qm P C s a w H Φ → qm P C (qbv s ps l) a w H Φ ∧ ∀ j, (qbv s ps l).obj j = if j ∈ qI ps l then none else s.obj j
 | [], l, Φs, s, _, _, hs => ⟨by cases l <;> exact hs, fun j => by cases l <;> simp [qbv, qI]⟩
 | .v _ :: ps, l, Φs, s, hr, hm, hs => by
  obtain ⟨av, l', φ, Φs', rfl, rfl, _, hm⟩ := hm
  exact qbQ (ps := ps) (by simpa [reads] using hr) hm hs
 | .r _ :: ps, l, Φs, s, hr, hm, hs => by
  obtain ⟨av, l', φ, Φs', rfl, rfl, _, hm⟩ := hm
  exact qbQ (ps := ps) (by simpa [reads] using hr) hm hs
 | .c _ :: ps, l, Φs, s, hr, hm, hs => by
  obtain ⟨av, l', φ, Φs', rfl, rfl, _, hm⟩ := hm
  exact qbQ (ps := ps) (by simpa [reads] using hr) hm hs
 | .gm τ :: ps, l, Φs, s, hr, hm, hs => by
  obtain ⟨id, l', Φs', x, rfl, rfl, _, hm⟩ := hm
  obtain ⟨h1, h2⟩ := qbQ (ps := ps) (by simpa [reads] using hr) hm (hs.remove id)
  refine ⟨h1, fun j => ?_⟩
  show (qbv ((s.kill id).setObj id none) ps l').obj j = _
  rw [h2, St.obj_setObj, St.kill, St.obj_killIf]
  simp only [qI, AV.name, List.singleton_append, List.mem_cons]
  by_cases e1 : j ∈ qI ps l'
  ·rw [if_pos e1, if_pos (.inr e1)]
  ·rw [if_neg e1]
   by_cases e2 : id = j
   ·rw [if_pos e2, if_pos (.inl e2.symm)]
   ·rw [if_neg e2, if_neg (fun h => h.elim (fun h => e2 h.symm) e1)]
 | .m _ :: _, _, _, _, hr, _, _ => by simp [reads] at hr
 | .mr _ _ :: _, _, _, _, hr, _, _ => by simp [reads] at hr
 | .t _ _ :: _, _, _, _, hr, _, _ => by simp [reads] at hr
 | .cm _ _ :: _, _, _, _, hr, _, _ => by simp [reads] at hr
theorem qf4 {α β : Type} {R : α → β → Prop} : ∀ {l : List α} {l' : List α} {m m' : List β}, j7 R l m → j7 R l' m' → j7 R (l ++ l') (m ++ m')
 | [], _, [], _, _, h => h
 | [], _, _ :: _, _, h, _ => h.elim
 | _ :: _, _, [], _, h, _ => h.elim
 | _ :: _, _, _ :: _, _, h, h' => ⟨h.1, qf4 h.2 h'⟩
theorem qhO {f : FuncId} {ar : Value → Array Value} {O0 : Nat → Prop} : ∀ (α β : Ty) (e : Ty.list false 0 α = .list false 0 β) (xs0 : List α.den) (xs : List β.den) (cs : Nat → List Value), xs = (show List β.den from (e ▸ (show (Ty.list false 0 α).den from xs0) : (Ty.list false 0 β).den)) → α.isFz = true → (∀ (i : Nat) x, xs0[i]? = some x → qx P α w Hf x (cs i) []) → qdH P f ar xs0.length (fun i => encE α (cs i)) Hf O0 w →
  β.isFz = true ∧ (∀ (i : Nat) x, xs[i]? = some x → qx P β w Hf x (cs i) []) ∧ qdH P f ar xs.length (fun i => encE β (cs i)) Hf O0 w := by
 intro α β e xs0 xs cs hx h1 h2 h3
 injection e with _ _ e'
 subst e'
 subst hx
 exact ⟨h1, h2, h3⟩
def qcb (cfg : qS) : Code → Bool
 | .region id ops true => (qde id cfg.enum && Region.noSelect ops) || drawR cfg ops
 | .seq a b => qcb cfg a && qcb cfg b
 | .cond _ a b => qcb cfg a && qcb cfg b
 | .block _ c => qcb cfg c
 | .loop c => qcb cfg c
 | .rangeFunc _ _ a b => qag cfg a && qag cfg b
 | _ => true
theorem range_ok (hmo2 : P.follows .mixedOrders = true) (hcfg : qB P cfg) (hit : ∀ f it, lk cfg.iters f = some it → qeg P f it) {gop : Operand} {prms : Array Tmp} {assign body : Code} {n : Nat} {k : X → St → Option R} (hl : qby cfg (.rangeFunc gop prms assign body)) (hra : qag cfg assign = true) (hrb : qag cfg body = true)
  (hC : qM C cfg) (hs : jY P C s a w) (h : run cfg n (.rangeFunc gop prms assign body) s k = some r) : (Code.rangeFunc gop prms assign body).wp P (qgf P C k r) a w := by
 obtain ⟨H, Φ, hsb, _⟩ := hs
 simp only [run] at h
 split at h
 case h_2 => cases h
 rename_i key f fa caps hkey hg
 split at h
 case h_2 => cases h
 rename_i it li hiter hli
 split at h
 case h_2 => cases h
 rename_i l hgl
 cases hq : Nat.blt f 5000000 && fa.isTup && caps.isTup && (fa.isNilT || caps.isNilT) && s.mp.isNone && it.ps.all reads && qaz (qI it.ps (fa.list ++ caps.list) ++ qI li.ps l) (qt it.ps (fa.list ++ caps.list) ++ qt li.ps l) && okP cfg.nt prms.toList li.a && Nat.ble li.ps.length cfg.nt && li.ps.all jL.noT with
 | false => rw [hq] at h; cases h
 | true =>
 rw [hq, cond_true] at h
 simp only [Bool.and_eq_true] at hq
 obtain ⟨⟨⟨⟨⟨⟨⟨⟨⟨hf5, hfa⟩, ht⟩, hnl⟩, _⟩, hird⟩, hap⟩, hp⟩, hnt⟩, hnT⟩ := hq
 have hf5 : f < 5000000 := Eq.mp Nat.blt_eq hf5
 have hnt : li.ps.length ≤ cfg.nt := Nat.le_of_ble_eq_true hnt
 obtain ⟨cl, hcl⟩ : ∃ cl, cl = fa.list ++ caps.list := ⟨_, rfl⟩
 rw [← hcl] at hap h
 obtain ⟨hmsA, hmtA⟩ := qbT hap
 have hms : (qI li.ps l).Nodup := (List.nodup_append.1 hmsA).2.1
 have hmt : ∀ x ∈ qI li.ps l, x ∉ qt it.ps cl ++ qt li.ps l := fun x hx => hmtA x (List.mem_append_right _ hx)
 have hmtc : ∀ x ∈ qI it.ps cl, x ∉ qt it.ps cl ++ qt li.ps l := fun x hx => hmtA x (List.mem_append_left _ hx)
 have hmsc : (qI it.ps cl).Nodup := (List.nodup_append.1 hmsA).1
 have hmx : ∀ x ∈ qI it.ps cl, ∀ y ∈ qI li.ps l, x ≠ y := (List.nodup_append.1 hmsA).2.2
 obtain ⟨hla, hlb, heq⟩ := hl
 have heq := heq key li hkey hli
 obtain ⟨hcal, hifz, hiseq⟩ := hit _ it hiter
 obtain ⟨vs0, us, hv, hn0, hcaps⟩ := qs hsb qK hg
 have hrelf : j7 (qn P C w H Φ s.obj) fa.list vs0.toList := qan hfa (by simpa using hn0)
 have hrelu : j7 (qn P C w H Φ s.obj) caps.list us.toList := qan ht (by simpa using hcaps)
 obtain ⟨cv, hcv, hrelc, hitF, har⟩ : ∃ cv : List Value, cv = vs0.toList ++ us.toList ∧ j7 (qn P C w H Φ s.obj) cl cv ∧ itF (qjP f fa) = f ∧ ∀ y, itAr (qjP f fa) cv.toArray y = vs0 ++ #[y] ++ us := by
  refine ⟨_, rfl, ?_, ?_, ?_⟩
  ·rw [hcl]
   exact qf4 hrelf hrelu
  ·unfold qjP itF
   cases fa with
   | nil => rw [show Nat.ble 5000000 f = false from by rw [← Bool.not_eq_true, Nat.ble_eq]; omega]; rfl
   | _ => simp only []; rw [show Nat.ble 5000000 (5000000 + f) = true from by rw [Nat.ble_eq]; omega, cond_true]; omega
  ·intro y
   unfold qjP itAr
   rw [Bool.or_eq_true] at hnl
   cases fa with
   | nil =>
    have e0 : vs0 = #[] := by
     cases hrelf' : vs0.toList with
     | nil => exact Array.ext' (by simpa using hrelf')
     | cons x r => rw [hrelf'] at hrelf; exact hrelf.elim
    simp only []
    rw [show Nat.ble 5000000 f = false from by rw [← Bool.not_eq_true, Nat.ble_eq]; omega, cond_false, e0]
    simp
   | _ =>
    have hcn : caps = .nil := by
     cases caps with
     | nil => rfl
     | _ => simp [AV.isNilT] at hnl
    subst hcn
    have e0 : us = #[] := by
     cases hrelf' : us.toList with
     | nil => exact Array.ext' (by simpa using hrelf')
     | cons x r => rw [hrelf'] at hrelu; exact hrelu.elim
    simp only []
    rw [show Nat.ble 5000000 (5000000 + f) = true from by rw [Nat.ble_eq]; omega, cond_true, e0]
    simp
 have hrell := qhd hsb hgl
 obtain ⟨Hf, m1, m2, m3, m4, m5⟩ := qm.freezeAll (qt it.ps cl ++ qt li.ps l) hsb
 obtain ⟨dc, h, Φc, hargc, hmc⟩ := qaE hcfg hsb m1 (fun id hid => m3 id (List.mem_append_left _ hid)) hrelc h
 obtain ⟨d, h, Φs, hargs, hmr⟩ := qaE hcfg hsb m1 (fun id hid => m3 id (List.mem_append_right _ hid)) hrell h
 rw [qo] at h
 replace h := Option.bind_eq_some_iff.1 h
 obtain ⟨xs0, hx0, h⟩ := h
 rw [qo] at h
 replace h := Option.bind_eq_some_iff.1 h
 obtain ⟨xs, hx, h⟩ := h
 rw [qo] at h
 replace h := Option.bind_eq_some_iff.1 h
 obtain ⟨o, ho, h⟩ := h
 have h := qjt h
 obtain ⟨hfps, hmo⟩ := qaM hmr
 obtain ⟨hfpc, hmoc⟩ := qaM hmc
 have hndc : (qf Φc).Nodup := by
  rw [hfpc]
  refine qaS hmsc (fun id hid => ?_) (fun i hi j hj hij b hb => ?_)
  ·obtain ⟨o, ho⟩ := hmoc id hid
   exact (hsb.os id o ho).1.2.1
  ·obtain ⟨o, ho⟩ := hmoc i hi
   obtain ⟨o', ho'⟩ := hmoc j hj
   exact hsb.disj i j o o' hij ho ho' b hb
 have hG : ∀ b ∈ qf Φc, Hf b = none ∧ b < w.heap.size ∧ b ∉ qf Φs := by
  intro b hb
  rw [hfpc] at hb
  obtain ⟨id, hid, hb⟩ := List.mem_flatMap.1 hb
  obtain ⟨o, ho⟩ := hmoc id hid
  obtain ⟨q1, q2, q3⟩ := (hsb.os id o ho).2 b hb
  refine ⟨?_, q3, fun hb2 => ?_⟩
  ·cases hq : Hf b with
   | none => rfl
   | some c =>
    rcases m2 b c hq with h1 | ⟨id2, hid2, o2, ho2, hb2⟩
    ·rw [q1] at h1; cases h1
    ·exact absurd hb2 (hsb.disj id id2 o o2 (by rintro rfl; exact hmtc id hid hid2) ho ho2 b hb)
  ·rw [hfps] at hb2
   obtain ⟨id2, hid2, hb2⟩ := List.mem_flatMap.1 hb2
   obtain ⟨o2, ho2⟩ := hmo id2 hid2
   exact hsb.disj id id2 o o2 (hmx id hid id2 hid2) ho ho2 b hb hb2
 obtain ⟨hsd, hod⟩ := qbQ hird hmc m4
 have hG2 : ∀ b ∈ qf Φc, (C.M0 b ∨ C.w0.heap.size ≤ b) ∧ ∀ j o, (qbv (s.freezeAll (qt it.ps cl ++ qt li.ps l)) it.ps cl).obj j = some o → b ∉ (Φ j).fp := by
  intro b hb
  rw [hfpc] at hb
  obtain ⟨id, hid, hb⟩ := List.mem_flatMap.1 hb
  obtain ⟨o, ho⟩ := hmoc id hid
  refine ⟨((hsb.os id o ho).2 b hb).2.1, fun j o2 hj => ?_⟩
  rw [hod] at hj
  split at hj
  ·cases hj
  ·rename_i hjn
   rw [m5] at hj
   split at hj
   ·cases hj
   ·exact hsb.disj id j o o2 (fun e => hjn (e ▸ hid)) ho hj b hb
 obtain ⟨cs, hcs, hseq⟩ := hiseq dc xs0 hx0 w Hf cv Φc m4.hok hargc hndc (fun b hb => ⟨(hG b hb).1, (hG b hb).2.1⟩)
 obtain ⟨e, hxe⟩ := qj hx
 obtain ⟨hfz, hcs, hseq⟩ := qhO it.a li.a e xs0 xs cs hxe hifz hcs hseq
 have hnd : (qf Φs).Nodup := by
  rw [hfps]
  refine qaS hms (fun id hid => ?_) (fun i hi j hj hij b hb => ?_)
  ·obtain ⟨o, ho⟩ := hmo id hid
   exact (hsb.os id o ho).1.2.1
  ·obtain ⟨o, ho⟩ := hmo i hi
   obtain ⟨o', ho'⟩ := hmo j hj
   exact hsb.disj i j o o' hij ho ho' b hb
 have hnone : ∀ b ∈ qf Φs, Hf b = none ∧ b < w.heap.size := by
  intro b hb
  rw [hfps] at hb
  obtain ⟨id, hid, hb⟩ := List.mem_flatMap.1 hb
  obtain ⟨o, ho⟩ := hmo id hid
  obtain ⟨q1, q2, q3⟩ := (hsb.os id o ho).2 b hb
  refine ⟨?_, q3⟩
  cases hq : Hf b with
  | none => rfl
  | some c =>
   rcases m2 b c hq with h1 | ⟨id2, hid2, o2, ho2, hb2⟩
   ·rw [q1] at h1; cases h1
   ·exact absurd hb2 (hsb.disj id id2 o o2 (by rintro rfl; exact hmt id hid hid2) ho ho2 b hb)
 have hds : a.defers = C.ds := hsb.defers
 rw [hitF] at hcal hseq
 refine qll hmo2 hnT hcfg heq hla hlb hra hrb hp hnt m4.hok hargs hnd hnone hG (hsb.size.trans hC.nt) rfl (gf := f) (lb := us) har hv hcal hfz hcs hseq ho ?_
 rintro D W hD ⟨H', Φs', k1, k2, k3, k4, k5, k6, k7⟩ hh
 have hsim := qgd (dst := none) hcfg hC hsd rfl k2 k3 (p := ⟨li.ps, [], fun _ => none⟩) (show (0 : Nat) < 1000 by decide) hG2 (us := []) (Ψs := []) (y := ((), o.2)) k1 k4
  (qas (fun id hid => by rw [hod, if_neg (fun h => hmx id h id hid rfl), m5, if_neg (hmt id hid)]) hmr) hargs k5 ⟨rfl, rfl⟩ (by simpa using k6) (by simpa using k7) hms
 obtain ⟨H2, Φ2, hsim⟩ := hsim
 have hact : ({ ({ a with defers := { target := .collected D, args := #[] } :: a.defers } : Act) with defers := C.ds } : Act) = a := by
  rw [← hds]
 have hends : qfX P C k r o.1 { a with defers := { target := .collected D, args := #[] } :: a.defers } W := by
  refine ⟨_, [{ target := .collected D, args := #[] }], by rw [hds]; rfl, ⟨by simp, ?_⟩, ?_, h⟩
  ·intro x hx
   obtain rfl := List.mem_singleton.1 hx
   exact ⟨D, rfl, Nat.le_trans hsb.mod.size hD, hh⟩
  ·rw [hact]
   exact ⟨H2, Φ2, hsim.withM none, trivial⟩
 obtain ⟨x, md⟩ := o
 cases x with
 | norm => exact hends
 | exit i => exact hends
 | ret => exact hends
theorem qf3 {c : Code} {Q Q' : Exit → Act → World → Prop} (hq : ∀ e a w, Q e a w → Q' e a w) : ∀ (m : Nat) {a : Act} {w : World}, Code.rounds P c Q m a w → Code.rounds P c Q' m a w
 | 0, _, _, h => h
 | m + 1, _, _, h => wp_mono h (fun e a w hp => by
  cases e with
  | normal => exact qf3 hq m hp
  | _ => exact hq _ _ _ hp)
theorem qdp (hm : P.follows .mixedOrders = true) (hcfg : qB P cfg) (hit : ∀ f it, lk cfg.iters f = some it → qeg P f it) : ∀ (c : Code) {C : Ctx} (_ : qM C cfg) {R : Type} {r : R} {n : Nat} {s : St} {k : X → St → Option R} {a : Act} {w : World}, qac cfg c → qby cfg c → qcb cfg c = true → jY P C s a w → run cfg n c s k = some r → c.wp P (qgf P C k r) a w
 | .skip, C, hC, R, r, n, s, k, a, w, _, _, _, hs, h => wp_skip (.one hs h)
 | .ret, C, hC, R, r, n, s, k, a, w, _, _, _, hs, h => wp_ret (.one hs h)
 | .exit i, C, hC, R, r, n, s, k, a, w, _, _, _, hs, h => wp_exit (.one hs h)
 | .region id ops draw, C, hC, R, r, n, s, k, a, w, hl, _, hd, hs, h => wp_mono (qch hm hcfg hC (.region id ops draw) hl (by cases draw <;> first | rfl | exact hd) hs h) (fun _ _ _ hp => .of_post hp)
 | .seq x y, C, hC, R, r, n, s, k, a, w, hl, hr, hd, hs, h => by
  simp only [qcb, Bool.and_eq_true] at hd
  refine wp_seq (wp_mono (qdp hm hcfg hit x hC hl.1 hr.1 hd.1 hs h) ?_)
  intro e a w hp
  cases e with
  | normal =>
   obtain ⟨s', ds, hd', hD, hs', h'⟩ := hp
   obtain ⟨H, Φ, hsb, hs2⟩ := hs'.rebaseD ds hd'
   exact wp_mono (qdp hm hcfg hit y (reD_ok hC) hl.2 hr.2 hd.2 hs2 h') (fun _ _ _ hp => hp.unbase hsb hD)
  | exit i => exact hp
  | ret => exact hp
  | _ => exact hp.elim
 | .cond c x y, C, hC, R, r, n, s, k, a, w, hl, hr, hd, hs, h => by
  simp only [qcb, Bool.and_eq_true] at hd
  simp only [run] at h
  split at h
  ·rename_i b hb
   obtain ⟨H, Φ, hsb, hM⟩ := hs
   have hv := (qs hsb qK hb).bool
   refine wp_cond hv ?_
   cases b with
   | true => exact qdp hm hcfg hit x hC hl.1 hr.1 hd.1 ⟨H, Φ, hsb, hM⟩ h
   | false => exact qdp hm hcfg hit y hC hl.2 hr.2 hd.2 ⟨H, Φ, hsb, hM⟩ h
  ·cases h
 | .block i c, C, hC, R, r, n, s, k, a, w, hl, hr, hd, hs, h => by
  refine wp_block (wp_mono (qdp hm hcfg hit c hC hl hr hd hs h) ?_)
  intro e a w hp
  cases e with
  | normal => exact hp
  | exit j =>
   obtain ⟨s', ds, q1, q2, q3, h'⟩ := hp
   simp only [qi3] at h'
   unfold Exit.inBlock
   cases hb : Nat.beq j i with
   | true =>
    rw [hb] at h'
    obtain rfl := Nat.eq_of_beq_eq_true hb
    simp only [if_true]
    exact ⟨s', ds, q1, q2, q3, h'⟩
   | false =>
    rw [hb] at h'
    simp only [Nat.ne_of_beq_eq_false hb, if_false]
    exact ⟨s', ds, q1, q2, q3, h'⟩
  | ret => exact hp
  | _ => exact hp.elim
 | .loop c, C, hC, R, r, n, s, k, a, w, hl, hr, hd, hs, h => by
  simp only [run] at h
  split at h
  ·cases h
  ·rename_i key hkey
   split at h
   ·cases h
   ·rename_i li hli
    split at h
    ·cases h
    ·rename_i d hd'
     rw [qo] at h
     replace h := Option.bind_eq_some_iff.1 h
     obtain ⟨o, ho, h⟩ := h
     obtain ⟨heq0, heq⟩ := hl.2 key li hkey hli
     have hs' := qb4 hd' hs
     have rounds : ∀ m {C : Ctx} (_ : qM C cfg) d a w, li.g m d = some o → jY P C (li.ins.fill d) a w → Code.rounds P c (qgf P C k r) m a w := by
      intro m
      induction m with
      | zero => intro C _ d a w hg; rw [heq0] at hg; cases hg
      | succ m ih =>
       intro C hC d a w hg hsd
       rw [heq] at hg
       refine wp_mono (qdp hm hcfg hit c hC hl.1 hr hd hsd hg) ?_
       intro e a w hp
       cases e with
       | normal =>
        obtain ⟨s2, ds, q1, q2, hs2, h2⟩ := hp
        simp only [qN] at h2
        split at h2
        ·rename_i d2 hd2
         obtain ⟨H, Φ, hsb, hs3⟩ := hs2.rebaseD ds q1
         exact qf3 (fun _ _ _ hp => hp.unbase hsb q2) m (ih (reD_ok hC) d2 a w h2 (qb4 hd2 hs3))
        ·cases h2
       | exit j =>
        obtain ⟨s2, ds, q1, q2, hs2, h2⟩ := hp
        obtain ⟨s3, hs3, h3⟩ := qcJ hs2 (k := k) h2
        exact ⟨s3, ds, q1, q2, hs3, by rw [← h3]; exact h⟩
       | ret =>
        obtain ⟨s2, ds, q1, q2, hs2, h2⟩ := hp
        obtain ⟨s3, hs3, h3⟩ := qcJ hs2 (k := k) h2
        exact ⟨s3, ds, q1, q2, hs3, by rw [← h3]; exact h⟩
       | _ => exact hp.elim
     exact wp_loop_rounds n (rounds n hC d a w ho hs')
 | .rangeFunc g ps x y, C, hC, R, r, n, s, k, a, w, _, hr, hd, hs, h => by
  simp only [qcb, Bool.and_eq_true] at hd
  exact range_ok hm hcfg hit hr hd.1 hd.2 hC hs h
 | .scope _, _, _, _, _, _, _, _, _, _, _, _, _, _, h => by cases h
 | .label _, _, _, _, _, _, _, _, _, _, _, _, _, _, h => by cases h
 | .goto _, _, _, _, _, _, _, _, _, _, _, _, _, _, h => by cases h
 | .refuse _, _, _, _, _, _, _, _, _, _, _, _, _, _, h => by cases h
def qcE (W W' : World) : Prop := ∀ (b : Nat) (c : Array Value) (t : TypeId) (f : Nat × Nat), W.heap[b]? = some (.cells c t f) → W'.heap[b]? = some (.cells c t f)
theorem qcE.cell (h : qcE W W') {ad : Addr} {v : Value} (hv : W.cell? ad = some v) : W'.cell? ad = some v := by
 unfold World.cell? at hv ⊢
 cases e : W.heap[ad.block]? with
 | none => rw [e] at hv; simp at hv
 | some o =>
  rw [e] at hv
  cases o with
  | cells c t f => rw [h _ _ _ _ e]; exact hv
  | _ => simp at hv
theorem qcE.locO (h : qcE W W') {o : Obj} {φ : qF} {p : List qJ} {b off : Nat} (hl : qak W o φ p b off) : qak W' o φ p b off := by
 obtain ⟨row, τ, x⟩ := o
 cases row with
 | false => exact Loc.keep τ (fun _ _ _ _ _ he => h.cell he) hl
 | true =>
  unfold qak at hl ⊢
  simp only at hl ⊢
  split at hl
  ·obtain ⟨g, n, cap, e, hl⟩ := hl
   exact ⟨g, n, cap, e, Loc.keep _ (fun _ _ _ _ _ he => h.cell he) hl⟩
  ·exact hl
theorem qm.sameC (hs : qm P C s a w H Φ) (hsame : qcE w w') (hsz : w.heap.size ≤ w'.heap.size) (hmod : j9 C.M0 C.w0 w') : qm P C s a w' H Φ := by
 refine ⟨hs.defers, hs.size, hs.le, ?_, hs.hnew, hmod, ?_, ?_, hs.disj, hs.pins⟩
 ·intro b c hb
  obtain ⟨t, f, e⟩ := hs.hok b c hb
  exact ⟨t, f, hsame _ _ _ _ e⟩
 ·intro t av ht
  have h1 : qn P C w' H Φ s.obj (av.killIf fun _ => false) (a.tmps.getD t undef) := qn.transfer (fun _ => false) (FH.le_refl H) (fun id p v _ hh => by
    obtain ⟨o, y, b, off, h1, h2, h3, h4, h5⟩ := hh
    exact ⟨o, y, b, off, h1, h2, h3, hsame.locO h4, h5⟩) (fun id p v _ hh => by
    obtain ⟨o, y, h1, h2, h3⟩ := hh
    refine ⟨o, y, h1, h2, ?_⟩
    cases hb : o.row && p.isEmpty with
    | true => rw [hb] at h3; exact h3
    | false =>
     rw [hb] at h3
     obtain ⟨b, off, blk, t, k1, k2, k3⟩ := h3
     exact ⟨b, off, blk, t, hsame.locO k1, hsame _ _ _ _ k2, k3⟩) (fun id p t e l v _ hh => by
    obtain ⟨o, h1, h2, h3, h4, fp, h5, h6⟩ := hh
    refine ⟨o, h1, h2, h3, h4, fp, qx.mono _ (FH.le_refl _) (fun b hb => ?_) h5, fun b hb => ⟨Nat.lt_of_lt_of_le (h6 b hb).1 hsz, ?_⟩⟩
    ·obtain ⟨c, t, f, e⟩ := qx.cells _ h5 b hb
     rw [e, hsame _ _ _ _ e]
    ·rcases (h6 b hb).2 with hf | ⟨hh, q1, q2⟩
     ·exact .inl ⟨hf.fz, hf.obj, hf.may, Nat.lt_of_lt_of_le hf.lt hsz⟩
     ·refine .inr ⟨hh, ?_, q2⟩
      unfold qeh at q1 ⊢
      cases hr : o.row && p.isEmpty with
      | true => rw [hr] at q1; exact q1
      | false =>
       rw [hr] at q1
       obtain ⟨b2, off2, z1, z2⟩ := q1
       exact ⟨b2, off2, hsame.locO z1, hsame.cell z2⟩) av _ (hs.ts t av ht)
  rwa [qn.id_kill _ (fun _ => rfl)] at h1
 ·intro id o ho
  have h := hs.os id o ho
  exact ⟨h.1.frame (FH.le_refl _) (fun b hb => by obtain ⟨c, t, f, e⟩ := h.1.cells b hb; rw [e, hsame _ _ _ _ e]), fun b hb => ⟨(h.2 b hb).1, (h.2 b hb).2.1, Nat.lt_of_lt_of_le (h.2 b hb).2.2 hsz⟩⟩
theorem qfa {fn : Func} {n : Nat} {tmps : Array Value} {R : Ending → World → Prop} {B : Nat} : ∀ {ds : List Deferred} {w : World}, DsOK B ds w →
  (∀ w', qcE w w' → w'.heap.size = w.heap.size → w'.os = w.os → w'.tape = w.tape → w'.output = w.output → (∀ k, k < B → w'.heap[k]? = w.heap[k]?) → ∃ v, (results fn tmps).run P w' = .ok v w' ∧ R (.returned v) w') → LeavesInM Fence.wide n P fn tmps R ds .returning w
 | [], w, _, h => h w (fun _ _ _ _ e => e) rfl rfl rfl rfl (fun _ _ => rfl)
 | d :: ds, w, hD, h => by
  obtain ⟨hnd, hD⟩ := hD
  obtain ⟨D, e, hB, hh⟩ := hD d List.mem_cons_self
  have hlt := (Array.getElem?_eq_some_iff.1 hh).1
  rw [List.nodup_cons] at hnd
  refine ⟨by simp, .inl ⟨D, _, by rw [e], run_takeDeferred hh, qfa ⟨hnd.2, fun x hx => ?_⟩ (fun w' q1 q2 q3 q4 q5 q6 => h w' (fun b c t f e2 => q1 _ _ _ _ ((World.putObj_heap_other (fun hb => by rw [hb, hh] at e2; cases e2)).trans e2)) (q2.trans (by simp)) (q3.trans rfl) (q4.trans rfl) (q5.trans rfl) (fun k hk => (q6 k hk).trans (World.putObj_heap_other (by omega))))⟩⟩
  ·obtain ⟨D', e', hB', hh'⟩ := hD x (List.mem_cons_of_mem _ hx)
   refine ⟨D', e', hB', (World.putObj_heap_other ?_).trans hh'⟩
   rintro rfl
   exact hnd.1 (by rw [e, ← e']; exact hx)
theorem done_ok (hcfg : qB P cfg) {fn : Func} {ps : List jL} {rs : List RTy} {y : RDens rs × MDens ps} {vs : List Value} {Φs : List qF} {d : PDens ps} (hargs : jR P w H ps d vs Φs) : ∀ (s : St) (a' : Act) (w' : World), Sim P (qa8 w H cfg.nt ps Φs) s a' w' → qcP cfg fn ps rs .ret s = some y →
   a'.defers = [] ∧ ∃ v, (results fn a'.tmps).run P w' = .ok v w' ∧ ∃ us H' Φs' Ψs, Ending.returned v = .returned (qah us) ∧ j9 (· ∈ qf Φs) w w' ∧ H.le H' ∧ HOk H' w' ∧ (∀ b c, H' b = some c → H b = some c ∨ b ∈ qf Φs ∨ w.heap.size ≤ b) ∧
    qai P w' H' rs y.1 us Ψs ∧ jQ P w' H' ps y.2 vs Φs' ∧ (qf (Ψs ++ Φs')).Nodup ∧ ∀ b ∈ qf (Ψs ++ Φs'), H' b = none ∧ (b ∈ qf Φs ∨ w.heap.size ≤ b) ∧ b < w'.heap.size := by
 obtain ⟨_, _, _, h4, _⟩ := qaD (C := qa8 w H cfg.nt ps Φs) 0 hargs
 rintro s a' w' ⟨H2, Φ2, hs⟩ h
 simp only [qcP] at h
 split at h
 case h_2 => cases h
 rename_i md hmd
 obtain ⟨T, hand, t1, t2, t3, t4⟩ := qdq hcfg hs h
 obtain ⟨Hf, m1, m2, m3, m4, m5⟩ := qm.freezeAll T hs
 obtain ⟨d', us, Ψs, g1, g2, g3, g4, g5⟩ := t4 Hf m1 m3
 cases g1
 obtain ⟨Φs', k1, k2, k3⟩ := qar hs m1 (i := 0) hargs (fun x hx => by
  obtain ⟨id, φ⟩ := x
  have hpin : (qa8 w H cfg.nt ps Φs).pin id = some φ := qeB h4 hx
  exact hs.pins.1 id φ hpin) hmd
 have hids := qaI (ps := ps) (i := 0)
 have hfapp : qf (Ψs ++ Φs') = qf Ψs ++ qf Φs' := by simp [qf]
 have hobj : ∀ id, id ∉ T → ∀ o, s.obj id = some o → ∀ b ∈ (Φ2 id).fp, Hf b = none ∧ (b ∈ qf Φs ∨ w.heap.size ≤ b) ∧ b < w'.heap.size := by
  intro id hid o ho b hb'
  obtain ⟨q1, q2, q3⟩ := (hs.os id o ho).2 b hb'
  refine ⟨?_, q2, q3⟩
  cases hq : Hf b with
  | none => rfl
  | some c =>
   rcases m2 b c hq with h1 | ⟨j, hj, o', ho', hbj⟩
   ·rw [q1] at h1; cases h1
   ·exact absurd hbj (hs.disj id j o o' (by rintro rfl; exact hid hj) ho ho' b hb')
 refine ⟨hs.defers, _, qcR g2, us, Hf, Φs', Ψs, rfl, hs.mod, FH.le_trans hs.le m1, m4.hok, m4.hnew, g3, k1, ?_, ?_⟩
 ·rw [hfapp, List.nodup_append]
  refine ⟨g4, ?_, ?_⟩
  ·rw [k2]
   refine qaS hids.2 (fun id hid => ?_) (fun i hi j hj hij b hb' => ?_)
   ·obtain ⟨o, ho⟩ := k3 id hid
    exact (hs.os id o ho).1.2.1
   ·obtain ⟨o, ho⟩ := k3 i hi
    obtain ⟨o', ho'⟩ := k3 j hj
    exact hs.disj i j o o' hij ho ho' b hb'
  ·rintro b hb1 _ hb2 rfl
   obtain ⟨i, hi, o, ho, hbi⟩ := g5 b hb1
   rw [k2] at hb2
   obtain ⟨j, hj, hbj⟩ := List.mem_flatMap.1 hb2
   obtain ⟨o', ho'⟩ := k3 j hj
   exact hs.disj i j o o' (by rintro rfl; exact (t3 i hi).1 hj) ho ho' b hbi hbj
 ·intro b hb'
  rw [hfapp] at hb'
  rcases List.mem_append.1 hb' with hb1 | hb2
  ·obtain ⟨i, hi, o, ho, hbi⟩ := g5 b hb1
   exact hobj i (t3 i hi).2 o ho b hbi
  ·rw [k2] at hb2
   obtain ⟨j, hj, hbj⟩ := List.mem_flatMap.1 hb2
   obtain ⟨o', ho'⟩ := k3 j hj
   exact hobj j (fun hT => t1 j hT hj) o' ho' b hbj
theorem qlD (hm : P.follows .mixedOrders = true) (hcfg : qB P cfg) (hit : ∀ f it, lk cfg.iters f = some it → qeg P f it) {f : FuncId} {fn : Func} {c : Code} (hf : P.funcs[f]? = some fn) (hb : fn.body = some c) (hnt : fn.ntmps = cfg.nt) (hl : qac cfg c) (hr : qby cfg c) (hd : qcb cfg c = true)
  {p : qE} (hps : p.ps.length ≤ cfg.nt) (hg : ∀ d y, p.g d = some y → ∃ n, qy cfg n fn c p.ps p.rs d = some y) : qir P f p := by
 intro d y hy w H vs Φs hok hargs hnd hfr
 obtain ⟨n, hn⟩ := hg d y hy
 have hsim := qdi hok hargs hnd hfr hps
 have hC := qev (cfg := cfg) hargs
 refine (callsIn_wide (n := 0)).1 (callsIn_of_wp_marks hf hb trivial ((wpIn_wide (n := 0)).2 ?_))
 rw [hnt]
 refine wp_mono (qdp hm hcfg hit c hC hl hr hd ⟨H, _, hsim, trivial⟩ hn) ?_
 have fin : ∀ {x : X} {a' : Act} {w' : World}, (match x with | .exit _ => False | _ => True) → qfX P (qa8 w H cfg.nt p.ps Φs) (qcP cfg fn p.ps p.rs) y x a' w' → LeavesInM Fence.wide 0 P fn a'.tmps (fun e w' => ∃ us H' Φs' Ψs, e = .returned (qah us) ∧ j9 (· ∈ qf Φs) w w' ∧ H.le H' ∧ HOk H' w' ∧ (∀ b c, H' b = some c → H b = some c ∨ b ∈ qf Φs ∨ w.heap.size ≤ b) ∧
   qai P w' H' p.rs y.1 us Ψs ∧ jQ P w' H' p.ps y.2 vs Φs' ∧ (qf (Ψs ++ Φs')).Nodup ∧ ∀ b ∈ qf (Ψs ++ Φs'), H' b = none ∧ (b ∈ qf Φs ∨ w.heap.size ≤ b) ∧ b < w'.heap.size) a'.defers .returning w' := by
  intro x a' w' hx ⟨s, ds, e1, hD, ⟨H2, Φ2, hs, _⟩, hk⟩
  have hk : qcP cfg fn p.ps p.rs .ret s = some y := by cases x <;> first | exact hk | exact hx.elim
  have e1 : a'.defers = ds := by rw [e1]; exact List.append_nil ds
  rw [e1]
  refine qfa hD (fun w2 q1 q2 q3 q4 q5 q6 => ?_)
  have hs2 := hs.sameC q1 (Nat.le_of_eq q2.symm) (hs.mod.trans_new (N := fun k => w.heap.size ≤ k) ⟨q3, q4, q5, Nat.le_of_eq q2.symm, fun k _ hk => q6 k (Nat.lt_of_not_le hk)⟩ (fun i hi => .inr hi))
  obtain ⟨_, v, h1, us, H', Φs', Ψs, h2, rest⟩ := done_ok hcfg hargs s _ w2 ⟨H2, Φ2, hs2⟩ hk
  exact ⟨v, h1, us, H', Φs', Ψs, h2, rest⟩
 intro e a' w' hp
 cases e with
 | normal => exact fin (x := .norm) trivial hp
 | ret => exact fin (x := .ret) trivial hp
 | exit i => obtain ⟨s, ds, _, _, _, hk⟩ := hp; cases hk
 | _ => exact hp.elim
end
section
variable {P : Program} {C : Ctx} {cfg : qS} {R : Type} {r : R} {s s' : St} {a a' : Act} {w w' : World} {H H' : FH} {Φ Φ' : Nat → qF}
def capK {R : Type} (s : St) (used : List Nat) : List AV → (rs : List RTy) → (RDens rs → Option R) → Option R
 | [], [], k => k ()
 | a :: vs, .v τ :: rs, k => bif qaz a.touches used then qbN s a τ fun x => capK s (a.touches ++ used) vs rs fun d => k (x, d) else none
 | a :: vs, .optr τ :: rs, k => match a with
  | .ptr id [] => bif qaR id used then none else match s.obj id with
   | some o => bif o.row then none else qa (qL o.τ τ o.x) fun x => capK s (id :: used) vs rs fun d => k (x, d)
   | none => none
  | _ => none
 | _, _, _ => none
def qkF (fn : Func) (ps : List jL) (f : Nat) (rs : List RTy) (e : X) (s : St) : Option (RDens rs × MDens ps) :=
 match e with
 | .exit _ => none
 | _ => match jB s ps 0, fn.results.toList with
  | some md, [.tmp t] => match s.get t with
   | some (.fn g .nil caps) => bif Nat.beq g f && caps.isTup then capK s (qat ps 0) caps.list rs fun d => some (d, md) else none
   | _ => none
  | _, _ => none
noncomputable def qj3 (cfg : qS) (n : Nat) (fn : Func) (c : Code) (ps : List jL) (f : Nat) (rs : List RTy) (d : PDens ps) : Option (RDens rs × MDens ps) :=
 run cfg n c (qbB ps d) (qkF fn ps f rs)
theorem qi1 (hs : qm P C s a w H Φ) : ∀ {avs : List AV} {us : List Value} {rs : List RTy} {used : List Nat} {kk : RDens rs → Option R}, j7 (qn P C w H Φ s.obj) avs us → capK s used avs rs kk = some r →
  ∃ T hand : List Nat, (∀ id ∈ T, id ∉ used) ∧ hand.Nodup ∧ (∀ id ∈ hand, id ∉ used ∧ id ∉ T) ∧ ∀ Hf, H.le Hf → Fzn w Hf Φ s.obj T →
   ∃ d Ψs, kk d = some r ∧ qai P w Hf rs d us Ψs ∧ (qf Ψs).Nodup ∧ ∀ b ∈ qf Ψs, ∃ id ∈ hand, ∃ o, s.obj id = some o ∧ b ∈ (Φ id).fp
 | [], [], [], used, kk, _, h => ⟨[], [], by simp, by simp, by simp, fun Hf _ _ => ⟨(), [], h, ⟨rfl, rfl⟩, by simp [qf], by simp [qf]⟩⟩
 | [], _ :: _, _, _, _, hr, _ => hr.elim
 | _ :: _, [], _, _, _, hr, _ => hr.elim
 | [], [], .v _ :: _, _, _, _, h => by cases h
 | [], [], .own _ _ :: _, _, _, _, h => by cases h
 | [], [], .optr _ :: _, _, _, _, h => by cases h
 | [], [], .ownv _ :: _, _, _, _, h => by cases h
 | [], [], .sure _ _ _ :: _, _, _, _, h => by cases h
 | _ :: _, _ :: _, [], _, _, _, h => by cases h
 | _ :: _, _ :: _, .own _ _ :: _, _, _, _, h => by cases h
 | _ :: _, _ :: _, .ownv _ :: _, _, _, _, h => by cases h
 | _ :: _, _ :: _, .sure _ _ _ :: _, _, _, _, h => by cases h
 | av :: avs, u :: us, .v τ :: rs, used, kk, hrel, h => by
  simp only [capK] at h
  have hr := hrel.1
  cases hap : qaz av.touches used with
  | false => rw [hap] at h; cases h
  | true =>
  rw [hap, cond_true] at h
  rw [qgE] at h
  replace h := Option.bind_eq_some_iff.1 h
  obtain ⟨x, hsn, hx⟩ := h
  obtain ⟨T, hand, t1, t2, t3, t4⟩ := qi1 hs hrel.2 hx
  refine ⟨av.touches ++ T, hand, ?_, t2, ?_, ?_⟩
  ·intro id hid
   rcases List.mem_append.1 hid with hid | hid
   ·exact qiq hap hid
   ·exact fun hu => t1 id hid (List.mem_append.2 (.inr hu))
  ·intro id hid
   obtain ⟨q1, q2⟩ := t3 id hid
   refine ⟨fun hu => q1 (List.mem_append.2 (.inr hu)), fun hu => ?_⟩
   rcases List.mem_append.1 hu with hu | hu
   ·exact q1 (List.mem_append.2 (.inl hu))
   ·exact q2 hu
  ·intro Hf hle hf
   obtain ⟨hfz, x2, hx2, hv2⟩ := qcH hs hle (FH.le_refl Hf) (fun id hid => hf id (by simp [hid])) (.inl hr) hsn
   cases hx2
   obtain ⟨d, Ψs, g1, g3, g4, g5⟩ := t4 Hf hle (fun id hid => hf id (by simp [hid]))
   exact ⟨(x, d), qH :: Ψs, g1, ⟨u, us, qH, Ψs, rfl, rfl, hfz, rfl, hv2, g3⟩, by simpa [qf, qH] using g4, by simpa [qf, qH] using g5⟩
 | av :: avs, u :: us, .optr τ :: rs, used, kk, hrel, h => by
  simp only [capK] at h
  have hr := hrel.1
  split at h
  case h_2 => cases h
  rename_i id
  cases hu : qaR id used with
  | true => rw [hu] at h; cases h
  | false =>
  rw [hu, cond_false] at h
  have hnu : id ∉ used := fun hm => by rw [qbi.2 hm] at hu; cases hu
  split at h
  case h_2 => cases h
  rename_i o ho
  obtain ⟨row, σ, x0⟩ := o
  cases row with
  | true => cases h
  | false =>
  simp only [cond_false, qo] at h
  replace h := Option.bind_eq_some_iff.1 h
  obtain ⟨x, hx, h⟩ := h
  obtain ⟨T, hand, t1, t2, t3, t4⟩ := qi1 hs hrel.2 h
  have hok := (hs.os id _ ho).1
  obtain ⟨e1, hx⟩ := qj hx
  subst e1
  subst hx
  obtain ⟨o2, y2, b, off, q1, _, _, q4, q5⟩ := hr
  rw [ho] at q1
  cases q1
  obtain ⟨rfl, rfl⟩ := Loc.det _ q4 (jU w σ (Φ id).b 0)
  refine ⟨T, id :: hand, fun j hj hm => t1 j hj (List.mem_cons_of_mem _ hm), ?_, ?_, ?_⟩
  ·exact List.nodup_cons.2 ⟨fun hm => (t3 id hm).1 List.mem_cons_self, t2⟩
  ·intro j hj
   rcases List.mem_cons.1 hj with rfl | hj
   ·exact ⟨hnu, fun hm => t1 j hm List.mem_cons_self⟩
   ·exact ⟨fun hm => (t3 j hj).1 (List.mem_cons_of_mem _ hm), (t3 j hj).2⟩
  ·intro Hf hle hf
   obtain ⟨d, Ψs, g1, g3, g4, g5⟩ := t4 Hf hle hf
   have hfe : qf (Φ id :: Ψs) = (Φ id).fp ++ qf Ψs := by simp [qf]
   refine ⟨(_, d), Φ id :: Ψs, g1, ⟨u, us, _, Ψs, rfl, rfl, q5, hok.frame hle (fun _ _ => rfl), g3⟩, ?_, ?_⟩
   ·rw [hfe, List.nodup_append]
    refine ⟨hok.2.1, g4, ?_⟩
    rintro b hb _ hb' rfl
    obtain ⟨j, hj, o', ho', hbj⟩ := g5 b hb'
    exact hs.disj id j _ o' (by rintro rfl; exact (t3 id hj).1 List.mem_cons_self) ho ho' b hb hbj
   ·intro b hb
    rw [hfe] at hb
    rcases List.mem_append.1 hb with hb | hb
    ·exact ⟨id, List.mem_cons_self, _, ho, hb⟩
    ·obtain ⟨j, hj, o', ho', hbj⟩ := g5 b hb
     exact ⟨j, List.mem_cons_of_mem _ hj, o', ho', hbj⟩
theorem qe9 (hm : P.follows .mixedOrders = true) (hcfg : qB P cfg) {f : FuncId} {fn : Func} {c : Code} (hf : P.funcs[f]? = some fn) (hb : fn.body = some c) (hnt : fn.ntmps = cfg.nt) (hl : qac cfg c) (hd : ql cfg c = true)
  {m : qdn} (hps : m.p.ps.length ≤ cfg.nt) (hg : ∀ d y, m.p.g d = some y → ∃ n, qj3 cfg n fn c m.p.ps m.f m.p.rs d = some y) : qc6 P f m := by
 intro d y hy w H vs Φs hok hargs hnd hfr
 obtain ⟨n, hn⟩ := hg d y hy
 refine calls_of_wp hf hb ?_
 rw [hnt]
 have hsim := qdi hok hargs hnd hfr hps
 have hC := qev (cfg := cfg) hargs
 obtain ⟨_, _, _, h4, _⟩ := qaD (C := qa8 w H cfg.nt m.p.ps Φs) 0 hargs
 refine wp_mono (qch hm hcfg hC c hl hd ⟨H, _, hsim, trivial⟩ hn) ?_
 have fin : ∀ (s : St) (a' : Act) (w' : World), Sim P (qa8 w H cfg.nt m.p.ps Φs) s a' w' → qkF fn m.p.ps m.f m.p.rs .ret s = some y →
   a'.defers = [] ∧ ∃ v, (results fn a'.tmps).run P w' = .ok v w' ∧ ∃ us H' Φs' Ψs, Ending.returned v = .returned (.func (.func m.f) #[] us.toArray) ∧ j9 (· ∈ qf Φs) w w' ∧ H.le H' ∧ HOk H' w' ∧ (∀ b c, H' b = some c → H b = some c ∨ b ∈ qf Φs ∨ w.heap.size ≤ b) ∧
    qai P w' H' m.p.rs y.1 us Ψs ∧ jQ P w' H' m.p.ps y.2 vs Φs' ∧ (qf (Ψs ++ Φs')).Nodup ∧ ∀ b ∈ qf (Ψs ++ Φs'), H' b = none ∧ (b ∈ qf Φs ∨ w.heap.size ≤ b) ∧ b < w'.heap.size := by
  rintro s a' w' ⟨H2, Φ2, hs⟩ h
  simp only [qkF] at h
  split at h
  case h_2 => cases h
  rename_i md t hmd hres
  split at h
  case h_2 => cases h
  rename_i g caps hget
  cases hq : Nat.beq g m.f && caps.isTup with
  | false => rw [hq] at h; cases h
  | true =>
  rw [hq, cond_true] at h
  rw [Bool.and_eq_true] at hq
  obtain ⟨hgf, ht⟩ := hq
  obtain rfl := Nat.eq_of_beq_eq_true hgf
  obtain ⟨vs0, us, hv, hn0, hcaps⟩ := hs.ts t _ hget
  have hn0 : (Value.tuple vs0) = .tuple #[] := hn0
  cases hn0
  have hrel : j7 (qn P _ w' H2 Φ2 s.obj) caps.list us.toList := qan ht (by simpa using hcaps)
  obtain ⟨T, hand, t1, t2, t3, t4⟩ := qi1 hs hrel h
  obtain ⟨Hf, m1, m2, m3, m4, m5⟩ := qm.freezeAll T hs
  obtain ⟨d', Ψs, g1, g3, g4, g5⟩ := t4 Hf m1 m3
  cases g1
  obtain ⟨Φs', k1, k2, k3⟩ := qar hs m1 (i := 0) hargs (fun x hx => by
   obtain ⟨id, φ⟩ := x
   have hpin : (qa8 w H cfg.nt m.p.ps Φs).pin id = some φ := qeB h4 hx
   exact hs.pins.1 id φ hpin) hmd
  have hids := qaI (ps := m.p.ps) (i := 0)
  have hfapp : qf (Ψs ++ Φs') = qf Ψs ++ qf Φs' := by simp [qf]
  have hobj : ∀ id, id ∉ T → ∀ o, s.obj id = some o → ∀ b ∈ (Φ2 id).fp, Hf b = none ∧ (b ∈ qf Φs ∨ w.heap.size ≤ b) ∧ b < w'.heap.size := by
   intro id hid o ho b hb'
   obtain ⟨q1, q2, q3⟩ := (hs.os id o ho).2 b hb'
   refine ⟨?_, q2, q3⟩
   cases hq : Hf b with
   | none => rfl
   | some c =>
    rcases m2 b c hq with h1 | ⟨j, hj, o', ho', hbj⟩
    ·rw [q1] at h1; cases h1
    ·exact absurd hbj (hs.disj id j o o' (by rintro rfl; exact hid hj) ho ho' b hb')
  have hrun : (results fn a'.tmps).run P w' = .ok (a'.tmps.getD t undef) w' := qcR (us := [a'.tmps.getD t undef]) (by rw [hres]; exact ⟨rfl, trivial⟩)
  refine ⟨hs.defers, _, hrun, us.toList, Hf, Φs', Ψs, by rw [hv], hs.mod, FH.le_trans hs.le m1, m4.hok, m4.hnew, g3, k1, ?_, ?_⟩
  ·rw [hfapp, List.nodup_append]
   refine ⟨g4, ?_, ?_⟩
   ·rw [k2]
    refine qaS hids.2 (fun id hid => ?_) (fun i hi j hj hij b hb' => ?_)
    ·obtain ⟨o, ho⟩ := k3 id hid
     exact (hs.os id o ho).1.2.1
    ·obtain ⟨o, ho⟩ := k3 i hi
     obtain ⟨o', ho'⟩ := k3 j hj
     exact hs.disj i j o o' hij ho ho' b hb'
   ·rintro b hb1 _ hb2 rfl
    obtain ⟨i, hi, o, ho, hbi⟩ := g5 b hb1
    rw [k2] at hb2
    obtain ⟨j, hj, hbj⟩ := List.mem_flatMap.1 hb2
    obtain ⟨o', ho'⟩ := k3 j hj
    exact hs.disj i j o o' (by rintro rfl; exact (t3 i hi).1 hj) ho ho' b hbi hbj
  ·intro b hb'
   rw [hfapp] at hb'
   rcases List.mem_append.1 hb' with hb1 | hb2
   ·obtain ⟨i, hi, o, ho, hbi⟩ := g5 b hb1
    exact hobj i (t3 i hi).2 o ho b hbi
   ·rw [k2] at hb2
    obtain ⟨j, hj, hbj⟩ := List.mem_flatMap.1 hb2
    obtain ⟨o', ho'⟩ := k3 j hj
    exact hobj j (fun hT => t1 j hT hj) o' ho' b hbj
 intro e a' w' hp
 cases e with
 | normal => obtain ⟨s, hs, h⟩ := hp; exact fin s a' w' hs.sim h
 | ret => obtain ⟨s, hs, h⟩ := hp; exact fin s a' w' hs.sim h
 | exit i => obtain ⟨s, hs, h⟩ := hp; cases h
 | _ => exact hp.elim
end
end Go.Vi
