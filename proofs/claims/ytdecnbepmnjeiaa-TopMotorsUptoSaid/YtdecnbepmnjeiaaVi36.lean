/- The abstract interpreter 'Vi', thirty-sixth part: the rounds of a range over a function. No condition beyond those typed in each theorem. -/
import Derived.Test.YtdecnbepmnjeiaaVi35
namespace Go.Vi
open Go.RowKit
section
variable {P : Program} {C : Ctx} {cfg : jN} {R : Type} {r : R} {s s' : St} {a a' : Act} {w w' W W' : World} {H H' : FH} {Φ Φ' : Nat → qA}
def AV.calm : AV → Bool
 | .upd _ _ _ _ _ => false
 | .cons a b => a.calm && b.calm
 | .fn _ a b => a.calm && b.calm
 | .gh _ a => a.calm
 | _ => true
theorem qcp : ∀ {av : AV}, av.calm = true → av.killIf AV.isUpd = av
 | .dead, _ => rfl
 | .val _ _, _ => rfl
 | .ref _ _, _ => rfl
 | .ptr _ _, _ => rfl
 | .view _ _, _ => rfl
 | .upd _ _ _ _ _, h => by cases h
 | .cut _ _ _, _ => rfl
 | .nil, _ => rfl
 | .cv _ _ _, _ => rfl
 | .gh _ a, h => by
  simp only [AV.calm] at h
  simp only [AV.killIf, qcp h]
 | .cons a b, h => by
  simp only [AV.calm, Bool.and_eq_true] at h
  simp only [AV.killIf, qcp h.1, qcp h.2]
 | .fn f a b, h => by
  simp only [AV.calm, Bool.and_eq_true] at h
  simp only [AV.killIf, qcp h.1, qcp h.2]
theorem qcm : ∀ av : AV, (av.killIf AV.isUpd).calm = true
 | .dead => rfl
 | .val _ _ => rfl
 | .ref _ _ => rfl
 | .ptr _ _ => rfl
 | .view _ _ => rfl
 | .upd _ _ _ _ _ => rfl
 | .cut _ _ _ => rfl
 | .nil => rfl
 | .cv _ _ _ => rfl
 | .gh _ a => by simp only [AV.killIf, AV.calm, qcm a]
 | .cons a b => by simp only [AV.killIf, AV.calm, qcm a, qcm b, Bool.and_self]
 | .fn _ a b => by simp only [AV.killIf, AV.calm, qcm a, qcm b, Bool.and_self]
def St.calm (s : St) : Prop := ∀ t av, s.get t = some av → av.calm = true
theorem qi.calm_ctx {C C' : Ctx} {os : Nat → Option Obj} (hg : C'.gh = C.gh) (hp : C'.pin = C.pin) : ∀ {av : AV} {v : Value}, av.calm = true → qi P C w H Φ os av v → qi P C' w H Φ os av v
 | .dead, _, _, h => h
 | .val _ _, _, _, h => h
 | .ref _ _, _, _, h => h
 | .ptr _ _, _, _, h => h
 | .view _ _, _, _, h => h
 | .upd _ _ _ _ _, _, hc, _ => by cases hc
 | .cut _ _ _, _, _, h => h
 | .fn _ _ _, _, hc, ⟨vs, us, h1, h2, h3⟩ => by
  simp only [AV.calm, Bool.and_eq_true] at hc
  exact ⟨vs, us, h1, qi.calm_ctx hg hp hc.1 h2, qi.calm_ctx hg hp hc.2 h3⟩
 | .nil, _, _, h => h
 | .cv _ _ _, _, _, ⟨b, cv, h1, h2⟩ => ⟨b, cv, h1, by rw [hp]; exact h2⟩
 | .gh _ _, _, hc, ⟨u, h1, h2⟩ => ⟨u, by rw [hg]; exact h1, qi.calm_ctx hg hp (by simpa [AV.calm] using hc) h2⟩
 | .cons _ _, _, hc, ⟨u, us, h1, h2, h3⟩ => by
  simp only [AV.calm, Bool.and_eq_true] at hc
  exact ⟨u, us, h1, qi.calm_ctx hg hp hc.1 h2, qi.calm_ctx hg hp hc.2 h3⟩
def qdI (w : World) (M : Nat → Prop) (pl : List (Nat × qA)) (nt : Nat) (O : Nat → Prop) (W : World) (H : FH) : Ctx := ⟨W, fun b => (M b ∨ w.heap.size ≤ b) ∧ (∃ c t f, W.heap[b]? = some (.cells c t f)) ∧ ¬ O b, H, nt, lk pl, [], fun _ => none⟩
variable {M O O' : Nat → Prop} {pl : List (Nat × qA)} {nt : Nat}
theorem qg.rebaseK {W0 : World} {H0 : FH} (hW : w.heap.size ≤ W0.heap.size) (hO : ∀ b, O b → b < W0.heap.size) (hs : qg P (qdI w M pl nt O W0 H0) s a W H Φ) : qg P (qdI w M pl nt O W H) s a W H Φ := by
 have hmay : ∀ b, (qdI w M pl nt O W0 H0).M0 b ∨ (qdI w M pl nt O W0 H0).w0.heap.size ≤ b → (M b ∨ w.heap.size ≤ b) ∧ ¬ O b := by
  rintro b (hb | hb)
  ·exact ⟨hb.1, hb.2.2⟩
  ·have hb' : W0.heap.size ≤ b := hb
   exact ⟨.inr (Nat.le_trans hW hb'), fun h => absurd (hO b h) (Nat.not_lt.2 hb')⟩
 refine ⟨hs.defers, hs.size, FH.le_refl _, hs.hok, fun b c hb => .inl hb, Mod.refl _ _, ?_, ?_, hs.disj, hs.pins⟩
 ·intro t av ht
  exact qi.ctx (C := qdI w M pl nt O W0 H0) (C' := qdI w M pl nt O W H) rfl rfl (fun b hb hc => (⟨hb.fz, hb.obj, .inl ⟨(hmay b hb.may).1, hc, (hmay b hb.may).2⟩, hb.lt⟩ : qaG (qdI w M pl nt O W H) W H Φ s.obj b)) (hs.ts t av ht)
 ·intro id o ho
  have h := hs.os id o ho
  exact ⟨h.1, fun b hb => ⟨(h.2 b hb).1, .inl ⟨(hmay b (h.2 b hb).2.1).1, h.1.cells b hb, (hmay b (h.2 b hb).2.1).2⟩, (h.2 b hb).2.2⟩⟩
theorem qg.moveK (hc : s.calm) (hs : qg P (qdI w M pl nt O W H) s a W H Φ) (hm : W'.os = W.os ∧ W'.tape = W.tape ∧ W'.output = W.output) (hsz : W.heap.size ≤ W'.heap.size) (hsame : ∀ (b : Nat) (c : Array Value) (t : TypeId) (f : Nat × Nat), ¬ O b → W.heap[b]? = some (.cells c t f) → W'.heap[b]? = some (.cells c t f)) (hOH : ∀ b, O b → H b = none) (hO' : ∀ b, O' b → O b ∨ W.heap.size ≤ b) :
  qg P (qdI w M pl nt O' W' H) s a W' H Φ := by
 have hown : ∀ id o, s.obj id = some o → ∀ b ∈ (Φ id).fp, (M b ∨ w.heap.size ≤ b) ∧ ¬ O b ∧ b < W.heap.size := by
  intro id o ho b hb
  have h := (hs.os id o ho).2 b hb
  rcases h.2.1 with h1 | h1
  ·exact ⟨h1.1, h1.2.2, h.2.2⟩
  ·exact absurd h.2.2 (Nat.not_lt.2 h1)
 have hfp : ∀ id o, s.obj id = some o → ∀ b ∈ (Φ id).fp, W'.heap[b]? = W.heap[b]? := by
  intro id o ho b hb
  obtain ⟨c, t, f, e⟩ := (hs.os id o ho).1.cells b hb
  rw [e, hsame _ _ _ _ (hown id o ho b hb).2.1 e]
 have hok' : HOk H W' := by
  intro b c hb
  obtain ⟨t, f, e⟩ := hs.hok b c hb
  exact ⟨t, f, hsame _ _ _ _ (fun h => by rw [hOH b h] at hb; cases hb) e⟩
 obtain ⟨C1, hC1⟩ : ∃ C1 : Ctx, C1 = ⟨W, fun _ => True, H, nt, lk pl, [], fun _ => none⟩ := ⟨_, rfl⟩
 have h1 : qg P C1 s a W H Φ := by
  subst hC1
  exact ⟨hs.defers, hs.size, FH.le_refl _, hs.hok, fun b c hb => .inl hb, Mod.refl _ _, fun t av ht => qi.calm_ctx (by first | rfl | (rw [hC1]; rfl)) (by first | rfl | (rw [hC1]; rfl)) (hc t av ht) (hs.ts t av ht), fun id o ho => ⟨(hs.os id o ho).1, fun b hb => ⟨((hs.os id o ho).2 b hb).1, .inl trivial, ((hs.os id o ho).2 b hb).2.2⟩⟩, hs.disj, hs.pins⟩
 have h2 := h1.changes (s' := s.killIf AV.isUpd) (ch := fun _ => none) (F := AV.isUpd) (w' := W') (H' := H) (fun id x hx => by cases hx) (fun id => rfl) (fun t => St.get_killIf _ _ _) (fun id x hx => by cases hx) (fun _ h => h) (FH.le_refl _) hok' h1.hnew
  (by subst hC1; exact ⟨hm.1, hm.2.1, hm.2.2, hsz, fun k _ hk => absurd trivial hk⟩) hsz (fun j o' _ ho b hb => ⟨hfp j o' ho b hb, ((hs.os j o' ho).2 b hb).1⟩) (fun id x hx => by cases hx) (fun i j x y _ hx => by cases hx)
 have h2 : qg P C1 (s.killIf AV.isUpd) a W' H Φ := h2
 refine ⟨hs.defers, hs.size, FH.le_refl _, hok', fun b c hb => .inl hb, Mod.refl _ _, ?_, ?_, hs.disj, hs.pins⟩
 ·intro t av ht
  have h3 := h2.ts t av (by rw [St.get_killIf, ht]; simp only [Option.map_some, qcp (hc t av ht)])
  exact qi.calm_ctx (by first | rfl | (rw [hC1]; rfl)) (by first | rfl | (rw [hC1]; rfl)) (hc t av ht) h3
 ·intro id o ho
  have h := hs.os id o ho
  refine ⟨h.1.frame (FH.le_refl _) (hfp id o ho), fun b hb => ⟨(h.2 b hb).1, .inl ⟨(hown id o ho b hb).1, ?_, fun hh => ?_⟩, Nat.lt_of_lt_of_le (h.2 b hb).2.2 hsz⟩⟩
  ·obtain ⟨c, t, f, e⟩ := h.1.cells b hb
   exact ⟨c, t, f, hsame _ _ _ _ (hown id o ho b hb).2.1 e⟩
  ·rcases hO' b hh with h3 | h3
   ·exact (hown id o ho b hb).2.1 h3
   ·have := (hown id o ho b hb).2.2
    omega
def qeo (tl : List Nat) (ps : List jR) (d : PDens ps) : St := ⟨tl.zip ((jV ps 0 d).map (·.2)), jF ps 0 d, none⟩
theorem qbn : ∀ {ps : List jR} {d : PDens ps} {m m' : MDens ps}, j2 ps (j2 ps d m) m' = j2 ps d m'
 | [], _, _, _ => rfl
 | .v _ :: ps, d, _, _ => by simp only [j2, qbn (ps := ps)]
 | .r _ :: ps, d, _, _ => by simp only [j2, qbn (ps := ps)]
 | .c _ :: ps, d, _, _ => by simp only [j2, qbn (ps := ps)]
 | .m _ :: ps, d, _, _ => by simp only [j2, qbn (ps := ps)]
 | .mr _ _ :: ps, d, _, _ => by simp only [j2, qbn (ps := ps)]
 | .t _ _ :: ps, d, _, _ => by simp only [j2, qbn (ps := ps)]
 | .gm _ :: ps, d, _, _ => by simp only [j2, qbn (ps := ps)]
 | .cm _ _ :: ps, d, _, _ => by simp only [j2, qbn (ps := ps)]
theorem qbo : ∀ {ps : List jR} {d : PDens ps}, j2 ps d (qbr ps d) = d
 | [], _ => rfl
 | .v _ :: ps, d => by simp only [j2, qbr, qbo (ps := ps)]
 | .r _ :: ps, d => by simp only [j2, qbr, qbo (ps := ps)]
 | .c _ :: ps, d => by simp only [j2, qbr, qbo (ps := ps)]
 | .m _ :: ps, d => by simp only [j2, qbr, qbo (ps := ps)]
 | .mr _ _ :: ps, d => by simp only [j2, qbr, qbo (ps := ps)]
 | .t _ _ :: ps, d => by simp only [j2, qbr, qbo (ps := ps)]
 | .gm _ :: ps, d => by simp only [j2, qbr, qbo (ps := ps)]
 | .cm _ _ :: ps, d => by simp only [j2, qbr, qbo (ps := ps)]
theorem qa9 : ∀ {ps : List jR} {d : PDens ps} {m : MDens ps}, qbr ps (j2 ps d m) = m
 | [], _, _ => rfl
 | .v _ :: ps, d, m => by simp only [j2, qbr]; exact qa9 (ps := ps)
 | .r _ :: ps, d, m => by simp only [j2, qbr]; exact qa9 (ps := ps)
 | .c _ :: ps, d, m => by simp only [j2, qbr]; exact qa9 (ps := ps)
 | .m _ :: ps, d, m => by simp only [j2, qbr, qa9 (ps := ps)]
 | .mr _ _ :: ps, d, m => by simp only [j2, qbr, qa9 (ps := ps)]
 | .t _ _ :: ps, d, m => by simp only [j2, qbr]; exact qa9 (ps := ps)
 | .gm _ :: ps, d, m => by simp only [j2, qbr]; exact qa9 (ps := ps)
 | .cm _ _ :: ps, d, m => by simp only [j2, qbr, qa9 (ps := ps)]
theorem qdU (τ : Ty) (x : τ.den) : qG τ τ x = some x := by unfold qG; rw [dif_pos rfl]
theorem qaD : ∀ {ps : List jR} {d : PDens ps} (i : Nat), (∀ x ∈ jF ps i d, pid i ≤ x.1) ∧ ((jF ps i d).map (·.1)).Nodup
 | [], _, _ => ⟨by simp [jF], by simp [jF]⟩
 | .v _ :: ps, d, i => by
  obtain ⟨h1, h2⟩ := qaD (ps := ps) (d := d.2) (i + 1)
  exact ⟨fun x hx => Nat.le_trans (Nat.le_of_lt (qal (Nat.lt_succ_self i))) (h1 x hx), h2⟩
 | .r _ :: ps, d, i => by
  obtain ⟨h1, h2⟩ := qaD (ps := ps) (d := d.2) (i + 1)
  exact ⟨fun x hx => Nat.le_trans (Nat.le_of_lt (qal (Nat.lt_succ_self i))) (h1 x hx), h2⟩
 | .c _ :: ps, d, i => by
  obtain ⟨h1, h2⟩ := qaD (ps := ps) (d := d.2) (i + 1)
  exact ⟨fun x hx => Nat.le_trans (Nat.le_of_lt (qal (Nat.lt_succ_self i))) (h1 x hx), h2⟩
 | .m _ :: ps, d, i => by
  obtain ⟨h1, h2⟩ := qaD (ps := ps) (d := d.2) (i + 1)
  have hlt : pid i < pid (i + 1) := qal (Nat.lt_add_one i)
  refine ⟨fun x hx => ?_, ?_⟩
  ·rcases List.mem_cons.1 hx with rfl | hx
   ·exact Nat.le_refl _
   ·exact Nat.le_trans (Nat.le_of_lt hlt) (h1 x hx)
  ·simp only [jF, List.map_cons, List.nodup_cons]
   refine ⟨fun hm => ?_, h2⟩
   obtain ⟨x, hx, e⟩ := List.mem_map.1 hm
   have := h1 x hx
   omega
 | .mr _ _ :: ps, d, i => by
  obtain ⟨h1, h2⟩ := qaD (ps := ps) (d := d.2) (i + 1)
  have hlt : pid i < pid (i + 1) := qal (Nat.lt_add_one i)
  refine ⟨fun x hx => ?_, ?_⟩
  ·rcases List.mem_cons.1 hx with rfl | hx
   ·exact Nat.le_refl _
   ·exact Nat.le_trans (Nat.le_of_lt hlt) (h1 x hx)
  ·simp only [jF, List.map_cons, List.nodup_cons]
   refine ⟨fun hm => ?_, h2⟩
   obtain ⟨x, hx, e⟩ := List.mem_map.1 hm
   have := h1 x hx
   omega
 | .t _ _ :: ps, d, i => by
  obtain ⟨h1, h2⟩ := qaD (ps := ps) (d := d.2) (i + 1)
  have hlt : pid i < pid (i + 1) := qal (Nat.lt_add_one i)
  refine ⟨fun x hx => ?_, ?_⟩
  ·rcases List.mem_cons.1 hx with rfl | hx
   ·exact Nat.le_refl _
   ·exact Nat.le_trans (Nat.le_of_lt hlt) (h1 x hx)
  ·simp only [jF, List.map_cons, List.nodup_cons]
   refine ⟨fun hm => ?_, h2⟩
   obtain ⟨x, hx, e⟩ := List.mem_map.1 hm
   have := h1 x hx
   omega
 | .gm _ :: ps, d, i => by
  obtain ⟨h1, h2⟩ := qaD (ps := ps) (d := d.2) (i + 1)
  have hlt : pid i < pid (i + 1) := qal (Nat.lt_add_one i)
  refine ⟨fun x hx => ?_, ?_⟩
  ·rcases List.mem_cons.1 hx with rfl | hx
   ·exact Nat.le_refl _
   ·exact Nat.le_trans (Nat.le_of_lt hlt) (h1 x hx)
  ·simp only [jF, List.map_cons, List.nodup_cons]
   refine ⟨fun hm => ?_, h2⟩
   obtain ⟨x, hx, e⟩ := List.mem_map.1 hm
   have := h1 x hx
   omega
 | .cm _ _ :: ps, d, i => by
  obtain ⟨h1, h2⟩ := qaD (ps := ps) (d := d.2) (i + 1)
  have hlt : pid i < pid (i + 1) := qal (Nat.lt_add_one i)
  refine ⟨fun x hx => ?_, ?_⟩
  ·rcases List.mem_cons.1 hx with rfl | hx
   ·exact Nat.le_refl _
   ·exact Nat.le_trans (Nat.le_of_lt hlt) (h1 x hx)
  ·simp only [jF, List.map_cons, List.nodup_cons]
   refine ⟨fun hm => ?_, h2⟩
   obtain ⟨x, hx, e⟩ := List.mem_map.1 hm
   have := h1 x hx
   omega
theorem qaU (s : St) : ∀ {ps : List jR} {d : PDens ps} {i : Nat}, (∀ id o, (id, some o) ∈ jF ps i d → s.obj id = some o) → jD s ps i = some (qbr ps d)
 | [], _, _, _ => rfl
 | .v _ :: ps, d, i, h => qaU s (ps := ps) (d := d.2) (i := i + 1) h
 | .r _ :: ps, d, i, h => qaU s (ps := ps) (d := d.2) (i := i + 1) h
 | .c _ :: ps, d, i, h => qaU s (ps := ps) (d := d.2) (i := i + 1) h
 | .m τ :: ps, d, i, h => by
  have h0 := h (pid i) ⟨false, τ, d.1⟩ List.mem_cons_self
  have h1 := qaU s (ps := ps) (d := d.2) (i := i + 1) (fun id o hm => h id o (List.mem_cons_of_mem _ hm))
  simp only [jD, h0, cond_false, qdU, h1, qbr]
 | .mr tid e :: ps, d, i, h => by
  have h0 := h (pid i) ⟨true, .list true tid e, d.1⟩ List.mem_cons_self
  have h1 := qaU s (ps := ps) (d := d.2) (i := i + 1) (fun id o hm => h id o (List.mem_cons_of_mem _ hm))
  simp only [jD, h0, cond_true, qdU, h1, qbr]
 | .t _ _ :: ps, d, i, h => qaU s (ps := ps) (d := d.2) (i := i + 1) (fun id o hm => h id o (List.mem_cons_of_mem _ hm))
 | .gm _ :: ps, d, i, h => qaU s (ps := ps) (d := d.2) (i := i + 1) (fun id o hm => h id o (List.mem_cons_of_mem _ hm))
 | .cm f τ :: ps, d, i, h => by
  have h0 := h (pid i) ⟨false, τ, d.1⟩ List.mem_cons_self
  have h1 := qaU s (ps := ps) (d := d.2) (i := i + 1) (fun id o hm => h id o (List.mem_cons_of_mem _ hm))
  simp only [jD, h0, cond_false, qdU, h1, qbr]
theorem qfd {tl : List Nat} {ps : List jR} {d : PDens ps} {id : Nat} {o : Obj} : (qeo tl ps d).obj id = some o ↔ (id, some o) ∈ jF ps 0 d := by
 have hn := (qaD (ps := ps) (d := d) 0).2
 show (lk (jF ps 0 d) id).join = some o ↔ _
 constructor
 ·intro h
  cases e : lk (jF ps 0 d) id with
  | none => rw [e] at h; cases h
  | some x => rw [e] at h; simp only [Option.join_some] at h; rw [← h]; exact qbg e
 ·intro h
  rw [qdM hn h]
  rfl
theorem qb0 {C' : Ctx} {s2 : St} {Hf H2 : FH} {Φ2 : Nat → qA} (hle : Hf.le H2) : ∀ {ps : List jR} {d0 : PDens ps} {vs : List Value} {Φs : List qA} {md : MDens ps} (i : Nat), ps.all jR.noT = true → jS P w Hf ps d0 vs Φs → jD s2 ps i = some md → (∀ x ∈ jX ps Φs i, (Φ2 x.1).b = x.2.b ∧ (Φ2 x.1).hdr = x.2.hdr) →
  (∀ id o, (id, some o) ∈ jF ps i (j2 ps d0 md) → s2.obj id = some o) ∧
  (∀ os : Nat → Option Obj, (∀ id o, (id, some o) ∈ jF ps i (j2 ps d0 md) → os id = some o) → ∀ (j : Nat) (av : AV) (v : Value), ((jV ps i (j2 ps d0 md)).map (·.2))[j]? = some av → vs[j]? = some v → qi P C' W H2 Φ2 os av v ∧ av.calm = true)
 | [], d0, vs, Φs, md, i, _, _, _, _ => ⟨by simp [jF], by simp [jV]⟩
 | .v τ :: ps, d0, vs, Φs, md, i, hnT, h, hom, hp => by
  obtain ⟨v, vs', φ, Φs', rfl, rfl, hfz, hφ, hv, h⟩ := h
  obtain ⟨h1, h2⟩ := qb0 hle (i + 1) (by simpa [jR.noT] using hnT) h hom hp
  refine ⟨h1, fun os hos j av u hj hu => ?_⟩
  cases j with
  | zero =>
   simp only [jV, j2, List.map_cons, List.getElem?_cons_zero, Option.some.injEq] at hj hu
   subst hj; subst hu
   obtain ⟨cs, e, hr⟩ := hv
   exact ⟨⟨hfz, cs, e, qp.mono _ hle (by simp) hr⟩, rfl⟩
  | succ j => exact h2 os hos j av u (by simpa [jV, j2] using hj) (by simpa using hu)
 | .r τ :: ps, d0, vs, Φs, md, i, hnT, h, hom, hp => by
  obtain ⟨v, vs', φ, Φs', rfl, rfl, hfz, hφ, hv, h⟩ := h
  obtain ⟨h1, h2⟩ := qb0 hle (i + 1) (by simpa [jR.noT] using hnT) h hom hp
  refine ⟨h1, fun os hos j av u hj hu => ?_⟩
  cases j with
  | zero =>
   simp only [jV, j2, List.map_cons, List.getElem?_cons_zero, Option.some.injEq] at hj hu
   subst hj; subst hu
   obtain ⟨b, o, blk, e, hb, hr⟩ := hv
   exact ⟨⟨hfz, b, o, blk, e, hle _ _ hb, qp.mono _ hle (by simp) hr⟩, rfl⟩
  | succ j => exact h2 os hos j av u (by simpa [jV, j2] using hj) (by simpa using hu)
 | .c _ :: ps, d0, vs, Φs, md, i, hnT, h, hom, hp => by
  obtain ⟨v, vs', φ, Φs', rfl, rfl, hfz, hφ, hv, h⟩ := h
  obtain ⟨h1, h2⟩ := qb0 hle (i + 1) (by simpa [jR.noT] using hnT) h hom hp
  refine ⟨h1, fun os hos j av u hj hu => ?_⟩
  cases j with
  | zero =>
   simp only [jV, j2, List.map_cons, List.getElem?_cons_zero, Option.some.injEq] at hj hu
   subst hj; subst hu
   exact ⟨⟨#[], #[], hv, rfl, rfl⟩, rfl⟩
  | succ j => exact h2 os hos j av u (by simpa [jV, j2] using hj) (by simpa using hu)
 | .m τ :: ps, d0, vs, Φs, md, i, hnT, h, hom, hp => by
  obtain ⟨v, vs', φ, Φs', rfl, rfl, hv, _, h⟩ := h
  simp only [jD] at hom
  split at hom
  case h_2 => cases hom
  rename_i o ho
  obtain ⟨row, σ, x0⟩ := o
  cases row with
  | true => cases hom
  | false =>
  simp only [cond_false] at hom
  split at hom
  case h_2 => cases hom
  rename_i x d' hx hd'
  cases hom
  obtain ⟨e1, hx⟩ := qh hx
  subst e1
  subst hx
  obtain ⟨h1, h2⟩ := qb0 hle (i + 1) (by simpa [jR.noT] using hnT) h hd' (fun x hx => hp x (List.mem_cons_of_mem _ hx))
  have hb := (hp (pid i, φ) List.mem_cons_self).1
  simp only at hb
  refine ⟨fun id o hm => ?_, fun os hos j av u hj hu => ?_⟩
  ·rcases List.mem_cons.1 hm with e | hm
   ·cases e; exact ho
   ·exact h1 id o hm
  ·cases j with
   | zero =>
    simp only [jV, j2, List.map_cons, List.getElem?_cons_zero, Option.some.injEq] at hj hu
    subst hj; subst hu
    refine ⟨⟨⟨false, σ, x⟩, ⟨σ, x⟩, φ.b, 0, hos _ _ List.mem_cons_self, rfl, qR _ _, ?_, hv⟩, rfl⟩
    rw [← hb]
    exact jZ _ _ _ _
   | succ j => exact h2 os (fun id o hm => hos id o (List.mem_cons_of_mem _ hm)) j av u (by simpa [jV, j2] using hj) (by simpa using hu)
 | .mr tid e :: ps, d0, vs, Φs, md, i, hnT, h, hom, hp => by
  obtain ⟨v, vs', φ, Φs', rfl, rfl, hv, _, h⟩ := h
  simp only [jD] at hom
  split at hom
  case h_2 => cases hom
  rename_i o ho
  obtain ⟨row, σ, x0⟩ := o
  cases row with
  | false => cases hom
  | true =>
  simp only [cond_true] at hom
  split at hom
  case h_2 => cases hom
  rename_i x d' hx hd'
  cases hom
  obtain ⟨e1, hx⟩ := qh hx
  subst e1
  subst hx
  obtain ⟨h1, h2⟩ := qb0 hle (i + 1) (by simpa [jR.noT] using hnT) h hd' (fun x hx => hp x (List.mem_cons_of_mem _ hx))
  have hb := (hp (pid i, φ) List.mem_cons_self).2
  simp only at hb
  refine ⟨fun id o hm => ?_, fun os hos j av u hj hu => ?_⟩
  ·rcases List.mem_cons.1 hm with e | hm
   ·cases e; exact ho
   ·exact h1 id o hm
  ·cases j with
   | zero =>
    simp only [jV, j2, List.map_cons, List.getElem?_cons_zero, Option.some.injEq] at hj hu
    subst hj; subst hu
    refine ⟨⟨⟨true, .list true tid e, x⟩, ⟨.list true tid e, x⟩, hos _ _ List.mem_cons_self, qR _ _, ?_⟩, rfl⟩
    simp only [List.isEmpty_nil, Bool.and_self]
    rw [hb]
    exact hv
   | succ j => exact h2 os (fun id o hm => hos id o (List.mem_cons_of_mem _ hm)) j av u (by simpa [jV, j2] using hj) (by simpa using hu)
 | .t _ _ :: _, _, _, _, _, _, hnT, _, _, _ => by simp [jR.noT] at hnT
 | .gm _ :: _, _, _, _, _, _, hnT, _, _, _ => by simp [jR.noT] at hnT
 | .cm f τ :: ps, d0, vs, Φs, md, i, hnT, h, hom, hp => by
  obtain ⟨v, vs', φ, Φs', rfl, rfl, hv, _, h⟩ := h
  simp only [jD] at hom
  split at hom
  case h_2 => cases hom
  rename_i o ho
  obtain ⟨row, σ, x0⟩ := o
  cases row with
  | true => cases hom
  | false =>
  simp only [cond_false] at hom
  split at hom
  case h_2 => cases hom
  rename_i x d' hx hd'
  cases hom
  obtain ⟨e1, hx⟩ := qh hx
  subst e1
  subst hx
  obtain ⟨h1, h2⟩ := qb0 hle (i + 1) (by simpa [jR.noT] using hnT) h hd' (fun x hx => hp x (List.mem_cons_of_mem _ hx))
  have hb := (hp (pid i, φ) List.mem_cons_self).1
  simp only at hb
  refine ⟨fun id o hm => ?_, fun os hos j av u hj hu => ?_⟩
  ·rcases List.mem_cons.1 hm with e | hm
   ·cases e; exact ho
   ·exact h1 id o hm
  ·cases j with
   | zero =>
    simp only [jV, j2, List.map_cons, List.getElem?_cons_zero, Option.some.injEq] at hj hu
    subst hj; subst hu
    refine ⟨⟨#[], #[.pointer (some ⟨φ.b, 0, none⟩)], hv, rfl, _, [], rfl, ⟨⟨false, σ, x⟩, ⟨σ, x⟩, φ.b, 0, hos _ _ List.mem_cons_self, rfl, qR _ _, ?_, rfl⟩, rfl⟩, rfl⟩
    rw [← hb]
    exact jZ _ _ _ _
   | succ j => exact h2 os (fun id o hm => hos id o (List.mem_cons_of_mem _ hm)) j av u (by simpa [jV, j2] using hj) (by simpa using hu)
theorem lk_zip {β : Type} {t : Nat} {x : β} : ∀ {l : List Nat} {r : List β}, lk (l.zip r) t = some x → ∃ j : Nat, l[j]? = some t ∧ r[j]? = some x
 | [], _, h => by cases h
 | _ :: _, [], h => by cases h
 | u :: l, y :: r, h => by
  rw [List.zip_cons_cons, qae] at h
  cases hb : Nat.beq u t with
  | true =>
   rw [hb] at h
   cases h
   obtain rfl := Nat.eq_of_beq_eq_true hb
   exact ⟨0, rfl, rfl⟩
  | false =>
   rw [hb] at h
   obtain ⟨j, h1, h2⟩ := lk_zip h
   exact ⟨j + 1, by simpa using h1, by simpa using h2⟩
theorem qhG {C' : Ctx} {s2 : St} {a2 aε : Act} {tl : List Nat} {ps : List jR} {d0 : PDens ps} {vs : List Value} {Φs : List qA} {md : MDens ps} {Hf H2 : FH} {Φ2 : Nat → qA} (hnT : ps.all jR.noT = true) (hargs : jS P w Hf ps d0 vs Φs) (hpin : C'.pin = lk (jX ps Φs 0)) (hpn : ((jX ps Φs 0).map (·.1)).Nodup) (hds : C'.ds = [])
  (hs : qg P C' s2 a2 W H2 Φ2) (hle : Hf.le H2) (hom : jD s2 ps 0 = some md) (hsz : aε.tmps.size = C'.nt) (hae : aε.defers = []) (hvs : vs = tl.map fun t => aε.tmps.getD t undef) :
  qg P C' (qeo tl ps (j2 ps d0 md)) aε W H2 Φ2 ∧ (qeo tl ps (j2 ps d0 md)).calm := by
 have hp : ∀ x ∈ jX ps Φs 0, (Φ2 x.1).b = x.2.b ∧ (Φ2 x.1).hdr = x.2.hdr := fun x hx => hs.pins.1 x.1 x.2 (by rw [hpin]; exact qdM hpn hx)
 obtain ⟨h1, h2⟩ := qb0 (C' := C') (W := W) (Φ2 := Φ2) hle 0 hnT hargs hom hp
 have hsub : ∀ id o, (qeo tl ps (j2 ps d0 md)).obj id = some o → s2.obj id = some o := fun id o ho => h1 id o (qfd.1 ho)
 have key : ∀ t av, (qeo tl ps (j2 ps d0 md)).get t = some av → qi P C' W H2 Φ2 (qeo tl ps (j2 ps d0 md)).obj av (aε.tmps.getD t undef) ∧ av.calm = true := by
  intro t av ht
  obtain ⟨j, e1, e2⟩ := lk_zip (show lk (tl.zip ((jV ps 0 (j2 ps d0 md)).map (·.2))) t = some av from ht)
  exact h2 _ (fun id o hm => qfd.2 hm) j av _ e2 (by rw [hvs, List.getElem?_map, e1]; rfl)
 exact ⟨⟨hae.trans hds.symm, hsz, hs.le, hs.hok, hs.hnew, hs.mod, fun t av ht => (key t av ht).1, fun id o ho => hs.os id o (hsub id o ho), fun i j o o' hij hi hj => hs.disj i j o o' hij (hsub i o hi) (hsub j o' hj), hs.pins⟩, fun t av ht => (key t av ht).2⟩
end
end Go.Vi
