/- Plain laws of a circuit that is played: its track. No condition beyond those typed in each theorem. -/
import Derived.Test.YtdecnbepmnjeiaaT12r
namespace Go.Proofs.Try.V.Top
open Go.Vi
open L10 (rng jL)
set_option maxRecDepth 100000
structure Inv (c : qaY) (f : List Flt) (t : Trk) : Prop where
 cir : t.1 = c
 fls : t.2.1 = f
 num : t.2.2.1.length = c.2.length ∧ c.2.length ≤ 10
 blk : ∀ x ∈ t.2.2.1, 0 ≤ x.1.1 ∧ x.1.1 < c.1.length
 gos : t.2.2.2.1.length = c.1.length
 stp : f = [] → t.2.2.2.2.2.1 = -1
theorem Inv.car {c : qaY} {f : List Flt} {t : Trk} (h : Inv c f t) {i : Nat} {y : Car} (hy : 0 ≤ y.1.1 ∧ y.1.1 < c.1.length) : Inv c f (t.1, (t.2.1, (t.2.2.1.set i y, t.2.2.2))) := by
 refine ⟨h.cir, h.fls, by simp only [List.length_set]; exact h.num, fun x hx => ?_, h.gos, h.stp⟩
 rcases List.mem_or_eq_of_mem_set hx with hx | rfl
 ·exact h.blk x hx
 ·exact hy
theorem Inv.go {c : qaY} {f : List Flt} {t : Trk} (h : Inv c f t) {i : Nat} {y : Bool} : Inv c f (t.1, (t.2.1, (t.2.2.1, (t.2.2.2.1.set i y, t.2.2.2.2)))) :=
 ⟨h.cir, h.fls, h.num, h.blk, by simp only [List.length_set]; exact h.gos, h.stp⟩
theorem newR (c : qaY) (f : List Flt) (hc : OkC c) : Okq (fun r : (Trk × Unit) × Unit => Inv c f r.1.1) (g13 (c, f, ())) := by
 have h2 := hc.two
 have hm := hc.most
 have hn := hc.cars
 show Okq _ (F13 qj c f)
 unfold F13
 refine qdJ (by omega) (qdJ (by omega) (qcC (by omega) (by omega) ?_))
 rw [qb8]
 refine qQ (S := fun o : Unit × (Trk × Unit) × Unit => Inv c f o.2.1.1) (qaj (L := L13_3) (fun i (t : Trk) => ((c, c.2, (c.2.length : Int), (i : Int), ()), (t, ()), ())) (fun i t => t.1 = c ∧ t.2.1 = f ∧ t.2.2.1.length = i ∧ (∀ x ∈ t.2.2.1, 0 ≤ x.1.1 ∧ x.1.1 < c.1.length) ∧ t.2.2.2.1.length = c.1.length ∧ t.2.2.2.2.2.1 = -1) 0 c.2.length
  (s := (c, f, [], (List.replicate (c.1.length : Int).toNat false), 0, (-1), false, 0, 0)) ⟨rfl, rfl, rfl, (fun x hx => by cases hx), by simp, rfl⟩ (by have := jP; omega) ?_ ?_) fun o ho => qx ho
 ·rintro N t - ⟨e1, e2, e3, e4, e5, e6⟩
  simp only [L13_3, B13_3]
  rw [qL (by omega)]
  exact qx ⟨e1, e2, by dsimp only; omega, e4, e5, fun _ => e6⟩
 ·rintro N i t - hi ⟨e1, e2, e3, e4, e5, e6⟩ ih
  have hx := hc.at_ i hi
  simp only [L13_3, B13_3]
  rw [qM (by omega), cond_true]
  refine qz (by omega) (by omega) ?_
  simp only [qa8, qaJ, qaK]
  refine qz hx.1 hx.2 (qcC (by omega) (by simp only [List.length_singleton]; omega) ?_)
  rw [wI (by omega) (by omega)]
  refine ih _ ⟨e1, e2, by simp only [List.length_append, List.length_singleton]; omega, fun x hx' => ?_, e5, e6⟩
  rcases List.mem_append.1 hx' with hx' | hx'
  ·exact e4 x hx'
  ·rw [List.mem_singleton.1 hx']
   exact hx
theorem restsR {c : qaY} {t : Trk} (h : t.1 = c) {x : Car} (hx : 0 ≤ x.1.1 ∧ x.1.1 < c.1.length) : Okq (fun _ => True) (g59 (t, x, ())) := by
 subst h
 show Okq _ (F59 qj t x)
 unfold F59
 exact qz hx.1 hx.2 (qx trivial)
theorem isR {c : qaY} {f : List Flt} {t : Trk} (h : Inv c f t) (k b : Int) : Okq (fun _ => True) (g60 (t, k, b, ())) := by
 have hn := h.num
 show Okq _ (F60 qj t k b)
 unfold F60
 refine qQ (S := fun _ => True) (qaj (L := L60_3) (fun i (s : Bool × Bool × Bool) => ((t, k, b, s.1, s.2.1, s.2.2, t.2.2.1, (t.2.2.1.length : Int), (i : Int), ()), (), ())) (fun _ _ => True) 0 t.2.2.1.length (s := (false, false, true)) trivial (by have := jP; omega) ?_ ?_) fun o _ => ?_
 ·rintro N s - -
  simp only [L60_3, B60_3]
  rw [qL (by omega)]
  exact qx trivial
 ·rintro N i s - hi - ih
  simp only [L60_3, B60_3]
  rw [qM (by omega), cond_true]
  refine qz (by omega) (by omega) ?_
  have hb := h.blk _ (j6 (l := t.2.2.1) (i := (i : Int)) (by omega) (by omega))
  rw [wI (by omega) (by omega)]
  refine qw (fun _ => qw (fun _ => qw (fun _ => ih (_, _, _) trivial) fun _ => ih (_, _, _) trivial) fun _ => qQ (restsR h.cir hb) fun y _ => qw (fun _ => ih (_, _, _) trivial) fun _ => ih (_, _, _) trivial) fun _ => ih (_, _, _) trivial
 ·exact qw (fun _ => qx trivial) fun _ => qw (fun _ => qx trivial) fun _ => qx trivial
structure Rd (n : Nat) (r : List (List (List Int))) : Prop where
 four : r.length = 4
 none0 : (gd r 0).length = 0
 rows : ∀ k : Int, 1 ≤ k → k ≤ 3 → (gd r k).length = n
theorem rollR {c : qaY} {f : List Flt} {t : Trk} (h : Inv c f t) : Okq (fun r : Unit × Trk × Unit => Inv c f r.2.1) (g29 (t, ())) := by
 have hn := h.num
 show Okq _ (F29 qj t)
 unfold F29
 refine qQ (S := fun o : Unit × (Trk × Unit) × Unit => Inv c f o.2.1.1) (qaj (L := L29_1) (fun i (s : Trk) => (((t.2.2.1.length : Int), (i : Int), ()), (s, ()), ())) (fun _ s => Inv c f s ∧ s.2.2.1.length = t.2.2.1.length) 0 t.2.2.1.length (s := t) ⟨h, rfl⟩ (by have := jP; omega) ?_ ?_) fun o ho => qx ho
 ·rintro N s - ⟨hs, _⟩
  simp only [L29_1, B29_1]
  rw [qL (by omega)]
  exact qx hs
 ·rintro N i s - hi ⟨hs, hl⟩ ih
  simp only [L29_1, B29_1]
  rw [qM (by omega), cond_true]
  have hb := hs.blk _ (j6 (l := s.2.2.1) (i := (i : Int)) (by omega) (by omega))
  refine j3 (by omega) (by omega) (qz (by omega) (by omega) (qQ (restsR hs.cir hb) fun y _ => ?_))
  rw [wI (x := (i : Int) + 1) (by omega) (by omega)]
  refine qw (fun _ => j3 (by omega) (by omega) (qz (by omega) (by omega) (j3 (by omega) (by omega) (qz (by omega) (by omega) ?_)))) fun _ => j3 (by omega) (by omega) (qz (by omega) (by omega) (j3 (by omega) (by omega) (qz (by omega) (by omega) ?_)))
  ·rw [qb8]
   exact ih _ ⟨hs.car hb, by simp only [List.length_set]; exact hl⟩
  ·rw [qb8]
   exact ih _ ⟨hs.car hb, by simp only [List.length_set]; exact hl⟩
theorem rowR {c : qaY} {f : List Flt} {t : Trk} (h : Inv c f t) : Okq (fun r : ((List Spt) × Unit) × Unit => (r.1.1.length = c.2.length ∧ c.2.length ≤ 10) ∧ ∀ x ∈ r.1.1, 0 ≤ x.1 ∧ x.1 < c.1.length) (g15 (t, ())) := by
 have hn := h.num
 show Okq _ (F15 qj t)
 unfold F15
 refine qQ (S := fun o : Unit × ((List Spt) × Unit) × Unit => (o.2.1.1.length = c.2.length ∧ c.2.length ≤ 10) ∧ ∀ x ∈ o.2.1.1, 0 ≤ x.1 ∧ x.1 < c.1.length) (qaj (L := L15_2) (fun i (s : List Spt) => ((t.2.2.1, (t.2.2.1.length : Int), (i : Int), ()), (s, ()), ())) (fun i s => s.length = i ∧ ∀ x ∈ s, 0 ≤ x.1 ∧ x.1 < c.1.length) 0 t.2.2.1.length (s := []) ⟨rfl, (fun x hx => by cases hx)⟩ (by have := jP; omega) ?_ ?_) fun o ho => qx ho
 ·rintro N s - ⟨hl, hs⟩
  simp only [L15_2, B15_2]
  rw [qL (by omega)]
  exact qx ⟨by dsimp only; omega, hs⟩
 ·rintro N i s - hi ⟨hl, hs⟩ ih
  simp only [L15_2, B15_2]
  rw [qM (by omega), cond_true]
  have hb := h.blk _ (j6 (l := t.2.2.1) (i := (i : Int)) (by omega) (by omega))
  refine qz (by omega) (by omega) (qcC (by omega) (by simp only [List.length_singleton]; omega) ?_)
  rw [wI (by omega) (by omega)]
  refine ih _ ⟨by simp only [List.length_append, List.length_singleton]; omega, fun x hx => ?_⟩
  rcases List.mem_append.1 hx with hx | hx
  ·exact hs x hx
  ·rw [List.mem_singleton.1 hx]
   exact hb
theorem crashR (c : qaY) (r : List Spt) (hl : r.length ≤ 10) (hr : ∀ x ∈ r, 0 ≤ x.1 ∧ x.1 < c.1.length) : Okq (fun _ => True) (g37 (c, r, ())) := by
 show Okq _ (F37 qj c r)
 unfold F37
 refine qQ (S := fun _ => True) (qaj (L := L37_2) (fun i (_ : Unit) => ((r, r, (r.length : Int), (i : Int), ()), (c, (0, (0, false)), ()), ())) (fun _ _ => True) 20 r.length (s := ()) trivial (by have := jP; omega) ?_ ?_) fun o _ => ?_
 ·rintro N s - -
  simp only [L37_2, B37_2]
  rw [qL (by omega)]
  exact qx trivial
 ·rintro N i s hN hi - ih
  have hb := hr _ (j6 (l := r) (i := (i : Int)) (by omega) (by omega))
  simp only [L37_2, B37_2]
  rw [qM (by omega), cond_true]
  refine qz (by omega) (by omega) ?_
  refine qQ (S := fun o => ∃ b : Bool, o = ((r, (i : Int), b, r, (r.length : Int), (i : Int), ()), (c, (0, (0, false)), gd r (i : Int), ()), ())) (qaj (L := L37_6) (fun j (b : Bool) => ((r, (i : Int), b, r, (r.length : Int), (i : Int), r, (r.length : Int), (j : Int), ()), (c, (0, (0, false)), gd r (i : Int), ()), ())) (fun _ _ => True) 0 r.length (s := false) trivial (by omega) ?_ ?_) ?_
  ·rintro N b - -
   simp only [L37_6, B37_6]
   rw [qL (by omega)]
   exact qx ⟨b, rfl⟩
  ·rintro N j b - hj - ih
   simp only [L37_6, B37_6]
   rw [qM (by omega), cond_true]
   refine qz (by omega) (by omega) ?_
   rw [wI (by omega) (by omega)]
   exact qw (fun _ => ih _ trivial) fun _ => qw (fun _ => ih _ trivial) fun _ => ih _ trivial
  ·rintro o ⟨b, rfl⟩
   dsimp only
   rw [wI (by omega) (by omega)]
   exact qw (fun _ => qx trivial) fun _ => qw (fun _ => qz hb.1 hb.2 (qw (fun _ => qx trivial) fun _ => ih () trivial)) fun _ => ih () trivial
 ·cases o <;> exact qx trivial
end Go.Proofs.Try.V.Top
