/- Plain laws of a circuit that is played: its track. No condition beyond those typed in each theorem. -/
import Derived.Test.YtaojldppmlehlaaGreatT12r
namespace Go.Proofs.Tryz.V.Top
open Go.Vi
open L10 (jG qP)
set_option maxRecDepth 100000
structure Inv (c : qbC) (f : List Flt) (t : Trk) : Prop where
 cir : t.1 = c
 fls : t.2.1 = f
 num : t.2.2.1.length ≤ 10
 blk : ∀ x ∈ t.2.2.1, 0 ≤ x.1.1 ∧ x.1.1 < c.1.length
 gos : t.2.2.2.1.length = c.1.length
 stp : f = [] → t.2.2.2.2.2.1 = -1
theorem Inv.car {c : qbC} {f : List Flt} {t : Trk} (h : Inv c f t) {i : Nat} {y : Car} (hy : 0 ≤ y.1.1 ∧ y.1.1 < c.1.length) : Inv c f (t.1, (t.2.1, (t.2.2.1.set i y, t.2.2.2))) := by
 refine ⟨h.cir, h.fls, by simp only [List.length_set]; exact h.num, fun x hx => ?_, h.gos, h.stp⟩
 rcases List.mem_or_eq_of_mem_set hx with hx | rfl
 ·exact h.blk x hx
 ·exact hy
theorem Inv.go {c : qbC} {f : List Flt} {t : Trk} (h : Inv c f t) {i : Nat} {y : Bool} : Inv c f (t.1, (t.2.1, (t.2.2.1, (t.2.2.2.1.set i y, t.2.2.2.2)))) :=
 ⟨h.cir, h.fls, h.num, h.blk, by simp only [List.length_set]; exact h.gos, h.stp⟩
theorem newR (c : qbC) (f : List Flt) (hc : OkC c) : Okq (fun r : (Trk × Unit) × Unit => Inv c f r.1.1) (g15 (c, f, ())) := by
 have h2 := hc.two
 have hm := hc.most
 have hn := hc.cars
 show Okq _ (F15 qe c f)
 unfold F15
 refine qdT (by omega) (qdT (by omega) (qdl (by omega) (by omega) ?_))
 rw [qa5]
 refine qW (S := fun o : Unit × (Trk × Unit) × Unit => Inv c f o.2.1.1) (qap (L := L15_3) (fun i (t : Trk) => ((c, c.2, (c.2.length : Int), (i : Int), ()), (t, ()), ())) (fun i t => t.1 = c ∧ t.2.1 = f ∧ t.2.2.1.length = i ∧ (∀ x ∈ t.2.2.1, 0 ≤ x.1.1 ∧ x.1.1 < c.1.length) ∧ t.2.2.2.1.length = c.1.length ∧ t.2.2.2.2.2.1 = -1) 0 c.2.length
  (s := (c, f, [], (List.replicate (c.1.length : Int).toNat false), 0, (-1), false, 0, 0)) ⟨rfl, rfl, rfl, (fun x hx => by cases hx), by simp, rfl⟩ (by have := qQ; omega) ?_ ?_) fun o ho => qG ho
 ·rintro N t - ⟨e1, e2, e3, e4, e5, e6⟩
  simp only [L15_3, B15_3]
  rw [qE (by omega)]
  exact qG ⟨e1, e2, by dsimp only; omega, e4, e5, fun _ => e6⟩
 ·rintro N i t - hi ⟨e1, e2, e3, e4, e5, e6⟩ ih
  have hx := hc.at_ i hi
  simp only [L15_3, B15_3]
  rw [qw (by omega), cond_true]
  refine qJ (by omega) (by omega) ?_
  simp only [qbQ, qbj, qbk]
  refine qJ hx.1 hx.2 (qdl (by omega) (by simp only [List.length_singleton]; omega) ?_)
  rw [wI (by omega) (by omega)]
  refine ih _ ⟨e1, e2, by simp only [List.length_append, List.length_singleton]; omega, fun x hx' => ?_, e5, e6⟩
  rcases List.mem_append.1 hx' with hx' | hx'
  ·exact e4 x hx'
  ·rw [List.mem_singleton.1 hx']
   exact hx
theorem restsR {c : qbC} {t : Trk} (h : t.1 = c) {x : Car} (hx : 0 ≤ x.1.1 ∧ x.1.1 < c.1.length) : Okq (fun _ => True) (g74 (t, x, ())) := by
 subst h
 show Okq _ (F74 qe t x)
 unfold F74
 exact qJ hx.1 hx.2 (qG trivial)
theorem isR {c : qbC} {f : List Flt} {t : Trk} (h : Inv c f t) (k b : Int) : Okq (fun _ => True) (g75 (t, k, b, ())) := by
 have hn := h.num
 show Okq _ (F75 qe t k b)
 unfold F75
 refine qW (S := fun _ => True) (qap (L := L75_3) (fun i (s : Bool × Bool × Bool) => ((t, k, b, s.1, s.2.1, s.2.2, t.2.2.1, (t.2.2.1.length : Int), (i : Int), ()), (), ())) (fun _ _ => True) 0 t.2.2.1.length (s := (false, false, true)) trivial (by have := qQ; omega) ?_ ?_) fun o _ => ?_
 ·rintro N s - -
  simp only [L75_3, B75_3]
  rw [qE (by omega)]
  exact qG trivial
 ·rintro N i s - hi - ih
  simp only [L75_3, B75_3]
  rw [qw (by omega), cond_true]
  refine qJ (by omega) (by omega) ?_
  have hb := h.blk _ (qag (l := t.2.2.1) (i := (i : Int)) (by omega) (by omega))
  rw [wI (by omega) (by omega)]
  refine qB (fun _ => qB (fun _ => qB (fun _ => ih (_, _, _) trivial) fun _ => ih (_, _, _) trivial) fun _ => qW (restsR h.cir hb) fun y _ => qB (fun _ => ih (_, _, _) trivial) fun _ => ih (_, _, _) trivial) fun _ => ih (_, _, _) trivial
 ·exact qB (fun _ => qG trivial) fun _ => qB (fun _ => qG trivial) fun _ => qG trivial
structure Rd (n : Nat) (r : List (List (List Int))) : Prop where
 four : r.length = 4
 none0 : (gd r 0).length = 0
 rows : ∀ k : Int, 1 ≤ k → k ≤ 3 → (gd r k).length = n
theorem rollR {c : qbC} {f : List Flt} {t : Trk} (h : Inv c f t) : Okq (fun r : Unit × Trk × Unit => Inv c f r.2.1) (g42 (t, ())) := by
 have hn := h.num
 show Okq _ (F42 qe t)
 unfold F42
 refine qW (S := fun o : Unit × (Trk × Unit) × Unit => Inv c f o.2.1.1) (qap (L := L42_1) (fun i (s : Trk) => (((t.2.2.1.length : Int), (i : Int), ()), (s, ()), ())) (fun _ s => Inv c f s ∧ s.2.2.1.length = t.2.2.1.length) 0 t.2.2.1.length (s := t) ⟨h, rfl⟩ (by have := qQ; omega) ?_ ?_) fun o ho => qG ho
 ·rintro N s - ⟨hs, _⟩
  simp only [L42_1, B42_1]
  rw [qE (by omega)]
  exact qG hs
 ·rintro N i s - hi ⟨hs, hl⟩ ih
  simp only [L42_1, B42_1]
  rw [qw (by omega), cond_true]
  have hb := hs.blk _ (qag (l := s.2.2.1) (i := (i : Int)) (by omega) (by omega))
  refine qaj (by omega) (by omega) (qJ (by omega) (by omega) (qW (restsR hs.cir hb) fun y _ => ?_))
  rw [wI (x := (i : Int) + 1) (by omega) (by omega)]
  refine qB (fun _ => qaj (by omega) (by omega) (qJ (by omega) (by omega) (qaj (by omega) (by omega) (qJ (by omega) (by omega) ?_)))) fun _ => qaj (by omega) (by omega) (qJ (by omega) (by omega) (qaj (by omega) (by omega) (qJ (by omega) (by omega) ?_)))
  ·rw [qa5]
   exact ih _ ⟨hs.car hb, by simp only [List.length_set]; exact hl⟩
  ·rw [qa5]
   exact ih _ ⟨hs.car hb, by simp only [List.length_set]; exact hl⟩
theorem rowR {c : qbC} {f : List Flt} {t : Trk} (h : Inv c f t) : Okq (fun r : ((List Spt) × Unit) × Unit => r.1.1.length ≤ 10 ∧ ∀ x ∈ r.1.1, 0 ≤ x.1 ∧ x.1 < c.1.length) (g51 (t, ())) := by
 have hn := h.num
 show Okq _ (F51 qe t)
 unfold F51
 refine qW (S := fun o : Unit × ((List Spt) × Unit) × Unit => o.2.1.1.length ≤ 10 ∧ ∀ x ∈ o.2.1.1, 0 ≤ x.1 ∧ x.1 < c.1.length) (qap (L := L51_2) (fun i (s : List Spt) => ((t.2.2.1, (t.2.2.1.length : Int), (i : Int), ()), (s, ()), ())) (fun i s => s.length = i ∧ ∀ x ∈ s, 0 ≤ x.1 ∧ x.1 < c.1.length) 0 t.2.2.1.length (s := []) ⟨rfl, (fun x hx => by cases hx)⟩ (by have := qQ; omega) ?_ ?_) fun o ho => qG ho
 ·rintro N s - ⟨hl, hs⟩
  simp only [L51_2, B51_2]
  rw [qE (by omega)]
  exact qG ⟨by dsimp only; omega, hs⟩
 ·rintro N i s - hi ⟨hl, hs⟩ ih
  simp only [L51_2, B51_2]
  rw [qw (by omega), cond_true]
  have hb := h.blk _ (qag (l := t.2.2.1) (i := (i : Int)) (by omega) (by omega))
  refine qJ (by omega) (by omega) (qdl (by omega) (by simp only [List.length_singleton]; omega) ?_)
  rw [wI (by omega) (by omega)]
  refine ih _ ⟨by simp only [List.length_append, List.length_singleton]; omega, fun x hx => ?_⟩
  rcases List.mem_append.1 hx with hx | hx
  ·exact hs x hx
  ·rw [List.mem_singleton.1 hx]
   exact hb
theorem crashR (c : qbC) (r : List Spt) (hl : r.length ≤ 10) (hr : ∀ x ∈ r, 0 ≤ x.1 ∧ x.1 < c.1.length) : Okq (fun _ => True) (g50 (c, r, ())) := by
 show Okq _ (F50 qe c r)
 unfold F50
 refine qW (S := fun _ => True) (qap (L := L50_2) (fun i (_ : Unit) => ((r, r, (r.length : Int), (i : Int), ()), (c, (0, (0, false)), ()), ())) (fun _ _ => True) 20 r.length (s := ()) trivial (by have := qQ; omega) ?_ ?_) fun o _ => ?_
 ·rintro N s - -
  simp only [L50_2, B50_2]
  rw [qE (by omega)]
  exact qG trivial
 ·rintro N i s hN hi - ih
  have hb := hr _ (qag (l := r) (i := (i : Int)) (by omega) (by omega))
  simp only [L50_2, B50_2]
  rw [qw (by omega), cond_true]
  refine qJ (by omega) (by omega) ?_
  refine qW (S := fun o => ∃ b : Bool, o = ((r, (i : Int), b, r, (r.length : Int), (i : Int), ()), (c, (0, (0, false)), gd r (i : Int), ()), ())) (qap (L := L50_6) (fun j (b : Bool) => ((r, (i : Int), b, r, (r.length : Int), (i : Int), r, (r.length : Int), (j : Int), ()), (c, (0, (0, false)), gd r (i : Int), ()), ())) (fun _ _ => True) 0 r.length (s := false) trivial (by omega) ?_ ?_) ?_
  ·rintro N b - -
   simp only [L50_6, B50_6]
   rw [qE (by omega)]
   exact qG ⟨b, rfl⟩
  ·rintro N j b - hj - ih
   simp only [L50_6, B50_6]
   rw [qw (by omega), cond_true]
   refine qJ (by omega) (by omega) ?_
   rw [wI (by omega) (by omega)]
   exact qB (fun _ => ih _ trivial) fun _ => qB (fun _ => ih _ trivial) fun _ => ih _ trivial
  ·rintro o ⟨b, rfl⟩
   dsimp only
   rw [wI (by omega) (by omega)]
   exact qB (fun _ => qG trivial) fun _ => qB (fun _ => qJ hb.1 hb.2 (qB (fun _ => qG trivial) fun _ => ih () trivial)) fun _ => ih () trivial
 ·cases o <;> exact qG trivial
end Go.Proofs.Tryz.V.Top
