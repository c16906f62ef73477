/- Plain laws of a circuit that is played: presses, brakes, a step; when it stops. No condition beyond those typed in each theorem. -/
import Derived.Test.YtdecnbepmnjeiaaT12k
namespace Go.Proofs.Try.V.Top
open Go.Vi
open L10 (rng jL)
set_option maxRecDepth 100000
theorem openR {c : qaY} {f : List Flt} {t : Trk} (h : Inv c f t) {op : List Bool} (ho : op.length = c.1.length) (p : Prs) {b : Int} (hb : 0 ≤ b ∧ b < c.1.length) (w : Bool) :
  Okq (fun r : Unit × (Trk × (List Bool) × Unit) × Unit => Inv c f r.2.1.1 ∧ r.2.1.2.1.length = c.1.length) (L35_9 qj ((b, w, (t.2.2.1.length : Int), 0, ()), (p, t, op, ()), ())) := by
 have hn := h.num
 refine qaj (L := L35_9) (fun i (s : Trk × List Bool) => ((b, w, (t.2.2.1.length : Int), (i : Int), ()), (p, s.1, s.2, ()), ())) (fun _ s => (Inv c f s.1 ∧ s.1.2.2.1.length = t.2.2.1.length) ∧ s.2.length = c.1.length) 0 t.2.2.1.length (s := (t, op)) ⟨⟨h, rfl⟩, ho⟩ (by have := jP; omega) ?_ ?_
 ·rintro N s - ⟨⟨h1, _⟩, h3⟩
  simp only [L35_9, B35_9]
  rw [qL (by omega)]
  exact qx ⟨h1, h3⟩
 ·rintro N i ⟨s, op⟩ - hi ⟨⟨h1, h2⟩, h3⟩ ih
  dsimp only at h1 h2 h3
  simp only [L35_9, B35_9]
  rw [qM (by omega), cond_true]
  have hx := h1.blk _ (j6 (l := s.2.2.1) (i := (i : Int)) (by omega) (by omega))
  have hc1 : ∀ y : Bool × Int, Inv c f (s.1, (s.2.1, (s.2.2.1.set (i : Int).toNat (((gd s.2.2.1 (i : Int)).1.1, ((gd s.2.2.1 (i : Int)).1.2.1, y.1)), y.2), s.2.2.2))) := fun y => h1.car hx
  refine j3 (by omega) (by omega) (qz (by omega) (by omega) ?_)
  rw [wI (by omega) (by omega)]
  have same := ih (s, op) ⟨⟨h1, h2⟩, h3⟩
  have set : ∀ y : Bool, Okq (fun r : Unit × (Trk × (List Bool) × Unit) × Unit => Inv c f r.2.1.1 ∧ r.2.1.2.1.length = c.1.length) (qe s.2.2.1 (i : Int) fun e11 => jK (s.1, (s.2.1, ((s.2.2.1.set (i : Int).toNat ((e11.1.1, (e11.1.2.1, y)), e11.2)), s.2.2.2))) fun z12 => qZ b op.length (qe op b fun e13 => cond e13 (qZ b op.length (qe op b fun _ => L35_9 N ((b, w, (t.2.2.1.length : Int), (i : Int) + 1, ()), (p, z12, (op.set b.toNat true), ()), ()))) (qe z12.2.2.1 (i : Int) fun e15 => qZ b op.length (qe op b fun _ => L35_9 N ((b, w, (t.2.2.1.length : Int), (i : Int) + 1, ()), (p, z12, (op.set b.toNat e15.1.2.2), ()), ()))))) := by
   intro y
   refine qz (by omega) (by omega) (qb4 (fun z : Trk => Inv c f z ∧ z.2.2.1.length = t.2.2.1.length) ⟨hc1 (y, _), by simp only [List.length_set]; exact h2⟩ fun z hz => ?_)
   have hz2 := hz.2
   refine j3 (by omega) (by omega) (qz (by omega) (by omega) (qw (fun _ => j3 (by omega) (by omega) (qz (by omega) (by omega) ?_)) fun _ => qz (by omega) (by omega) (j3 (by omega) (by omega) (qz (by omega) (by omega) ?_))))
   ·exact ih (z, _) ⟨hz, by simp only [List.length_set]; exact h3⟩
   ·exact ih (z, _) ⟨hz, by simp only [List.length_set]; exact h3⟩
  exact qw (fun _ => qw (fun _ => set _) fun _ => qw (fun _ => set _) fun _ => same) fun _ => same
theorem pressR {c : qaY} {f : List Flt} {t : Trk} (h : Inv c f t) {op : List Bool} (ho : op.length = c.1.length) {p : Prs} (hp : 0 ≤ p.2.2 ∧ p.2.2 < c.1.length) {r : List (List (List Int))} (hr : Rd c.1.length r) :
  Okq (fun r : Unit × (Trk × (List Bool) × Unit) => Inv c f r.2.1 ∧ r.2.2.1.length = c.1.length) (g35 (t, p, r, op, ())) := by
 have hg := h.gos
 have h4 := hr.four
 have r1 := hr.rows 1 (by omega) (by omega)
 have r2 := hr.rows 2 (by omega) (by omega)
 have hc : t.1.1.length = c.1.length := by rw [h.cir]
 show Okq _ (F35 qj t p r op)
 unfold F35
 have fin : ∀ w : Bool, Okq (fun r : Unit × (Trk × (List Bool) × Unit) => Inv c f r.2.1 ∧ r.2.2.1.length = c.1.length) (qa (L35_9 qj ((p.2.2, w, (t.2.2.1.length : Int), 0, ()), (p, t, op, ()), ())) fun o23 => some ((), (o23.2.1.1, o23.2.1.2.1, ()))) := fun w => qQ (openR h ho p hp w) fun o ho => qx ho
 have both : ∀ (s : List Int) (n : Int), g63 (s, n, ()) = some ((eqL s [n, n], ()), ()) := fun _ _ => rfl
 refine qz (by omega) (by omega) (qw (fun _ => j3 (by omega) (by omega) (qz (by omega) (by omega) (qz (by omega) (by omega) (qgt (both _ _) ?_)))) fun _ => ?_)
 ·refine qw (fun _ => j3 (by omega) (by omega) (qz (by omega) (by omega) (qz (by omega) (by omega) (qgt (both _ _) ?_)))) fun _ => ?_
  ·refine qw (fun _ => j3 (by omega) (by omega) (qz (by omega) (by omega) (qd3 (qx ⟨h.go, ho⟩)))) fun _ => qw (fun _ => qw (fun _ => fin _) fun _ => qx ⟨h, ho⟩) fun _ => qw (fun _ => fin _) fun _ => qx ⟨h, ho⟩
  ·refine qw (fun _ => j3 (by omega) (by omega) (qz (by omega) (by omega) (qd3 (qx ⟨h.go, ho⟩)))) fun _ => qw (fun _ => qw (fun _ => fin _) fun _ => qx ⟨h, ho⟩) fun _ => qw (fun _ => fin _) fun _ => qx ⟨h, ho⟩
 ·refine qw (fun _ => j3 (by omega) (by omega) (qz (by omega) (by omega) (qd3 (qx ⟨h.go, ho⟩)))) fun _ => qw (fun _ => qw (fun _ => fin _) fun _ => qx ⟨h, ho⟩) fun _ => qw (fun _ => fin _) fun _ => qx ⟨h, ho⟩
theorem hereR {c : qaY} {f : List Flt} {t : Trk} (hC : OkC c) (h : Inv c f t) (r : List (List (List Int))) (op : List Bool) :
  Okq (fun o : ((List Bool) × Unit) × ((List (List (List Int))) × (List (List Int)) × Trk × Unit) × Unit => ∃ q : List (List Int), (q.length = c.1.length ∧ ∀ row ∈ q, ∀ j ∈ row, 0 ≤ j ∧ j < t.2.2.1.length) ∧ o = ((op, ()), (r, q, t, ()), ())) (L36_3 qj ((op, (t.2.2.1.length : Int), 0, ()), (r, (List.replicate (t.1.1.length : Int).toNat ([] : List Int)), t, ()), ())) := by
 have hn := h.num
 refine qaj (L := L36_3) (fun i (q : List (List Int)) => ((op, (t.2.2.1.length : Int), (i : Int), ()), (r, q, t, ()), ())) (fun i q => q.length = c.1.length ∧ ∀ row ∈ q, row.length ≤ i ∧ ∀ j ∈ row, 0 ≤ j ∧ j < t.2.2.1.length) 0 t.2.2.1.length (s := List.replicate (t.1.1.length : Int).toNat []) ⟨by rw [List.length_replicate, h.cir]; omega, fun row hrow => ?_⟩ (by have := jP; omega) ?_ ?_
 ·rw [List.eq_of_mem_replicate hrow]
  exact ⟨Nat.zero_le _, fun j hj => by cases hj⟩
 ·rintro N q - ⟨h1, h2⟩
  simp only [L36_3, B36_3]
  rw [qL (by omega)]
  exact qx ⟨q, ⟨h1, fun row hrow => (h2 row hrow).2⟩, rfl⟩
 ·rintro N i q - hi ⟨h1, h2⟩ ih
  simp only [L36_3, B36_3]
  rw [qM (by omega), cond_true]
  simp only [qa8, qaJ, qaK]
  have hx := h.blk _ (j6 (l := t.2.2.1) (i := (i : Int)) (by omega) (by omega))
  have hrow := h2 _ (j6 (l := q) (i := (gd t.2.2.1 (i : Int)).1.1) (by omega) (by omega))
  have hr1 := hrow.1
  refine j3 (by omega) (by omega) (qz (by omega) (by omega) (j3 (by omega) (by omega) (qz (by omega) (by omega) (qcC (by omega) (by simp only [List.length_singleton]; omega) (j3 (by omega) (by omega) (ok_eqK (qz (by omega) (by omega) ?_)))))))
  rw [wI (by omega) (by omega)]
  refine ih _ ⟨by rw [List.length_set]; exact h1, fun row hrow' => ?_⟩
  rcases List.mem_or_eq_of_mem_set hrow' with hq | rfl
  ·exact ⟨by have := (h2 row hq).1; omega, (h2 row hq).2⟩
  ·refine ⟨by rw [List.length_append, List.length_singleton]; omega, fun j hj => ?_⟩
   rcases List.mem_append.1 hj with hj | hj
   ·exact hrow.2 j hj
   ·rw [List.mem_singleton.1 hj]
    omega
theorem brakeR {c : qaY} {f : List Flt} {t : Trk} (hC : OkC c) (h : Inv c f t) {op : List Bool} (ho : op.length = c.1.length) {r : List (List (List Int))} (hr : Rd c.1.length r) :
  Okq (fun r : Unit × (Trk × Unit) => Inv c f r.2.1) (g36 (t, r, op, ())) := by
 have h4 := hr.four
 have r1 := hr.rows 1 (by omega) (by omega)
 have r2 := hr.rows 2 (by omega) (by omega)
 have r3 := hr.rows 3 (by omega) (by omega)
 have hm := hC.most
 have hw := hC.two
 have hc : t.1.1.length = c.1.length := by rw [h.cir]
 have both : ∀ (s : List Int) (n : Int), g63 (s, n, ()) = some ((eqL s [n, n], ()), ()) := fun _ _ => rfl
 show Okq _ (F36 qj t r op)
 unfold F36
 refine qdJ (by omega) (qdJ (by omega) (qcC (by omega) (by omega) (qQ (hereR hC h r op) ?_)))
 rintro o ⟨q, ⟨q1, q2⟩, rfl⟩
 dsimp only
 refine qQ (S := fun o : Unit × (Trk × Unit) × Unit => Inv c f o.2.1.1) (qaj (L := L36_8) (fun i (s : Trk) => ((op, (q.length : Int), (i : Int), ()), (r, q, s, ()), ())) (fun _ s => Inv c f s ∧ s.2.2.1.length = t.2.2.1.length) 0 q.length (s := t) ⟨h, rfl⟩ (by have := jP; omega) ?_ ?_) fun o ho => qx ho
 ·rintro N s - ⟨h1, _⟩
  simp only [L36_8, B36_8]
  rw [qL (by omega)]
  exact qx h1
 ·rintro N i s - hi ⟨h1, h2⟩ ih
  have hg := h1.gos
  have hc1 : s.1.1.length = c.1.length := by rw [h1.cir]
  simp only [L36_8, B36_8]
  rw [qM (by omega), cond_true, wI (x := (i : Int) + 1) (by omega) (by omega)]
  have hnx : 0 ≤ Int.tmod ((i : Int) + 1) (q.length : Int) ∧ Int.tmod ((i : Int) + 1) (q.length : Int) < c.1.length := ⟨Int.tmod_nonneg _ (by omega), by have := Int.tmod_lt_of_pos ((i : Int) + 1) (b := (q.length : Int)) (by omega); omega⟩
  generalize Int.tmod ((i : Int) + 1) (q.length : Int) = nx at hnx ⊢
  have same := ih s ⟨h1, h2⟩
  refine j3 (by omega) (by omega) (ok_nzK (by omega) (j3 (by omega) (by omega) (qz (by omega) (by omega) (qz (by omega) (by omega) (qgt (both _ _) (qw (fun _ => ?_) fun _ => same))))))
  refine j3 (by omega) (by omega) (qz (by omega) (by omega) (qz (by omega) (by omega) (qgt (both _ _) (qw (fun _ => ?_) fun _ => same))))
  refine qz (by omega) (by omega) (qw (fun _ => ?_) fun _ => same)
  refine j3 (by omega) (by omega) (qz (by omega) (by omega) (qz (by omega) (by omega) (qgt (both _ _) (qw (fun _ => same) fun _ => ?_))))
  refine qz (by omega) (by omega) (qw (fun _ => same) fun hz => ?_)
  have hne : (gd q (i : Int)).length ≠ 0 := by
   have := ne_of_beq_false hz
   omega
  have he := q2 _ (j6 (l := q) (i := (i : Int)) (by omega) (by omega)) _ (j6 (l := gd q (i : Int)) (i := 0) (by omega) (by omega))
  refine qz (by omega) (by omega) (j3 (by omega) (by omega) (qz (by omega) (by omega) (qz (by omega) (by omega) ?_)))
  generalize gd (gd q (i : Int)) 0 = e at he ⊢
  have hS : ∀ (z : Trk) (y : Car), (Inv c f z ∧ z.2.2.1.length = t.2.2.1.length) → (0 ≤ y.1.1 ∧ y.1.1 < c.1.length) → Inv c f (z.1, (z.2.1, (z.2.2.1.set e.toNat y, z.2.2.2))) ∧ (z.2.2.1.set e.toNat y).length = t.2.2.1.length := fun z y hz hy => ⟨hz.1.car hy, by rw [List.length_set]; exact hz.2⟩
  have fin : Okq (fun o : Unit × (Trk × Unit) × Unit => Inv c f o.2.1.1) (qe s.2.2.1 e fun e36 => jK (s.1, (s.2.1, ((s.2.2.1.set e.toNat ((nx, e36.1.2), e36.2)), s.2.2.2))) fun z37 => qe z37.2.2.1 e fun e38 => jK (z37.1, (z37.2.1, ((z37.2.2.1.set e.toNat ((e38.1.1, (0, e38.1.2.2)), e38.2)), z37.2.2.2))) fun z39 => qe z39.2.2.1 e fun e40 => qZ (i : Int) (((((z39.1, (z39.2.1, ((z39.2.2.1.set e.toNat (e40.1, (0 : Int))), z39.2.2.2))).2).2).2).1).length (qe (((((z39.1, (z39.2.1, ((z39.2.2.1.set e.toNat (e40.1, (0 : Int))), z39.2.2.2))).2).2).2).1) (i : Int) fun _ => jK ((z39.1, (z39.2.1, ((z39.2.2.1.set e.toNat (e40.1, (0 : Int))), z39.2.2.2))).1, (((z39.1, (z39.2.1, ((z39.2.2.1.set e.toNat (e40.1, (0 : Int))), z39.2.2.2))).2).1, ((((z39.1, (z39.2.1, ((z39.2.2.1.set e.toNat (e40.1, (0 : Int))), z39.2.2.2))).2).2).1, (((((((z39.1, (z39.2.1, ((z39.2.2.1.set e.toNat (e40.1, (0 : Int))), z39.2.2.2))).2).2).2).1).set (i : Int).toNat false), ((((z39.1, (z39.2.1, ((z39.2.2.1.set e.toNat (e40.1, (0 : Int))), z39.2.2.2))).2).2).2).2)))) fun z42 => jK (z42.1, (z42.2.1, (z42.2.2.1, (z42.2.2.2.1, (z42.2.2.2.2.1, (z42.2.2.2.2.2.1, (z42.2.2.2.2.2.2.1, (z42.2.2.2.2.2.2.2.1, (IntKind.wrap .i64 (z42.2.2.2.2.2.2.2.2 + 1)))))))))) fun z43 => cond (nx == 0) (jK (z43.1, (z43.2.1, (z43.2.2.1, (z43.2.2.2.1, (z43.2.2.2.2.1, (z43.2.2.2.2.2.1, (z43.2.2.2.2.2.2.1, ((IntKind.wrap .i64 (z43.2.2.2.2.2.2.2.1 + 1)), z43.2.2.2.2.2.2.2.2)))))))) fun z44 => L36_8 N ((op, (q.length : Int), (i : Int) + 1, ()), (r, q, z44, ()), ())) (L36_8 N ((op, (q.length : Int), (i : Int) + 1, ()), (r, q, z43, ()), ())))) := by
   refine qz (by omega) (by omega) (qb4 (fun z : Trk => Inv c f z ∧ z.2.2.1.length = t.2.2.1.length) (hS _ _ ⟨h1, h2⟩ hnx) fun z37 k37 => ?_)
   have l37 := k37.2
   have b37 := k37.1.blk _ (j6 (l := z37.2.2.1) (i := e) (by omega) (by omega))
   refine qz (by omega) (by omega) (qb4 (fun z : Trk => Inv c f z ∧ z.2.2.1.length = t.2.2.1.length) (hS _ _ k37 b37) fun z39 k39 => ?_)
   have l39 := k39.2
   have g39 := k39.1.gos
   have b39 := k39.1.blk _ (j6 (l := z39.2.2.1) (i := e) (by omega) (by omega))
   refine qz (by omega) (by omega) ?_
   dsimp only
   refine j3 (by omega) (by omega) (qz (by omega) (by omega) (qb4 (fun z : Trk => Inv c f z ∧ z.2.2.1.length = t.2.2.1.length) ⟨(hS z39 ((gd z39.2.2.1 e).1, 0) k39 b39).1.go, (hS z39 ((gd z39.2.2.1 e).1, 0) k39 b39).2⟩ fun z42 k42 => ?_))
   refine qb4 (fun z : Trk => Inv c f z ∧ z.2.2.1.length = t.2.2.1.length) ⟨k42.1.rest, k42.2⟩ fun z43 k43 => ?_
   exact qw (fun _ => qb4 (fun z : Trk => Inv c f z ∧ z.2.2.1.length = t.2.2.1.length) ⟨k43.1.rest, k43.2⟩ fun z44 k44 => ih z44 k44) fun _ => ih z43 k43
  exact j3 (by omega) (by omega) (qz (by omega) (by omega) (qw (fun _ => j3 (by omega) (by omega) (qz (by omega) (by omega) (qw (fun _ => same) fun _ => qz (by omega) (by omega) (qz (by omega) (by omega) (qw (fun _ => same) fun _ => fin))))) fun _ => fin))
end Go.Proofs.Try.V.Top
