/- Plain law: TopBuilt. No condition beyond those typed in each theorem. -/
import Derived.Test.YtinkjepanpicoaaGreatT12o
import Derived.Test.YtinkjepanpicoaaGreatS08b
namespace Go.Proofs.Tryz.V.Top
open Go.Vi
open L10 (rng q9)
set_option maxRecDepth 100000
def qb4 (n day : Int) (x : L10.Ent) : Bool := (x.2.1 != 4) || ((x.2.2.1 != n) || (x.1 != day))
def qeq (g : qcZ) (s : List L10.Ent) : qcZ := (g.1, (g.2.1, (s, g.2.2.2)))
theorem qkR (g : qcZ) (hg : Near g) (n : Int) : ∃ r, L4_9 fuel ((n, g, 0, ()), (qeq g [], ()), ()) = some r ∧
    (r = .inl ((true, ()), (), ()) ∨ (r = .inr ((n, ()), (qeq g (g.2.2.1.filter (qb4 n g.2.2.2.1)), ()), ()) ∧ ∀ x, x ∈ g.2.2.1 → x.2.1 ≠ 3)) := by
  have hl := hg.ents
  refine qf6 (L := L4_9) (fun i (s : List L10.Ent) => ((n, g, (i : Int), ()), (qeq g s, ()), ())) (fun i s => s = (g.2.2.1.take i).filter (qb4 n g.2.2.2.1) ∧ ∀ x, x ∈ g.2.2.1.take i → x.2.1 ≠ 3) _ 0 g.2.2.1.length (N := fuel) (s := []) ⟨by simp, by simp⟩ (by have := jG; omega) ?_ ?_
  · rintro N s ⟨rfl, h3⟩
    rw [List.take_length] at h3 ⊢
    refine ⟨_, ?_, .inr ⟨rfl, h3⟩⟩
    simp only [L4_9, B4_9]
    rw [qA (by omega)]
    rfl
  · rintro N i s _ hi ⟨rfl, h3⟩
    have ht : g.2.2.1.take (i + 1) = g.2.2.1.take i ++ [gd g.2.2.1 (i : Int)] := qdM hi
    have hlen : ((g.2.2.1.take i).filter (qb4 n g.2.2.2.1)).length ≤ 1000 := by
      have := List.length_filter_le (qb4 n g.2.2.2.1) (g.2.2.1.take i)
      have := List.length_take_le i g.2.2.1
      omega
    simp only [L4_9, B4_9]
    rw [qo (by omega), cond_true, qp (by omega) (by omega), wI (by omega) (by omega)]
    cases e3 : (gd g.2.2.1 (i : Int)).2.1 == 3 with
    | true => exact .inr ⟨_, by rw [cond_true, qlh]; rfl, .inl rfl⟩
    | false =>
      have hn3 : (gd g.2.2.1 (i : Int)).2.1 ≠ 3 := fun h => by rw [h] at e3; exact absurd e3 (by decide)
      refine .inl ⟨((g.2.2.1.take (i + 1)).filter (qb4 n g.2.2.2.1)), ⟨rfl, ?_⟩, ?_⟩
      · intro x hx
        rw [ht] at hx
        rcases List.mem_append.1 hx with hx | hx
        · exact h3 x hx
        · rw [List.mem_singleton.1 hx]
          exact hn3
      · rw [cond_false, ht, List.filter_append]
        have lk : ∀ {R : Type} (k : Option R), qX ((((qeq g ((g.2.2.1.take i).filter (qb4 n g.2.2.2.1))).2.2.1).length : Int) + [gd g.2.2.1 (i : Int)].length) k = k := fun k => jO (by simp [qeq] <;> omega) (by simp only [qeq, List.length_singleton]; omega) k
        simp only [lk]
        have hk : qb4 n g.2.2.2.1 (gd g.2.2.1 (i : Int)) = (((gd g.2.2.1 (i : Int)).2.1 != 4) || (((gd g.2.2.1 (i : Int)).2.2.1 != n) || ((gd g.2.2.1 (i : Int)).1 != g.2.2.2.1))) := rfl
        cases h4 : (gd g.2.2.1 (i : Int)).2.1 != 4 with
        | true =>
          rw [show [gd g.2.2.1 (i : Int)].filter (qb4 n g.2.2.2.1) = [gd g.2.2.1 (i : Int)] by simp [hk, h4]]
          rfl
        | false =>
          cases h5 : (gd g.2.2.1 (i : Int)).2.2.1 != n with
          | true =>
            rw [show [gd g.2.2.1 (i : Int)].filter (qb4 n g.2.2.2.1) = [gd g.2.2.1 (i : Int)] by simp [hk, h5]]
            rfl
          | false =>
            cases h6 : (gd g.2.2.1 (i : Int)).1 != g.2.2.2.1 with
            | true =>
              rw [show [gd g.2.2.1 (i : Int)].filter (qb4 n g.2.2.2.1) = [gd g.2.2.1 (i : Int)] by simp [hk, h6]]
              rfl
            | false =>
              rw [show [gd g.2.2.1 (i : Int)].filter (qb4 n g.2.2.2.1) = [] by simp [hk, h4, h5, h6], List.append_nil]
              rfl
theorem qcb.without {g : qcZ} (h : qcb g) (p : L10.Ent → Bool) (h3 : ∀ x, x ∈ g.2.2.1 → x.2.1 ≠ 3) : qcb (qeq g (g.2.2.1.filter p)) :=
  ⟨h.eve, L10.check_filter h.book p h3, h.sup, h.ins, h.loads, h.lims, h.emps, h.day, h.lim, h.emp⟩
theorem qkQ {g : qcZ} (h : qcb g) (n : Int) : ¬ n ∈ opn (qeq g (g.2.2.1.filter (qb4 n g.2.2.2.1))) := by
  intro hn
  have hs := opn_sub hn
  obtain ⟨x, h1, h2, h3, h4⟩ := L10.rel_tested (b := g.2.1) (l := g.2.2.1.filter (qb4 n g.2.2.2.1)) (day := g.2.2.2.1) (q9.1 h.day).1 hs
  have := (List.mem_filter.1 h1).2
  unfold qb4 at this
  have h4' : x.1 = g.2.2.2.1 := h4
  rw [h2, h3, h4'] at this
  simp at this
theorem law_built (g : qcZ) (w : L08.Kit × (List L08.Stp)) (hw : L08.Small w.1) (n : Int) : g4 (g, w, n, ()) = some ((true, ()), ()) := by
  have hF : g4 (g, w, n, ()) = F4 fuel g w n := rfl
  have bk : ∀ {R : Type} (k : (Bool × Unit) × Unit → Option R), qa (g6 ()) k = k ((true, ()), ()) := fun k => qaa qlh k
  rw [hF]
  unfold F4
  obtain ⟨b, e, hn⟩ := far_eq g
  rw [e, qb]
  cases b with
  | true => exact bk _
  | false =>
  have hg := hn rfl
  rw [cond_false, L08.root08.1 w.1 hw, qb]
  cases L08.valid w.1 with
  | false => exact bk _
  | true =>
  dsimp only [cond_true]
  rw [show ((0 : Int) != 0) = false from rfl, cond_false]
  by_cases hl : (w.2.length : Int) > 200
  · rw [qo hl]
    exact bk _
  rw [qA hl, cond_false]
  obtain ⟨e9, h9, hv⟩ := check12 g
  rw [h9, qb]
  dsimp only
  by_cases h0 : e9 = 0
  case neg =>
    rw [L10.neq_t h0]
    exact bk _
  have hV := hv h0
  rw [h0, show ((0 : Int) != 0) = false from rfl, cond_false]
  by_cases hn0 : n < 0
  · rw [qo hn0]
    exact bk _
  rw [qA hn0, cond_false]
  by_cases hn1 : n ≥ (g.1.1.length : Int)
  · rw [qo hn1]
    exact bk _
  rw [qA hn1, cond_false, jO (by simp <;> omega) (by simp <;> omega), List.nil_append, L08.root08.2 w.1 w.2 hw (by omega), qb]
  simp only [qb1, qb0]
  rw [qb]
  have main : (qa (g7 (g, ())) fun y13 => qa (L4_9 fuel ((n, g, 0, ()), ((y13.1.1.1, (y13.1.1.2.1, ([], y13.1.1.2.2.2))), ()), ())) fun o16 => qaP o16 (fun d17 => some ((d17.1.1, ()), ())) (fun d18 => qa (g12 (d18.2.1.1, ())) fun y19 => cond (y19.1.2.1 == 0) (qa (g17 (y19.1.1, d18.1.1, ())) fun y20 => cond (!y20.1.1) (qa (g6 ()) fun y21 => some ((y21.1.1, ()), ())) (some ((false, ()), ()))) (some ((false, ()), ())))) = some ((true, ()), ()) := by
    rw [copy_eq hg, qb]
    obtain ⟨r, er, hr⟩ := qkR g hg n
    refine (qaa er _).trans ?_
    rcases hr with rfl | ⟨rfl, h3⟩
    · rfl
    · rw [qaE]
      have hV' := hV.without (qb4 n g.2.2.2.1) h3
      rw [hV'.opens', qb, show (((opn (qeq g (g.2.2.1.filter (qb4 n g.2.2.2.1))), (0 : Int), ()), ()).1.2.1 == 0) = true from rfl, cond_true, has_eq (opn (qeq g (g.2.2.1.filter (qb4 n g.2.2.2.1)))) (by have := opn_len hV'; omega), qb, qA (qkQ hV n)]
      exact bk _
  cases (L08.out61f w.1 w.2).2.2.2 == 0 with
  | false => exact main
  | true =>
    cases (L08.readyR w.1 w.2).1 with
    | true => exact bk _
    | false => exact main
end Go.Proofs.Tryz.V.Top
