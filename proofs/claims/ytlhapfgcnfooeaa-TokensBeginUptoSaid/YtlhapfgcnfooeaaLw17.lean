/- Plain laws of layer 1: TokensFree. No condition beyond those typed in each theorem. -/
import Derived.Test.YtlhapfgcnfooeaaLw16
namespace Go.Proofs.Try.V
open Go.Vi
set_option maxRecDepth 100000

theorem pair_eq {x y : Int × Int} : ((x.1 == y.1) && (x.2 == y.2)) = decide (x = y) := by
  obtain ⟨a, b⟩ := x
  obtain ⟨c, d⟩ := y
  simp only
  by_cases h1 : a = c
  · by_cases h2 : b = d
    · rw [h1, h2, beq_self_eq_true, beq_self_eq_true, dec_t rfl]
      rfl
    · rw [beq_false_of_ne h2, Bool.and_false, dec_f (p := (a, b) = (c, d)) (fun h => h2 (by cases h; rfl))]
  · rw [beq_false_of_ne h1, Bool.false_and, dec_f (p := (a, b) = (c, d)) (fun h => h1 (by cases h; rfl))]
/-- Counts that are the same. -/
theorem g25_eq (a b : Cnt) (h1 : a.1.length ≤ 1000000000) (h2 : a.2.1.length ≤ 1000000000) (h3 : a.2.2.1.length ≤ 1000000000) (h4 : a.2.2.2.1.length ≤ 1000000000) : g25 (a, b, ()) = some ((decide (a = b), ()), ()) := by
  have hfu := fuel_ge
  have e0 : g25 (a, b, ()) = F25 fuel a b := rfl
  rw [e0]
  unfold F25
  rw [g16_eq _ _ h1, g16_eq _ _ h2, g16_eq _ _ h4, derefK_some, derefK_some, derefK_some]
  by_cases q1 : a.1 = b.1
  case neg => rw [dec_f q1, dec_f (p := a = b) (fun h => q1 (by rw [h]))]; rfl
  by_cases q2 : a.2.1 = b.2.1
  case neg => rw [dec_t q1, dec_f q2, dec_f (p := a = b) (fun h => q2 (by rw [h]))]; rfl
  by_cases q4 : a.2.2.2.1 = b.2.2.2.1
  case neg => rw [dec_t q1, dec_t q2, dec_f q4, dec_f (p := a = b) (fun h => q4 (by rw [h]))]; rfl
  by_cases q5 : a.2.2.2.2 = b.2.2.2.2
  case neg => rw [dec_t q1, dec_t q2, dec_t q4, bne_iff_ne.2 q5, dec_f (p := a = b) (fun h => q5 (by rw [h]))]; rfl
  have ns : ∀ {x : Bool}, x = true → (!x) = false := fun h => by rw [h]; rfl
  rw [dec_t q1, dec_t q2, dec_t q4, q5, bne_self_eq_false]
  simp only [Bool.not_true, cond_false]
  by_cases hl : a.2.2.1.length = b.2.2.1.length
  case neg => rw [bne_iff_ne.2 (show (a.2.2.1.length : Int) ≠ (b.2.2.1.length : Int) by omega), cond_true, dec_f (p := a = b) (fun h => hl (by rw [h]))]
  rw [hl, bne_self_eq_false, cond_false]
  have h := loopFirst (L := L25_4) (fun i => (((i : Int), ()), (a, b, ()), ())) a.2.2.1.length (fun i => !decide (gd a.2.2.1 (i : Int) = gd b.2.2.1 (i : Int))) (fun _ => .inl ((false, ()), (), ())) (.inr ((), (), ())) 0 (N := fuel) (by omega)
    (fun N _ => by simp only [L25_4, B25_4]; rw [dec_f (by omega), cond_false])
    (fun N i _ hi _ => by
      simp only [L25_4, B25_4]
      rw [dec_t (by omega), cond_true, getI_gd (by omega) (by omega), getI_gd (by omega) (by omega), pair_eq, wI (by omega) (by omega)]
      rfl)
  have h' : L25_4 fuel ((0, ()), (a, b, ()), ()) = _ := h
  rw [h', derefK_some]
  cases hq : first a.2.2.1.length (fun i => !decide (gd a.2.2.1 (i : Int) = gd b.2.2.1 (i : Int))) with
  | none =>
    rw [first_none] at hq
    have e : a.2.2.1 = b.2.2.1 := ext_gd hl fun i hi => by
      have := hq i hi
      rw [Bool.not_eq_false', decide_eq_true_iff] at this
      exact this
    have e2 : a = b := by
      obtain ⟨a1, a2, a3, a4, a5⟩ := a
      obtain ⟨b1, b2, b3, b4, b5⟩ := b
      simp only at q1 q2 q4 q5 e
      rw [q1, q2, q4, q5, e]
    rw [dec_t e2]
    rfl
  | some i =>
    rw [first_some] at hq
    have := hq.2.1
    rw [Bool.not_eq_true', decide_eq_false_iff_not] at this
    rw [dec_f (p := a = b) fun h => this (by rw [h])]
    rfl

/-! ## Beginnings of deals -/
theorem stC_congr {f : Fair} {l l' : List Deal} : ∀ {i : Nat}, (∀ j : Nat, j < i → gd l (j : Int) = gd l' (j : Int)) → stC f l i = stC f l' i
  | 0, _ => rfl
  | i + 1, h => by
    show stepD f (stC f l i) (gd l (i : Int)) = stepD f (stC f l' i) (gd l' (i : Int))
    rw [h i (by omega), stC_congr fun j hj => h j (by omega)]
theorem stT_congr {f : Fair} {l l' : List Deal} : ∀ {i : Nat}, (∀ j : Nat, j < i → gd l (j : Int) = gd l' (j : Int)) → stT f l i = stT f l' i
  | 0, _ => rfl
  | i + 1, h => by
    show nightD f (stC f l i) (gd l (i : Int)) (stT f l i) = nightD f (stC f l' i) (gd l' (i : Int)) (stT f l' i)
    rw [h i (by omega), stC_congr fun j hj => h j (by omega), stT_congr fun j hj => h j (by omega)]
theorem lastT_congr {l l' : List Deal} : ∀ {i : Nat}, (∀ j : Nat, j < i → gd l (j : Int) = gd l' (j : Int)) → lastT l i = lastT l' i
  | 0, _ => rfl
  | i + 1, h => by
    show (gd l (i : Int)).1 = (gd l' (i : Int)).1
    rw [h i (by omega)]
theorem bad_congr {f : Fair} {l l' : List Deal} {i : Nat} (h : ∀ j : Nat, j ≤ i → gd l (j : Int) = gd l' (j : Int)) : bad f l i = bad f l' i := by
  unfold bad
  rw [h i (Nat.le_refl _), stC_congr (l' := l') fun j hj => h j (by omega), lastT_congr (l' := l') fun j hj => h j (by omega)]
theorem gd_snoc {α : Type} [Inhabited α] {l : List α} {x : α} {i : Nat} (hi : i < l.length) : gd (l ++ [x]) (i : Int) = gd l (i : Int) := gd_app_l (by omega) (by omega)
theorem gd_last {α : Type} [Inhabited α] {l : List α} {x : α} : gd (l ++ [x]) (l.length : Int) = x := gd_app_end rfl
theorem wrong_snoc {f : Fair} {l : List Deal} {d : Deal} (h : wrong f l = none) (hl : l.length < 200) : wrong f (l ++ [d]) = if rng d.1 (lastT l l.length) 1440 && okD f (stC f l l.length) d then none else some ((l.length : Int), 11) := by
  obtain ⟨_, hv, _, hb⟩ := wrong_none h
  have e1 : ∀ j : Nat, j < l.length → bad f (l ++ [d]) j = bad f l j := fun j hj => bad_congr fun i hi => gd_snoc (by omega)
  have e2 : bad f (l ++ [d]) l.length = !(rng d.1 (lastT l l.length) 1440 && okD f (stC f l l.length) d) := by
    unfold bad
    rw [gd_last, stC_congr (l' := l) fun j hj => gd_snoc hj, lastT_congr (l' := l) fun j hj => gd_snoc hj]
  cases hg : (rng d.1 (lastT l l.length) 1440 && okD f (stC f l l.length) d) with
  | true =>
    rw [if_pos rfl]
    refine wrong_of hv (by simp; omega) fun j hj => ?_
    by_cases e : j = l.length
    · rw [e, e2, hg]; rfl
    · rw [e1 j (by simp at hj; omega)]
      exact hb j (by simp at hj; omega)
  | false =>
    rw [if_neg (by decide)]
    unfold wrong
    rw [if_neg (by rw [hv]; decide), if_neg (by simp; omega), (first_some (i := l.length)).2 ⟨by simp, by rw [e2, hg]; rfl, fun j hj => by rw [e1 j hj]; exact hb j hj⟩]
theorem stC_snoc {f : Fair} {l : List Deal} {d : Deal} : stC f (l ++ [d]) (l ++ [d]).length = stepD f (stC f l l.length) d := by
  rw [List.length_append]
  show stepD f (stC f (l ++ [d]) l.length) (gd (l ++ [d]) (l.length : Int)) = _
  rw [gd_last, stC_congr (l' := l) fun j hj => gd_snoc hj]

/-- TokensFree. -/
theorem law7 (f : Fair) (hs : Sized f) (l : List Deal) (hlen : l.length ≤ 1048576) (ride : Deal) : g7 (f, l, ride, ()) = some ((true, ()), ()) := by
  have hfu := fuel_ge
  have e0 : g7 (f, l, ride, ()) = F7 fuel f l ride := rfl
  rw [e0]
  obtain ⟨at', kd, a, b, n⟩ := ride
  unfold F7
  rw [g21_eq, derefK_some]
  simp only
  cases decide (40 < l.length) && decide (l.length ≤ 200) with
  | true => exact works_k
  | false =>
  rw [cond_false]
  by_cases hl : l.length ≥ 200
  · rw [dec_t (by omega), cond_true]
    exact works_k
  rw [dec_f (by omega), cond_false, g22_eq f hs l, derefK_some]
  have hlast : l.length > 0 → gd l (IntKind.wrap .i64 ((l.length : Int) - 1)) = gd l ((l.length - 1 : Nat) : Int) ∧ (gd l ((l.length - 1 : Nat) : Int)).1 = lastT l l.length := fun h => by
    rw [wI (by omega) (by omega), show (l.length : Int) - 1 = ((l.length - 1 : Nat) : Int) by omega]
    refine ⟨rfl, ?_⟩
    obtain ⟨m, hm⟩ : ∃ m, l.length = m + 1 := ⟨l.length - 1, by omega⟩
    rw [hm]
    rfl
  have hzero : ¬ l.length > 0 → lastT l l.length = 0 := fun h => by rw [show l.length = 0 by omega]; rfl
  by_cases hpos : l.length > 0
  all_goals
    first
      | rw [dec_t (show (l.length : Int) > 0 by omega), cond_true, getI_gd (by rw [wI (by omega) (by omega)]; omega) (by rw [wI (by omega) (by omega)]; omega), (hlast hpos).1]
        simp only
        rw [(hlast hpos).2]
      | rw [dec_f (show ¬ (l.length : Int) > 0 by omega), cond_false]
        simp only
        have hz := hzero hpos
    cases hw : wrong f l with
    | some x =>
      simp only
      rw [bne_iff_ne.2 (wrong_ne hw), cond_true]
      exact works_k
    | none =>
      obtain ⟨hf, _, _, hb⟩ := wrong_none hw
      have hI := Inv.all hf l l.length hb
      have hsn := wrong_snoc (d := (at', 2, a, b, n)) hw (by omega)
      have e22 := g22_eq f hs (l ++ [(at', 2, a, b, n)])
      rw [stC_snoc] at e22
      have hlen1 : ∀ {R : Type} (k : Option R), lenK (l.length : Int) k = k := fun k => lenK_in (by omega) (by omega) k
      simp only
      rw [show ((0 : Int) != 0) = false from rfl, cond_false]
      by_cases c1 : at' < lastT l l.length
      · first
          | rw [dec_t c1, cond_true]
            exact works_k
          | rw [dec_t (show at' < 0 by omega), cond_true]
            exact works_k
      first
        | rw [dec_f c1, cond_false]
        | rw [dec_f (show ¬ at' < 0 by omega), cond_false]
      by_cases c2 : at' > 1440
      · rw [dec_t c2, cond_true]
        exact works_k
      rw [dec_f c2, cond_false]
      by_cases c3 : a < 0
      · rw [dec_t c3, cond_true]
        exact works_k
      rw [dec_f c3, cond_false]
      revert hsn e22 hI
      generalize stC f l l.length = c
      intro hI hsn e22
      by_cases c4 : a ≥ (c.2.2.1.length : Int)
      · rw [dec_t c4, cond_true]
        exact works_k
      rw [dec_f c4, cond_false]
      by_cases c5 : b < 0
      · rw [dec_t c5, cond_true]
        exact works_k
      rw [dec_f c5, cond_false]
      by_cases c6 : b ≥ (c.2.2.2.1.length : Int)
      · rw [dec_t c6, cond_true]
        exact works_k
      rw [dec_f c6, cond_false]
      by_cases c7 : n < 0
      · rw [dec_t c7, cond_true]
        exact works_k
      rw [dec_f c7, cond_false]
      by_cases c8 : n > 1000
      · rw [dec_t c8, cond_true]
        exact works_k
      rw [dec_f c8, cond_false]
      have hr : rng at' (lastT l l.length) 1440 = true := rng_iff.2 ⟨by omega, by omega⟩
      have hok : okD f c (at', 2, a, b, n) = (decide (at' < (gd c.2.2.1 a).2) || decide (n ≤ (gd c.2.2.1 a).1)) := by
        unfold okD
        simp only [Int.reduceBEq, cond_true, cond_false]
        rw [rng_iff.2 (show 0 ≤ a ∧ a ≤ (c.2.2.1.length : Int) - 1 by omega), rng_iff.2 (show 0 ≤ b ∧ b ≤ (c.2.2.2.1.length : Int) - 1 by omega), rng_iff.2 (show 0 ≤ n ∧ n ≤ 1000 by omega)]
        rfl
      rw [hr, Bool.true_and, hok] at hsn
      rw [hsn] at e22
      simp only [enumK_eq, hlen1, e22, derefK_some, agreeK_two, agreeK_one]
      rw [lenK_in (by simp; omega) (by simp; omega), getI_gd (by omega) (by omega)]
      have n2 := hI.np _ (gd_mem (l := c.2.2.1) (i := a) (by omega) (by omega))
      have n3 := hI.nb _ (gd_mem (l := c.2.2.2.1) (i := b) (by omega) (by omega))
      have n5 := mem_le_sumP hI.np (gd_mem (l := c.2.2.1) (i := a) (by omega) (by omega))
      have n6 := mem_le_sum hI.nb (gd_mem (l := c.2.2.2.1) (i := b) (by omega) (by omega))
      have n7 := sum_nn hI.ns
      have n8 := sumP_nn hI.np
      have n9 := sum_nn hI.nb
      have n10 := hI.nl
      have hsum := hf.sum
      have htt := hI.tt
      unfold tot at htt
      by_cases hlt : at' < (gd c.2.2.1 a).2
      · rw [dec_t hlt, cond_true, Bool.true_or, if_pos rfl]
        have hst : stepD f c (at', 2, a, b, n) = c := by
          unfold stepD
          simp only [Int.reduceBEq, cond_true, cond_false]
          rw [dec_t hlt, cond_true]
        have h1 := hI.ls
        have h2 := hI.lc
        have h3 := hI.lp
        have h4 := hI.lb
        have m1 := hf.s8
        have m2 := hf.p1
        have m3 := hf.b1
        simp only
        rw [hst, g25_eq c c (by omega) (by omega) (by omega) (by omega), derefK_some, dec_t rfl]
        exact works_k
      · rw [dec_f hlt, cond_false, Bool.false_or]
        by_cases hle : n ≤ (gd c.2.2.1 a).1
        · rw [dec_t hle, dec_f (p := (gd c.2.2.1 a).1 < n) (by omega), cond_false, if_pos rfl]
          have hst : stepD f c (at', 2, a, b, n) = (c.1, c.2.1, mv c.2.2.1 a (-n), ad c.2.2.2.1 b n, c.2.2.2.2) := by
            unfold stepD
            simp only [Int.reduceBEq, cond_true, cond_false]
            rw [dec_f hlt, cond_false]
          have ga : gd (mv c.2.2.1 a (-n)) a = ((gd c.2.2.1 a).1 + -n, (gd c.2.2.1 a).2) := gd_set_self (by omega) (by omega)
          have gb : gd (ad c.2.2.2.1 b n) b = gd c.2.2.2.1 b + n := gd_set_self (by omega) (by omega)
          simp only
          rw [hst]
          simp only
          rw [len_mv, len_ad, beq_self_eq_true, beq_self_eq_true, beq_self_eq_true, cond_true, cond_true, cond_true, getI_gd (by omega) (by rw [len_mv]; omega), ga, wI (by omega) (by omega)]
          simp only
          rw [← Int.sub_eq_add_neg, beq_self_eq_true, cond_true, getI_gd (by omega) (by rw [len_ad]; omega), gb, getI_gd (by omega) (by omega), wI (by omega) (by omega), beq_self_eq_true, cond_true]
          exact works_k
        · rw [dec_f hle, dec_t (p := (gd c.2.2.1 a).1 < n) (by omega), cond_true, if_neg (by decide)]
          exact works_k
end Go.Proofs.Try.V
