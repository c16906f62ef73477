/- Plain laws of layer 1: TokensGroups. No condition beyond those typed in each theorem. -/
import Derived.Test.YtlhapfgcnfooeaaLw21
namespace Go.Proofs.Try.V
open Go.Vi
set_option maxRecDepth 100000

theorem g43_of {f : Fair} (hs : Sized f) (hv : fairOK f = true) {n : Int} (h0 : 0 ≤ n) (h1 : n ≤ 1000) : g43 (f, n, ()) = some (((buyOf f n).1, (buyOf f n).2.1, (buyOf f n).2.2, ()), ()) := by
  obtain ⟨_, h⟩ := g14_of f hs n
  have e0 : g14 (f, n, ()) = F14 fuel f n := rfl
  rw [e0] at h
  unfold F14 at h
  rw [g18_eq f hs, hv, derefK_some, g42_eq, rng_iff.2 ⟨h0, h1⟩] at h
  obtain ⟨hl, hk⟩ := fairOK_fine hv
  obtain ⟨m, rfl⟩ : ∃ m : Nat, n = m := ⟨n.toNat, by omega⟩
  rcases g43_eq f hl hk m (by omega) with ⟨_, h2⟩ | ⟨r, p, _, h2⟩
  · have h' : derefK (g43 (f, (m : Int), ())) (fun y3 => some ((y3.1.1, y3.1.2.1, y3.1.2.2.1, ()), ())) = _ := h
    rw [h2] at h' ⊢
    exact h'
  · have h' : derefK (g43 (f, (m : Int), ())) (fun y3 => some ((y3.1.1, y3.1.2.1, y3.1.2.2.1, ()), ())) = _ := h
    rw [h2] at h' ⊢
    exact h'
theorem first_all {l : List Int} {p : Int → Bool} : l.all p = (first l.length (fun i => !p (gd l (i : Int)))).isNone := by
  cases hq : first l.length (fun i => !p (gd l (i : Int))) with
  | none =>
    rw [first_none] at hq
    show _ = true
    rw [List.all_eq_true]
    intro x hx
    obtain ⟨i, hi⟩ := List.mem_iff_getElem?.1 hx
    have h1 := hq i (List.getElem?_eq_some_iff.1 hi).1
    rw [gd_of hi, Bool.not_eq_false'] at h1
    exact h1
  | some i =>
    rw [first_some] at hq
    show _ = false
    rw [List.all_eq_false]
    refine ⟨_, gd_mem (l := l) (i := (i : Int)) (by omega) (by omega), ?_⟩
    have := hq.2.1
    rw [Bool.not_eq_true'] at this
    rw [this]
    decide
theorem all_nn {l : List Int} (h : l.all (rng · 0 1000) = true) : ∀ x ∈ l, 0 ≤ x ∧ x ≤ 1000 := fun x hx => by
  rw [List.all_eq_true] at h
  exact rng_iff.1 (h x hx)
theorem pre_nn {l : List Int} {i : Nat} (hi : i ≤ l.length) (hq : ∀ j, j < i → (!rng (gd l (j : Int)) 0 1000) = false) : 0 ≤ (l.take i).sum ∧ (l.take i).sum ≤ 1000 * i := by
  induction i with
  | zero => simp
  | succ i ih =>
    have h1 := ih (by omega) fun j hj => hq j (by omega)
    have h2 := hq i (by omega)
    rw [Bool.not_eq_false', rng_iff] at h2
    rw [sum_take (by omega)]
    omega
theorem g62_eq (l : List Int) (hl : l.length ≤ 1048576) : g62 (l, ()) = some ((if l.all (rng · 0 1000) then (l.sum, decide (l.sum ≤ 1000), ()) else (0, false, ())), ()) := by
  have hfu := fuel_ge
  have e0 : g62 (l, ()) = F62 fuel l := rfl
  rw [e0]
  unfold F62
  have h := loopFirst (L := L62_3) (fun i => (((l.take i).sum, l, (l.length : Int), (i : Int), ()), (), ())) l.length (fun i => !rng (gd l (i : Int)) 0 1000) (fun _ => .inl ((0, false, ()), (), ())) (.inr ((l.sum, ()), (), ())) 0 (N := fuel) (by omega)
    (fun N _ => by simp only [L62_3, B62_3]; rw [dec_f (by omega), cond_false, List.take_length])
    (fun N i _ hi hq => by
      have b0 := pre_nn (by omega) hq
      simp only [L62_3, B62_3]
      rw [dec_t (by omega), cond_true, getI_gd (by omega) (by omega), g42_eq, derefK_some]
      cases hq1 : rng (gd l (i : Int)) 0 1000 with
      | false => rfl
      | true =>
        rw [rng_iff] at hq1
        rw [sum_take hi, wI (x := (i : Int) + 1) (by omega) (by omega), wI (by omega) (by omega)]
        rfl)
  have h' : L62_3 fuel ((0, l, (l.length : Int), 0, ()), (), ()) = _ := h
  rw [h', derefK_some, first_all (p := (rng · 0 1000))]
  cases first l.length (fun i => !rng (gd l (i : Int)) 0 1000) <;> rfl
theorem g57_needs (l : List Int) (hl : l.length ≤ 1000) (h : l.all (rng · 0 1000) = true) : g57 (l, ()) = some ((l.sum, ()), ()) := by
  have h1 := all_nn h
  have h2 := sum_le fun x hx => (h1 x hx).2
  exact g57_eq l (by omega) (nn_bound (fun x hx => (h1 x hx).1) (Int.le_refl _) (by omega))

/-! ## Worth -/
noncomputable def worthR (f : Fair) (l : List Int) : Bool × Int × Int × Unit :=
  if fairOK f = false then (false, 0, 10, ()) else if (l.all (rng · 0 1000) && (decide (l.length ≤ 100) && decide (l.sum ≤ 1000))) = false then (false, 0, 1, ()) else if (buyOf f l.sum).2.2 ≠ 0 then (false, 0, (buyOf f l.sum).2.2, ()) else (decide (f.2.2.2.2.2.2.1 < (buyOf f l.sum).2.1), max (IntKind.wrap .i64 (f.2.2.2.2.2.2.1 - (buyOf f l.sum).2.1)) (IntKind.wrap .i64 ((buyOf f l.sum).2.1 - f.2.2.2.2.2.2.1)), 0, ())
theorem g38_eq (f : Fair) (hs : Sized f) (l : List Int) (hl : l.length ≤ 1048576) : g38 (f, l, ()) = some (worthR f l, ()) := by
  have e0 : g38 (f, l, ()) = F38 fuel f l := rfl
  rw [e0]
  unfold F38 worthR
  rw [g18_eq f hs, g62_eq l hl, derefK_some]
  cases hv : fairOK f with
  | false => rfl
  | true =>
  rw [if_pos rfl, if_neg (show ¬ ((true : Bool) = false) by decide)]
  simp only
  rw [show ((0 : Int) != 0) = false from rfl, cond_false, derefK_some]
  cases ha : l.all (rng · 0 1000) with
  | false => rfl
  | true =>
  rw [if_pos rfl, Bool.true_and]
  by_cases h1 : l.sum ≤ 1000
  · rw [dec_t h1]
    by_cases h2 : l.length ≤ 100
    · rw [dec_t h2, dec_f (p := (l.length : Int) > 100) (by omega), if_neg (by decide)]
      simp only [Bool.not_true, cond_false]
      rw [g43_of hs hv (sum_nn fun x hx => (all_nn ha x hx).1) h1, derefK_some]
      by_cases h3 : (buyOf f l.sum).2.2 = 0
      · rw [h3, bne_self_eq_false, cond_false, if_neg (by decide)]
        rfl
      · rw [bne_iff_ne.2 h3, cond_true, if_pos h3]
    · rw [dec_f h2, dec_t (p := (l.length : Int) > 100) (by omega)]
      rfl
  · rw [dec_f h1, Bool.and_false]
    rfl
theorem g39_eq (f : Fair) (hs : Sized f) (l : List Int) (_hl : l.length ≤ 1048576) : g39 (f, l, ()) = some (worthR f l, ()) := by
  have hfu := fuel_ge
  have e0 : g39 (f, l, ()) = F39 fuel f l := rfl
  rw [e0]
  unfold F39 worthR
  rw [g19_eq f hs, derefK_some]
  cases hv : fairOK f with
  | false => rfl
  | true =>
  rw [if_pos rfl, if_neg (show ¬ ((true : Bool) = false) by decide)]
  simp only
  rw [show ((0 : Int) != 0) = false from rfl, cond_false]
  by_cases h2 : l.length ≤ 100
  case neg =>
    rw [dec_t (p := (l.length : Int) > 100) (by omega), cond_true, dec_f h2, Bool.false_and, Bool.and_false, if_pos rfl]
  rw [dec_f (p := (l.length : Int) > 100) (by omega), cond_false, dec_t h2, Bool.true_and]
  have h := loopFirst (L := L39_7) (fun i => ((l, f, (i : Int), ()), (), ())) l.length (fun i => !rng (gd l (i : Int)) 0 1000) (fun _ => .inl ((false, 0, 1, ()), (), ())) (.inr ((l, f, ()), (), ())) 0 (N := fuel) (by omega)
    (fun N _ => by simp only [L39_7, B39_7]; rw [dec_f (by omega), cond_false])
    (fun N i _ hi hq => by
      simp only [L39_7, B39_7]
      rw [dec_t (by omega), cond_true, getI_gd (by omega) (by omega), g44_eq, derefK_some]
      cases rng (gd l (i : Int)) 0 1000 with
      | false => rfl
      | true =>
        rw [wI (x := (i : Int) + 1) (by omega) (by omega)]
        rfl)
  have h' : L39_7 fuel ((l, f, 0, ()), (), ()) = _ := h
  rw [h', derefK_some]
  have hall := first_all (l := l) (p := (rng · 0 1000))
  cases hq : first l.length (fun i => !rng (gd l (i : Int)) 0 1000) with
  | some i =>
    rw [hq] at hall
    have hall : l.all (rng · 0 1000) = false := hall
    rw [hall]
    rfl
  | none =>
    rw [hq] at hall
    have hall : l.all (rng · 0 1000) = true := hall
    rw [hall, Bool.true_and]
    simp only [sumK_inr, enumK_eq]
    rw [g57_needs l (by omega) hall, derefK_some]
    simp only
    rw [g15_of f hs, derefK_some]
    simp only [agreeK_two, agreeK_one]
    obtain ⟨hb, _⟩ := g14_of f hs l.sum
    by_cases h1 : l.sum ≤ 1000
    · rw [dec_t h1, if_neg (by decide)]
      by_cases h3 : (buyOf f l.sum).2.2 = 0
      · rw [h3, bne_self_eq_false, cond_false, if_neg (by decide), bindV_eq, Int.max_comm]
      · rw [bne_iff_ne.2 h3, cond_true, if_pos h3]
    · have e : buyOf f l.sum = ([], 0, 1) := by
        refine BuyR.of ?_
        unfold BuyR
        rw [if_neg (by rw [hv]; decide), if_pos (rng_f.2 (by omega))]
      rw [dec_f h1, if_pos rfl, e]
      rfl

/-! ## Share -/
noncomputable def alone (f : Fair) (l : List Int) : List Int := l.map fun n => (buyOf f n).2.1
noncomputable def shareR (f : Fair) (l : List Int) : Int × Int × Int × Unit :=
  if fairOK f = false then (0, 0, 10, ()) else if (l.all (rng · 0 1000) && (rng l.length 1 20 && decide (l.sum ≤ 1000))) = false then (0, 0, 1, ()) else if (buyOf f l.sum).2.2 ≠ 0 then (0, 0, (buyOf f l.sum).2.2, ()) else ((buyOf f l.sum).2.1, (alone f l).sum - (buyOf f l.sum).2.1, 0, ())
theorem gd_alone {f : Fair} {l : List Int} {i : Nat} (h : i < l.length) : gd (alone f l) (i : Int) = (buyOf f (gd l (i : Int))).2.1 := gd_of (by unfold alone; rw [List.getElem?_map, gd_nat h]; rfl)
theorem alone_nn {f : Fair} (hs : Sized f) {l : List Int} : ∀ x ∈ alone f l, 0 ≤ x ∧ x ≤ 2000000000 := fun x hx => by
  obtain ⟨n, _, rfl⟩ := List.mem_map.1 hx
  exact (g14_of f hs n).1.price
theorem alone_len {f : Fair} {l : List Int} : (alone f l).length = l.length := List.length_map ..
theorem alone_sum {f : Fair} (hs : Sized f) {l : List Int} (hl : l.length ≤ 20) (i : Nat) : 0 ≤ ((alone f l).take i).sum ∧ ((alone f l).take i).sum ≤ 40000000000 := by
  have h1 := sum_take_le (fun x hx => (alone_nn hs x hx).1) i (l := alone f l)
  have h2 := sum_le fun x hx => (alone_nn hs (l := l) x hx).2
  rw [alone_len] at h2
  omega
theorem buyOf_less {f : Fair} (hs : Sized f) {n m : Int} (h : (buyOf f n).2.2 = 0) (h0 : 0 ≤ m) (h1 : m ≤ n) : (buyOf f m).2.2 = 0 := by
  obtain ⟨hv, n0, n1, hne, _⟩ := (g14_of f hs n).1.ok h
  have hb := (g14_of f hs m).1
  unfold BuyR at hb
  rw [if_neg (by rw [hv]; decide), if_neg (by rw [rng_iff.2 ⟨h0, by omega⟩]; decide), if_neg (fun e => hne ⟨e.1, by omega⟩)] at hb
  exact hb.1
theorem g33_eq (f : Fair) (hs : Sized f) (l : List Int) (hl : l.length ≤ 1048576) : g33 (f, l, ()) = some (shareR f l, ()) := by
  have hfu := fuel_ge
  have e0 : g33 (f, l, ()) = F33 fuel f l := rfl
  rw [e0]
  unfold F33 shareR
  rw [g18_eq f hs, g62_eq l hl, derefK_some]
  cases hv : fairOK f with
  | false => rfl
  | true =>
  rw [if_pos rfl, if_neg (show ¬ ((true : Bool) = false) by decide)]
  simp only
  rw [show ((0 : Int) != 0) = false from rfl, cond_false, derefK_some]
  cases ha : l.all (rng · 0 1000) with
  | false => rfl
  | true =>
  rw [if_pos rfl, Bool.true_and]
  by_cases h1 : l.sum ≤ 1000
  case neg =>
    rw [dec_f h1, Bool.and_false]
    rfl
  rw [dec_t h1, Bool.and_true]
  simp only [Bool.not_true, cond_false]
  rw [g42_eq, derefK_some]
  cases hr : rng (l.length : Int) 1 20 with
  | false => rfl
  | true =>
  rw [rng_iff] at hr
  rw [if_neg (by decide)]
  simp only [Bool.not_true, cond_false]
  have hnn := all_nn ha
  rw [g43_of hs hv (sum_nn fun x hx => (hnn x hx).1) h1, derefK_some]
  by_cases h3 : (buyOf f l.sum).2.2 = 0
  case neg => rw [bne_iff_ne.2 h3, cond_true, if_pos h3]
  rw [h3, bne_self_eq_false, cond_false, if_neg (by decide)]
  have hp := (g14_of f hs l.sum).1.price
  have hb := alone_sum (f := f) hs (l := l) (by omega)
  have a := loopF (L := L33_12) (fun i => (((buyOf f l.sum).2.1, -(buyOf f l.sum).2.1 + ((alone f l).take i).sum, l, (l.length : Int), (i : Int), ()), (f, ()), ())) (.inr (((buyOf f l.sum).2.1, -(buyOf f l.sum).2.1 + (alone f l).sum, ()), (), ())) 0 l.length (N := fuel) (by omega)
    (fun N => by simp only [L33_12, B33_12]; rw [dec_f (by omega), cond_false, ← alone_len (f := f), List.take_length])
    (fun N i _ hi => by
      have hm := gd_mem (l := l) (i := (i : Int)) (by omega) (by omega)
      have hg := hnn _ hm
      have hle := mem_le_sum (fun x hx => (hnn x hx).1) hm
      have b0 := hb i
      have b1 := hb (i + 1)
      rw [sum_take (by rw [alone_len]; exact hi), gd_alone hi] at b1
      simp only [L33_12, B33_12]
      rw [dec_t (by omega), cond_true, getI_gd (by omega) (by omega), g43_of hs hv hg.1 (by omega), derefK_some]
      simp only
      rw [buyOf_less hs h3 hg.1 hle, bne_self_eq_false, cond_false, wI (x := (i : Int) + 1) (by omega) (by omega), wI (by omega) (by omega), sum_take (by rw [alone_len]; exact hi), gd_alone hi, Int.add_assoc]
      rfl)
  rw [List.take_zero, List.sum_nil, Int.add_zero] at a
  have a' : L33_12 fuel (((buyOf f l.sum).2.1, -(buyOf f l.sum).2.1, l, (l.length : Int), 0, ()), (f, ()), ()) = some (.inr (((buyOf f l.sum).2.1, -(buyOf f l.sum).2.1 + (alone f l).sum, ()), (), ())) := a
  simp only
  rw [Int.zero_sub, wI (x := -(buyOf f l.sum).2.1) (by omega) (by omega), a', derefK_some, sumK_inr]
  simp only
  rw [show -(buyOf f l.sum).2.1 + (alone f l).sum = (alone f l).sum - (buyOf f l.sum).2.1 by omega]
theorem g40_eq (f : Fair) (hs : Sized f) (l : List Int) (_hl : l.length ≤ 1048576) : g40 (f, l, ()) = some (shareR f l, ()) := by
  have hfu := fuel_ge
  have e0 : g40 (f, l, ()) = F40 fuel f l := rfl
  rw [e0]
  unfold F40 shareR
  rw [g19_eq f hs, derefK_some]
  cases hv : fairOK f with
  | false => rfl
  | true =>
  rw [if_pos rfl, if_neg (show ¬ ((true : Bool) = false) by decide)]
  simp only
  rw [show ((0 : Int) != 0) = false from rfl, cond_false, g44_eq, derefK_some]
  cases hr : rng (l.length : Int) 1 20 with
  | false =>
    rw [Bool.false_and, Bool.and_false]
    rfl
  | true =>
  rw [rng_iff] at hr
  simp only [Bool.not_true, cond_false, Bool.true_and]
  have h := loopFirst (L := L40_7) (fun i => ((l, f, (i : Int), ()), (), ())) l.length (fun i => !rng (gd l (i : Int)) 0 1000) (fun _ => .inl ((0, 0, 1, ()), (), ())) (.inr ((l, f, ()), (), ())) 0 (N := fuel) (by omega)
    (fun N _ => by simp only [L40_7, B40_7]; rw [dec_f (by omega), cond_false])
    (fun N i _ hi hq => by
      simp only [L40_7, B40_7]
      rw [dec_t (by omega), cond_true, getI_gd (by omega) (by omega), g44_eq, derefK_some]
      cases rng (gd l (i : Int)) 0 1000 with
      | false => rfl
      | true =>
        rw [wI (x := (i : Int) + 1) (by omega) (by omega)]
        rfl)
  have h' : L40_7 fuel ((l, f, 0, ()), (), ()) = _ := h
  rw [h', derefK_some]
  have hall := first_all (l := l) (p := (rng · 0 1000))
  cases hq : first l.length (fun i => !rng (gd l (i : Int)) 0 1000) with
  | some i =>
    rw [hq] at hall
    have hall : l.all (rng · 0 1000) = false := hall
    rw [hall]
    rfl
  | none =>
    rw [hq] at hall
    have hall : l.all (rng · 0 1000) = true := hall
    rw [hall, Bool.true_and]
    simp only [sumK_inr, enumK_eq]
    rw [g57_needs l (by omega) hall, derefK_some]
    simp only
    rw [g15_of f hs, derefK_some]
    simp only [agreeK_two, agreeK_one]
    have hnn := all_nn hall
    by_cases h1 : l.sum ≤ 1000
    case neg =>
      have e : buyOf f l.sum = ([], 0, 1) := by
        refine BuyR.of ?_
        unfold BuyR
        rw [if_neg (by rw [hv]; decide), if_pos (rng_f.2 (by omega))]
      rw [dec_f h1, if_pos rfl, e]
      rfl
    rw [dec_t h1, if_neg (by decide)]
    by_cases h3 : (buyOf f l.sum).2.2 = 0
    case neg => rw [bne_iff_ne.2 h3, cond_true, if_pos h3]
    rw [h3, bne_self_eq_false, cond_false, if_neg (by decide)]
    have hp := (g14_of f hs l.sum).1.price
    have hb := alone_sum (f := f) hs (l := l) (by omega)
    have a := loopF (L := L40_16) (fun i => ((l, f, (buyOf f l.sum).2.1, ((alone f l).take i).sum, (i : Int), ()), (), ())) (((buyOf f l.sum).2.1, (alone f l).sum, ()), (), ()) 0 l.length (N := fuel) (by omega)
      (fun N => by simp only [L40_16, B40_16]; rw [dec_f (by omega), cond_false, ← alone_len (f := f), List.take_length])
      (fun N i _ hi => by
        have b0 := hb i
        have b1 := hb (i + 1)
        rw [sum_take (by rw [alone_len]; exact hi), gd_alone hi] at b1
        have g1 : ∀ {R : Type} (k : Int → Option R), getI l (i : Int) k = k (gd l (i : Int)) := fun k => getI_gd (by omega) (by omega) k
        simp only [L40_16, B40_16]
        rw [dec_t (by omega), cond_true]
        simp only [enumK_eq, g1, g15_of f hs, derefK_some, agreeK_two, agreeK_one]
        rw [wI (x := (i : Int) + 1) (by omega) (by omega), wI (by omega) (by omega), sum_take (by rw [alone_len]; exact hi), gd_alone hi]
        rfl)
    have a' : L40_16 fuel ((l, f, (buyOf f l.sum).2.1, 0, 0, ()), (), ()) = _ := a
    have hs1 := hb l.length
    rw [← alone_len (f := f), List.take_length] at hs1
    rw [a', derefK_some]
    simp only
    rw [wI (by omega) (by omega)]

/-- TokensGroups. -/
theorem law12 (f : Fair) (hs : Sized f) (l : List Int) (hl : l.length ≤ 1048576) : g12 (f, l, ()) = some ((true, ()), ()) := by
  have e0 : g12 (f, l, ()) = F12 fuel f l := rfl
  rw [e0]
  unfold F12
  rw [g38_eq f hs l hl, g39_eq f hs l hl, g33_eq f hs l hl, g40_eq f hs l hl]
  simp only [derefK_some, beq_self_eq_true, bne_self_eq_false, Bool.not_true, cond_false, cond_true]
  exact works_k
end Go.Proofs.Try.V
