/- Plain laws of layer 1: TokensBegin. No condition beyond those typed in each theorem. -/
import Derived.Test.YtlhapfgcnfooeaaLw24
namespace Go.Proofs.Try.V
open Go.Vi
set_option maxRecDepth 100000

theorem unl_no (n : Nat) : unl n (fun _ => false) = [] := by
  induction n with
  | zero => rfl
  | succ n ih => rw [unl_succ, if_neg (by decide), ih]
theorem unl_is {n i : Nat} (h : i < n) : unl n (fun j => decide (j = i)) = [(i : Int)] := by
  induction n with
  | zero => exact absurd h (by omega)
  | succ n ih =>
    rw [unl_succ]
    by_cases e : n = i
    · rw [e, if_pos (decide_eq_true rfl), unl_congr (q := fun _ => false) fun j hj => decide_eq_false (by omega), unl_no]
      rfl
    · rw [if_neg (by rw [decide_eq_true_iff]; exact e), ih (by omega)]
theorem audit_eq {f : Fair} {l : List Deal} (hw : wrong f l = none) {c : Cnt} (hc : stC f l l.length = c) {d : Cnt} (hfit : fits c d) (p1 p2 p3 : Nat → Bool) (h1 : ∀ j, j < c.1.length → dif1 c d j = p1 j) (h2 : ∀ j, j < c.2.2.1.length → dif2 c d j = p2 j) (h3 : ∀ j, j < c.2.2.2.1.length → dif3 c d j = p3 j) :
    auditR f l d = (unl c.1.length p1, unl c.2.2.1.length p2, unl c.2.2.2.1.length p3, 0, ()) := by
  unfold auditR
  rw [hw]
  simp only
  rw [hc, if_pos hfit, unl_congr h1, unl_congr h2, unl_congr h3]
theorem dif1_no (c : Cnt) (j : Nat) (x : List (Int × Int)) (y : List Int) : dif1 c (c.1, (c.2.1, (x, (y, c.2.2.2.2)))) j = false := by
  unfold dif1
  rw [bne_self_eq_false, bne_self_eq_false]
  rfl
theorem dif2_no (c : Cnt) (j : Nat) (x y z : List Int) : dif2 c (x, (y, (c.2.2.1, (z, c.2.2.2.2)))) j = false := by
  unfold dif2
  rw [beq_self_eq_true, beq_self_eq_true]
  rfl
theorem dif3_no (c : Cnt) (j : Nat) (x y : List Int) (z : List (Int × Int)) : dif3 c (x, (y, (z, (c.2.2.2.1, c.2.2.2.2)))) j = false := by
  unfold dif3
  rw [bne_self_eq_false]
theorem gd_setI {α : Type} [Inhabited α] {l : List α} {i j : Nat} {x : α} (hi : i < l.length) : gd (l.set ((i : Int)).toNat x) (j : Int) = if j = i then x else gd l (j : Int) := by
  by_cases e : j = i
  · rw [if_pos e, e, gd_set_self (by omega) (by omega)]
  · rw [if_neg e, gd_set_ne (by omega) (by omega) (by omega)]
theorem tmod_at (t : Int) {n : Nat} (hn : n ≤ 200) : ∃ m : Nat, m ≤ n ∧ Int.tmod (IntKind.wrap .i64 (IntKind.wrap .i64 (Int.tmod t (IntKind.wrap .i64 ((n : Int) + 1)) + (n : Int)) + 1)) (IntKind.wrap .i64 ((n : Int) + 1)) = (m : Int) := by
  rw [wI (x := (n : Int) + 1) (by omega) (by omega)]
  have a1 := Int.tmod_lt_of_pos t (b := (n : Int) + 1) (by omega)
  have a2 := Int.lt_tmod_of_pos t (b := (n : Int) + 1) (by omega)
  rw [wI (x := Int.tmod t ((n : Int) + 1) + (n : Int)) (by omega) (by omega), wI (x := Int.tmod t ((n : Int) + 1) + (n : Int) + 1) (by omega) (by omega)]
  have b1 := Int.tmod_nonneg (a := Int.tmod t ((n : Int) + 1) + (n : Int) + 1) ((n : Int) + 1) (by omega)
  have b2 := Int.tmod_lt_of_pos (Int.tmod t ((n : Int) + 1) + (n : Int) + 1) (b := (n : Int) + 1) (by omega)
  exact ⟨(Int.tmod (Int.tmod t ((n : Int) + 1) + (n : Int) + 1) ((n : Int) + 1)).toNat, by omega, by omega⟩
theorem wrap_pred (x : Int) : ¬ x = IntKind.wrap .i64 (x - 1) := by
  intro h
  have e : IntKind.wrap .i64 (x - 1) = if (x - 1) % 18446744073709551616 ≥ 9223372036854775808 then (x - 1) % 18446744073709551616 - 18446744073709551616 else (x - 1) % 18446744073709551616 := by
    show (if (true && decide ((x - 1) % 18446744073709551616 ≥ 9223372036854775808)) = true then _ else _) = _
    rw [Bool.true_and]
    by_cases c : (x - 1) % 18446744073709551616 ≥ 9223372036854775808
    · rw [decide_eq_true c, if_pos rfl, if_pos c]
      rfl
    · rw [decide_eq_false c, if_neg (by decide), if_neg c]
      rfl
  rw [e] at h
  split at h <;> omega
theorem len0 {a b : List Int} (ha : a = []) (hb : b = []) : decide (IntKind.wrap .i64 ((a.length : Int) + (b.length : Int)) > 0) = false := by
  rw [ha, hb]
  decide
/-- TokensBegin. -/
theorem law13 (f : Fair) (hs : Sized f) (l : List Deal) (t : Int) : g13 (f, l, t, ()) = some ((true, ()), ()) := by
  have hfu := fuel_ge
  have e0 : g13 (f, l, t, ()) = F13 fuel f l t := rfl
  rw [e0]
  unfold F13
  rw [g21_eq, derefK_some]
  simp only
  cases decide (40 < l.length) && decide (l.length ≤ 200) with
  | true => exact works_k
  | false =>
  rw [cond_false, g22_eq f hs l, derefK_some]
  cases hw : wrong f l with
  | some x =>
    simp only
    rw [bne_iff_ne.2 (wrong_ne hw), cond_true]
    exact works_k
  | none =>
  obtain ⟨hf, _, hl, hb⟩ := wrong_none hw
  obtain ⟨c, hc⟩ : ∃ c, stC f l l.length = c := ⟨_, rfl⟩
  have hI := Inv.all hf l l.length hb
  have hcl := play_len hw (Nat.le_refl _) hc
  rw [hc] at hI
  have q1 := hI.ls
  have q2 := hI.lc
  have q3 := hI.lp
  have q4 := hI.lb
  have m1 := hf.s8
  have m2 := hf.p1
  have m3 := hf.b1
  obtain ⟨n, hn, en⟩ := tmod_at t hl
  simp only
  rw [show ((0 : Int) != 0) = false from rfl, cond_false, hc, nzK_in (by rw [wI (by omega) (by omega)]; omega), nzK_in (by rw [wI (by omega) (by omega)]; omega), bindV_eq, en]
  obtain ⟨w1, _⟩ := wrong_take hw n hn
  have e28 := g28_eq f hs (l.take n)
  rw [w1] at e28
  simp only at e28
  have hm := upTo_le l t
  obtain ⟨w2, w3⟩ := wrong_take hw (upTo l t) hm
  have e22 := g22_eq f hs (l.take (upTo l t))
  rw [w2] at e22
  simp only at e22
  rw [w3] at e22
  have e36 := g36_eq f hs l t
  rw [hw] at e36
  simp only at e36
  have h1 := loopFirst (L := L13_11) (fun i => ((l, t, f, (i : Int), ()), (c, ()), ())) l.length (fun i => decide ((gd l (i : Int)).1 > t)) (fun i => ((l, t, f, (i : Int), ()), (c, ()), ())) ((l, t, f, (l.length : Int), ()), (c, ()), ()) 0 (N := fuel) (by omega)
    (fun N _ => by simp only [L13_11, B13_11]; rw [dec_f (by omega), cond_false])
    (fun N i _ hi _ => by
      simp only [L13_11, B13_11]
      rw [dec_t (by omega), cond_true, getI_gd (by omega) (by omega), wI (by omega) (by omega)]
      by_cases c : (gd l (i : Int)).1 ≤ t
      · rw [dec_t c, dec_f (p := (gd l (i : Int)).1 > t) (by omega)]; rfl
      · rw [dec_f c, dec_t (p := (gd l (i : Int)).1 > t) (by omega)]; rfl)
  have h1' : L13_11 fuel ((l, t, f, 0, ()), (c, ()), ()) = some ((l, t, f, (upTo l t : Int), ()), (c, ()), ()) := by
    refine h1.trans ?_
    unfold upTo
    cases first l.length (fun i => decide ((gd l (i : Int)).1 > t)) <;> rfl
  have e25 := same_cnt (play_len hw hm rfl)
  have a0 : auditR f l c = ([], [], [], 0, ()) := by
    rw [audit_eq hw hc (d := c) ⟨rfl, rfl, rfl, rfl⟩ (fun _ => false) (fun _ => false) (fun _ => false) (fun j _ => dif1_no c j _ _) (fun j _ => dif2_no c j _ _ _) (fun j _ => dif3_no c j _ _ _), unl_no, unl_no, unl_no]
  have e31 : g31 (f, l, c, ()) = some (([], [], [], 0, ()), ()) := by rw [g31_eq f hs l c, a0]
  have l1 : ∀ {R : Type} (k : Option R), leK 0 (n : Int) k = k := fun k => leK_in (by omega) k
  have l2 : ∀ {R : Type} (k : Option R), leK (n : Int) (l.length : Int) k = k := fun k => leK_in (by omega) k
  have l3 : ∀ {R : Type} (k : Option R), leK 0 (upTo l t : Int) k = k := fun k => leK_in (by omega) k
  have l4 : ∀ {R : Type} (k : Option R), leK (upTo l t : Int) (l.length : Int) k = k := fun k => leK_in (by omega) k
  have e41 := g41_eq c (by omega) (by omega) (by omega) (by omega)
  have k1 := loopF (L := L13_21) (fun i => ((l, f, (i : Int), ()), (c, ()), ())) (.inr ((l, f, ()), (c, ()), ())) 0 c.2.1.length (N := fuel) (by omega)
    (fun N => by simp only [L13_21, B13_21]; rw [dec_f (by omega), cond_false])
    (fun N i _ hi => by
      have h1 := hI.nc _ (gd_mem (l := c.2.1) (i := (i : Int)) (by omega) (by omega))
      have h2 : 1000000 * ((l.length : Int) + 1) ≤ 201000000 := by omega
      simp only [L13_21, B13_21]
      rw [dec_t (by omega), cond_true, e41, derefK_some]
      simp only
      rw [inR_in (by omega) (by omega), getI_gd (by omega) (by omega), inR_in (by omega) (by omega), getI_gd (by omega) (by omega), bindV_eq, wI (x := gd c.2.1 (i : Int) + 1) (by omega) (by omega), g31_eq f hs l]
      rw [audit_eq hw hc (d := (c.1, (c.2.1.set ((i : Int)).toNat (gd c.2.1 (i : Int) + 1), c.2.2))) ⟨rfl, by simp, rfl, rfl⟩ (fun j => decide (j = i)) (fun _ => false) (fun _ => false)
        (fun j hj => by
          unfold dif1
          simp only
          rw [bne_self_eq_false, gd_setI (by omega)]
          by_cases e : j = i
          · rw [if_pos e, e, decide_eq_true rfl]
            exact bne_iff_ne.2 (by omega)
          · rw [if_neg e, bne_self_eq_false, decide_eq_false e]
            rfl) (fun j _ => dif2_no c j _ _ _) (fun j _ => dif3_no c j _ _ _), unl_is (by omega), unl_no, unl_no, derefK_some]
      simp only
      rw [show ((0 : Int) != 0) = false from rfl, cond_false, g16_eq _ _ (by simp), derefK_some, dec_t rfl, len0 rfl rfl, wI (x := (i : Int) + 1) (by omega) (by omega)]
      rfl)
  have k2 := loopF (L := L13_29) (fun i => ((l, f, (i : Int), ()), (c, ()), ())) (.inr ((l, f, ()), (c, ()), ())) 0 c.2.2.1.length (N := fuel) (by omega)
    (fun N => by simp only [L13_29, B13_29]; rw [dec_f (by omega), cond_false])
    (fun N i _ hi => by
      have hne : ∀ x : Int, ¬ x = IntKind.wrap .i64 (x - 1) := wrap_pred
      simp only [L13_29, B13_29]
      rw [dec_t (by omega), cond_true, e41, derefK_some]
      simp only
      rw [inR_in (by omega) (by omega), getI_gd (by omega) (by omega), inR_in (by omega) (by omega), getI_gd (by omega) (by omega), bindV_eq, g31_eq f hs l]
      rw [audit_eq hw hc (d := (c.1, (c.2.1, (c.2.2.1.set ((i : Int)).toNat ((gd c.2.2.1 (i : Int)).1, IntKind.wrap .i64 ((gd c.2.2.1 (i : Int)).2 - 1)), c.2.2.2)))) ⟨rfl, rfl, by simp, rfl⟩ (fun _ => false) (fun j => decide (j = i)) (fun _ => false) (fun j _ => dif1_no c j _ _)
        (fun j hj => by
          unfold dif2
          simp only
          rw [gd_setI (by omega)]
          by_cases e : j = i
          · rw [if_pos e, e, decide_eq_true rfl, beq_self_eq_true, Bool.true_and, beq_false_of_ne (hne _)]
            rfl
          · rw [if_neg e, beq_self_eq_true, beq_self_eq_true, decide_eq_false e]
            rfl) (fun j _ => dif3_no c j _ _ _), unl_is (by omega), unl_no, unl_no, derefK_some]
      simp only
      rw [show ((0 : Int) != 0) = false from rfl, cond_false, g16_eq _ _ (by simp), derefK_some, dec_t rfl, len0 rfl rfl, wI (x := (i : Int) + 1) (by omega) (by omega)]
      rfl)
  have k3 := loopF (L := L13_37) (fun i => ((l, f, (i : Int), ()), (c, ()), ())) (.inr ((), (), ())) 0 c.2.2.2.1.length (N := fuel) (by omega)
    (fun N => by simp only [L13_37, B13_37]; rw [dec_f (by omega), cond_false])
    (fun N i _ hi => by
      have h1 := hI.nb _ (gd_mem (l := c.2.2.2.1) (i := (i : Int)) (by omega) (by omega))
      have h2 := mem_le_sum hI.nb (gd_mem (l := c.2.2.2.1) (i := (i : Int)) (by omega) (by omega))
      have hsum := hf.sum
      have htt := hI.tt
      unfold tot at htt
      have n7 := sum_nn hI.ns
      have n8 := sumP_nn hI.np
      have n10 := hI.nl
      simp only [L13_37, B13_37]
      rw [dec_t (by omega), cond_true, e41, derefK_some]
      simp only
      rw [inR_in (by omega) (by omega), getI_gd (by omega) (by omega), inR_in (by omega) (by omega), getI_gd (by omega) (by omega), bindV_eq, wI (x := gd c.2.2.2.1 (i : Int) - 1) (by omega) (by omega), g31_eq f hs l]
      rw [audit_eq hw hc (d := (c.1, (c.2.1, (c.2.2.1, (c.2.2.2.1.set ((i : Int)).toNat (gd c.2.2.2.1 (i : Int) - 1), c.2.2.2.2))))) ⟨rfl, rfl, rfl, by simp⟩ (fun _ => false) (fun _ => false) (fun j => decide (j = i)) (fun j _ => dif1_no c j _ _) (fun j _ => dif2_no c j _ _ _)
        (fun j hj => by
          unfold dif3
          simp only
          rw [gd_setI (by omega)]
          by_cases e : j = i
          · rw [if_pos e, e, decide_eq_true rfl]
            exact bne_iff_ne.2 (by omega)
          · rw [if_neg e, bne_self_eq_false, decide_eq_false e]), unl_is (by omega), unl_no, unl_no, derefK_some]
      simp only
      rw [show ((0 : Int) != 0) = false from rfl, cond_false, g16_eq _ _ (by simp), derefK_some, dec_t rfl, len0 rfl rfl, wI (x := (i : Int) + 1) (by omega) (by omega)]
      rfl)
  have k1' : L13_21 fuel ((l, f, 0, ()), (c, ()), ()) = _ := k1
  have k2' : L13_29 fuel ((l, f, 0, ()), (c, ()), ()) = _ := k2
  have k3' : L13_37 fuel ((l, f, 0, ()), (c, ()), ()) = _ := k3
  simp only [enumK_eq, l1, l2, l3, l4, Int.toNat_natCast, e28, h1', e36, e22, derefK_some, agreeK_two, agreeK_one, show ((0 : Int) != 0) = false from rfl, cond_false, e25, Bool.not_true, e31, k1', k2', k3', sumK_inr]
  exact works_k
end Go.Proofs.Try.V
