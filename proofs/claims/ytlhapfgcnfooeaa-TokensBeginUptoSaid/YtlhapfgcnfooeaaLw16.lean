/- Plain laws of layer 1: TokensAgree. No condition beyond those typed in each theorem. -/
import Derived.Test.YtlhapfgcnfooeaaLw15
namespace Go.Proofs.Try.V
open Go.Vi
set_option maxRecDepth 100000

/-- Account and count agree. -/
structure AInv (f : Fair) (c : Cnt) (t : Night) : Prop where
  pt : sumP c.2.2.1 = t.1 - t.2.1 - t.2.2.1 - t.2.2.2.2.1
  lt : c.2.2.2.2 = t.2.2.2.2.1
  ct : c.2.1.sum = f.2.2.2.1.sum + t.2.2.2.2.2
  bt : c.2.2.2.1.sum ≤ t.2.1
theorem AInv.zero (f : Fair) : AInv f (cnt0 f) nt0 := by
  refine ⟨sumP_replicate _, rfl, ?_, ?_⟩
  · show f.2.2.2.1.sum = f.2.2.2.1.sum + 0
    omega
  · show (List.replicate f.2.1.toNat (0 : Int)).sum ≤ 0
    rw [sum_replicate_zero]
    exact Int.le_refl _
theorem AInv.step {f : Fair} (hf : Ok f) {c : Cnt} {k : Nat} (h : Inv f c k) {t : Night} (ht : AInv f c t) {d : Deal} (hd : okD f c d = true) : AInv f (stepD f c d) (nightD f c d t) := by
  obtain ⟨P, X, S, C, Bs, rf, bd, hr⟩ := f
  obtain ⟨st, ca, pu, bo, lo⟩ := c
  obtain ⟨at', kd, a, b, n⟩ := d
  obtain ⟨sd, tk, rt, he, ls', cs⟩ := t
  obtain ⟨a1, a2, a3, a4⟩ := ht
  obtain ⟨ls, lc, lp, lb, ns, nc, np, nb, nl, tt⟩ := h
  obtain ⟨s1, s8, c8, p0, p1, b0, b1, hst, hca, r0, r1, d0, d1, h0, h1, fine, six, _⟩ := hf
  unfold okD at hd
  unfold stepD nightD
  simp only at *
  by_cases k1 : kd = 1
  · subst k1
    simp only [Int.reduceBEq, cond_true, Bool.and_eq_true, rng_iff, decide_eq_true_eq] at hd ⊢
    obtain ⟨hA, hB, hN, hle⟩ := hd
    refine ⟨?_, ?_, ?_, ?_⟩ <;> simp only
    · rw [sumP_mv (by omega) (by omega)]; omega
    · omega
    · rw [sum_ad (by omega) (by omega)]; omega
    · omega
  by_cases k2 : kd = 2
  · subst k2
    simp only [Int.reduceBEq, cond_true, cond_false, Bool.and_eq_true, rng_iff] at hd ⊢
    obtain ⟨hA, hB, hN, hle⟩ := hd
    cases decide (at' < (gd pu a).2) with
    | true => exact ⟨a1, a2, a3, a4⟩
    | false =>
      refine ⟨?_, ?_, ?_, ?_⟩ <;> simp only [cond_false]
      · rw [sumP_mv (by omega) (by omega)]; omega
      · omega
      · omega
      · rw [sum_ad (by omega) (by omega)]; omega
  by_cases k3 : kd = 3
  · subst k3
    simp only [Int.reduceBEq, cond_true, cond_false, Bool.and_eq_true, rng_iff] at hd ⊢
    obtain ⟨hA, hB, hN⟩ := hd
    refine ⟨?_, ?_, ?_, ?_⟩ <;> simp only
    · rw [sumP_set (by omega), show ((b.toNat : Nat) : Int) = b by omega]; simp only; omega
    · omega
    · rw [sum_ad (by omega) (by omega)]; omega
    · omega
  by_cases k4 : kd = 4
  · subst k4
    simp only [Int.reduceBEq, cond_true, cond_false, Bool.and_eq_true, rng_iff, decide_eq_true_eq] at hd ⊢
    obtain ⟨hA, hB, hN, hle, hcs⟩ := hd
    refine ⟨?_, ?_, ?_, ?_⟩ <;> simp only
    · rw [sumP_mv (by omega) (by omega)]; omega
    · omega
    · rw [sum_ad (by omega) (by omega)]; omega
    · omega
  by_cases k5 : kd = 5
  · subst k5
    simp only [Int.reduceBEq, cond_true, cond_false, Bool.and_eq_true, rng_iff] at hd ⊢
    obtain ⟨hA, hB, hN⟩ := hd
    have q := nb _ (gd_mem (l := bo) (i := b) (by omega) (by omega))
    refine ⟨a1, a2, a3, ?_⟩
    simp only
    rw [sum_set (by omega), show ((b.toNat : Nat) : Int) = b by omega]
    omega
  by_cases k6 : kd = 6
  · subst k6
    simp only [Int.reduceBEq, cond_true, cond_false, Bool.and_eq_true, rng_iff, decide_eq_true_eq] at hd ⊢
    obtain ⟨hA, hB, hne, hN, hle⟩ := hd
    refine ⟨?_, a2, a3, a4⟩
    simp only
    rw [sumP_mv (by omega) (by rw [len_mv]; omega), sumP_mv (by omega) (by omega)]
    omega
  by_cases k7 : kd = 7
  · subst k7
    simp only [Int.reduceBEq, cond_true, cond_false, Bool.and_eq_true, rng_iff, decide_eq_true_eq] at hd ⊢
    obtain ⟨hA, hB, hN, hle⟩ := hd
    refine ⟨?_, ?_, ?_, ?_⟩ <;> simp only
    · rw [sumP_mv (by omega) (by omega)]; omega
    · omega
    · omega
    · omega
  · rw [beq_false_of_ne k1, beq_false_of_ne k2, beq_false_of_ne k3, beq_false_of_ne k4, beq_false_of_ne k5, beq_false_of_ne k6, beq_false_of_ne k7] at hd
    cases hd
theorem bad_ok {f : Fair} {l : List Deal} {i : Nat} (h : bad f l i = false) : rng (gd l (i : Int)).1 (lastT l i) 1440 = true ∧ okD f (stC f l i) (gd l (i : Int)) = true := by
  unfold bad at h
  rw [Bool.not_eq_false', Bool.and_eq_true] at h
  exact h
theorem AInv.all {f : Fair} (hf : Ok f) (l : List Deal) : ∀ i : Nat, (∀ j, j < i → bad f l j = false) → AInv f (stC f l i) (stT f l i)
  | 0, _ => .zero f
  | i + 1, h => (AInv.all hf l i fun j hj => h j (by omega)).step hf (Inv.all hf l i fun j hj => h j (by omega)) (bad_ok (h i (by omega))).2

theorem nc_sum {c : List Int} {m : Int} (h : ∀ x ∈ c, 0 ≤ x ∧ x ≤ m) (i : Nat) : 0 ≤ (c.take i).sum ∧ (c.take i).sum ≤ c.length * m := by
  have h1 := sum_take_le (fun x hx => (h x hx).1) i
  have h2 := sum_le fun x hx => (h x hx).2
  omega
/-- TokensAgree. -/
theorem law6 (f : Fair) (hs : Sized f) (l : List Deal) : g6 (f, l, ()) = some ((true, ()), ()) := by
  have hfu := fuel_ge
  have e0 : g6 (f, l, ()) = F6 fuel f l := rfl
  rw [e0]
  unfold F6
  rw [g21_eq, derefK_some]
  simp only
  cases decide (40 < l.length) && decide (l.length ≤ 200) with
  | true => exact works_k
  | false =>
  rw [cond_false, g22_eq f hs l, g24_eq f hs l, derefK_some, derefK_some]
  cases hw : wrong f l with
  | some x =>
    simp only
    rw [bne_iff_ne.2 (wrong_ne hw), cond_true, beq_self_eq_true, cond_true]
    exact works_k
  | none =>
    obtain ⟨hf, _, hl, hb⟩ := wrong_none hw
    have hI := Inv.all hf l l.length hb
    have hN := NInv.all hf l l.length hb
    have hA := AInv.all hf l l.length hb
    simp only
    rw [show ((0 : Int) != 0) = false from rfl, cond_false, cond_false]
    obtain ⟨c, hc⟩ : ∃ c, stC f l l.length = c := ⟨_, rfl⟩
    rw [hc] at hI hA ⊢
    have l0 := hI.lc
    have m1 := hf.s8
    have c8 := hf.c8
    have b1 := fun i => nc_sum (m := 1000000 * ((l.length : Int) + 1)) hI.nc i
    have b2 := fun i => nc_sum (m := 1000000) hf.ca i
    have b1' : (c.2.1.length : Int) * (1000000 * ((l.length : Int) + 1)) ≤ 8 * 201000000 := Int.mul_le_mul (by omega) (by omega) (by omega) (by omega)
    have a1 := loopF (L := L6_9) (fun i => ((l, (c.2.1.take i).sum - (f.2.2.2.1.take i).sum, (i : Int), ()), (f, acct f l, c, ()), ())) ((l, c.2.1.sum - f.2.2.2.1.sum, ()), (f, acct f l, ()), ()) 0 c.2.1.length (N := fuel) (by omega)
      (fun N => by
        simp only [L6_9, B6_9]
        rw [dec_f (by omega), cond_false, List.take_length, l0, ← c8, List.take_length])
      (fun N i _ hi => by
        have h1 := hI.nc _ (gd_mem (l := c.2.1) (i := (i : Int)) (by omega) (by omega))
        have h2 := hf.ca _ (gd_mem (l := f.2.2.2.1) (i := (i : Int)) (by omega) (by omega))
        have t1 := sum_take (l := c.2.1) (i := i) hi
        have t2 := sum_take (l := f.2.2.2.1) (i := i) (by omega)
        have u1 := b1 i
        have u2 := b2 i
        simp only [L6_9, B6_9]
        rw [dec_t (by omega), cond_true, dec_t (by omega), cond_true, getI_gd (by omega) (by omega), getI_gd (by omega) (by omega), wI (x := (i : Int) + 1) (by omega) (by omega), wI (x := gd c.2.1 (i : Int) - gd f.2.2.2.1 (i : Int)) (by omega) (by omega), wI (by omega) (by omega), t1, t2, show (c.2.1.take i).sum + gd c.2.1 (i : Int) - ((f.2.2.2.1.take i).sum + gd f.2.2.2.1 (i : Int)) = (c.2.1.take i).sum - (f.2.2.2.1.take i).sum + (gd c.2.1 (i : Int) - gd f.2.2.2.1 (i : Int)) by omega]
        rfl)
    have a1' : L6_9 fuel ((l, 0, 0, ()), (f, acct f l, c, ()), ()) = _ := a1
    rw [a1', derefK_some]
    have hcash : c.2.1.sum - f.2.2.2.1.sum = (stT f l l.length).2.2.2.2.2 := by
      have := hA.ct
      omega
    simp only
    rw [hcash]
    have a2 := loopF (L := L6_14) (fun i => ((l, (stT f l l.length).2.2.2.2.2, (stT f l i).2.2.2.2.2, (i : Int), ()), (f, acct f l, ()), ())) (.inr (((stT f l l.length).2.2.2.2.2, (stT f l l.length).2.2.2.2.2, ()), (acct f l, ()), ())) 0 l.length (N := fuel) (by omega)
      (fun N => by simp only [L6_14, B6_14]; rw [dec_f (by omega), cond_false])
      (fun N i _ hi => by
        have hbi : ∀ j, j < i → bad f l j = false := fun j hj => hb j (by omega)
        have hIi := Inv.all hf l i hbi
        have hNi := NInv.all hf l i hbi
        obtain ⟨_, hok⟩ := bad_ok (hb i hi)
        have hNs := NInv.all hf l (i + 1) (fun j hj => hb j (by omega))
        have w1 := wI (x := (stT f l (i + 1)).2.2.2.2.2) (by have := hNs.c0; omega) (by have := hNs.c1; omega)
        revert w1
        show IntKind.wrap .i64 (nightD f (stC f l i) (gd l (i : Int)) (stT f l i)).2.2.2.2.2 = (nightD f (stC f l i) (gd l (i : Int)) (stT f l i)).2.2.2.2.2 → L6_14 (N + 1) _ = L6_14 N ((l, (stT f l l.length).2.2.2.2.2, (nightD f (stC f l i) (gd l (i : Int)) (stT f l i)).2.2.2.2.2, ((i + 1 : Nat) : Int), ()), (f, acct f l, ()), ())
        simp only [L6_14, B6_14]
        rw [dec_t (by omega), cond_true]
        have g1 : ∀ {R : Type} (k : Deal → Option R), getI l (i : Int) k = k (gd l (i : Int)) := fun k => getI_gd (by omega) (by omega) k
        simp only [g1]
        revert hok
        generalize gd l (i : Int) = d
        intro hok
        unfold okD at hok
        unfold nightD
        simp only at hok ⊢
        rw [wI (x := (i : Int) + 1) (by omega) (by omega)]
        obtain ⟨at', kd, a, b, n⟩ := d
        simp only at hok ⊢
        by_cases k1 : kd = 1
        · subst k1
          simp only [Int.reduceBEq, cond_true, Bool.and_eq_true, rng_iff] at hok ⊢
          intro w1
          rw [dec_f (by omega), cond_false, dec_f (by omega), cond_false, getI_gd (by omega) (by omega), w1]
          rfl
        by_cases k2 : kd = 2
        · subst k2
          simp only [Int.reduceBEq, cond_true, cond_false]
          intro _
          cases decide (at' < (gd (stC f l i).2.2.1 a).2) <;> rfl
        by_cases k3 : kd = 3
        · subst k3
          simp only [Int.reduceBEq, cond_true, cond_false]
          intro w1
          rw [w1]
          rfl
        by_cases k4 : kd = 4
        · subst k4
          simp only [Int.reduceBEq, cond_true, cond_false, Bool.and_eq_true, rng_iff] at hok ⊢
          intro w1
          have m0 : 0 ≤ n * f.2.2.2.2.2.1 := Int.mul_nonneg (by omega) hf.r0
          have m2 : n * f.2.2.2.2.2.1 ≤ 100000 * 1000 := Int.mul_le_mul hok.2.2.1.2 hf.r1 hf.r0 (by omega)
          rw [wI (x := n * f.2.2.2.2.2.1) (by omega) (by omega), bindV_eq, Int.sub_eq_add_neg, w1]
          rfl
        rw [beq_false_of_ne k1, beq_false_of_ne k2, beq_false_of_ne k3, beq_false_of_ne k4]
        simp only [cond_false]
        intro _
        cases kd == 7 <;> rfl)
    have a2' : L6_14 fuel ((l, (stT f l l.length).2.2.2.2.2, 0, 0, ()), (f, acct f l, ()), ()) = _ := a2
    rw [a2', derefK_some, sumK_inr]
    simp only
    have hp := hA.pt
    have np := sumP_nn hI.np
    have e1 : (acct f l).1 = (stT f l l.length).1 := rfl
    have e2 : (acct f l).2.1 = (stT f l l.length).2.1 := rfl
    have e3 : (acct f l).2.2.1 = (stT f l l.length).2.2.1 := rfl
    have e4 : (acct f l).2.2.2.1 = sumP c.2.2.1 := by rw [← hc]; rfl
    have e5 : (acct f l).2.2.2.2.1 = (stT f l l.length).2.2.2.2.1 := rfl
    have e6 : (acct f l).2.2.2.2.2 = (stT f l l.length).2.2.2.2.2 := rfl
    have x0 := hN.s1
    have x1 := hN.t0
    have x2 := hN.t1
    have x3 := hN.r0
    have x4 := hN.r1
    have x5 := hN.l0
    have x6 := hN.l1
    rw [e1, e2, e3, e4, e5, e6, wI (x := (stT f l l.length).2.1 + (stT f l l.length).2.2.1) (by omega) (by omega), wI (x := (stT f l l.length).2.1 + (stT f l l.length).2.2.1 + sumP c.2.2.1) (by omega) (by omega), wI (by omega) (by omega), show (stT f l l.length).2.1 + (stT f l l.length).2.2.1 + sumP c.2.2.1 + (stT f l l.length).2.2.2.2.1 = (stT f l l.length).1 by omega, beq_self_eq_true, beq_self_eq_true, cond_true, cond_true, cond_true]
    exact works_k
end Go.Proofs.Try.V
