/- Plain laws of layer 1: a deal by the document. No condition beyond those typed in each theorem. -/
import Derived.Test.YtlhapfgcnfooeaaLw9
namespace Go.Proofs.Try.V
open Go.Vi
set_option maxRecDepth 100000

theorem g41_eq (c : Cnt) (h1 : c.1.length ≤ 1000000) (h2 : c.2.1.length ≤ 1000000) (h3 : c.2.2.1.length ≤ 1000000) (h4 : c.2.2.2.1.length ≤ 1000000) : g41 (c, ()) = some ((c, ()), ()) := by
  show F41 fuel c = _
  unfold F41
  rw [lenK_in (by omega) (by omega), lenK_in (by omega) (by omega), lenK_in (by omega) (by omega), lenK_in (by omega) (by omega)]

theorem g64_eq {f : Fair} (hf : Ok f) {c : Cnt} {k : Nat} (h : Inv f c k) (hk : k ≤ 1000) (d : Deal) : g64 (f, c, d, ()) = some ((if okD f c d then stepD f c d else c, okD f c d, ()), ()) := by
  have e0 : g64 (f, c, d, ()) = F64 fuel f c d := rfl
  rw [e0]
  obtain ⟨P, X, S, C, Bs, rf, bd, hr⟩ := f
  obtain ⟨st, ca, pu, bo, lo⟩ := c
  obtain ⟨at', kd, a, b, n⟩ := d
  obtain ⟨ls, lc, lp, lb, ns, nc, np, nb, nl, tt⟩ := h
  have hsum := hf.sum
  obtain ⟨s1, s8, c8, p0, p1, b0, b1, hst, hca, r0, r1, d0, d1, h0, h1, fine, six, _⟩ := hf
  have n1 := sum_nn ns
  have n2 := sumP_nn np
  have n3 := sum_nn nb
  have z1 : ∀ {i : Int}, 0 ≤ i → i < st.length → gd st i ≤ st.sum := fun h1 h2 => mem_le_sum ns (gd_mem h1 h2)
  have z2 : ∀ {i : Int}, 0 ≤ i → i < pu.length → (gd pu i).1 ≤ sumP pu := fun h1 h2 => mem_le_sumP np (gd_mem h1 h2)
  have z3 : ∀ {i : Int}, 0 ≤ i → i < bo.length → gd bo i ≤ bo.sum := fun h1 h2 => mem_le_sum nb (gd_mem h1 h2)
  unfold tot at tt
  simp only at *
  unfold F64
  rw [g41_eq _ (by simp only; omega) (by simp only; omega) (by simp only; omega) (by simp only; omega)]
  have w1 : IntKind.wrap .i64 ((st.length : Int) - 1) = (st.length : Int) - 1 := wI (by omega) (by omega)
  have w2 : IntKind.wrap .i64 ((pu.length : Int) - 1) = (pu.length : Int) - 1 := wI (by omega) (by omega)
  have w3 : IntKind.wrap .i64 ((bo.length : Int) - 1) = (bo.length : Int) - 1 := wI (by omega) (by omega)
  have w4 : IntKind.wrap .i64 ((Bs.length : Int) - 1) = (Bs.length : Int) - 1 := wI (by omega) (by omega)
  simp only [derefK_some, g44_eq, w1, w2, w3, w4]
  unfold okD stepD
  by_cases k1 : kd = 1
  · subst k1
    simp only [Int.reduceBEq, cond_true]
    cases hA : rng a 0 ((st.length : Int) - 1)
    · rfl
    cases hB : rng b 0 ((pu.length : Int) - 1)
    · rfl
    cases hN : rng n 0 ((Bs.length : Int) - 1)
    · rfl
    rw [rng_iff] at hA hB hN
    have hb := fine _ (gd_mem (l := Bs) (i := n) (by omega) (by omega))
    have q1 := np _ (gd_mem (l := pu) (i := b) (by omega) (by omega))
    have q2 := nc _ (gd_mem (l := ca) (i := a) (by omega) (by omega))
    have q3 := ns _ (gd_mem (l := st) (i := a) (by omega) (by omega))
    have q4 := z1 (i := a) (by omega) (by omega)
    have q5 := z2 (i := b) (by omega) (by omega)
    have e1 : ∀ {R : Type} (k : Option R), inR a st.length k = k := fun k => inR_in (by omega) (by omega) k
    have e2 : ∀ {R : Type} (k : Int → Option R), getI st a k = k (gd st a) := fun k => getI_gd (by omega) (by omega) k
    have e3 : ∀ {R : Type} (k : Bun → Option R), getI Bs n k = k (gd Bs n) := fun k => getI_gd (by omega) (by omega) k
    have e4 : ∀ {R : Type} (k : Option R), inR b pu.length k = k := fun k => inR_in (by omega) (by omega) k
    have e5 : ∀ {R : Type} (k : (Int × Int) → Option R), getI pu b k = k (gd pu b) := fun k => getI_gd (by omega) (by omega) k
    have e6 : ∀ {R : Type} (k : Option R), inR a ca.length k = k := fun k => inR_in (by omega) (by omega) k
    have e7 : ∀ {R : Type} (k : Int → Option R), getI ca a k = k (gd ca a) := fun k => getI_gd (by omega) (by omega) k
    simp only [e1, e2, e3, e4, e5, e6, e7, Bool.not_true, cond_false, Bool.true_and, bindV_eq]
    by_cases hle : (gd Bs n).1 ≤ gd st a
    · rw [dec_t hle, dec_f (p := gd st a < (gd Bs n).1) (by omega), cond_false, if_pos rfl, wI (by omega) (by omega), wI (by omega) (by omega), wI (by omega) (by omega)]
      rfl
    · rw [dec_f hle, dec_t (p := gd st a < (gd Bs n).1) (by omega), cond_true]
      rfl
  by_cases k2 : kd = 2
  · subst k2
    simp only [Int.reduceBEq, cond_true, cond_false]
    cases hA : rng a 0 ((pu.length : Int) - 1)
    · rfl
    cases hB : rng b 0 ((bo.length : Int) - 1)
    · rfl
    cases hN : rng n 0 1000
    · rfl
    rw [rng_iff] at hA hB hN
    have q1 := np _ (gd_mem (l := pu) (i := a) (by omega) (by omega))
    have q2 := nb _ (gd_mem (l := bo) (i := b) (by omega) (by omega))
    have q4 := z3 (i := b) (by omega) (by omega)
    have q5 := z2 (i := a) (by omega) (by omega)
    have e1 : ∀ {R : Type} (k : Option R), inR a pu.length k = k := fun k => inR_in (by omega) (by omega) k
    have e2 : ∀ {R : Type} (k : (Int × Int) → Option R), getI pu a k = k (gd pu a) := fun k => getI_gd (by omega) (by omega) k
    have e4 : ∀ {R : Type} (k : Option R), inR b bo.length k = k := fun k => inR_in (by omega) (by omega) k
    have e5 : ∀ {R : Type} (k : Int → Option R), getI bo b k = k (gd bo b) := fun k => getI_gd (by omega) (by omega) k
    simp only [e1, e2, e4, e5, Bool.not_true, cond_false, Bool.true_and, bindV_eq]
    by_cases hlt : at' < (gd pu a).2
    · rw [dec_t hlt, cond_true]
      rfl
    · rw [dec_f hlt, cond_false, Bool.false_or, cond_false]
      by_cases hle : n ≤ (gd pu a).1
      · rw [dec_t hle, dec_f (p := (gd pu a).1 < n) (by omega), cond_false, if_pos rfl, wI (by omega) (by omega), wI (by omega) (by omega)]
        rfl
      · rw [dec_f hle, dec_t (p := (gd pu a).1 < n) (by omega), cond_true]
        rfl
  by_cases k3 : kd = 3
  · subst k3
    simp only [Int.reduceBEq, cond_true, cond_false]
    cases hA : rng a 0 ((st.length : Int) - 1)
    · rfl
    cases hB : rng b 0 ((pu.length : Int) - 1)
    · rfl
    rw [rng_iff] at hA hB
    have q2 := nc _ (gd_mem (l := ca) (i := a) (by omega) (by omega))
    have e4 : ∀ {R : Type} (k : Option R), inR b pu.length k = k := fun k => inR_in (by omega) (by omega) k
    have e5 : ∀ {R : Type} (k : (Int × Int) → Option R), getI pu b k = k (gd pu b) := fun k => getI_gd (by omega) (by omega) k
    have e6 : ∀ {R : Type} (k : Option R), inR a ca.length k = k := fun k => inR_in (by omega) (by omega) k
    have e7 : ∀ {R : Type} (k : Int → Option R), getI ca a k = k (gd ca a) := fun k => getI_gd (by omega) (by omega) k
    have w5 : IntKind.wrap .i64 (gd ca a + bd) = gd ca a + bd := wI (by omega) (by omega)
    simp only [e4, e5, e6, e7, w5, Bool.not_true, cond_false, Bool.true_and, bindV_eq, bne]
    cases hN : (n == 0)
    · rfl
    · rfl
  by_cases k4 : kd = 4
  · subst k4
    simp only [Int.reduceBEq, cond_true, cond_false]
    cases hA : rng a 0 ((st.length : Int) - 1)
    · rfl
    cases hB : rng b 0 ((pu.length : Int) - 1)
    · rfl
    cases hN : rng n 1 100000
    · rfl
    rw [rng_iff] at hA hB hN
    have q1 := np _ (gd_mem (l := pu) (i := b) (by omega) (by omega))
    have q2 := nc _ (gd_mem (l := ca) (i := a) (by omega) (by omega))
    have q3 := ns _ (gd_mem (l := st) (i := a) (by omega) (by omega))
    have q4 := z1 (i := a) (by omega) (by omega)
    have q5 := z2 (i := b) (by omega) (by omega)
    have m0 : 0 ≤ n * rf := Int.mul_nonneg (by omega) r0
    have m1 : n * rf ≤ 100000 * 1000 := Int.mul_le_mul hN.2 r1 r0 (by omega)
    have e1 : ∀ {R : Type} (k : Option R), inR a st.length k = k := fun k => inR_in (by omega) (by omega) k
    have e2 : ∀ {R : Type} (k : Int → Option R), getI st a k = k (gd st a) := fun k => getI_gd (by omega) (by omega) k
    have e4 : ∀ {R : Type} (k : Option R), inR b pu.length k = k := fun k => inR_in (by omega) (by omega) k
    have e5 : ∀ {R : Type} (k : (Int × Int) → Option R), getI pu b k = k (gd pu b) := fun k => getI_gd (by omega) (by omega) k
    have e6 : ∀ {R : Type} (k : Option R), inR a ca.length k = k := fun k => inR_in (by omega) (by omega) k
    have e7 : ∀ {R : Type} (k : Int → Option R), getI ca a k = k (gd ca a) := fun k => getI_gd (by omega) (by omega) k
    have w5 : IntKind.wrap .i64 (n * rf) = n * rf := wI (by omega) (by omega)
    simp only [e1, e2, e4, e5, e6, e7, w5, Bool.not_true, cond_false, Bool.true_and, bindV_eq]
    by_cases hle : n ≤ (gd pu b).1
    · rw [dec_t hle, dec_f (p := (gd pu b).1 < n) (by omega), cond_false, Bool.true_and]
      by_cases hcs : n * rf ≤ gd ca a
      · rw [dec_t hcs, dec_f (p := gd ca a < n * rf) (by omega), cond_false, if_pos rfl, wI (by omega) (by omega), wI (by omega) (by omega), wI (by omega) (by omega)]
        rfl
      · rw [dec_f hcs, dec_t (p := gd ca a < n * rf) (by omega), cond_true]
        rfl
    · rw [dec_f hle, dec_t (p := (gd pu b).1 < n) (by omega), cond_true]
      rfl
  by_cases k5 : kd = 5
  · subst k5
    simp only [Int.reduceBEq, cond_true, cond_false]
    cases hA : rng a 0 ((st.length : Int) - 1)
    · rfl
    cases hB : rng b 0 ((bo.length : Int) - 1)
    · rfl
    rw [rng_iff] at hA hB
    have q3 := ns _ (gd_mem (l := st) (i := a) (by omega) (by omega))
    have q4 := z1 (i := a) (by omega) (by omega)
    have q5 := nb _ (gd_mem (l := bo) (i := b) (by omega) (by omega))
    have q6 := z3 (i := b) (by omega) (by omega)
    have e1 : ∀ {R : Type} (k : Option R), inR a st.length k = k := fun k => inR_in (by omega) (by omega) k
    have e2 : ∀ {R : Type} (k : Int → Option R), getI st a k = k (gd st a) := fun k => getI_gd (by omega) (by omega) k
    have e4 : ∀ {R : Type} (k : Option R), inR b bo.length k = k := fun k => inR_in (by omega) (by omega) k
    have e5 : ∀ {R : Type} (k : Int → Option R), getI bo b k = k (gd bo b) := fun k => getI_gd (by omega) (by omega) k
    have w5 : IntKind.wrap .i64 (gd st a + gd bo b) = gd st a + gd bo b := wI (by omega) (by omega)
    simp only [e1, e2, e4, e5, w5, Bool.not_true, cond_false, Bool.true_and, bindV_eq, bne]
    cases hN : (n == 0)
    · rfl
    · rfl
  by_cases k6 : kd = 6
  · subst k6
    simp only [Int.reduceBEq, cond_true, cond_false]
    cases hA : rng a 0 ((pu.length : Int) - 1)
    · rfl
    cases hB : rng b 0 ((pu.length : Int) - 1)
    · rfl
    cases hab : (a == b)
    case true => rfl
    cases hN : rng n 1 100000
    · rfl
    rw [rng_iff] at hA hB hN
    have hne : a ≠ b := by simpa using hab
    have q1 := np _ (gd_mem (l := pu) (i := b) (by omega) (by omega))
    have q5 := z2 (i := b) (by omega) (by omega)
    have q6 := np _ (gd_mem (l := pu) (i := a) (by omega) (by omega))
    have q7 := z2 (i := a) (by omega) (by omega)
    have e1 : ∀ {R : Type} (k : Option R), inR a pu.length k = k := fun k => inR_in (by omega) (by omega) k
    have e2 : ∀ {R : Type} (k : (Int × Int) → Option R), getI pu a k = k (gd pu a) := fun k => getI_gd (by omega) (by omega) k
    have e3 : ∀ (v : Int × Int), gd (pu.set a.toNat v) b = gd pu b := fun v => gd_set_ne (by omega) (by omega) (Ne.symm hne)
    have e4 : ∀ {R : Type} (v : Int × Int) (k : Option R), inR b (pu.set a.toNat v).length k = k := fun v k => inR_in (by omega) (by rw [List.length_set]; omega) k
    have e5 : ∀ {R : Type} (v : Int × Int) (k : (Int × Int) → Option R), getI (pu.set a.toNat v) b k = k (gd pu b) := fun v k => by rw [getI_gd (by omega) (by rw [List.length_set]; omega), e3]
    have w5 : IntKind.wrap .i64 ((gd pu b).1 + n) = (gd pu b).1 + n := wI (by omega) (by omega)
    simp only [e1, e2, e4, e5, w5, Bool.not_true, Bool.not_false, cond_false, Bool.true_and, bindV_eq]
    by_cases hle : n ≤ (gd pu a).1
    · rw [dec_t hle, dec_f (p := (gd pu a).1 < n) (by omega), cond_false, if_pos rfl, wI (by omega) (by omega)]
      unfold mv
      rw [e3]
      rfl
    · rw [dec_f hle, dec_t (p := (gd pu a).1 < n) (by omega), cond_true]
      rfl
  by_cases k7 : kd = 7
  · subst k7
    simp only [Int.reduceBEq, cond_true, cond_false]
    cases hA : rng a 0 ((pu.length : Int) - 1)
    · rfl
    cases hB : (b == 0)
    · simp only [bne, hB]
      rfl
    cases hN : rng n 1 100000
    · simp only [bne, hB]
      rfl
    rw [rng_iff] at hA hN
    have q6 := np _ (gd_mem (l := pu) (i := a) (by omega) (by omega))
    have q7 := z2 (i := a) (by omega) (by omega)
    have e1 : ∀ {R : Type} (k : Option R), inR a pu.length k = k := fun k => inR_in (by omega) (by omega) k
    have e2 : ∀ {R : Type} (k : (Int × Int) → Option R), getI pu a k = k (gd pu a) := fun k => getI_gd (by omega) (by omega) k
    have w5 : IntKind.wrap .i64 (lo + n) = lo + n := wI (by omega) (by omega)
    simp only [e1, e2, w5, Bool.not_true, cond_false, Bool.true_and, bindV_eq, bne, hB]
    by_cases hle : n ≤ (gd pu a).1
    · rw [dec_t hle, dec_f (p := (gd pu a).1 < n) (by omega), cond_false, if_pos rfl, wI (by omega) (by omega)]
      rfl
    · rw [dec_f hle, dec_t (p := (gd pu a).1 < n) (by omega), cond_true]
      rfl
  · simp only [beq_false_of_ne k1, beq_false_of_ne k2, beq_false_of_ne k3, beq_false_of_ne k4, beq_false_of_ne k5, beq_false_of_ne k6, beq_false_of_ne k7, cond_false]
    rfl
end Go.Proofs.Try.V
