/- Plain laws of layer 1: a deal that happens, by the program. No condition beyond those typed in each theorem. -/
import Derived.Test.YtlhapfgcnfooeaaLw11
namespace Go.Proofs.Try.V
open Go.Vi
set_option maxRecDepth 100000

theorem g82_eq (f : Fair) (c : Cnt) (last : Int) (t : Night) (i v : Int) (h0 : 0 ≤ i) (h : i < c.2.1.length) (w1 : IntKind.wrap .i64 (gd c.2.1 i + v) = gd c.2.1 i + v) (w2 : IntKind.wrap .i64 (t.2.2.2.2.2 + v) = t.2.2.2.2.2 + v) :
    g82 ((f, (c, (last, t))), i, v, ()) = some ((), ((f, ((c.1, (ad c.2.1 i v, c.2.2)), (last, (t.1, t.2.1, t.2.2.1, t.2.2.2.1, t.2.2.2.2.1, t.2.2.2.2.2 + v)))), ())) := by
  show F82 fuel (f, (c, (last, t))) i v = _
  unfold F82
  simp only [bindV_eq]
  rw [inR_in h0 h, getI_gd h0 h, inR_in h0 h, getI_gd h0 h, w1, w2]
  rfl

theorem g73_eq {f : Fair} (hf : Ok f) {c : Cnt} {k : Nat} (h : Inv f c k) (hk : k ≤ 1000) (last : Int) {t : Night} (ht : NInv t k) {d : Deal} (hd : okD f c d = true) :
    g73 ((f, (c, (last, t))), d, ()) = some ((), ((f, (stepD f c d, (d.1, nightD f c d t))), ())) := by
  have e0 : g73 ((f, (c, (last, t))), d, ()) = F73 fuel (f, (c, (last, t))) d := rfl
  rw [e0]
  obtain ⟨P, X, S, C, Bs, rf, bd, hr⟩ := f
  obtain ⟨st, ca, pu, bo, lo⟩ := c
  obtain ⟨at', kd, a, b, n⟩ := d
  obtain ⟨sd, tk, rt, he, ls', cs⟩ := t
  obtain ⟨a0, a1, a2, a3, a4, a5, a6, a7, a8, a9, a10⟩ := ht
  obtain ⟨ls, lc, lp, lb, ns, nc, np, nb, nl, tt⟩ := h
  have hsum := hf.sum
  obtain ⟨s1, s8, c8, p0, p1, b0, b1, hst, hca, r0, r1, d0, d1, h0, h1, fine, six, _⟩ := hf
  have n1 := sum_nn ns
  have n2 := sumP_nn np
  have n3 := sum_nn nb
  have z1 : ∀ {i : Int}, 0 ≤ i → i < st.length → gd st i ≤ st.sum := fun h1 h2 => mem_le_sum ns (gd_mem h1 h2)
  have z2 : ∀ {i : Int}, 0 ≤ i → i < pu.length → (gd pu i).1 ≤ sumP pu := fun h1 h2 => mem_le_sumP np (gd_mem h1 h2)
  have z3 : ∀ {i : Int}, 0 ≤ i → i < bo.length → gd bo i ≤ bo.sum := fun h1 h2 => mem_le_sum nb (gd_mem h1 h2)
  unfold tot at tt
  unfold okD at hd
  unfold F73 stepD nightD
  simp only at *
  by_cases k1 : kd = 1
  · subst k1
    simp only [Int.reduceBEq, cond_true, Bool.and_eq_true, rng_iff, decide_eq_true_eq] at hd ⊢
    obtain ⟨hA, hB, hN, hle⟩ := hd
    have hb := fine _ (gd_mem (l := Bs) (i := n) (by omega) (by omega))
    have q1 := np _ (gd_mem (l := pu) (i := b) (by omega) (by omega))
    have q2 := nc _ (gd_mem (l := ca) (i := a) (by omega) (by omega))
    have q3 := ns _ (gd_mem (l := st) (i := a) (by omega) (by omega))
    have q4 := z1 (i := a) (by omega) (by omega)
    have q5 := z2 (i := b) (by omega) (by omega)
    have e1 : ∀ {R : Type} (k : Option R), inR a st.length k = k := fun k => inR_in (by omega) (by omega) k
    have e2 : ∀ {R : Type} (k : Int → Option R), getI st a k = k (gd st a) := fun k => getI_gd (by omega) (by omega) k
    have e3 : ∀ {R : Type} (k : Bun → Option R), getI Bs n k = k (gd Bs n) := fun k => getI_gd (by omega) (by omega) k
    have e4 : ∀ {R : Type} (k : Option R), inR b pu.length k = k := fun k => inR_in (by omega) (by omega) k
    have e5 : ∀ {R : Type} (k : (Int × Int) → Option R), getI pu b k = k (gd pu b) := fun k => getI_gd (by omega) (by omega) k
    have w5 : IntKind.wrap .i64 (gd st a - (gd Bs n).1) = gd st a - (gd Bs n).1 := wI (by omega) (by omega)
    have w6 : IntKind.wrap .i64 ((gd pu b).1 + (gd Bs n).1) = (gd pu b).1 + (gd Bs n).1 := wI (by omega) (by omega)
    have w7 : IntKind.wrap .i64 (sd + (gd Bs n).1) = sd + (gd Bs n).1 := wI (by omega) (by omega)
    simp only [enumK_eq, bindV_eq, e3, agreeK_two, agreeK_one, e1, e2, e4, e5, w5, w6, w7]
    rw [g82_eq _ _ _ _ _ _ (by omega) (by simp only; omega) (wI (by simp only; omega) (by simp only; omega)) (wI (by simp only; omega) (by simp only; omega))]
    rfl
  by_cases k2 : kd = 2
  · subst k2
    simp only [Int.reduceBEq, cond_true, cond_false, Bool.and_eq_true, Bool.or_eq_true, rng_iff, decide_eq_true_eq] at hd ⊢
    obtain ⟨hA, hB, hN, hle⟩ := hd
    have q1 := np _ (gd_mem (l := pu) (i := a) (by omega) (by omega))
    have q2 := nb _ (gd_mem (l := bo) (i := b) (by omega) (by omega))
    have q4 := z3 (i := b) (by omega) (by omega)
    have q5 := z2 (i := a) (by omega) (by omega)
    have e1 : ∀ {R : Type} (k : Option R), inR a pu.length k = k := fun k => inR_in (by omega) (by omega) k
    have e2 : ∀ {R : Type} (k : (Int × Int) → Option R), getI pu a k = k (gd pu a) := fun k => getI_gd (by omega) (by omega) k
    have e4 : ∀ {R : Type} (k : Option R), inR b bo.length k = k := fun k => inR_in (by omega) (by omega) k
    have e5 : ∀ {R : Type} (k : Int → Option R), getI bo b k = k (gd bo b) := fun k => getI_gd (by omega) (by omega) k
    rw [g80_eq _ _ _ (by omega) (by simp only; omega), derefK_some]
    simp only [e1, e2, e4, e5, bindV_eq]
    by_cases hlt : at' < (gd pu a).2
    · rw [dec_t hlt, cond_true]
      rfl
    · rw [dec_f hlt, cond_false, cond_false, cond_false, wI (by omega) (by omega), wI (by omega) (by omega), wI (by omega) (by omega)]
      rfl
  by_cases k3 : kd = 3
  · subst k3
    simp only [Int.reduceBEq, cond_true, cond_false, Bool.and_eq_true, rng_iff, beq_iff_eq] at hd ⊢
    obtain ⟨hA, hB, hN⟩ := hd
    have q2 := nc _ (gd_mem (l := ca) (i := a) (by omega) (by omega))
    have e4 : ∀ {R : Type} (k : Option R), inR b pu.length k = k := fun k => inR_in (by omega) (by omega) k
    have e5 : ∀ {R : Type} (k : (Int × Int) → Option R), getI pu b k = k (gd pu b) := fun k => getI_gd (by omega) (by omega) k
    simp only [e4, e5, bindV_eq]
    rw [g82_eq _ _ _ _ _ _ (by omega) (by simp only; omega) (wI (by simp only; omega) (by simp only; omega)) (wI (by simp only; omega) (by simp only; omega))]
    rfl
  by_cases k4 : kd = 4
  · subst k4
    simp only [Int.reduceBEq, cond_true, cond_false, Bool.and_eq_true, rng_iff, decide_eq_true_eq] at hd ⊢
    obtain ⟨hA, hB, hN, hle, hcs⟩ := hd
    have q1 := np _ (gd_mem (l := pu) (i := b) (by omega) (by omega))
    have q2 := nc _ (gd_mem (l := ca) (i := a) (by omega) (by omega))
    have q3 := ns _ (gd_mem (l := st) (i := a) (by omega) (by omega))
    have q4 := z1 (i := a) (by omega) (by omega)
    have q5 := z2 (i := b) (by omega) (by omega)
    have m0 : 0 ≤ n * rf := Int.mul_nonneg (by omega) r0
    have m1 : n * rf ≤ 100000 * 1000 := Int.mul_le_mul hN.2 r1 r0 (by omega)
    have e1 : ∀ {R : Type} (k : Option R), inR a st.length k = k := fun k => inR_in (by omega) (by omega) k
    have e2 : ∀ {R : Type} (k : Int → Option R), getI st a k = k (gd st a) := fun k => getI_gd (by omega) (by omega) k
    have e4 : ∀ {R : Type} (k : Option R), inR b pu.length k = k := fun k => inR_in (by omega) (by omega) k
    have e5 : ∀ {R : Type} (k : (Int × Int) → Option R), getI pu b k = k (gd pu b) := fun k => getI_gd (by omega) (by omega) k
    have w5 : IntKind.wrap .i64 ((gd pu b).1 - n) = (gd pu b).1 - n := wI (by omega) (by omega)
    have w6 : IntKind.wrap .i64 (gd st a + n) = gd st a + n := wI (by omega) (by omega)
    have w7 : IntKind.wrap .i64 (rt + n) = rt + n := wI (by omega) (by omega)
    have w8 : IntKind.wrap .i64 (0 - n) = 0 - n := wI (by omega) (by omega)
    have m2 : (0 - n) * rf = -(n * rf) := by rw [Int.sub_mul, Int.zero_mul, Int.zero_sub]
    have w9 : IntKind.wrap .i64 (-(n * rf)) = -(n * rf) := wI (by omega) (by omega)
    simp only [e1, e2, e4, e5, w5, w6, w7, w8, m2, w9, bindV_eq]
    rw [g82_eq _ _ _ _ _ _ (by omega) (by simp only; omega) (wI (by simp only; omega) (by simp only; omega)) (wI (by simp only; omega) (by simp only; omega))]
    rfl
  by_cases k5 : kd = 5
  · subst k5
    simp only [Int.reduceBEq, cond_true, cond_false, Bool.and_eq_true, rng_iff, beq_iff_eq] at hd ⊢
    obtain ⟨hA, hB, hN⟩ := hd
    have q3 := ns _ (gd_mem (l := st) (i := a) (by omega) (by omega))
    have q4 := z1 (i := a) (by omega) (by omega)
    have q5 := nb _ (gd_mem (l := bo) (i := b) (by omega) (by omega))
    have q6 := z3 (i := b) (by omega) (by omega)
    have e1 : ∀ {R : Type} (k : Option R), inR a st.length k = k := fun k => inR_in (by omega) (by omega) k
    have e2 : ∀ {R : Type} (k : Int → Option R), getI st a k = k (gd st a) := fun k => getI_gd (by omega) (by omega) k
    have e4 : ∀ {R : Type} (k : Option R), inR b bo.length k = k := fun k => inR_in (by omega) (by omega) k
    have e5 : ∀ {R : Type} (k : Int → Option R), getI bo b k = k (gd bo b) := fun k => getI_gd (by omega) (by omega) k
    have w5 : IntKind.wrap .i64 (gd st a + gd bo b) = gd st a + gd bo b := wI (by omega) (by omega)
    simp only [e1, e2, e4, e5, w5, bindV_eq]
    rfl
  by_cases k6 : kd = 6
  · subst k6
    simp only [Int.reduceBEq, cond_true, cond_false, Bool.and_eq_true, rng_iff, decide_eq_true_eq, Bool.not_eq_true', beq_eq_false_iff_ne] at hd ⊢
    obtain ⟨hA, hB, hne, hN, hle⟩ := hd
    have q1 := np _ (gd_mem (l := pu) (i := b) (by omega) (by omega))
    have q5 := z2 (i := b) (by omega) (by omega)
    have q7 := z2 (i := a) (by omega) (by omega)
    have e1 : ∀ {R : Type} (k : Option R), inR a pu.length k = k := fun k => inR_in (by omega) (by omega) k
    have e2 : ∀ {R : Type} (k : (Int × Int) → Option R), getI pu a k = k (gd pu a) := fun k => getI_gd (by omega) (by omega) k
    have e3 : ∀ (v : Int × Int), gd (pu.set a.toNat v) b = gd pu b := fun v => gd_set_ne (by omega) (by omega) (Ne.symm hne)
    have e4 : ∀ {R : Type} (v : Int × Int) (k : Option R), inR b (pu.set a.toNat v).length k = k := fun v k => inR_in (by omega) (by rw [List.length_set]; omega) k
    have e5 : ∀ {R : Type} (v : Int × Int) (k : (Int × Int) → Option R), getI (pu.set a.toNat v) b k = k (gd pu b) := fun v k => by rw [getI_gd (by omega) (by rw [List.length_set]; omega), e3]
    have w5 : IntKind.wrap .i64 ((gd pu b).1 + n) = (gd pu b).1 + n := wI (by omega) (by omega)
    have w6 : IntKind.wrap .i64 ((gd pu a).1 - n) = (gd pu a).1 - n := wI (by omega) (by omega)
    simp only [e1, e2, e4, e5, w5, w6, bindV_eq]
    unfold mv
    rw [e3]
    rfl
  by_cases k7 : kd = 7
  · subst k7
    simp only [Int.reduceBEq, cond_true, cond_false, Bool.and_eq_true, rng_iff, decide_eq_true_eq, beq_iff_eq] at hd ⊢
    obtain ⟨hA, hB, hN, hle⟩ := hd
    have q6 := np _ (gd_mem (l := pu) (i := a) (by omega) (by omega))
    have q7 := z2 (i := a) (by omega) (by omega)
    have e1 : ∀ {R : Type} (k : Option R), inR a pu.length k = k := fun k => inR_in (by omega) (by omega) k
    have e2 : ∀ {R : Type} (k : (Int × Int) → Option R), getI pu a k = k (gd pu a) := fun k => getI_gd (by omega) (by omega) k
    have w5 : IntKind.wrap .i64 (lo + n) = lo + n := wI (by omega) (by omega)
    have w6 : IntKind.wrap .i64 ((gd pu a).1 - n) = (gd pu a).1 - n := wI (by omega) (by omega)
    have w7 : IntKind.wrap .i64 (ls' + n) = ls' + n := wI (by omega) (by omega)
    simp only [e1, e2, w5, w6, w7, bindV_eq]
    rfl
  · simp only [beq_false_of_ne k1, beq_false_of_ne k2, beq_false_of_ne k3, beq_false_of_ne k4, beq_false_of_ne k5, beq_false_of_ne k6, beq_false_of_ne k7, cond_false] at hd
    cases hd
end Go.Proofs.Try.V
