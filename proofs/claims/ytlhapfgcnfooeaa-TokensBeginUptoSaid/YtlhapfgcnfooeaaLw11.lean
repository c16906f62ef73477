/- Plain laws of layer 1: a deal by the program. No condition beyond those typed in each theorem. -/
import Derived.Test.YtlhapfgcnfooeaaLw10
namespace Go.Proofs.Try.V
open Go.Vi
set_option maxRecDepth 100000

abbrev Stand := Fair × (Cnt × (Int × Night))
def nightD (f : Fair) (c : Cnt) (d : Deal) (t : Night) : Night :=
  bif d.2.1 == 1 then (t.1 + (gd f.2.2.2.2.1 d.2.2.2.2).1, t.2.1, t.2.2.1, t.2.2.2.1, t.2.2.2.2.1, t.2.2.2.2.2 + (gd f.2.2.2.2.1 d.2.2.2.2).2)
  else bif d.2.1 == 2 then (bif decide (d.1 < (gd c.2.2.1 d.2.2.1).2) then t else (t.1, t.2.1 + d.2.2.2.2, t.2.2.1, t.2.2.2.1, t.2.2.2.2.1, t.2.2.2.2.2))
  else bif d.2.1 == 3 then (t.1, t.2.1, t.2.2.1, t.2.2.2.1, t.2.2.2.2.1, t.2.2.2.2.2 + f.2.2.2.2.2.2.1)
  else bif d.2.1 == 4 then (t.1, t.2.1, t.2.2.1 + d.2.2.2.2, t.2.2.2.1, t.2.2.2.2.1, t.2.2.2.2.2 + -(d.2.2.2.2 * f.2.2.2.2.2.1))
  else bif d.2.1 == 7 then (t.1, t.2.1, t.2.2.1, t.2.2.2.1, t.2.2.2.2.1 + d.2.2.2.2, t.2.2.2.2.2)
  else t
/-- What a night's account may be behind k deals. -/
structure NInv (t : Night) (k : Nat) : Prop where
  s0 : 0 ≤ t.1
  s1 : t.1 ≤ 100000 * k
  t0 : 0 ≤ t.2.1
  t1 : t.2.1 ≤ 100000 * k
  r0 : 0 ≤ t.2.2.1
  r1 : t.2.2.1 ≤ 100000 * k
  h : t.2.2.2.1 = 0
  l0 : 0 ≤ t.2.2.2.2.1
  l1 : t.2.2.2.2.1 ≤ 100000 * k
  c0 : -(100000000 * (k : Int)) ≤ t.2.2.2.2.2
  c1 : t.2.2.2.2.2 ≤ 1000000 * k
def nt0 : Night := (0, 0, 0, 0, 0, 0)
theorem NInv.zero : NInv nt0 0 := ⟨by decide, by decide, by decide, by decide, by decide, by decide, rfl, by decide, by decide, by decide, by decide⟩
theorem NInv.step {f : Fair} (hf : Ok f) {c : Cnt} {k : Nat} (h : Inv f c k) {t : Night} (ht : NInv t k) {d : Deal} (hd : okD f c d = true) : NInv (nightD f c d t) (k + 1) := by
  obtain ⟨P, X, S, C, Bs, rf, bd, hr⟩ := f
  obtain ⟨st, ca, pu, bo, lo⟩ := c
  obtain ⟨at', kd, a, b, n⟩ := d
  obtain ⟨sd, tk, rt, he, ls, cs⟩ := t
  obtain ⟨a0, a1, a2, a3, a4, a5, a6, a7, a8, a9, a10⟩ := ht
  obtain ⟨s1, s8, c8, p0, p1, b0, b1, hst, hca, r0, r1, d0, d1, h0, h1, fine, six, _⟩ := hf
  unfold okD at hd
  unfold nightD
  simp only at *
  by_cases k1 : kd = 1
  · subst k1
    simp only [Int.reduceBEq, cond_true, Bool.and_eq_true, rng_iff, decide_eq_true_eq] at hd ⊢
    obtain ⟨hA, hB, hN, hle⟩ := hd
    have hb := fine _ (gd_mem (l := Bs) (i := n) (by omega) (by omega))
    refine ⟨?_, ?_, ?_, ?_, ?_, ?_, ?_, ?_, ?_, ?_, ?_⟩ <;> simp only <;> omega
  by_cases k2 : kd = 2
  · subst k2
    simp only [Int.reduceBEq, cond_true, cond_false, Bool.and_eq_true, rng_iff] at hd ⊢
    obtain ⟨hA, hB, hN, hle⟩ := hd
    cases decide (at' < (gd pu a).2) <;> refine ⟨?_, ?_, ?_, ?_, ?_, ?_, ?_, ?_, ?_, ?_, ?_⟩ <;> simp only [cond_true, cond_false] <;> omega
  by_cases k3 : kd = 3
  · subst k3
    simp only [Int.reduceBEq, cond_true, cond_false]
    refine ⟨?_, ?_, ?_, ?_, ?_, ?_, ?_, ?_, ?_, ?_, ?_⟩ <;> simp only <;> omega
  by_cases k4 : kd = 4
  · subst k4
    simp only [Int.reduceBEq, cond_true, cond_false, Bool.and_eq_true, rng_iff, decide_eq_true_eq] at hd ⊢
    obtain ⟨hA, hB, hN, hle, hcs⟩ := hd
    have m0 : 0 ≤ n * rf := Int.mul_nonneg (by omega) r0
    have m1 : n * rf ≤ 100000 * 1000 := Int.mul_le_mul hN.2 r1 r0 (by omega)
    refine ⟨?_, ?_, ?_, ?_, ?_, ?_, ?_, ?_, ?_, ?_, ?_⟩ <;> simp only <;> omega
  by_cases k7 : kd = 7
  · subst k7
    simp only [Int.reduceBEq, cond_true, cond_false, Bool.and_eq_true, rng_iff] at hd ⊢
    obtain ⟨hA, hB, hN, hle⟩ := hd
    refine ⟨?_, ?_, ?_, ?_, ?_, ?_, ?_, ?_, ?_, ?_, ?_⟩ <;> simp only <;> omega
  · simp only [beq_false_of_ne k1, beq_false_of_ne k2, beq_false_of_ne k3, beq_false_of_ne k4, beq_false_of_ne k7, cond_false]
    refine ⟨?_, ?_, ?_, ?_, ?_, ?_, ?_, ?_, ?_, ?_, ?_⟩ <;> simp only <;> omega

theorem g77_eq (s : Stand) (n : Int) (h : s.2.1.1.length ≤ 1000) : g77 (s, n, ()) = some ((rng n 0 ((s.2.1.1.length : Int) - 1), ()), ()) := by
  show F77 fuel s n = _
  unfold F77
  rw [wI (by omega) (by omega), g42_eq]
  rfl
theorem g78_eq (s : Stand) (n : Int) (h0 : 0 ≤ s.1.1) (h : s.1.1 ≤ 1000) : g78 (s, n, ()) = some ((rng n 0 (s.1.1 - 1), ()), ()) := by
  show F78 fuel s n = _
  unfold F78
  rw [wI (by omega) (by omega), g42_eq]
  rfl
theorem g79_eq (s : Stand) (n : Int) (h0 : 0 ≤ s.1.2.1) (h : s.1.2.1 ≤ 1000) : g79 (s, n, ()) = some ((rng n 0 (s.1.2.1 - 1), ()), ()) := by
  show F79 fuel s n = _
  unfold F79
  rw [wI (by omega) (by omega), g42_eq]
  rfl
theorem g80_eq (s : Stand) (p t : Int) (h0 : 0 ≤ p) (h : p < s.2.1.2.2.1.length) : g80 (s, p, t, ()) = some ((decide (t < (gd s.2.1.2.2.1 p).2), ()), ()) := by
  show F80 fuel s p t = _
  unfold F80
  rw [getI_gd h0 h]
theorem g81_eq (s : Stand) (p n : Int) (h0 : 0 ≤ s.1.1) (h : s.1.1 ≤ 1000) (hl : (s.2.1.2.2.1.length : Int) = s.1.1) : g81 (s, p, n, ()) = some ((rng p 0 (s.1.1 - 1) && rng n 1 (gd s.2.1.2.2.1 p).1, ()), ()) := by
  show F81 fuel s p n = _
  unfold F81
  rw [g78_eq s p h0 h, derefK_some]
  simp only
  cases hp : rng p 0 (s.1.1 - 1)
  · rfl
  rw [rng_iff] at hp
  rw [cond_true, getI_gd (by omega) (by omega), g42_eq]
  rfl
theorem rng_le {n lo hi m : Int} (h : n ≤ m) : rng n lo hi = (rng n lo m && decide (n ≤ hi)) := by
  unfold rng
  by_cases h1 : lo ≤ n
  · rw [dec_t h1, dec_t h]
    rfl
  · rw [dec_f h1]
    rfl
theorem rng_big {n lo hi : Int} (h : ¬ n ≤ hi) : rng n lo hi = false := rng_f.2 (by omega)

theorem g72_eq {f : Fair} (hf : Ok f) {c : Cnt} {k : Nat} (h : Inv f c k) (last : Int) (t : Night) (d : Deal) : g72 ((f, (c, (last, t))), d, ()) = some ((rng d.1 last 1440 && okD f c d, ()), ()) := by
  have e0 : g72 ((f, (c, (last, t))), d, ()) = F72 fuel (f, (c, (last, t))) d := rfl
  rw [e0]
  obtain ⟨P, X, S, C, Bs, rf, bd, hr⟩ := f
  obtain ⟨st, ca, pu, bo, lo⟩ := c
  obtain ⟨at', kd, a, b, n⟩ := d
  obtain ⟨ls, lc, lp, lb, ns, nc, np, nb, nl, tt⟩ := h
  obtain ⟨s1, s8, c8, p0, p1, b0, b1, hst, hca, r0, r1, d0, d1, h0, h1, fine, six, _⟩ := hf
  simp only at *
  have e1 : ∀ n, g77 (((P, X, S, C, Bs, rf, bd, hr), ((st, ca, pu, bo, lo), (last, t))), n, ()) = some ((rng n 0 ((st.length : Int) - 1), ()), ()) := fun n => g77_eq _ n (by simp only; omega)
  have e2 : ∀ n, g78 (((P, X, S, C, Bs, rf, bd, hr), ((st, ca, pu, bo, lo), (last, t))), n, ()) = some ((rng n 0 ((pu.length : Int) - 1), ()), ()) := fun n => by
    rw [show (pu.length : Int) = P by omega]
    exact g78_eq _ n p0 (by simp only; omega)
  have e3 : ∀ n, g79 (((P, X, S, C, Bs, rf, bd, hr), ((st, ca, pu, bo, lo), (last, t))), n, ()) = some ((rng n 0 ((bo.length : Int) - 1), ()), ()) := fun n => by
    rw [show (bo.length : Int) = X by omega]
    exact g79_eq _ n b0 (by simp only; omega)
  have e4 : ∀ p n, g81 (((P, X, S, C, Bs, rf, bd, hr), ((st, ca, pu, bo, lo), (last, t))), p, n, ()) = some ((rng p 0 ((pu.length : Int) - 1) && rng n 1 (gd pu p).1, ()), ()) := fun p n => by
    rw [show (pu.length : Int) = P by omega]
    exact g81_eq _ p n p0 (by simp only; omega) (by simp only; omega)
  unfold F72 okD
  have w4 : IntKind.wrap .i64 ((Bs.length : Int) - 1) = (Bs.length : Int) - 1 := wI (by omega) (by omega)
  simp only [g42_eq, derefK_some, e1, e2, e3, e4, w4]
  cases rng at' last 1440
  · rfl
  simp only [Bool.not_true, cond_false, Bool.true_and]
  by_cases hn : n > 100000
  · rw [dec_t hn, cond_true]
    by_cases k1 : kd = 1
    · subst k1
      simp only [Int.reduceBEq, cond_true]
      rw [rng_big (n := n) (hi := (Bs.length : Int) - 1) (by omega)]
      cases rng a 0 ((st.length : Int) - 1) <;> cases rng b 0 ((pu.length : Int) - 1) <;> rfl
    by_cases k2 : kd = 2
    · subst k2
      simp only [Int.reduceBEq, cond_true, cond_false]
      rw [rng_big (n := n) (hi := 1000) (by omega)]
      cases rng a 0 ((pu.length : Int) - 1) <;> cases rng b 0 ((bo.length : Int) - 1) <;> rfl
    rw [rng_big (n := n) (hi := 100000) (by omega), beq_false_of_ne (show n ≠ 0 by omega), beq_false_of_ne k1, beq_false_of_ne k2]
    simp only [Bool.false_and, Bool.and_false, cond_false]
    cases kd == 3 <;> cases kd == 4 <;> cases kd == 5 <;> cases kd == 6 <;> cases kd == 7 <;> rfl
  rw [dec_f hn, cond_false]
  have e5 : ∀ p, rng n 1 (gd pu p).1 = (rng n 1 100000 && decide (n ≤ (gd pu p).1)) := fun p => rng_le (by omega)
  simp only [e5]
  by_cases k1 : kd = 1
  · subst k1
    simp only [Int.reduceBEq, cond_true]
    cases hA : rng a 0 ((st.length : Int) - 1)
    · rfl
    cases hB : rng b 0 ((pu.length : Int) - 1)
    · rfl
    cases hN : rng n 0 ((Bs.length : Int) - 1)
    · rfl
    rw [rng_iff] at hA hB hN
    simp only [cond_true, Bool.true_and]
    rw [getI_gd (by omega) (by omega), getI_gd (by omega) (by omega)]
  by_cases k2 : kd = 2
  · subst k2
    simp only [Int.reduceBEq, cond_true, cond_false]
    cases hA : rng a 0 ((pu.length : Int) - 1)
    · rfl
    cases hB : rng b 0 ((bo.length : Int) - 1)
    · rfl
    cases hN : rng n 0 1000
    · rfl
    rw [rng_iff] at hA hB hN
    simp only [cond_true, Bool.true_and]
    rw [g80_eq _ _ _ (by omega) (by simp only; omega), derefK_some, getI_gd (by omega) (by omega)]
    cases decide (at' < (gd pu a).2) <;> rfl
  by_cases k3 : kd = 3
  · subst k3
    simp only [Int.reduceBEq, cond_true, cond_false]
    cases hA : rng a 0 ((st.length : Int) - 1)
    · rfl
    cases hB : rng b 0 ((pu.length : Int) - 1) <;> rfl
  by_cases k4 : kd = 4
  · subst k4
    simp only [Int.reduceBEq, cond_true, cond_false]
    cases hA : rng a 0 ((st.length : Int) - 1)
    · rfl
    cases hB : rng b 0 ((pu.length : Int) - 1)
    · rfl
    cases hN : rng n 1 100000
    · rfl
    cases hle : decide (n ≤ (gd pu b).1)
    · rfl
    rw [rng_iff] at hA hB hN
    have m0 : 0 ≤ n * rf := Int.mul_nonneg (by omega) r0
    have m1 : n * rf ≤ 100000 * 1000 := Int.mul_le_mul hN.2 r1 r0 (by omega)
    simp only [cond_true, Bool.true_and, bindV_eq]
    rw [getI_gd (by omega) (by omega), wI (by omega) (by omega)]
  by_cases k5 : kd = 5
  · subst k5
    simp only [Int.reduceBEq, cond_true, cond_false]
    cases hA : rng a 0 ((st.length : Int) - 1)
    · rfl
    cases hB : rng b 0 ((bo.length : Int) - 1) <;> rfl
  by_cases k6 : kd = 6
  · subst k6
    simp only [Int.reduceBEq, cond_true, cond_false]
    cases rng a 0 ((pu.length : Int) - 1) <;> cases rng b 0 ((pu.length : Int) - 1) <;> cases rng n 1 100000 <;> cases decide (n ≤ (gd pu a).1) <;> cases hab : (a == b) <;> simp [bne, hab]
  by_cases k7 : kd = 7
  · subst k7
    simp only [Int.reduceBEq, cond_true, cond_false]
    cases rng a 0 ((pu.length : Int) - 1) <;> cases rng n 1 100000 <;> cases decide (n ≤ (gd pu a).1) <;> cases hab : (b == 0) <;> simp
  · simp only [beq_false_of_ne k1, beq_false_of_ne k2, beq_false_of_ne k3, beq_false_of_ne k4, beq_false_of_ne k5, beq_false_of_ne k6, beq_false_of_ne k7, cond_false]
end Go.Proofs.Try.V
