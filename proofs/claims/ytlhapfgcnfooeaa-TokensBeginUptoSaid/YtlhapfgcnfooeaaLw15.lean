/- Plain laws of layer 1: TokensStay. No condition beyond those typed in each theorem. -/
import Derived.Test.YtlhapfgcnfooeaaLw14
namespace Go.Proofs.Try.V
open Go.Vi
set_option maxRecDepth 100000

theorem sum_take' {P : List Int} {i : Nat} (h : i < P.length) (a : Int) : a + (P.take (i + 1)).sum = a + (P.take i).sum + gd P (i : Int) := by rw [sum_take h]; omega
/-- A loop that adds a list's numbers up. -/
theorem loopSum {D R : Type} {L : Nat → D → Option R} (mk : Int → Nat → D) (P : List Int) (res : Int → R) (c : Nat) (a : Int) {N : Nat} (hN : P.length + c < N)
    (hb : ∀ i, i ≤ P.length → -4000000000000000000 ≤ a + (P.take i).sum ∧ a + (P.take i).sum ≤ 4000000000000000000)
    (hend : ∀ N s, L (N + 1) (mk s P.length) = some (res s))
    (hstep : ∀ N s i, c ≤ N → i < P.length → L (N + 1) (mk s i) = L N (mk (IntKind.wrap .i64 (s + gd P (i : Int))) (i + 1))) : L N (mk a 0) = some (res (a + P.sum)) := by
  have h := loopF (L := L) (fun i => mk (a + (P.take i).sum) i) (res (a + P.sum)) c P.length hN (fun N => by rw [hend, List.take_length]) (fun N i hc hi => by
    have h1 := hb (i + 1) (by omega)
    rw [sum_take' hi] at h1
    rw [hstep N _ i hc hi, wI (by omega) (by omega), sum_take' hi])
  simpa using h
theorem nn_bound {P : List Int} (h : ∀ x ∈ P, 0 ≤ x) {a : Int} (h0 : 0 ≤ a) (h1 : a + P.sum ≤ 4000000000000000000) : ∀ i, i ≤ P.length → -4000000000000000000 ≤ a + (P.take i).sum ∧ a + (P.take i).sum ≤ 4000000000000000000 := fun i _ => by
  have := sum_take_le h i
  omega
theorem g23_eq {f : Fair} (hf : Ok f) {c : Cnt} {k : Nat} (h : Inv f c k) : g23 (c, ()) = some ((tot c, ()), ()) := by
  have hfu := fuel_ge
  have e0 : g23 (c, ()) = F23 fuel c := rfl
  rw [e0]
  have hsum := hf.sum
  have ht := h.tt
  unfold tot at ht
  have n1 := sum_nn h.ns
  have n2 := sumP_nn h.np
  have n3 := sum_nn h.nb
  have n4 := h.nl
  have l1 := h.ls
  have l2 := h.lp
  have l3 := h.lb
  have m1 := hf.s8
  have m2 := hf.p1
  have m3 := hf.b1
  obtain ⟨P, hP⟩ : ∃ P, c.2.2.1.map (·.1) = P := ⟨_, rfl⟩
  have hPl : P.length = c.2.2.1.length := by rw [← hP, List.length_map]
  have hPn : ∀ x ∈ P, 0 ≤ x := fun x hx => by
    rw [← hP] at hx
    obtain ⟨y, hy, rfl⟩ := List.mem_map.1 hx
    exact h.np y hy
  have hPs : P.sum = sumP c.2.2.1 := by rw [← hP]; rfl
  unfold F23
  have a1 := loopSum (L := L23_3) (fun s i => ((s, (i : Int), ()), (c, ()), ())) c.1 (fun s => ((s, ()), (c, ()), ())) 0 c.2.2.2.2 (N := fuel) (by omega) (nn_bound h.ns n4 (by omega))
    (fun N s => by simp only [L23_3, B23_3]; rw [dec_f (by omega), cond_false])
    (fun N s i _ hi => by simp only [L23_3, B23_3]; rw [dec_t (by omega), cond_true, getI_gd (by omega) (by omega), wI (x := (i : Int) + 1) (by omega) (by omega)]; rfl)
  have a1' : L23_3 fuel ((c.2.2.2.2, 0, ()), (c, ()), ()) = _ := a1
  rw [a1', derefK_some]
  have a2 := loopSum (L := L23_7) (fun s i => ((s, (i : Int), ()), (c, ()), ())) P (fun s => ((s, ()), (c, ()), ())) 0 (c.2.2.2.2 + c.1.sum) (N := fuel) (by omega) (nn_bound hPn (by omega) (by omega))
    (fun N s => by simp only [L23_7, B23_7]; rw [dec_f (by omega), cond_false])
    (fun N s i _ hi => by
      have h5 : gd P (i : Int) = (gd c.2.2.1 (i : Int)).1 := by rw [← hP]; exact gd_map1 (by omega)
      simp only [L23_7, B23_7]; rw [dec_t (by omega), cond_true, getI_gd (by omega) (by omega), wI (x := (i : Int) + 1) (by omega) (by omega), h5]; rfl)
  have a2' : L23_7 fuel ((c.2.2.2.2 + c.1.sum, 0, ()), (c, ()), ()) = _ := a2
  simp only
  rw [a2', derefK_some]
  have a3 := loopSum (L := L23_11) (fun s i => ((s, (i : Int), ()), (c, ()), ())) c.2.2.2.1 (fun s => ((s, ()), (), ())) 0 (c.2.2.2.2 + c.1.sum + P.sum) (N := fuel) (by omega) (nn_bound h.nb (by omega) (by omega))
    (fun N s => by simp only [L23_11, B23_11]; rw [dec_f (by omega), cond_false])
    (fun N s i _ hi => by simp only [L23_11, B23_11]; rw [dec_t (by omega), cond_true, getI_gd (by omega) (by omega), wI (x := (i : Int) + 1) (by omega) (by omega)]; rfl)
  have a3' : L23_11 fuel ((c.2.2.2.2 + c.1.sum + P.sum, 0, ()), (c, ()), ()) = _ := a3
  simp only
  rw [a3', derefK_some]
  unfold tot
  simp only
  rw [show c.2.2.2.2 + c.1.sum + P.sum + c.2.2.2.1.sum = c.1.sum + sumP c.2.2.1 + c.2.2.2.1.sum + c.2.2.2.2 by omega]

theorem works_k : (derefK (g17 ()) fun y => some ((y.1.1, ()), ())) = some ((true, ()), ()) := by
  rw [works_eq]
  rfl
theorem g21_eq (l : List Deal) : g21 (l, ()) = some ((decide (40 < l.length) && decide (l.length ≤ 200), ()), ()) := by
  have e0 : g21 (l, ()) = F21 fuel l := rfl
  rw [e0]
  unfold F21
  by_cases h : 40 < l.length
  · rw [dec_t (p := (l.length : Int) > 40) (by omega), dec_t h, cond_true, Bool.true_and]
    by_cases h2 : l.length ≤ 200
    · rw [dec_t (p := (l.length : Int) ≤ 200) (by omega), dec_t h2]
    · rw [dec_f (p := (l.length : Int) ≤ 200) (by omega), dec_f h2]
  · rw [dec_f (p := (l.length : Int) > 40) (by omega), dec_f h]
    rfl

/-- TokensStay. -/
theorem law5 (f : Fair) (hs : Sized f) (l : List Deal) : g5 (f, l, ()) = some ((true, ()), ()) := by
  have hfu := fuel_ge
  have e0 : g5 (f, l, ()) = F5 fuel f l := rfl
  rw [e0]
  unfold F5
  rw [g21_eq, derefK_some]
  simp only
  cases decide (40 < l.length) && decide (l.length ≤ 200) with
  | true => exact works_k
  | false =>
  rw [cond_false, g22_eq f hs l, derefK_some]
  cases hw : wrong f l with
  | some x =>
    simp only
    rw [bne_iff_ne.2 (wrong_ne hw), cond_true]
    exact works_k
  | none =>
    obtain ⟨hf, _, hl, hb⟩ := wrong_none hw
    have hI := Inv.all hf l l.length hb
    simp only
    rw [show ((0 : Int) != 0) = false from rfl, cond_false]
    revert hI
    generalize stC f l l.length = c
    intro hI
    have hsum := hf.sum
    have n4 := hI.nl
    have l1 := hI.ls
    have l0 := hI.lc
    have l2 := hI.lp
    have l3 := hI.lb
    have m1 := hf.s8
    have m2 := hf.p1
    have m3 := hf.b1
    have m4 := hf.p0
    have m5 := hf.b0
    have a1 := loopSum (L := L5_8) (fun s i => ((s, (i : Int), ()), (f, c, ()), ())) f.2.2.1 (fun s => ((s, ()), (f, c, ()), ())) 0 0 (N := fuel) (by omega) (nn_bound (fun x hx => (hf.st x hx).1) (Int.le_refl _) (by omega))
      (fun N s => by simp only [L5_8, B5_8]; rw [dec_f (by omega), cond_false])
      (fun N s i _ hi => by simp only [L5_8, B5_8]; rw [dec_t (by omega), cond_true, getI_gd (by omega) (by omega), wI (x := (i : Int) + 1) (by omega) (by omega)]; rfl)
    have a1' : L5_8 fuel ((0, 0, ()), (f, c, ()), ()) = _ := a1
    rw [a1', derefK_some]
    have q1 : ((c.1.length : Int) != (f.2.2.1.length : Int)) = false := by rw [l1, bne_self_eq_false]
    have q2 : ((c.2.1.length : Int) != (f.2.2.1.length : Int)) = false := by rw [l0, bne_self_eq_false]
    have q3 : ((c.2.2.1.length : Int) != f.1) = false := by rw [show (c.2.2.1.length : Int) = f.1 by omega, bne_self_eq_false]
    have q4 : ((c.2.2.2.1.length : Int) != f.2.1) = false := by rw [show (c.2.2.2.1.length : Int) = f.2.1 by omega, bne_self_eq_false]
    simp only
    rw [q1, cond_false, q2, cond_false, q3, cond_false, q4, cond_false, dec_f (p := c.2.2.2.2 < 0) (by omega), cond_false]
    have a2 := loopF (L := L5_14) (fun i => ((0 + f.2.2.1.sum, (i : Int), ()), (c, ()), ())) (.inr ((0 + f.2.2.1.sum, ()), (c, ()), ())) 0 c.1.length (N := fuel) (by omega)
      (fun N => by simp only [L5_14, B5_14]; rw [dec_f (by omega), cond_false])
      (fun N i _ hi => by
        have h1 := hI.ns _ (gd_mem (l := c.1) (i := (i : Int)) (by omega) (by omega))
        have h2 := hI.nc _ (gd_mem (l := c.2.1) (i := (i : Int)) (by omega) (by omega))
        simp only [L5_14, B5_14]
        rw [dec_t (by omega), cond_true, getI_gd (by omega) (by omega), dec_f (by omega), cond_false, getI_gd (by omega) (by omega), dec_f (by omega), cond_false, wI (x := (i : Int) + 1) (by omega) (by omega)]
        rfl)
    have a2' : L5_14 fuel ((0 + f.2.2.1.sum, 0, ()), (c, ()), ()) = _ := a2
    rw [a2', derefK_some, sumK_inr]
    have a3 := loopF (L := L5_19) (fun i => ((0 + f.2.2.1.sum, (i : Int), ()), (c, ()), ())) (.inr ((0 + f.2.2.1.sum, ()), (c, ()), ())) 0 c.2.2.1.length (N := fuel) (by omega)
      (fun N => by simp only [L5_19, B5_19]; rw [dec_f (by omega), cond_false])
      (fun N i _ hi => by
        have h1 := hI.np _ (gd_mem (l := c.2.2.1) (i := (i : Int)) (by omega) (by omega))
        simp only [L5_19, B5_19]
        rw [dec_t (by omega), cond_true, getI_gd (by omega) (by omega), dec_f (by omega), cond_false, wI (x := (i : Int) + 1) (by omega) (by omega)]
        rfl)
    have a3' : L5_19 fuel ((0 + f.2.2.1.sum, 0, ()), (c, ()), ()) = _ := a3
    simp only
    rw [a3', derefK_some, sumK_inr]
    have a4 := loopF (L := L5_24) (fun i => ((0 + f.2.2.1.sum, (i : Int), ()), (c, ()), ())) (.inr ((0 + f.2.2.1.sum, ()), (c, ()), ())) 0 c.2.2.2.1.length (N := fuel) (by omega)
      (fun N => by simp only [L5_24, B5_24]; rw [dec_f (by omega), cond_false])
      (fun N i _ hi => by
        have h1 := hI.nb _ (gd_mem (l := c.2.2.2.1) (i := (i : Int)) (by omega) (by omega))
        simp only [L5_24, B5_24]
        rw [dec_t (by omega), cond_true, getI_gd (by omega) (by omega), dec_f (by omega), cond_false, wI (x := (i : Int) + 1) (by omega) (by omega)]
        rfl)
    have a4' : L5_24 fuel ((0 + f.2.2.1.sum, 0, ()), (c, ()), ()) = _ := a4
    simp only
    rw [a4', derefK_some, sumK_inr]
    simp only
    rw [g23_eq hf hI, derefK_some, hI.tt, Int.zero_add, beq_self_eq_true, cond_true]
    exact works_k
end Go.Proofs.Try.V
