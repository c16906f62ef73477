/- Plain laws of layer 1: how a fair goes on with a deal, and what stays. No condition beyond those typed in each theorem. -/
import Derived.Test.YtlhapfgcnfooeaaLw8
namespace Go.Proofs.Try.V
open Go.Vi
set_option maxRecDepth 100000

/-! ## Sums -/
theorem sum_set {l : List Int} {i : Nat} {v : Int} (h : i < l.length) : (l.set i v).sum = l.sum - gd l (i : Int) + v := by
  induction l generalizing i with
  | nil => simp at h
  | cons x l ih =>
    cases i with
    | zero =>
      rw [show gd (x :: l) ((0 : Nat) : Int) = x from rfl]
      simp only [List.set_cons_zero, List.sum_cons]
      omega
    | succ i =>
      have e : gd (x :: l) ((i + 1 : Nat) : Int) = gd l (i : Int) := by
        have h1 := gd_nat (l := l) (i := i) (by simpa using h)
        exact gd_of (by simpa using h1)
      rw [e]
      simp only [List.set_cons_succ, List.sum_cons]
      rw [ih (by simpa using h)]
      omega
theorem sum_nn {l : List Int} (h : ∀ x ∈ l, 0 ≤ x) : 0 ≤ l.sum := by
  induction l with
  | nil => exact Int.le_refl _
  | cons x l ih =>
    have h1 := h x (List.mem_cons_self ..)
    have h2 := ih fun y hy => h y (List.mem_cons_of_mem _ hy)
    rw [List.sum_cons]
    omega
theorem mem_le_sum {l : List Int} (h : ∀ x ∈ l, 0 ≤ x) {y : Int} (hy : y ∈ l) : y ≤ l.sum := by
  induction l with
  | nil => cases hy
  | cons x l ih =>
    have h1 := h x (List.mem_cons_self ..)
    have h2 : ∀ y ∈ l, 0 ≤ y := fun y hy => h y (List.mem_cons_of_mem _ hy)
    have h3 := sum_nn h2
    rw [List.sum_cons]
    rcases List.mem_cons.1 hy with rfl | hy
    · omega
    · have := ih h2 hy; omega
theorem sum_le {l : List Int} {m : Int} (h : ∀ x ∈ l, x ≤ m) : l.sum ≤ l.length * m := by
  induction l with
  | nil => simp
  | cons x l ih =>
    have h1 := h x (List.mem_cons_self ..)
    have h2 := ih fun y hy => h y (List.mem_cons_of_mem _ hy)
    rw [List.sum_cons, List.length_cons, Int.natCast_succ, Int.add_mul]
    omega
theorem sum_replicate_zero (n : Nat) : (List.replicate n (0 : Int)).sum = 0 := by
  induction n with
  | zero => rfl
  | succ n ih => rw [List.replicate_succ, List.sum_cons, ih]; rfl
def sumP (l : List (Int × Int)) : Int := (l.map (·.1)).sum
theorem gd_map1 {l : List (Int × Int)} {i : Nat} (h : i < l.length) : gd (l.map (·.1)) (i : Int) = (gd l (i : Int)).1 := gd_of (by rw [List.getElem?_map, gd_nat h]; rfl)
theorem sumP_set {l : List (Int × Int)} {i : Nat} {v : Int × Int} (h : i < l.length) : sumP (l.set i v) = sumP l - (gd l (i : Int)).1 + v.1 := by
  unfold sumP
  rw [List.map_set, sum_set (by simpa using h), gd_map1 h]
theorem sumP_nn {l : List (Int × Int)} (h : ∀ x ∈ l, 0 ≤ x.1) : 0 ≤ sumP l := sum_nn fun x hx => by
  obtain ⟨y, hy, rfl⟩ := List.mem_map.1 hx
  exact h y hy
theorem mem_le_sumP {l : List (Int × Int)} (h : ∀ x ∈ l, 0 ≤ x.1) {y : Int × Int} (hy : y ∈ l) : y.1 ≤ sumP l := mem_le_sum (fun x hx => by
  obtain ⟨y, hy, rfl⟩ := List.mem_map.1 hx
  exact h y hy) (List.mem_map.2 ⟨y, hy, rfl⟩)

/-! ## One deal -/
def okD (f : Fair) (c : Cnt) (d : Deal) : Bool :=
  let tA := rng d.2.2.1 0 ((c.1.length : Int) - 1)
  let pA := rng d.2.2.1 0 ((c.2.2.1.length : Int) - 1)
  let pB := rng d.2.2.2.1 0 ((c.2.2.1.length : Int) - 1)
  let bB := rng d.2.2.2.1 0 ((c.2.2.2.1.length : Int) - 1)
  bif d.2.1 == 1 then tA && (pB && (rng d.2.2.2.2 0 ((f.2.2.2.2.1.length : Int) - 1) && decide ((gd f.2.2.2.2.1 d.2.2.2.2).1 ≤ gd c.1 d.2.2.1)))
  else bif d.2.1 == 2 then pA && (bB && (rng d.2.2.2.2 0 1000 && (decide (d.1 < (gd c.2.2.1 d.2.2.1).2) || decide (d.2.2.2.2 ≤ (gd c.2.2.1 d.2.2.1).1))))
  else bif d.2.1 == 3 then tA && (pB && (d.2.2.2.2 == 0))
  else bif d.2.1 == 4 then tA && (pB && (rng d.2.2.2.2 1 100000 && (decide (d.2.2.2.2 ≤ (gd c.2.2.1 d.2.2.2.1).1) && decide (d.2.2.2.2 * f.2.2.2.2.2.1 ≤ gd c.2.1 d.2.2.1))))
  else bif d.2.1 == 5 then tA && (bB && (d.2.2.2.2 == 0))
  else bif d.2.1 == 6 then pA && (pB && (!(d.2.2.1 == d.2.2.2.1) && (rng d.2.2.2.2 1 100000 && decide (d.2.2.2.2 ≤ (gd c.2.2.1 d.2.2.1).1))))
  else bif d.2.1 == 7 then pA && ((d.2.2.2.1 == 0) && (rng d.2.2.2.2 1 100000 && decide (d.2.2.2.2 ≤ (gd c.2.2.1 d.2.2.1).1)))
  else false
def mv (l : List (Int × Int)) (i v : Int) : List (Int × Int) := l.set i.toNat ((gd l i).1 + v, (gd l i).2)
def ad (l : List Int) (i v : Int) : List Int := l.set i.toNat (gd l i + v)
def stepD (f : Fair) (c : Cnt) (d : Deal) : Cnt :=
  bif d.2.1 == 1 then (ad c.1 d.2.2.1 (-(gd f.2.2.2.2.1 d.2.2.2.2).1), ad c.2.1 d.2.2.1 (gd f.2.2.2.2.1 d.2.2.2.2).2, mv c.2.2.1 d.2.2.2.1 (gd f.2.2.2.2.1 d.2.2.2.2).1, c.2.2.2.1, c.2.2.2.2)
  else bif d.2.1 == 2 then (bif decide (d.1 < (gd c.2.2.1 d.2.2.1).2) then c else (c.1, c.2.1, mv c.2.2.1 d.2.2.1 (-d.2.2.2.2), ad c.2.2.2.1 d.2.2.2.1 d.2.2.2.2, c.2.2.2.2))
  else bif d.2.1 == 3 then (c.1, ad c.2.1 d.2.2.1 f.2.2.2.2.2.2.1, c.2.2.1.set d.2.2.2.1.toNat ((gd c.2.2.1 d.2.2.2.1).1, max (gd c.2.2.1 d.2.2.2.1).2 (IntKind.wrap .i64 (d.1 + f.2.2.2.2.2.2.2))), c.2.2.2.1, c.2.2.2.2)
  else bif d.2.1 == 4 then (ad c.1 d.2.2.1 d.2.2.2.2, ad c.2.1 d.2.2.1 (-(d.2.2.2.2 * f.2.2.2.2.2.1)), mv c.2.2.1 d.2.2.2.1 (-d.2.2.2.2), c.2.2.2.1, c.2.2.2.2)
  else bif d.2.1 == 5 then (ad c.1 d.2.2.1 (gd c.2.2.2.1 d.2.2.2.1), c.2.1, c.2.2.1, c.2.2.2.1.set d.2.2.2.1.toNat 0, c.2.2.2.2)
  else bif d.2.1 == 6 then (c.1, c.2.1, mv (mv c.2.2.1 d.2.2.1 (-d.2.2.2.2)) d.2.2.2.1 d.2.2.2.2, c.2.2.2.1, c.2.2.2.2)
  else (c.1, c.2.1, mv c.2.2.1 d.2.2.1 (-d.2.2.2.2), c.2.2.2.1, c.2.2.2.2 + d.2.2.2.2)

def tot (c : Cnt) : Int := c.1.sum + sumP c.2.2.1 + c.2.2.2.1.sum + c.2.2.2.2
/-- A fair's count behind some deals. -/
structure Inv (f : Fair) (c : Cnt) (k : Nat) : Prop where
  ls : c.1.length = f.2.2.1.length
  lc : c.2.1.length = f.2.2.1.length
  lp : c.2.2.1.length = f.1.toNat
  lb : c.2.2.2.1.length = f.2.1.toNat
  ns : ∀ x ∈ c.1, 0 ≤ x
  nc : ∀ x ∈ c.2.1, 0 ≤ x ∧ x ≤ 1000000 * ((k : Int) + 1)
  np : ∀ x ∈ c.2.2.1, 0 ≤ x.1
  nb : ∀ x ∈ c.2.2.2.1, 0 ≤ x
  nl : 0 ≤ c.2.2.2.2
  tt : tot c = f.2.2.1.sum

/-- What a valid fair says. -/
structure Ok (f : Fair) : Prop where
  s1 : 1 ≤ f.2.2.1.length
  s8 : f.2.2.1.length ≤ 8
  c8 : f.2.2.2.1.length = f.2.2.1.length
  p0 : 0 ≤ f.1
  p1 : f.1 ≤ 20
  b0 : 0 ≤ f.2.1
  b1 : f.2.1 ≤ 12
  st : ∀ x ∈ f.2.2.1, 0 ≤ x ∧ x ≤ 100000
  ca : ∀ x ∈ f.2.2.2.1, 0 ≤ x ∧ x ≤ 1000000
  r0 : 0 ≤ f.2.2.2.2.2.1
  r1 : f.2.2.2.2.2.1 ≤ 1000
  d0 : 0 ≤ f.2.2.2.2.2.2.1
  d1 : f.2.2.2.2.2.2.1 ≤ 1000000
  h0 : 1 ≤ f.2.2.2.2.2.2.2
  h1 : f.2.2.2.2.2.2.2 ≤ 1440
  fine : Fine f.2.2.2.2.1
  six : f.2.2.2.2.1.length ≤ 6
  win : ∀ b ∈ f.2.2.2.2.1, f.2.2.2.2.2.1 * b.1 ≤ b.2
theorem Ok.of {f : Fair} (h : fairOK f = true) : Ok f := by
  obtain ⟨hf, hk⟩ := fairOK_fine h
  unfold fairOK at h
  simp only [Bool.and_eq_true, decide_eq_true_eq, List.all_eq_true, rng_iff, beq_iff_eq] at h
  obtain ⟨h1, h2, h3, h4, h5, ⟨h6, h7⟩, h8, h9, h10, h11⟩ := h
  refine ⟨by omega, by omega, by omega, h3.1, h3.2, h4.1, h4.2, h6, h7, h8.1, h8.2, h9.1, h9.2, h10.1, h10.2, hf, hk, fun b hb => ?_⟩
  have h := h11 b hb
  have hb := hf b hb
  unfold okB at h
  simp only [Bool.and_eq_true, Bool.not_eq_true', decide_eq_false_iff_not] at h
  have h2 := h.2.2
  have m0 : 0 ≤ f.2.2.2.2.2.1 * b.1 := Int.mul_nonneg h8.1 (by omega)
  have m1 : f.2.2.2.2.2.1 * b.1 ≤ 1000 * 1000 := Int.mul_le_mul h8.2 hb.2.1 (by omega) (by omega)
  rw [wI (by omega) (by omega)] at h2
  omega
theorem Ok.sum {f : Fair} (h : Ok f) : 0 ≤ f.2.2.1.sum ∧ f.2.2.1.sum ≤ 800000 := by
  have h1 := sum_le (l := f.2.2.1) (m := 100000) fun x hx => (h.st x hx).2
  have h2 := sum_nn fun x hx => (h.st x hx).1
  have := h.s8
  omega
/-- How a fair begins. -/
def cnt0 (f : Fair) : Cnt := (f.2.2.1, f.2.2.2.1, List.replicate f.1.toNat (0, 0), List.replicate f.2.1.toNat 0, 0)
theorem sumP_replicate (n : Nat) : sumP (List.replicate n (0, 0)) = 0 := by
  unfold sumP
  rw [List.map_replicate, sum_replicate_zero]
theorem Inv.zero {f : Fair} (h : Ok f) : Inv f (cnt0 f) 0 := by
  refine ⟨rfl, h.c8, List.length_replicate, List.length_replicate, fun x hx => (h.st x hx).1, fun x hx => ?_, fun x hx => ?_, fun x hx => ?_, Int.le_refl _, ?_⟩
  · have := h.ca x hx; omega
  · rw [(List.mem_replicate.1 hx).2]; exact Int.le_refl _
  · rw [(List.mem_replicate.1 hx).2]; exact Int.le_refl _
  · unfold tot cnt0
    simp only
    rw [sumP_replicate, sum_replicate_zero]
    omega

theorem nn_set {l : List Int} {i : Nat} {v : Int} (h : ∀ x ∈ l, 0 ≤ x) (hv : 0 ≤ v) : ∀ x ∈ l.set i v, 0 ≤ x := fun x hx => by
  rcases List.mem_or_eq_of_mem_set hx with h1 | rfl
  · exact h x h1
  · exact hv
theorem nnP_set {l : List (Int × Int)} {i : Nat} {v : Int × Int} (h : ∀ x ∈ l, 0 ≤ x.1) (hv : 0 ≤ v.1) : ∀ x ∈ l.set i v, 0 ≤ x.1 := fun x hx => by
  rcases List.mem_or_eq_of_mem_set hx with h1 | rfl
  · exact h x h1
  · exact hv
theorem sum_ad {l : List Int} {i v : Int} (h0 : 0 ≤ i) (h : i < l.length) : (ad l i v).sum = l.sum + v := by
  unfold ad
  rw [sum_set (by omega), show ((i.toNat : Nat) : Int) = i by omega]
  omega
theorem sumP_mv {l : List (Int × Int)} {i v : Int} (h0 : 0 ≤ i) (h : i < l.length) : sumP (mv l i v) = sumP l + v := by
  unfold mv
  rw [sumP_set (by omega), show ((i.toNat : Nat) : Int) = i by omega]
  simp only
  omega
theorem len_ad {l : List Int} {i v : Int} : (ad l i v).length = l.length := List.length_set
theorem len_mv {l : List (Int × Int)} {i v : Int} : (mv l i v).length = l.length := List.length_set
theorem nn_ad {l : List Int} {i v : Int} (h : ∀ x ∈ l, 0 ≤ x) (hv : 0 ≤ gd l i + v) : ∀ x ∈ ad l i v, 0 ≤ x := nn_set h hv
theorem nn_mv {l : List (Int × Int)} {i v : Int} (h : ∀ x ∈ l, 0 ≤ x.1) (hv : 0 ≤ (gd l i).1 + v) : ∀ x ∈ mv l i v, 0 ≤ x.1 := nnP_set h hv
theorem nc_ad {l : List Int} {i v m m' : Int} (h : ∀ x ∈ l, 0 ≤ x ∧ x ≤ m) (hm : m ≤ m') (hv : 0 ≤ gd l i + v ∧ gd l i + v ≤ m') : ∀ x ∈ ad l i v, 0 ≤ x ∧ x ≤ m' := fun x hx => by
  rcases List.mem_or_eq_of_mem_set hx with h1 | rfl
  · have := h x h1; omega
  · exact hv
theorem gd_mv_ne {l : List (Int × Int)} {i j v : Int} (h0 : 0 ≤ i) (h1 : 0 ≤ j) (h : j ≠ i) : gd (mv l i v) j = gd l j := gd_set_ne h0 h1 h

/-- A right deal keeps it. -/
theorem Inv.step {f : Fair} (hf : Ok f) {c : Cnt} {k : Nat} (h : Inv f c k) {d : Deal} (hd : okD f c d = true) : Inv f (stepD f c d) (k + 1) := by
  obtain ⟨P, X, S, C, Bs, rf, bd, hr⟩ := f
  obtain ⟨st, ca, pu, bo, lo⟩ := c
  obtain ⟨at', kd, a, b, n⟩ := d
  obtain ⟨ls, lc, lp, lb, ns, nc, np, nb, nl, tt⟩ := h
  have hsum := hf.sum
  obtain ⟨s1, s8, c8, p0, p1, b0, b1, hst, hca, r0, r1, d0, d1, h0, h1, fine, six, _⟩ := hf
  have n1 := sum_nn ns
  have n2 := sumP_nn np
  have n3 := sum_nn nb
  unfold okD at hd
  unfold stepD
  unfold tot at tt
  simp only at *
  have nc' : ∀ x ∈ ca, 0 ≤ x ∧ x ≤ 1000000 * (((k + 1 : Nat) : Int) + 1) := fun x hx => by have := nc x hx; omega
  by_cases k1 : kd = 1
  · subst k1
    simp only [Int.reduceBEq, cond_true, Bool.and_eq_true, rng_iff, decide_eq_true_eq] at hd ⊢
    obtain ⟨hA, hB, hN, hle⟩ := hd
    have hb := fine _ (gd_mem (l := Bs) (i := n) (by omega) (by omega))
    have q1 := np _ (gd_mem (l := pu) (i := b) (by omega) (by omega))
    have q2 := nc _ (gd_mem (l := ca) (i := a) (by omega) (by omega))
    exact ⟨by rw [len_ad, ls], by rw [len_ad, lc], by rw [len_mv, lp], lb, nn_ad ns (by omega), nc_ad nc (by omega) (by omega), nn_mv np (by omega), nb, nl, by
      unfold tot
      simp only
      rw [sum_ad (by omega) (by omega), sumP_mv (by omega) (by omega)]
      omega⟩
  by_cases k2 : kd = 2
  · subst k2
    simp only [Int.reduceBEq, cond_true, cond_false, Bool.and_eq_true, Bool.or_eq_true, rng_iff, decide_eq_true_eq] at hd ⊢
    obtain ⟨hA, hB, hN, hle⟩ := hd
    by_cases hlt : at' < (gd pu a).2
    · rw [dec_t hlt, cond_true]
      exact ⟨ls, lc, lp, lb, ns, nc', np, nb, nl, tt⟩
    · rw [dec_f hlt, cond_false]
      have q3 := nb _ (gd_mem (l := bo) (i := b) (by omega) (by omega))
      exact ⟨ls, lc, by rw [len_mv, lp], by rw [len_ad, lb], ns, nc', nn_mv np (by omega), nn_ad nb (by omega), nl, by
        unfold tot
        simp only
        rw [sum_ad (by omega) (by omega), sumP_mv (by omega) (by omega)]
        omega⟩
  by_cases k3 : kd = 3
  · subst k3
    simp only [Int.reduceBEq, cond_true, cond_false, Bool.and_eq_true, rng_iff, beq_iff_eq] at hd ⊢
    obtain ⟨hA, hB, hN⟩ := hd
    have q1 := np _ (gd_mem (l := pu) (i := b) (by omega) (by omega))
    have q2 := nc _ (gd_mem (l := ca) (i := a) (by omega) (by omega))
    exact ⟨ls, by rw [len_ad, lc], by rw [List.length_set, lp], lb, ns, nc_ad nc (by omega) (by omega), nnP_set np q1, nb, nl, by
      unfold tot
      simp only
      rw [sumP_set (by omega), show ((b.toNat : Nat) : Int) = b by omega]
      omega⟩
  by_cases k4 : kd = 4
  · subst k4
    simp only [Int.reduceBEq, cond_true, cond_false, Bool.and_eq_true, rng_iff, decide_eq_true_eq] at hd ⊢
    obtain ⟨hA, hB, hN, hle, hcs⟩ := hd
    have q1 := np _ (gd_mem (l := pu) (i := b) (by omega) (by omega))
    have q2 := nc _ (gd_mem (l := ca) (i := a) (by omega) (by omega))
    have q3 := ns _ (gd_mem (l := st) (i := a) (by omega) (by omega))
    have m0 : 0 ≤ n * rf := Int.mul_nonneg (by omega) r0
    exact ⟨by rw [len_ad, ls], by rw [len_ad, lc], by rw [len_mv, lp], lb, nn_ad ns (by omega), nc_ad nc (by omega) (by omega), nn_mv np (by omega), nb, nl, by
      unfold tot
      simp only
      rw [sum_ad (by omega) (by omega), sumP_mv (by omega) (by omega)]
      omega⟩
  by_cases k5 : kd = 5
  · subst k5
    simp only [Int.reduceBEq, cond_true, cond_false, Bool.and_eq_true, rng_iff, beq_iff_eq] at hd ⊢
    obtain ⟨hA, hB, hN⟩ := hd
    have q3 := ns _ (gd_mem (l := st) (i := a) (by omega) (by omega))
    have q4 := nb _ (gd_mem (l := bo) (i := b) (by omega) (by omega))
    exact ⟨by rw [len_ad, ls], lc, lp, by rw [List.length_set, lb], nn_ad ns (by omega), nc', np, nn_set nb (Int.le_refl _), nl, by
      unfold tot
      simp only
      rw [sum_ad (by omega) (by omega), sum_set (by omega), show ((b.toNat : Nat) : Int) = b by omega]
      omega⟩
  by_cases k6 : kd = 6
  · subst k6
    simp only [Int.reduceBEq, cond_true, cond_false, Bool.and_eq_true, rng_iff, decide_eq_true_eq, Bool.not_eq_true', beq_eq_false_iff_ne] at hd ⊢
    obtain ⟨hA, hB, hne, hN, hle⟩ := hd
    have q1 := np _ (gd_mem (l := pu) (i := b) (by omega) (by omega))
    exact ⟨ls, lc, by rw [len_mv, len_mv, lp], lb, ns, nc', nn_mv (nn_mv np (by omega)) (by rw [gd_mv_ne (by omega) (by omega) (Ne.symm hne)]; omega), nb, nl, by
      unfold tot
      simp only
      rw [sumP_mv (by omega) (by rw [len_mv]; omega), sumP_mv (by omega) (by omega)]
      omega⟩
  by_cases k7 : kd = 7
  · subst k7
    simp only [Int.reduceBEq, cond_true, cond_false, Bool.and_eq_true, rng_iff, decide_eq_true_eq, beq_iff_eq] at hd ⊢
    obtain ⟨hA, hB, hN, hle⟩ := hd
    exact ⟨ls, lc, by rw [len_mv, lp], lb, ns, nc', nn_mv np (by omega), nb, by simp only; omega, by
      unfold tot
      simp only
      rw [sumP_mv (by omega) (by omega)]
      omega⟩
  · rw [beq_false_of_ne k1, beq_false_of_ne k2, beq_false_of_ne k3, beq_false_of_ne k4, beq_false_of_ne k5, beq_false_of_ne k6, beq_false_of_ne k7] at hd
    cases hd
end Go.Proofs.Try.V
