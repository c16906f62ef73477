/- Plain laws of layer 5, eighth part: how many loads a set has; what Shed chooses, by the program and by the document. No condition beyond those typed in each theorem. -/
import Derived.Test.YtpjgcimbnhhndaaLw7
namespace Go.Proofs.Try.V
open Go.Vi
set_option maxRecDepth 100000

/-! ## How many loads -/
def pcF : Nat → Nat → Nat
  | 0, _ => 0
  | k + 1, S => S % 2 + pcF k (S / 2)
theorem pcF_0 : ∀ k, pcF k 0 = 0
  | 0 => rfl
  | k + 1 => by
    unfold pcF
    rw [Nat.zero_mod, Nat.zero_div, pcF_0 k]
theorem mod2 (S : Nat) : S % 2 = 0 ∨ S % 2 = 1 := by omega
theorem and_half (S T : Nat) : (S &&& T) / 2 = S / 2 &&& T / 2 := by
  refine Nat.eq_of_testBit_eq fun i => ?_
  rw [Nat.testBit_div_two, Nat.testBit_and, Nat.testBit_and, Nat.testBit_div_two, Nat.testBit_div_two]
theorem and_mod2 (S T : Nat) : (S &&& T) % 2 = S % 2 * (T % 2) := by
  have h := Nat.and_mod_two_pow (a := S) (b := T) (n := 1)
  rw [Nat.pow_one] at h
  rw [h]
  rcases mod2 S with h1 | h1 <;> rcases mod2 T with h2 | h2 <;> rw [h1, h2] <;> rfl
theorem pc_step : ∀ (k S : Nat), S < 2 ^ k → 0 < S → pcF k (S &&& (S - 1)) + 1 = pcF k S ∧ S &&& (S - 1) < S
  | 0, S, h, h0 => by
    rw [Nat.pow_zero] at h
    omega
  | k + 1, S, h, h0 => by
    have h2 : S / 2 < 2 ^ k := by
      rw [Nat.pow_succ] at h
      omega
    unfold pcF
    rw [and_half, and_mod2]
    have e1 := and_half S (S - 1)
    have e2 := and_mod2 S (S - 1)
    rcases mod2 S with hm | hm
    · have a1 : (S - 1) / 2 = S / 2 - 1 := by omega
      rw [a1] at e1 ⊢
      have ih := pc_step k (S / 2) h2 (by omega)
      rw [hm] at e2 ⊢
      rw [Nat.zero_mul] at e2 ⊢
      have ih1 := ih.1
      have ih2 := ih.2
      constructor
      · omega
      · omega
    · have a1 : (S - 1) / 2 = S / 2 := by omega
      have a2 : (S - 1) % 2 = 0 := by omega
      rw [a1, Nat.and_self] at e1 ⊢
      rw [hm, a2] at e2 ⊢
      constructor
      · omega
      · omega
/-- How many loads are in a set. -/
def ct (S : Nat) : Nat := pcF 16 S
theorem pcF_le : ∀ k S, pcF k S ≤ k
  | 0, _ => Nat.le_refl _
  | k + 1, S => by
    have := pcF_le k (S / 2)
    unfold pcF
    omega
theorem ct_le (S : Nat) : ct S ≤ 16 := pcF_le 16 S
theorem g54_eq {S : Nat} (hS : S < 65536) : g54 ((S : Int), ()) = some (((ct S : Int), ()), ()) := by
  have key : ∀ (S : Nat), S < 65536 → ∀ (n : Nat) (N : Nat), n + ct S ≤ 100 → S < N → L54_1 N (((S : Int), (n : Int), ()), (), ()) = some ((((n + ct S : Nat) : Int), ()), (), ()) := by
    intro S
    induction S using Nat.strongRecOn with
    | ind S ih =>
      intro hS n N hn hN
      obtain ⟨m, rfl⟩ : ∃ m, N = m + 1 := ⟨N - 1, by omega⟩
      by_cases h0 : S = 0
      · subst h0
        simp only [L54_1, B54_1]
        rw [dec_f (by omega)]
        show some ((((n : Nat) : Int), ()), (), ()) = _
        have : ct 0 = 0 := pcF_0 16
        rw [this, Nat.add_zero]
      · have hp := pc_step 16 S hS (by omega)
        have hc : ct (S &&& (S - 1)) + 1 = ct S := hp.1
        simp only [L54_1, B54_1]
        rw [dec_t (by omega), cond_true, wI (x := (S : Int) - 1) (by omega) (by omega), show (S : Int) - 1 = ((S - 1 : Nat) : Int) by omega, and_n (by omega) (by omega), wI (x := (n : Int) + 1) (by omega) (by omega), show (n : Int) + 1 = ((n + 1 : Nat) : Int) by omega,
          ih _ hp.2 (by omega) (n + 1) m (by omega) (by omega), show n + 1 + ct (S &&& (S - 1)) = n + ct S by omega]
  have := ct_le S
  have hf := fuel_ge
  show F54 fuel (S : Int) = _
  unfold F54
  have e : L54_1 fuel (((S : Int), 0, ()), (), ()) = _ := key S hS 0 fuel (by omega) (by omega)
  rw [e, derefK_some, Nat.zero_add]
/-- How many of the first loads are in a set. -/
def cntB (S : Nat) : Nat → Nat
  | 0 => 0
  | i + 1 => cntB S i + (if S.testBit i then 1 else 0)
theorem cntB_le (S : Nat) : ∀ k, cntB S k ≤ k
  | 0 => Nat.le_refl _
  | k + 1 => by
    have := cntB_le S k
    unfold cntB
    split <;> omega
theorem cntB_shift (S : Nat) : ∀ k, cntB S (k + 1) = S % 2 + cntB (S / 2) k
  | 0 => by
    unfold cntB cntB
    have : S.testBit 0 = decide (S % 2 = 1) := Nat.testBit_zero S
    rw [this]
    rcases mod2 S with h | h <;> rw [h] <;> rfl
  | k + 1 => by
    have ih := cntB_shift S k
    have h1 : cntB S (k + 2) = cntB S (k + 1) + (if S.testBit (k + 1) then 1 else 0) := rfl
    have h2 : cntB (S / 2) (k + 1) = cntB (S / 2) k + (if (S / 2).testBit k then 1 else 0) := rfl
    rw [h1, h2, ih, Nat.testBit_div_two, Nat.add_assoc]
theorem pcF_eq : ∀ k S, pcF k S = cntB S k
  | 0, _ => rfl
  | k + 1, S => by rw [cntB_shift, ← pcF_eq k]; rfl
theorem cntB_end {S n : Nat} (hS : S < 2 ^ n) : ∀ k, n ≤ k → cntB S k = cntB S n
  | 0, h => by rw [show n = 0 by omega]
  | k + 1, h => by
    by_cases e : n = k + 1
    · rw [e]
    · have hlt : S.testBit k = false := Nat.testBit_lt_two_pow (Nat.lt_of_lt_of_le hS (Nat.pow_le_pow_right (by omega) (by omega)))
      show cntB S k + (if S.testBit k then 1 else 0) = _
      rw [hlt, cntB_end hS k (by omega)]
      rfl
theorem ct_cnt {S n : Nat} (hS : S < 2 ^ n) (hn : n ≤ 16) : ct S = cntB S n := by
  unfold ct
  rw [pcF_eq, cntB_end hS 16 hn]
/-- The sum of the ranks of a set. -/
def rkK (s : Sup) (S : Nat) : Nat → Int
  | 0 => 0
  | i + 1 => rkK s S i + (if S.testBit i then (gd s.2.1 (i : Int)).2.2.2 else 0)
def rk (s : Sup) (S : Nat) : Int := rkK s S s.2.1.length
theorem rkK_bd {s : Sup} (h : okS s = true) (S : Nat) : ∀ k, k ≤ s.2.1.length → 0 ≤ rkK s S k ∧ rkK s S k ≤ 1000 * k
  | 0, _ => ⟨Int.le_refl _, by simp [rkK]⟩
  | k + 1, hk => by
    have ih := rkK_bd h S k (by omega)
    have := okL_1 (okS_ld h (k := k) (by omega))
    unfold rkK
    split <;> omega
theorem g35_eq {s : Sup} (h : okS s = true) {S : Nat} (hS : S < 2 ^ s.2.1.length) : g35 (s, (S : Int), ()) = some (((ct S : Int), rk s S, ()), ()) := by
  show F35 fuel s (S : Int) = _
  unfold F35
  have hl := okS_le h
  have hf := fuel_ge
  have hp := pow16 hl.2
  have e := loopF (L := L35_3) (fun i => (((S : Int), ((cntB S i : Nat) : Int), rkK s S i, (i : Int), ()), (s, ()), ())) ((((cntB S s.2.1.length : Nat) : Int), rk s S, ()), (), ()) 0 s.2.1.length (N := fuel) (by omega)
    (fun N => by
      simp only [L35_3, B35_3]
      rw [dec_f (by omega)]
      rfl)
    (fun N i _ hi => by
      have hx := okL_1 (okS_ld h hi)
      have hr := rkK_bd h S i (by omega)
      have hc := cntB_le S i
      simp only [L35_3, B35_3]
      rw [dec_t (by omega), cond_true, g51_eq (by omega) (by omega), derefK_some, getI_gd (by omega) (by omega), wI (x := (i : Int) + 1) (by omega) (by omega), wI (x := ((cntB S i : Nat) : Int) + 1) (by omega) (by omega), wI (x := rkK s S i + _) (by omega) (by omega), show ((i : Int) + 1) = ((i + 1 : Nat) : Int) by omega]
      conv => rhs; unfold cntB rkK
      cases S.testBit i with
      | false => simp
      | true =>
        rw [if_pos rfl, if_pos rfl, show ((cntB S i : Nat) : Int) + 1 = ((cntB S i + 1 : Nat) : Int) by omega]
        rfl)
  have e' : L35_3 fuel (((S : Int), 0, 0, 0, ()), (s, ()), ()) = _ := e
  rw [e', derefK_some, ct_cnt hS hl.2]
theorem g17_eq (set : Int) : ∃ b, g17 (set, ()) = some ((b, ()), ()) := by
  show ∃ b, F17 fuel set = _
  unfold F17
  have hf := fuel_ge
  obtain ⟨r, e, n, rfl⟩ := loop0 (L := L17_3) (fun i (n : Nat) => ((set, (n : Int), (i : Int), ()), (), ())) (fun i n => n ≤ i) (fun r => ∃ n : Int, r = ((set, n, ()), (), ())) 0 16 (N := fuel) (s := 0) (Nat.le_refl _) (by omega)
    (fun N n hn => ⟨_, by
      simp only [L17_3, B17_3]
      rw [dec_f (by omega)]
      rfl, _, rfl⟩)
    (fun N i n _ hi hn => by
      left
      have e51 : ∃ b, g51 (set, (i : Int), ()) = some ((b, ()), ()) := by
        show ∃ b, F51 fuel set (i : Int) = _
        unfold F51
        rw [u64_in (by omega) (by omega), negK_in (by omega)]
        exact ⟨_, rfl⟩
      obtain ⟨b, e51⟩ := e51
      simp only [L17_3, B17_3]
      rw [dec_t (by omega), cond_true, e51, derefK_some, wI (x := (i : Int) + 1) (by omega) (by omega), wI (x := (n : Int) + 1) (by omega) (by omega), show ((i : Int) + 1) = ((i + 1 : Nat) : Int) by omega, show ((n : Int) + 1) = ((n + 1 : Nat) : Int) by omega]
      cases b with
      | true => exact ⟨n + 1, by omega, rfl⟩
      | false => exact ⟨n, by omega, rfl⟩)
  have e' : L17_3 fuel ((set, 0, 0, ()), (), ()) = _ := e
  rw [e', derefK_some]
  cases decide (set > 0) <;> cases decide (set < 65536) <;> cases decide (n > 8) <;> exact ⟨_, rfl⟩
end Go.Proofs.Try.V
