/- Plain laws of layer 5, first part: loops, bits, which supplies are valid. No condition beyond those typed in each theorem. -/
import Derived.Test.YtpjgcimbnhhndaaFn4
namespace Go.Proofs.Try.V
open Go.Vi
set_option maxRecDepth 100000

abbrev Brd := Int × (Int × (Int × Int))
abbrev Ld := Int × (Int × (Int × Int))
abbrev Sup := (List Brd) × ((List Ld) × (Int × (Int × Int)))
abbrev Swi := Int × (Int × Int)

/-! ## Loops over a list -/
/-- A loop that looks for the first element with q. -/
theorem loopIdx {α D R : Type} [Inhabited α] {L : Nat → D → Option R} (mk : Nat → D) (l : List α) (q : α → Bool) (hit : Nat → R) (e : R) (c : Nat) {N : Nat} (hN : l.length + c < N)
    (hend : ∀ N, L (N + 1) (mk l.length) = some e)
    (hstep : ∀ N i, c ≤ N → i < l.length → L (N + 1) (mk i) = if q (gd l (i : Int)) then some (hit i) else L N (mk (i + 1))) :
    L N (mk 0) = some (match l.findIdx? q with | some i => hit i | none => e) := by
  have key : ∀ (d i : Nat) (N : Nat), i + d = l.length → d + c < N → L N (mk i) = some (match (l.drop i).findIdx? q with | some j => hit (i + j) | none => e) := by
    intro d
    induction d with
    | zero =>
      intro i N hi hN
      obtain ⟨m, rfl⟩ : ∃ m, N = m + 1 := ⟨N - 1, by omega⟩
      obtain rfl : i = l.length := by omega
      rw [hend, List.drop_length]
      rfl
    | succ d ih =>
      intro i N hi hN
      obtain ⟨m, rfl⟩ : ∃ m, N = m + 1 := ⟨N - 1, by omega⟩
      rw [hstep m i (by omega) (by omega), drop_nat (by omega), List.findIdx?_cons]
      cases hq : q (gd l (i : Int)) with
      | true => rfl
      | false =>
        rw [if_neg (by simp), ih (i + 1) m (by omega) (by omega)]
        simp only [Bool.false_eq_true, if_false]
        cases (l.drop (i + 1)).findIdx? q with
        | none => rfl
        | some j =>
          simp only [Option.map_some]
          rw [show i + (j + 1) = i + 1 + j by omega]
  have := key l.length 0 N (by omega) hN
  simpa using this
/-- A loop that leaves at the first number without p. -/
theorem loopNum {D R : Type} {L : Nat → D → Option R} (mk : Nat → D) (n : Nat) (p : Nat → Bool) (bad good : R) (c : Nat) {N : Nat} (hN : n + c < N)
    (hend : ∀ N, L (N + 1) (mk n) = some good)
    (hstep : ∀ N i, c ≤ N → i < n → L (N + 1) (mk i) = if p i then L N (mk (i + 1)) else some bad) :
    L N (mk 0) = some (if (List.range n).all p then good else bad) := by
  have key : ∀ (d i : Nat) (N : Nat), i + d = n → d + c < N → L N (mk i) = some (if (List.range' i d).all p then good else bad) := by
    intro d
    induction d with
    | zero =>
      intro i N hi hN
      obtain ⟨m, rfl⟩ : ∃ m, N = m + 1 := ⟨N - 1, by omega⟩
      obtain rfl : i = n := by omega
      rw [hend]
      rfl
    | succ d ih =>
      intro i N hi hN
      obtain ⟨m, rfl⟩ : ∃ m, N = m + 1 := ⟨N - 1, by omega⟩
      rw [hstep m i (by omega) (by omega), List.range'_succ, List.all_cons]
      cases p i with
      | true => rw [if_pos rfl, ih (i + 1) m (by omega) (by omega), Bool.true_and]
      | false => rw [if_neg (by simp), Bool.false_and, if_neg (by simp)]
  rw [List.range_eq_range']
  exact key n 0 N (by omega) hN
theorem negK_in {R : Type} {a : Int} (h : 0 ≤ a) (k : Option R) : negK a k = k := by
  unfold negK
  rw [if_neg (by omega)]
theorem nzK_in {R : Type} {a : Int} (h : a ≠ 0) (k : Option R) : nzK a k = k := by unfold nzK; rw [if_neg h]

/-! ## Bits -/
theorem ofN (S : Nat) (h : S < 4611686018427387904) : (BitVec.ofInt 64 (S : Int)).toNat = S := by
  rw [BitVec.toNat_ofInt, Int.emod_eq_of_lt (by omega) (by show (S : Int) < 18446744073709551616; omega)]
  omega
theorem and_n {S T : Nat} (hS : S < 4611686018427387904) (hT : T < 4611686018427387904) : bitsI .and .i64 (S : Int) (T : Int) = ((S &&& T : Nat) : Int) := by
  show IntKind.wrap .i64 ((BitVec.ofInt 64 (S : Int) &&& BitVec.ofInt 64 (T : Int)).toNat : Int) = _
  rw [BitVec.toNat_and, ofN S hS, ofN T hT]
  have := Nat.and_le_left (n := S) (m := T)
  exact wI (by omega) (by omega)
theorem or_n {S T : Nat} (hS : S < 4611686018427387904) (hT : T < 4611686018427387904) : bitsI .or .i64 (S : Int) (T : Int) = ((S ||| T : Nat) : Int) := by
  show IntKind.wrap .i64 ((BitVec.ofInt 64 (S : Int) ||| BitVec.ofInt 64 (T : Int)).toNat : Int) = _
  rw [BitVec.toNat_or, ofN S hS, ofN T hT]
  have : S ||| T < 2 ^ 62 := Nat.or_lt_two_pow hS hT
  exact wI (by omega) (by omega)
/-- What is in a set and not in another one. -/
def dif (S T : Nat) : Nat := S ^^^ (S &&& T)
theorem dif_bit (S T i : Nat) : (dif S T).testBit i = (S.testBit i && !T.testBit i) := by
  unfold dif
  rw [Nat.testBit_xor, Nat.testBit_and]
  cases S.testBit i <;> cases T.testBit i <;> rfl
theorem dif_le (S T : Nat) : dif S T ≤ S := by
  have h : dif S T = S &&& dif S T := by
    refine Nat.eq_of_testBit_eq fun i => ?_
    rw [Nat.testBit_and, dif_bit]
    cases S.testBit i <;> rfl
  rw [h]
  exact Nat.and_le_left
theorem andNot_n {S T : Nat} (hS : S < 4611686018427387904) (hT : T < 4611686018427387904) : bitsI .andNot .i64 (S : Int) (T : Int) = ((dif S T : Nat) : Int) := by
  show IntKind.wrap .i64 ((BitVec.ofInt 64 (S : Int) &&& ~~~ BitVec.ofInt 64 (T : Int)).toNat : Int) = _
  have e : (BitVec.ofInt 64 (S : Int) &&& ~~~ BitVec.ofInt 64 (T : Int)).toNat = dif S T := by
    rw [BitVec.toNat_and, BitVec.toNat_not, ofN S hS, ofN T hT]
    refine Nat.eq_of_testBit_eq fun i => ?_
    rw [Nat.testBit_and, dif_bit, show 2 ^ 64 - 1 - T = 2 ^ 64 - (T + 1) by omega, Nat.testBit_two_pow_sub_succ (by omega)]
    by_cases hi : i < 64
    · rw [dec_t hi, Bool.true_and]
    · rw [dec_f hi, Nat.testBit_lt_two_pow (Nat.lt_of_lt_of_le (show S < 2 ^ 64 by omega) (Nat.pow_le_pow_right (by omega) (by omega)))]
      rfl
  rw [e]
  have := dif_le S T
  exact wI (by omega) (by omega)
theorem shl_n {i : Nat} (hi : i < 62) : shlI .i64 1 (i : Int) = ((2 ^ i : Nat) : Int) := by
  have h : (2 : Nat) ^ i < 2 ^ 62 := Nat.pow_lt_pow_right (by omega) hi
  have e : min (i : Int).toNat IntKind.i64.bits = i := by
    rw [Int.toNat_natCast]
    exact Nat.min_eq_left (by show i ≤ 64; omega)
  unfold shlI
  rw [e, Int.one_mul, show ((2 : Int) ^ i) = ((2 ^ i : Nat) : Int) by simp]
  generalize 2 ^ i = p at h ⊢
  exact wI (by omega) (by omega)
theorem shr_n {S i : Nat} (hi : i < 62) : shrI .i64 (S : Int) (i : Int) = ((S >>> i : Nat) : Int) := by
  have e : min (i : Int).toNat IntKind.i64.bits = i := by
    rw [Int.toNat_natCast]
    exact Nat.min_eq_left (by show i ≤ 64; omega)
  unfold shrI
  rw [e, Nat.shiftRight_eq_div_pow, show ((2 : Int) ^ i) = ((2 ^ i : Nat) : Int) by simp, Int.fdiv_eq_ediv_of_nonneg _ (Int.natCast_nonneg _)]
  simp
theorem bit_n {S i : Nat} (hS : S < 4611686018427387904) (hi : i < 62) : bitsI .and .i64 (shrI .i64 (S : Int) (i : Int)) 1 = if S.testBit i then 1 else 0 := by
  have h : S >>> i ≤ S := by rw [Nat.shiftRight_eq_div_pow]; exact Nat.div_le_self _ _
  rw [shr_n hi, show (1 : Int) = ((1 : Nat) : Int) by rfl, and_n (by omega) (by omega)]
  have : S.testBit i = ((1 &&& (S >>> i)) != 0) := rfl
  rw [this, Nat.and_comm 1]
  have := Nat.and_le_right (n := S >>> i) (m := 1)
  rcases Nat.lt_or_ge 0 (S >>> i &&& 1) with h1 | h1
  · obtain h2 : S >>> i &&& 1 = 1 := by omega
    rw [h2]; rfl
  · obtain h2 : S >>> i &&& 1 = 0 := by omega
    rw [h2]; rfl
theorem u64_in {n : Int} (h0 : 0 ≤ n) (h : n ≤ 4294967295) : IntKind.wrap .u64 n = n := by
  show n % 18446744073709551616 = n
  exact Int.emod_eq_of_lt h0 (by omega)
theorem g51_eq {S i : Nat} (hS : S < 4611686018427387904) (hi : i < 62) : g51 ((S : Int), (i : Int), ()) = some ((S.testBit i, ()), ()) := by
  show F51 fuel (S : Int) (i : Int) = _
  unfold F51
  rw [u64_in (by omega) (by omega), negK_in (by omega), bit_n hS hi]
  cases S.testBit i <;> rfl

/-! ## Small functions -/
def rng (x lo hi : Int) : Bool := decide (lo ≤ x) && decide (x ≤ hi)
theorem rng_iff {x lo hi : Int} : rng x lo hi = true ↔ lo ≤ x ∧ x ≤ hi := by unfold rng; rw [Bool.and_eq_true, decide_eq_true_iff, decide_eq_true_iff]
theorem rng_f {x lo hi : Int} : rng x lo hi = false ↔ ¬ (lo ≤ x ∧ x ≤ hi) := by rw [← rng_iff, Bool.not_eq_true]
theorem g62_eq (x lo hi : Int) : g62 (x, lo, hi, ()) = some ((rng x lo hi, ()), ()) := by
  show F62 fuel x lo hi = _
  unfold F62 rng
  by_cases h : lo ≤ x
  · rw [dec_t (p := x ≥ lo) h]; rfl
  · rw [dec_f (p := x ≥ lo) h]; rfl
theorem g58_eq (x lo hi : Int) : g58 (x, lo, hi, ()) = some ((rng x lo hi, ()), ()) := by
  show F58 fuel x lo hi = _
  unfold F58 rng
  by_cases h : lo ≤ x
  · rw [dec_t (p := x ≥ lo) h]; rfl
  · rw [dec_f (p := x ≥ lo) h]; rfl

/-! ## Valid supplies -/
def okB (b : Brd) (i : Nat) : Bool := rng b.1 (-1) ((i : Int) - 1) && (rng b.2.1 1 1000 && (rng b.2.2.1 0 20 && rng b.2.2.2 1 10000))
def okL (n : Nat) (x : Ld) : Bool := rng x.1 0 ((n : Int) - 1) && (rng x.2.1 0 2 && (rng x.2.2.1 1 1000 && rng x.2.2.2 0 1000))
def okS (s : Sup) : Bool :=
  decide (s.1.length ≤ 10) && (decide (s.2.1.length ≤ 16) && (rng s.2.2.1 1 1000 && (rng s.2.2.2.1 0 20 && (rng s.2.2.2.2 1 1000 && ((List.range s.1.length).all (fun i => okB (gd s.1 (i : Int)) i) && s.2.1.all (okL s.1.length))))))
theorem okB_c {α : Type} (b : Brd) (i : Nat) (x y : α) : (bif !rng b.1 (-1) ((i : Int) - 1) then x else bif !rng b.2.1 1 1000 then x else bif !rng b.2.2.1 0 20 then x else bif !rng b.2.2.2 1 10000 then x else y) = if okB b i then y else x := by
  unfold okB
  cases rng b.1 (-1) ((i : Int) - 1) <;> cases rng b.2.1 1 1000 <;> cases rng b.2.2.1 0 20 <;> cases rng b.2.2.2 1 10000 <;> rfl
theorem okL_c {α : Type} (n : Nat) (b : Ld) (x y : α) : (bif !rng b.1 0 ((n : Int) - 1) then x else bif !rng b.2.1 0 2 then x else bif !rng b.2.2.1 1 1000 then x else bif !rng b.2.2.2 0 1000 then x else y) = if okL n b then y else x := by
  unfold okL
  cases rng b.1 0 ((n : Int) - 1) <;> cases rng b.2.1 0 2 <;> cases rng b.2.2.1 1 1000 <;> cases rng b.2.2.2 0 1000 <;> rfl
theorem okS_c {α : Type} (s : Sup) (x z : α) : (bif decide ((s.1.length : Int) > 10) then x else bif decide ((s.2.1.length : Int) > 16) then x else bif !rng s.2.2.1 1 1000 then x else bif !rng s.2.2.2.1 0 20 then x else bif !rng s.2.2.2.2 1 1000 then x else z) =
    if (decide (s.1.length ≤ 10) && (decide (s.2.1.length ≤ 16) && (rng s.2.2.1 1 1000 && (rng s.2.2.2.1 0 20 && rng s.2.2.2.2 1 1000)))) then z else x := by
  by_cases h1 : s.1.length ≤ 10
  · rw [dec_f (p := (s.1.length : Int) > 10) (by omega), dec_t (p := s.1.length ≤ 10) h1]
    by_cases h2 : s.2.1.length ≤ 16
    · rw [dec_f (p := (s.2.1.length : Int) > 16) (by omega), dec_t (p := s.2.1.length ≤ 16) h2]
      cases rng s.2.2.1 1 1000 <;> cases rng s.2.2.2.1 0 20 <;> cases rng s.2.2.2.2 1 1000 <;> rfl
    · rw [dec_t (p := (s.2.1.length : Int) > 16) (by omega), dec_f (p := s.2.1.length ≤ 16) h2]
      rfl
  · rw [dec_t (p := (s.1.length : Int) > 10) (by omega), dec_f (p := s.1.length ≤ 10) h1]
    rfl
theorem okS_le {s : Sup} (h : okS s = true) : s.1.length ≤ 10 ∧ s.2.1.length ≤ 16 := by
  unfold okS at h
  simp only [Bool.and_eq_true, decide_eq_true_iff] at h
  exact ⟨h.1, h.2.1⟩
theorem all_gd {α : Type} [Inhabited α] (l : List α) (p : α → Bool) : (List.range l.length).all (fun i => p (gd l (i : Int))) = l.all p := by
  induction l with
  | nil => rfl
  | cons x l ih =>
    rw [List.length_cons, List.range_succ_eq_map, List.all_cons, List.all_map, List.all_cons, ← ih]
    rfl
theorem okS_fin (s : Sup) {R : Type} (a b : R) : (if (decide (s.1.length ≤ 10) && (decide (s.2.1.length ≤ 16) && (rng s.2.2.1 1 1000 && (rng s.2.2.2.1 0 20 && rng s.2.2.2.2 1 1000)))) then
    (if (List.range s.1.length).all (fun i => okB (gd s.1 (i : Int)) i) then (if (List.range s.2.1.length).all (fun i => okL s.1.length (gd s.2.1 (i : Int))) then a else b) else b) else b) = if okS s then a else b := by
  rw [all_gd]
  unfold okS
  cases decide (s.1.length ≤ 10) <;> cases decide (s.2.1.length ≤ 16) <;> cases rng s.2.2.1 1 1000 <;> cases rng s.2.2.2.1 0 20 <;> cases rng s.2.2.2.2 1 1000 <;> cases (List.range s.1.length).all (fun i => okB (gd s.1 (i : Int)) i) <;> rfl
theorem g27_eq (s : Sup) : g27 (s, ()) = some ((if okS s then 0 else 50, ()), ()) := by
  show F27 fuel s = _
  unfold F27
  simp only [g62_eq, derefK_some]
  have hr : some ((if okS s then (0 : Int) else 50, ()), ()) = if okS s then some (((0 : Int), ()), ()) else some ((50, ()), ()) := by split <;> rfl
  rw [okS_c, hr, ← okS_fin s]
  by_cases h : (decide (s.1.length ≤ 10) && (decide (s.2.1.length ≤ 16) && (rng s.2.2.1 1 1000 && (rng s.2.2.2.1 0 20 && rng s.2.2.2.2 1 1000)))) = true
  case neg => rw [if_neg h, if_neg h]
  rw [if_pos h, if_pos h]
  simp only [Bool.and_eq_true, decide_eq_true_iff] at h
  have hf := fuel_ge
  have e1 := loopNum (L := L27_4) (fun i => ((s.1, (s.1.length : Int), (i : Int), ()), (s, ()), ())) s.1.length (fun i => okB (gd s.1 (i : Int)) i) (.inl ((50, ()), (), ())) (.inr ((), (s, ()), ())) 0 (N := fuel) (by omega)
    (fun N => by simp [L27_4, B27_4])
    (fun N i _ hi => by
      simp only [L27_4, B27_4, g62_eq, derefK_some]
      rw [dec_t (by omega), cond_true, getI_gd (by omega) (by omega), wI (x := (i : Int) - 1) (by omega) (by omega), okB_c, wI (by omega) (by omega)]
      split <;> rfl)
  have e1' : L27_4 fuel ((s.1, (s.1.length : Int), 0, ()), (s, ()), ()) = _ := e1
  rw [e1', derefK_some]
  cases (List.range s.1.length).all (fun i => okB (gd s.1 (i : Int)) i) with
  | false => rfl
  | true =>
  rw [if_pos rfl, sumK_inr, if_pos rfl]
  have e2 := loopNum (L := L27_10) (fun i => ((s.2.1, (s.2.1.length : Int), (i : Int), ()), (s, ()), ())) s.2.1.length (fun i => okL s.1.length (gd s.2.1 (i : Int))) (.inl ((50, ()), (), ())) (.inr ((), (), ())) 0 (N := fuel) (by omega)
    (fun N => by simp [L27_10, B27_10])
    (fun N i _ hi => by
      simp only [L27_10, B27_10, g62_eq, derefK_some]
      rw [dec_t (by omega), cond_true, getI_gd (by omega) (by omega), wI (x := (s.1.length : Int) - 1) (by omega) (by omega), okL_c, wI (by omega) (by omega)]
      split <;> rfl)
  have e2' : L27_10 fuel ((s.2.1, (s.2.1.length : Int), 0, ()), (s, ()), ()) = _ := e2
  simp only [e2', derefK_some]
  cases (List.range s.2.1.length).all (fun i => okL s.1.length (gd s.2.1 (i : Int))) <;> rfl
theorem g28_eq (s : Sup) : g28 (s, ()) = some ((if okS s then 0 else 50, ()), ()) := by
  show F28 fuel s = _
  unfold F28
  simp only [g58_eq, derefK_some]
  have hr : some ((if okS s then (0 : Int) else 50, ()), ()) = if okS s then some (((0 : Int), ()), ()) else some ((50, ()), ()) := by split <;> rfl
  rw [okS_c, hr, ← okS_fin s]
  by_cases h : (decide (s.1.length ≤ 10) && (decide (s.2.1.length ≤ 16) && (rng s.2.2.1 1 1000 && (rng s.2.2.2.1 0 20 && rng s.2.2.2.2 1 1000)))) = true
  case neg => rw [if_neg h, if_neg h]
  rw [if_pos h, if_pos h]
  simp only [Bool.and_eq_true, decide_eq_true_iff] at h
  have hf := fuel_ge
  have e1 := loopNum (L := L28_4) (fun i => (((i : Int), ()), (s, ()), ())) s.1.length (fun i => okB (gd s.1 (i : Int)) i) (.inl ((50, ()), (), ())) (.inr ((), (s, ()), ())) 0 (N := fuel) (by omega)
    (fun N => by simp [L28_4, B28_4])
    (fun N i _ hi => by
      simp only [L28_4, B28_4, g58_eq, derefK_some]
      rw [dec_t (by omega), cond_true, getI_gd (by omega) (by omega), wI (x := (i : Int) - 1) (by omega) (by omega), okB_c, wI (by omega) (by omega)]
      split <;> rfl)
  have e1' : L28_4 fuel ((0, ()), (s, ()), ()) = _ := e1
  rw [e1', derefK_some]
  cases (List.range s.1.length).all (fun i => okB (gd s.1 (i : Int)) i) with
  | false => rfl
  | true =>
  rw [if_pos rfl, sumK_inr, if_pos rfl]
  have e2 := loopNum (L := L28_10) (fun i => (((i : Int), ()), (s, ()), ())) s.2.1.length (fun i => okL s.1.length (gd s.2.1 (i : Int))) (.inl ((50, ()), (), ())) (.inr ((), (), ())) 0 (N := fuel) (by omega)
    (fun N => by simp [L28_10, B28_10])
    (fun N i _ hi => by
      simp only [L28_10, B28_10, g58_eq, derefK_some]
      rw [dec_t (by omega), cond_true, getI_gd (by omega) (by omega), wI (x := (s.1.length : Int) - 1) (by omega) (by omega), okL_c, wI (by omega) (by omega)]
      split <;> rfl)
  have e2' : L28_10 fuel ((0, ()), (s, ()), ()) = _ := e2
  simp only [e2', derefK_some]
  cases (List.range s.2.1.length).all (fun i => okL s.1.length (gd s.2.1 (i : Int))) <;> rfl
/-- Whether a number is a set of loads. -/
def okC (s : Sup) (set : Int) : Int := if okS s then (if rng set 0 (((2 ^ s.2.1.length : Nat) : Int) - 1) then 0 else 1) else 50
theorem pow16 {n : Nat} (h : n ≤ 16) : 2 ^ n ≤ 65536 := by
  have : (2 : Nat) ^ n ≤ 2 ^ 16 := Nat.pow_le_pow_right (by omega) h
  omega
theorem g53_eq (s : Sup) (set : Int) : g53 (s, set, ()) = some ((okC s set, ()), ()) := by
  show F53 fuel s set = _
  unfold F53 okC
  rw [g27_eq, derefK_some]
  by_cases h : okS s = true
  case neg => rw [if_neg h, if_neg h]; rfl
  rw [if_pos h, if_pos h]
  have hl := (okS_le h).2
  have e : g82 (s, set, ()) = some ((rng set 0 (((2 ^ s.2.1.length : Nat) : Int) - 1), ()), ()) := by
    show F82 fuel s set = _
    unfold F82
    have := pow16 hl
    rw [negK_in (by omega), shl_n (by omega), g62_eq, derefK_some]
    generalize 2 ^ s.2.1.length = p at this ⊢
    rw [wI (by omega) (by omega)]
  rw [e]
  cases rng set 0 (((2 ^ s.2.1.length : Nat) : Int) - 1) <;> rfl
theorem g56_eq (s : Sup) (set : Int) : g56 (s, set, ()) = some ((okC s set, ()), ()) := by
  show F56 fuel s set = _
  unfold F56 okC
  rw [g28_eq, derefK_some]
  by_cases h : okS s = true
  case neg => rw [if_neg h, if_neg h]; rfl
  rw [if_pos h, if_pos h]
  have hl := (okS_le h).2
  have := pow16 hl
  rw [u64_in (n := (s.2.1.length : Int)) (by omega) (by omega), negK_in (by omega), shl_n (by omega), g58_eq, derefK_some]
  generalize 2 ^ s.2.1.length = p at this ⊢
  rw [wI (by omega) (by omega)]
  cases rng set 0 ((p : Int) - 1) <;> rfl
theorem okC_0 {s : Sup} {set : Int} (h : okC s set = 0) : okS s = true ∧ ∃ S : Nat, set = (S : Int) ∧ S < 2 ^ s.2.1.length := by
  unfold okC at h
  split at h
  case isFalse => cases h
  rename_i h1
  split at h
  case isFalse => cases h
  rename_i h2
  have := rng_iff.1 h2
  exact ⟨h1, set.toNat, by omega, by omega⟩
end Go.Proofs.Try.V
