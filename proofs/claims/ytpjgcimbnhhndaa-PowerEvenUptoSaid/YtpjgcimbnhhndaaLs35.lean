/- Plain laws: what the last text needs of the others, in one. No condition beyond those typed in each theorem. -/
import Derived.Test.YtpjgcimbnhhndaaFn4
import Derived.Test.YtpjgcimbnhhndaaFn5
namespace Go.Proofs.Try.V
open Go.Vi
set_option maxRecDepth 100000
abbrev Brd := Int × (Int × (Int × Int))
abbrev Ld := Int × (Int × (Int × Int))
abbrev Sup := (List Brd) × ((List Ld) × (Int × (Int × Int)))
abbrev Swi := Int × (Int × Int)
theorem loopIdx {α D R : Type} [Inhabited α] {L : Nat → D → Option R} (mk : Nat → D) (l : List α) (q : α → Bool) (hit : Nat → R) (e : R) (c : Nat) {N : Nat} (hN : l.length + c < N)
    (hend : ∀ N, L (N + 1) (mk l.length) = some e)
    (hstep : ∀ N i, c ≤ N → i < l.length → L (N + 1) (mk i) = if q (gd l (i : Int)) then some (hit i) else L N (mk (i + 1))) :
    L N (mk 0) = some (match l.findIdx? q with | some i => hit i | none => e) := by
  have key : ∀ (d i : Nat) (N : Nat), i + d = l.length → d + c < N → L N (mk i) = some (match (l.drop i).findIdx? q with | some j => hit (i + j) | none => e) := by
    intro d
    induction d with
    | zero =>
      intro i N hi hN
      obtain ⟨m, rfl⟩ : ∃ m, N = m + 1 := ⟨N - 1, by omega⟩
      obtain rfl : i = l.length := by omega
      rw [hend, List.drop_length]
      rfl
    | succ d ih =>
      intro i N hi hN
      obtain ⟨m, rfl⟩ : ∃ m, N = m + 1 := ⟨N - 1, by omega⟩
      rw [hstep m i (by omega) (by omega), drop_nat (by omega), List.findIdx?_cons]
      cases hq : q (gd l (i : Int)) with
      | true => rfl
      | false =>
        rw [if_neg (by simp), ih (i + 1) m (by omega) (by omega)]
        simp only [Bool.false_eq_true, if_false]
        cases (l.drop (i + 1)).findIdx? q with
        | none => rfl
        | some j =>
          simp only [Option.map_some]
          rw [show i + (j + 1) = i + 1 + j by omega]
  have := key l.length 0 N (by omega) hN
  simpa using this
theorem loopNum {D R : Type} {L : Nat → D → Option R} (mk : Nat → D) (n : Nat) (p : Nat → Bool) (bad good : R) (c : Nat) {N : Nat} (hN : n + c < N)
    (hend : ∀ N, L (N + 1) (mk n) = some good)
    (hstep : ∀ N i, c ≤ N → i < n → L (N + 1) (mk i) = if p i then L N (mk (i + 1)) else some bad) :
    L N (mk 0) = some (if (List.range n).all p then good else bad) := by
  have key : ∀ (d i : Nat) (N : Nat), i + d = n → d + c < N → L N (mk i) = some (if (List.range' i d).all p then good else bad) := by
    intro d
    induction d with
    | zero =>
      intro i N hi hN
      obtain ⟨m, rfl⟩ : ∃ m, N = m + 1 := ⟨N - 1, by omega⟩
      obtain rfl : i = n := by omega
      rw [hend]
      rfl
    | succ d ih =>
      intro i N hi hN
      obtain ⟨m, rfl⟩ : ∃ m, N = m + 1 := ⟨N - 1, by omega⟩
      rw [hstep m i (by omega) (by omega), List.range'_succ, List.all_cons]
      cases p i with
      | true => rw [if_pos rfl, ih (i + 1) m (by omega) (by omega), Bool.true_and]
      | false => rw [if_neg (by simp), Bool.false_and, if_neg (by simp)]
  rw [List.range_eq_range']
  exact key n 0 N (by omega) hN
theorem negK_in {R : Type} {a : Int} (h : 0 ≤ a) (k : Option R) : negK a k = k := by
  unfold negK
  rw [if_neg (by omega)]
theorem ofN (S : Nat) (h : S < 4611686018427387904) : (BitVec.ofInt 64 (S : Int)).toNat = S := by
  rw [BitVec.toNat_ofInt, Int.emod_eq_of_lt (by omega) (by show (S : Int) < 18446744073709551616; omega)]
  omega
theorem and_n {S T : Nat} (hS : S < 4611686018427387904) (hT : T < 4611686018427387904) : bitsI .and .i64 (S : Int) (T : Int) = ((S &&& T : Nat) : Int) := by
  show IntKind.wrap .i64 ((BitVec.ofInt 64 (S : Int) &&& BitVec.ofInt 64 (T : Int)).toNat : Int) = _
  rw [BitVec.toNat_and, ofN S hS, ofN T hT]
  have := Nat.and_le_left (n := S) (m := T)
  exact wI (by omega) (by omega)
theorem or_n {S T : Nat} (hS : S < 4611686018427387904) (hT : T < 4611686018427387904) : bitsI .or .i64 (S : Int) (T : Int) = ((S ||| T : Nat) : Int) := by
  show IntKind.wrap .i64 ((BitVec.ofInt 64 (S : Int) ||| BitVec.ofInt 64 (T : Int)).toNat : Int) = _
  rw [BitVec.toNat_or, ofN S hS, ofN T hT]
  have : S ||| T < 2 ^ 62 := Nat.or_lt_two_pow hS hT
  exact wI (by omega) (by omega)
def dif (S T : Nat) : Nat := S ^^^ (S &&& T)
theorem dif_bit (S T i : Nat) : (dif S T).testBit i = (S.testBit i && !T.testBit i) := by
  unfold dif
  rw [Nat.testBit_xor, Nat.testBit_and]
  cases S.testBit i <;> cases T.testBit i <;> rfl
theorem dif_le (S T : Nat) : dif S T ≤ S := by
  have h : dif S T = S &&& dif S T := by
    refine Nat.eq_of_testBit_eq fun i => ?_
    rw [Nat.testBit_and, dif_bit]
    cases S.testBit i <;> rfl
  rw [h]
  exact Nat.and_le_left
theorem andNot_n {S T : Nat} (hS : S < 4611686018427387904) (hT : T < 4611686018427387904) : bitsI .andNot .i64 (S : Int) (T : Int) = ((dif S T : Nat) : Int) := by
  show IntKind.wrap .i64 ((BitVec.ofInt 64 (S : Int) &&& ~~~ BitVec.ofInt 64 (T : Int)).toNat : Int) = _
  have e : (BitVec.ofInt 64 (S : Int) &&& ~~~ BitVec.ofInt 64 (T : Int)).toNat = dif S T := by
    rw [BitVec.toNat_and, BitVec.toNat_not, ofN S hS, ofN T hT]
    refine Nat.eq_of_testBit_eq fun i => ?_
    rw [Nat.testBit_and, dif_bit, show 2 ^ 64 - 1 - T = 2 ^ 64 - (T + 1) by omega, Nat.testBit_two_pow_sub_succ (by omega)]
    by_cases hi : i < 64
    · rw [dec_t hi, Bool.true_and]
    · rw [dec_f hi, Nat.testBit_lt_two_pow (Nat.lt_of_lt_of_le (show S < 2 ^ 64 by omega) (Nat.pow_le_pow_right (by omega) (by omega)))]
      rfl
  rw [e]
  have := dif_le S T
  exact wI (by omega) (by omega)
theorem shl_n {i : Nat} (hi : i < 62) : shlI .i64 1 (i : Int) = ((2 ^ i : Nat) : Int) := by
  have h : (2 : Nat) ^ i < 2 ^ 62 := Nat.pow_lt_pow_right (by omega) hi
  have e : min (i : Int).toNat IntKind.i64.bits = i := by
    rw [Int.toNat_natCast]
    exact Nat.min_eq_left (by show i ≤ 64; omega)
  unfold shlI
  rw [e, Int.one_mul, show ((2 : Int) ^ i) = ((2 ^ i : Nat) : Int) by simp]
  generalize 2 ^ i = p at h ⊢
  exact wI (by omega) (by omega)
theorem shr_n {S i : Nat} (hi : i < 62) : shrI .i64 (S : Int) (i : Int) = ((S >>> i : Nat) : Int) := by
  have e : min (i : Int).toNat IntKind.i64.bits = i := by
    rw [Int.toNat_natCast]
    exact Nat.min_eq_left (by show i ≤ 64; omega)
  unfold shrI
  rw [e, Nat.shiftRight_eq_div_pow, show ((2 : Int) ^ i) = ((2 ^ i : Nat) : Int) by simp, Int.fdiv_eq_ediv_of_nonneg _ (Int.natCast_nonneg _)]
  simp
theorem bit_n {S i : Nat} (hS : S < 4611686018427387904) (hi : i < 62) : bitsI .and .i64 (shrI .i64 (S : Int) (i : Int)) 1 = if S.testBit i then 1 else 0 := by
  have h : S >>> i ≤ S := by rw [Nat.shiftRight_eq_div_pow]; exact Nat.div_le_self _ _
  rw [shr_n hi, show (1 : Int) = ((1 : Nat) : Int) by rfl, and_n (by omega) (by omega)]
  have : S.testBit i = ((1 &&& (S >>> i)) != 0) := rfl
  rw [this, Nat.and_comm 1]
  have := Nat.and_le_right (n := S >>> i) (m := 1)
  rcases Nat.lt_or_ge 0 (S >>> i &&& 1) with h1 | h1
  · obtain h2 : S >>> i &&& 1 = 1 := by omega
    rw [h2]; rfl
  · obtain h2 : S >>> i &&& 1 = 0 := by omega
    rw [h2]; rfl
theorem u64_in {n : Int} (h0 : 0 ≤ n) (h : n ≤ 4294967295) : IntKind.wrap .u64 n = n := by
  show n % 18446744073709551616 = n
  exact Int.emod_eq_of_lt h0 (by omega)
def rng (x lo hi : Int) : Bool := decide (lo ≤ x) && decide (x ≤ hi)
theorem rng_iff {x lo hi : Int} : rng x lo hi = true ↔ lo ≤ x ∧ x ≤ hi := by unfold rng; rw [Bool.and_eq_true, decide_eq_true_iff, decide_eq_true_iff]
theorem g62_eq (x lo hi : Int) : g62 (x, lo, hi, ()) = some ((rng x lo hi, ()), ()) := by
  show F62 fuel x lo hi = _
  unfold F62 rng
  by_cases h : lo ≤ x
  · rw [dec_t (p := x ≥ lo) h]; rfl
  · rw [dec_f (p := x ≥ lo) h]; rfl
def okB (b : Brd) (i : Nat) : Bool := rng b.1 (-1) ((i : Int) - 1) && (rng b.2.1 1 1000 && (rng b.2.2.1 0 20 && rng b.2.2.2 1 10000))
def okL (n : Nat) (x : Ld) : Bool := rng x.1 0 ((n : Int) - 1) && (rng x.2.1 0 2 && (rng x.2.2.1 1 1000 && rng x.2.2.2 0 1000))
def okS (s : Sup) : Bool :=
  decide (s.1.length ≤ 10) && (decide (s.2.1.length ≤ 16) && (rng s.2.2.1 1 1000 && (rng s.2.2.2.1 0 20 && (rng s.2.2.2.2 1 1000 && ((List.range s.1.length).all (fun i => okB (gd s.1 (i : Int)) i) && s.2.1.all (okL s.1.length))))))
theorem okB_c {α : Type} (b : Brd) (i : Nat) (x y : α) : (bif !rng b.1 (-1) ((i : Int) - 1) then x else bif !rng b.2.1 1 1000 then x else bif !rng b.2.2.1 0 20 then x else bif !rng b.2.2.2 1 10000 then x else y) = if okB b i then y else x := by
  unfold okB
  cases rng b.1 (-1) ((i : Int) - 1) <;> cases rng b.2.1 1 1000 <;> cases rng b.2.2.1 0 20 <;> cases rng b.2.2.2 1 10000 <;> rfl
theorem okL_c {α : Type} (n : Nat) (b : Ld) (x y : α) : (bif !rng b.1 0 ((n : Int) - 1) then x else bif !rng b.2.1 0 2 then x else bif !rng b.2.2.1 1 1000 then x else bif !rng b.2.2.2 0 1000 then x else y) = if okL n b then y else x := by
  unfold okL
  cases rng b.1 0 ((n : Int) - 1) <;> cases rng b.2.1 0 2 <;> cases rng b.2.2.1 1 1000 <;> cases rng b.2.2.2 0 1000 <;> rfl
theorem okS_c {α : Type} (s : Sup) (x z : α) : (bif decide ((s.1.length : Int) > 10) then x else bif decide ((s.2.1.length : Int) > 16) then x else bif !rng s.2.2.1 1 1000 then x else bif !rng s.2.2.2.1 0 20 then x else bif !rng s.2.2.2.2 1 1000 then x else z) =
    if (decide (s.1.length ≤ 10) && (decide (s.2.1.length ≤ 16) && (rng s.2.2.1 1 1000 && (rng s.2.2.2.1 0 20 && rng s.2.2.2.2 1 1000)))) then z else x := by
  by_cases h1 : s.1.length ≤ 10
  · rw [dec_f (p := (s.1.length : Int) > 10) (by omega), dec_t (p := s.1.length ≤ 10) h1]
    by_cases h2 : s.2.1.length ≤ 16
    · rw [dec_f (p := (s.2.1.length : Int) > 16) (by omega), dec_t (p := s.2.1.length ≤ 16) h2]
      cases rng s.2.2.1 1 1000 <;> cases rng s.2.2.2.1 0 20 <;> cases rng s.2.2.2.2 1 1000 <;> rfl
    · rw [dec_t (p := (s.2.1.length : Int) > 16) (by omega), dec_f (p := s.2.1.length ≤ 16) h2]
      rfl
  · rw [dec_t (p := (s.1.length : Int) > 10) (by omega), dec_f (p := s.1.length ≤ 10) h1]
    rfl
theorem okS_le {s : Sup} (h : okS s = true) : s.1.length ≤ 10 ∧ s.2.1.length ≤ 16 := by
  unfold okS at h
  simp only [Bool.and_eq_true, decide_eq_true_iff] at h
  exact ⟨h.1, h.2.1⟩
theorem all_gd {α : Type} [Inhabited α] (l : List α) (p : α → Bool) : (List.range l.length).all (fun i => p (gd l (i : Int))) = l.all p := by
  induction l with
  | nil => rfl
  | cons x l ih =>
    rw [List.length_cons, List.range_succ_eq_map, List.all_cons, List.all_map, List.all_cons, ← ih]
    rfl
theorem okS_fin (s : Sup) {R : Type} (a b : R) : (if (decide (s.1.length ≤ 10) && (decide (s.2.1.length ≤ 16) && (rng s.2.2.1 1 1000 && (rng s.2.2.2.1 0 20 && rng s.2.2.2.2 1 1000)))) then
    (if (List.range s.1.length).all (fun i => okB (gd s.1 (i : Int)) i) then (if (List.range s.2.1.length).all (fun i => okL s.1.length (gd s.2.1 (i : Int))) then a else b) else b) else b) = if okS s then a else b := by
  rw [all_gd]
  unfold okS
  cases decide (s.1.length ≤ 10) <;> cases decide (s.2.1.length ≤ 16) <;> cases rng s.2.2.1 1 1000 <;> cases rng s.2.2.2.1 0 20 <;> cases rng s.2.2.2.2 1 1000 <;> cases (List.range s.1.length).all (fun i => okB (gd s.1 (i : Int)) i) <;> rfl
theorem g27_eq (s : Sup) : g27 (s, ()) = some ((if okS s then 0 else 50, ()), ()) := by
  show F27 fuel s = _
  unfold F27
  simp only [g62_eq, derefK_some]
  have hr : some ((if okS s then (0 : Int) else 50, ()), ()) = if okS s then some (((0 : Int), ()), ()) else some ((50, ()), ()) := by split <;> rfl
  rw [okS_c, hr, ← okS_fin s]
  by_cases h : (decide (s.1.length ≤ 10) && (decide (s.2.1.length ≤ 16) && (rng s.2.2.1 1 1000 && (rng s.2.2.2.1 0 20 && rng s.2.2.2.2 1 1000)))) = true
  case neg => rw [if_neg h, if_neg h]
  rw [if_pos h, if_pos h]
  simp only [Bool.and_eq_true, decide_eq_true_iff] at h
  have hf := fuel_ge
  have e1 := loopNum (L := L27_4) (fun i => ((s.1, (s.1.length : Int), (i : Int), ()), (s, ()), ())) s.1.length (fun i => okB (gd s.1 (i : Int)) i) (.inl ((50, ()), (), ())) (.inr ((), (s, ()), ())) 0 (N := fuel) (by omega)
    (fun N => by simp [L27_4, B27_4])
    (fun N i _ hi => by
      simp only [L27_4, B27_4, g62_eq, derefK_some]
      rw [dec_t (by omega), cond_true, getI_gd (by omega) (by omega), wI (x := (i : Int) - 1) (by omega) (by omega), okB_c, wI (by omega) (by omega)]
      split <;> rfl)
  have e1' : L27_4 fuel ((s.1, (s.1.length : Int), 0, ()), (s, ()), ()) = _ := e1
  rw [e1', derefK_some]
  cases (List.range s.1.length).all (fun i => okB (gd s.1 (i : Int)) i) with
  | false => rfl
  | true =>
  rw [if_pos rfl, sumK_inr, if_pos rfl]
  have e2 := loopNum (L := L27_10) (fun i => ((s.2.1, (s.2.1.length : Int), (i : Int), ()), (s, ()), ())) s.2.1.length (fun i => okL s.1.length (gd s.2.1 (i : Int))) (.inl ((50, ()), (), ())) (.inr ((), (), ())) 0 (N := fuel) (by omega)
    (fun N => by simp [L27_10, B27_10])
    (fun N i _ hi => by
      simp only [L27_10, B27_10, g62_eq, derefK_some]
      rw [dec_t (by omega), cond_true, getI_gd (by omega) (by omega), wI (x := (s.1.length : Int) - 1) (by omega) (by omega), okL_c, wI (by omega) (by omega)]
      split <;> rfl)
  have e2' : L27_10 fuel ((s.2.1, (s.2.1.length : Int), 0, ()), (s, ()), ()) = _ := e2
  simp only [e2', derefK_some]
  cases (List.range s.2.1.length).all (fun i => okL s.1.length (gd s.2.1 (i : Int))) <;> rfl
def okC (s : Sup) (set : Int) : Int := if okS s then (if rng set 0 (((2 ^ s.2.1.length : Nat) : Int) - 1) then 0 else 1) else 50
theorem pow16 {n : Nat} (h : n ≤ 16) : 2 ^ n ≤ 65536 := by
  have : (2 : Nat) ^ n ≤ 2 ^ 16 := Nat.pow_le_pow_right (by omega) h
  omega
theorem g53_eq (s : Sup) (set : Int) : g53 (s, set, ()) = some ((okC s set, ()), ()) := by
  show F53 fuel s set = _
  unfold F53 okC
  rw [g27_eq, derefK_some]
  by_cases h : okS s = true
  case neg => rw [if_neg h, if_neg h]; rfl
  rw [if_pos h, if_pos h]
  have hl := (okS_le h).2
  have e : g82 (s, set, ()) = some ((rng set 0 (((2 ^ s.2.1.length : Nat) : Int) - 1), ()), ()) := by
    show F82 fuel s set = _
    unfold F82
    have := pow16 hl
    rw [negK_in (by omega), shl_n (by omega), g62_eq, derefK_some]
    generalize 2 ^ s.2.1.length = p at this ⊢
    rw [wI (by omega) (by omega)]
  rw [e]
  cases rng set 0 (((2 ^ s.2.1.length : Nat) : Int) - 1) <;> rfl
theorem okC_0 {s : Sup} {set : Int} (h : okC s set = 0) : okS s = true ∧ ∃ S : Nat, set = (S : Int) ∧ S < 2 ^ s.2.1.length := by
  unfold okC at h
  split at h
  case isFalse => cases h
  rename_i h1
  split at h
  case isFalse => cases h
  rename_i h2
  have := rng_iff.1 h2
  exact ⟨h1, set.toNat, by omega, by omega⟩
abbrev intsTy : Ty := .list false 3 (.int .i64)
theorem len_sum {α : Type} {g : α → Nat} (h : ∀ x, 1 ≤ g x) : ∀ l : List α, l.length ≤ (l.map g).sum
  | [] => Nat.zero_le _
  | x :: l => by
    have := len_sum h l
    have := h x
    simp only [List.map_cons, List.sum_cons, List.length_cons]
    omega
theorem bulk_ints (l : List Int) : l.length + 1 ≤ bulk intsTy l := by
  have e : bulk intsTy l = (l.map (bulk (.int .i64))).sum + 1 := rfl
  have := len_sum (g := bulk (.int .i64)) (fun _ => Nat.le_refl _) l
  omega
theorem own_try : ownKnob Try.prog.godebug = none := by kernel_rfl
theorem laidOut_try : laidOutB Try.prog = true := by kernel_rfl
def UpOK (l : List Brd) : Prop := ∀ j : Nat, j < l.length → -1 ≤ (gd l (j : Int)).1 ∧ (gd l (j : Int)).1 < j
theorem okS_up {s : Sup} (h : okS s = true) : UpOK s.1 := by
  unfold okS at h
  simp only [Bool.and_eq_true, decide_eq_true_iff, List.all_eq_true, List.mem_range] at h
  intro j hj
  have := h.2.2.2.2.2.1 j hj
  unfold okB at this
  simp only [Bool.and_eq_true, rng_iff] at this
  omega
theorem UpOK.at {l : List Brd} (h : UpOK l) {b : Int} (h0 : 0 ≤ b) (h1 : b < l.length) : -1 ≤ (gd l b).1 ∧ (gd l b).1 < b := by
  have := h b.toNat (by omega)
  rwa [show ((b.toNat : Nat) : Int) = b by omega] at this
def chF (l : List Brd) : Nat → Int → List Int
  | 0, _ => []
  | n + 1, b => if b < 0 then [] else b :: chF l n (gd l b).1
theorem chF_eq {l : List Brd} (hu : UpOK l) : ∀ (n m : Nat) (b : Int), b < n → b < m → b < l.length → chF l n b = chF l m b
  | 0, 0, _, _, _, _ => rfl
  | 0, m + 1, b, h, _, _ => by
    unfold chF
    rw [if_pos (by omega)]
  | n + 1, 0, b, _, h, _ => by
    unfold chF
    rw [if_pos (by omega)]
  | n + 1, m + 1, b, h1, h2, h3 => by
    unfold chF
    by_cases hb : b < 0
    · rw [if_pos hb, if_pos hb]
    · rw [if_neg hb, if_neg hb]
      have := hu.at (b := b) (by omega) h3
      rw [chF_eq hu n m _ (by omega) (by omega) (by omega)]
def chn (l : List Brd) (b : Int) : List Int := chF l (l.length + 1) b
theorem chn_neg {l : List Brd} {b : Int} (hb : b < 0) : chn l b = [] := by
  unfold chn chF
  rw [if_pos hb]
theorem chn_pos {l : List Brd} (hu : UpOK l) {b : Int} (h0 : 0 ≤ b) (h1 : b < l.length) : chn l b = b :: chn l (gd l b).1 := by
  have := hu.at h0 h1
  unfold chn
  rw [chF, if_neg (by omega), chF_eq hu l.length (l.length + 1) _ (by omega) (by omega) (by omega)]
theorem chn_ind {l : List Brd} (hu : UpOK l) {p : Int → Prop} (hneg : p (-1)) (hpos : ∀ b : Int, 0 ≤ b → b < l.length → p (gd l b).1 → p b) : ∀ b : Int, -1 ≤ b → b < l.length → p b := by
  have key : ∀ (n : Nat) (b : Int), b < n → -1 ≤ b → b < l.length → p b := by
    intro n
    induction n with
    | zero =>
      intro b h1 h2 h3
      obtain rfl : b = -1 := by omega
      exact hneg
    | succ n ih =>
      intro b h1 h2 h3
      by_cases hb : b < 0
      · obtain rfl : b = -1 := by omega
        exact hneg
      · have := hu.at (b := b) (by omega) h3
        exact hpos b (by omega) h3 (ih _ (by omega) (by omega) (by omega))
  intro b h1 h2
  exact key (b + 1).toNat b (by omega) h1 h2
theorem chn_mem {l : List Brd} (hu : UpOK l) : ∀ b : Int, -1 ≤ b → b < l.length → ∀ x ∈ chn l b, 0 ≤ x ∧ x ≤ b := by
  refine chn_ind hu ?_ ?_
  · rw [chn_neg (by omega)]
    intro x h
    cases h
  · intro b h0 h1 ih x hx
    rw [chn_pos hu h0 h1] at hx
    have := hu.at h0 h1
    rcases List.mem_cons.1 hx with rfl | h
    · omega
    · have := ih x h
      omega
theorem chn_nodup {l : List Brd} (hu : UpOK l) : ∀ b : Int, -1 ≤ b → b < l.length → (chn l b).Nodup := by
  refine chn_ind hu ?_ ?_
  · rw [chn_neg (by omega)]
    exact List.nodup_nil
  · intro b h0 h1 ih
    have := hu.at h0 h1
    rw [chn_pos hu h0 h1, List.nodup_cons]
    refine ⟨fun h => ?_, ih⟩
    have := chn_mem hu (gd l b).1 (by omega) (by omega) b h
    omega
theorem upL_eq {l : List Brd} (hu : UpOK l) : ∀ (n : Nat) (b : Int), -1 ≤ b → b < n → b < l.length → It.upL (n + 1) l b = some (chn l b ++ [-1])
  | n, b, h0, h1, h2 => by
    unfold It.upL
    by_cases hb : b < 0
    · rw [dec_t hb, cond_true, chn_neg hb]
      rfl
    · have hp := hu.at (b := b) (by omega) h2
      rw [dec_f hb, cond_false, getI_gd (by omega) h2, dec_t hp.2, cond_true]
      match n with
      | 0 => omega
      | n + 1 =>
        rw [upL_eq hu n (gd l b).1 hp.1 (by omega) (by omega), derefK_some, chn_pos hu (by omega) h2]
        rfl
theorem it95_eq {s : Sup} (hu : UpOK s.1) (hl : s.1.length ≤ 1000) {b : Int} (h0 : -1 ≤ b) (h1 : b < s.1.length) : It.it95.g (b, s, ()) = some (chn s.1 b ++ [-1]) := by
  show lenK (s.1.length : Int) (It.upL (s.1.length + 1) s.1 b) = _
  rw [lenK_in (by omega) (by omega), upL_eq hu s.1.length b h0 (by omega) h1]; rfl
theorem up_k {R : Type} {s : Sup} (hu : UpOK s.1) (hl : s.1.length ≤ 1000) {b : Int} (h0 : -1 ≤ b) (h1 : b < s.1.length) (K : List Int → Option R) :
    (derefK (It.m65.p.g (s, b, ())) fun y3 => derefK y3.1.2.1 fun q4 => derefK (It.it95.g (y3.1.1, q4, ())) fun l6 => K l6) = K (chn s.1 b ++ [-1]) := by
  show derefK (It.it95.g (b, s, ())) _ = _
  rw [it95_eq hu hl h0 h1]
  rfl
def und (l : List Brd) (b top : Int) : Bool := (chn l b).contains top
def curK (s : Sup) (S : Nat) (b ph : Int) : Nat → Int
  | 0 => 0
  | k + 1 => curK s S b ph k + (if S.testBit k && ((gd s.2.1 (k : Int)).2.1 == ph && (decide (b < 0) || und s.1 (gd s.2.1 (k : Int)).1 b)) then (gd s.2.1 (k : Int)).2.2.1 else 0)
def cur (s : Sup) (S : Nat) (b ph : Int) : Int := curK s S b ph s.2.1.length
theorem okS_ld {s : Sup} (h : okS s = true) {k : Nat} (hk : k < s.2.1.length) : okL s.1.length (gd s.2.1 (k : Int)) = true := by
  unfold okS at h
  simp only [Bool.and_eq_true, decide_eq_true_iff, List.all_eq_true] at h
  exact h.2.2.2.2.2.2 _ (gd_mem (by omega) (by omega))
theorem okL_1 {n : Nat} {x : Ld} (h : okL n x = true) : (0 ≤ x.1 ∧ x.1 < n) ∧ (0 ≤ x.2.1 ∧ x.2.1 ≤ 2) ∧ (1 ≤ x.2.2.1 ∧ x.2.2.1 ≤ 1000) ∧ (0 ≤ x.2.2.2 ∧ x.2.2.2 ≤ 1000) := by
  unfold okL at h
  simp only [Bool.and_eq_true, rng_iff] at h
  omega
theorem curK_bd {s : Sup} (h : okS s = true) (S : Nat) (b ph : Int) : ∀ k, k ≤ s.2.1.length → 0 ≤ curK s S b ph k ∧ curK s S b ph k ≤ 1000 * k
  | 0, _ => ⟨Int.le_refl _, by simp [curK]⟩
  | k + 1, hk => by
    have ih := curK_bd h S b ph k (by omega)
    have := okL_1 (okS_ld h (k := k) (by omega))
    unfold curK
    split <;> omega
theorem gd_mapr {α : Type} [Inhabited α] (f : Nat → α) {n k : Nat} (h : k < n) : gd ((List.range n).map f) (k : Int) = f k := by
  refine gd_of ?_
  simp [h]
def ix (n : Nat) (x : Int) : Nat := if x = -1 then n else x.toNat
def bO (n k : Nat) : Int := if k = n then -1 else (k : Int)
theorem agree3 {R : Type} (x : Option R) : agreeK [agreeK [agreeK [x, x], x], x] = x := by
  simp only [agreeK_two, agreeK_one]
theorem R64_ok {s : Sup} {ld : Ld} (hph : 0 ≤ ld.2.1 ∧ ld.2.1 ≤ 2) (ha : 1 ≤ ld.2.2.1 ∧ ld.2.2.1 ≤ 1000) (N : Nat) : ∀ (xs : List Int), (∀ x ∈ xs, x = -1 ∨ (0 ≤ x ∧ x < s.1.length)) → (xs.map (ix s.1.length)).Nodup →
    ∀ out : List (List Int), out.length = s.1.length + 1 → (∀ k ∈ xs.map (ix s.1.length), (gd out (k : Int)).length = 3 ∧ 0 ≤ gd (gd out (k : Int)) ld.2.1 ∧ gd (gd out (k : Int)) ld.2.1 ≤ 1099511627776) →
    ∃ out', R64_7 N xs (s, out, ld, ()) = some (.norm, (out', ())) ∧ out'.length = s.1.length + 1 ∧
      ∀ k : Nat, k ≤ s.1.length → gd out' (k : Int) = if k ∈ xs.map (ix s.1.length) then (gd out (k : Int)).set ld.2.1.toNat (gd (gd out (k : Int)) ld.2.1 + ld.2.2.1) else gd out (k : Int)
  | [], _, _, out, hl, _ => ⟨out, rfl, hl, fun k _ => by rw [if_neg (by simp)]⟩
  | x :: xs, hx, hnd, out, hl, hb => by
    rw [List.map_cons, List.nodup_cons] at hnd
    have hstep : ∀ i : Int, 0 ≤ i → i ≤ s.1.length → i.toNat = ix s.1.length x → (∀ (F : Int → List Int → Option (X × (List (List Int) × Unit))), agreeK [inR i out.length (agreeK [inR ld.2.1 3 (agreeK [getI out i fun e4 => getI e4 ld.2.1 fun e5 => inR i out.length (inR ld.2.1 3 (getI out i fun e6 => getI e6 ld.2.1 fun _ => F e5 e6)), inR i out.length (getI out i fun e8 => getI e8 ld.2.1 fun e9 => inR ld.2.1 3 (getI out i fun e10 => getI e10 ld.2.1 fun _ => F e9 e10))]), inR i out.length (inR ld.2.1 3 (getI out i fun e12 => getI e12 ld.2.1 fun e13 => inR ld.2.1 3 (getI out i fun e14 => getI e14 ld.2.1 fun _ => F e13 e14)))]), inR i out.length (inR i out.length (inR ld.2.1 3 (getI out i fun e16 => getI e16 ld.2.1 fun e17 => inR ld.2.1 3 (getI out i fun e18 => getI e18 ld.2.1 fun _ => F e17 e18))))] =
        F (gd (gd out i) ld.2.1) (gd out i)) := fun i h0 h1 hi F => by
      have h3 := hb i.toNat (by rw [hi]; simp)
      rw [show ((i.toNat : Nat) : Int) = i by omega] at h3
      have a1 : ∀ {R : Type} (k : Option R), inR i out.length k = k := fun k => inR_in h0 (by omega) k
      have a2 : ∀ {R : Type} (k : Option R), inR ld.2.1 3 k = k := fun k => inR_in hph.1 (by omega) k
      have a3 : ∀ {R : Type} (k : List Int → Option R), getI out i k = k (gd out i) := fun k => getI_gd h0 (by omega) k
      have a4 : ∀ {R : Type} (k : Int → Option R), getI (gd out i) ld.2.1 k = k (gd (gd out i) ld.2.1) := fun k => getI_gd hph.1 (by omega) k
      simp only [a1, a2, a3, a4, agree3]
    have hgo : ∀ i : Int, 0 ≤ i → i ≤ s.1.length → i.toNat = ix s.1.length x → ∃ out', R64_7 N xs (s, out.set i.toNat ((gd out i).set ld.2.1.toNat (IntKind.wrap .i64 (gd (gd out i) ld.2.1 + ld.2.2.1))), ld, ()) = some (.norm, (out', ())) ∧ out'.length = s.1.length + 1 ∧
        ∀ k : Nat, k ≤ s.1.length → gd out' (k : Int) = if k ∈ (x :: xs).map (ix s.1.length) then (gd out (k : Int)).set ld.2.1.toNat (gd (gd out (k : Int)) ld.2.1 + ld.2.2.1) else gd out (k : Int) := fun i h0 h1 hi => by
      have h3 := hb i.toNat (by rw [hi]; simp)
      rw [show ((i.toNat : Nat) : Int) = i by omega] at h3
      rw [wI (by omega) (by omega)]
      obtain ⟨o2, ho2⟩ : ∃ o2, out.set i.toNat ((gd out i).set ld.2.1.toNat (gd (gd out i) ld.2.1 + ld.2.2.1)) = o2 := ⟨_, rfl⟩
      have hself : gd o2 i = (gd out i).set ld.2.1.toNat (gd (gd out i) ld.2.1 + ld.2.2.1) := by rw [← ho2]; exact gd_set_self h0 (by omega)
      have hoth : ∀ k : Nat, (k : Int) ≠ i → gd o2 (k : Int) = gd out (k : Int) := fun k hk => by rw [← ho2]; exact gd_set_ne h0 (by omega) hk
      have hl2 : o2.length = s.1.length + 1 := by rw [← ho2, List.length_set, hl]
      rw [ho2]
      have hnot : i.toNat ∉ xs.map (ix s.1.length) := by rw [hi]; exact hnd.1
      obtain ⟨out', e1, e2, e3⟩ := R64_ok hph ha N xs (fun y hy => hx y (List.mem_cons_of_mem _ hy)) hnd.2 o2 hl2 (fun k hk => by
        have hne : (k : Int) ≠ i := fun e => hnot (by rw [← e, Int.toNat_natCast]; exact hk)
        rw [hoth k hne]
        exact hb k (by rw [List.map_cons]; exact List.mem_cons_of_mem _ hk))
      refine ⟨out', e1, e2, fun k hk => ?_⟩
      rw [e3 k hk, List.map_cons, ← hi]
      by_cases hki : k = i.toNat
      · subst hki
        rw [if_neg hnot, if_pos (by simp), show ((i.toNat : Nat) : Int) = i by omega, hself]
      · rw [hoth k (by omega)]
        by_cases hm : k ∈ xs.map (ix s.1.length)
        · rw [if_pos hm, if_pos (List.mem_cons_of_mem _ hm)]
        · rw [if_neg hm, if_neg (by simp only [List.mem_cons, not_or]; exact ⟨hki, hm⟩)]
    show ∃ out', Q64_7 N (R64_7 N xs) x s out ld = some (.norm, (out', ())) ∧ _
    unfold Q64_7
    have hx0 := hx x List.mem_cons_self
    by_cases hx1 : x = -1
    · have hi : ((s.1.length : Nat) : Int).toNat = ix s.1.length x := by unfold ix; rw [if_pos hx1, Int.toNat_natCast]
      have hb1 : (x == -1) = true := by simp [hx1]
      rw [hb1, cond_true, enumK_eq, hstep _ (by omega) (Int.le_refl _) hi]
      exact hgo _ (by omega) (Int.le_refl _) hi
    · have hi : x.toNat = ix s.1.length x := by unfold ix; rw [if_neg hx1]
      have hb1 : (x == -1) = false := by simp [hx1]
      rw [hb1, cond_false, enumK_eq, hstep _ (by omega) (by omega) hi]
      exact hgo _ (by omega) (by omega) hi
def row3 (s : Sup) (S : Nat) (b : Int) (i : Nat) : List Int := [curK s S b 0 i, curK s S b 1 i, curK s S b 2 i]
def curs (s : Sup) (S : Nat) (i : Nat) : List (List Int) := (List.range (s.1.length + 1)).map fun k => row3 s S (bO s.1.length k) i
theorem row3_gd (s : Sup) (S : Nat) (b : Int) (i : Nat) {ph : Int} (h : 0 ≤ ph ∧ ph ≤ 2) : gd (row3 s S b i) ph = curK s S b ph i := by
  obtain rfl | rfl | rfl : ph = 0 ∨ ph = 1 ∨ ph = 2 := by omega
  all_goals rfl
theorem row3_step (s : Sup) (S : Nat) (b : Int) (i : Nat) (h : 0 ≤ (gd s.2.1 (i : Int)).2.1 ∧ (gd s.2.1 (i : Int)).2.1 ≤ 2) :
    row3 s S b (i + 1) = if S.testBit i && (decide (b < 0) || und s.1 (gd s.2.1 (i : Int)).1 b) then (row3 s S b i).set (gd s.2.1 (i : Int)).2.1.toNat (gd (row3 s S b i) (gd s.2.1 (i : Int)).2.1 + (gd s.2.1 (i : Int)).2.2.1) else row3 s S b i := by
  rw [row3_gd s S b i h]
  unfold row3
  simp only [curK]
  generalize (gd s.2.1 (i : Int)).2.1 = p at h ⊢
  generalize (decide (b < 0) || und s.1 (gd s.2.1 (i : Int)).1 b) = q
  generalize S.testBit i = r
  obtain rfl | rfl | rfl : p = 0 ∨ p = 1 ∨ p = 2 := by omega
  all_goals cases r <;> cases q <;> simp
theorem curs_len (s : Sup) (S i : Nat) : (curs s S i).length = s.1.length + 1 := by simp [curs]
theorem curs_gd (s : Sup) (S i : Nat) {k : Nat} (h : k ≤ s.1.length) : gd (curs s S i) (k : Int) = row3 s S (bO s.1.length k) i := gd_mapr _ (by omega)
theorem ix_mem {s : Sup} (h : okS s = true) {b : Int} (h0 : 0 ≤ b) (h1 : b < s.1.length) {k : Nat} (hk : k ≤ s.1.length) : k ∈ (chn s.1 b ++ [-1]).map (ix s.1.length) ↔ (decide (bO s.1.length k < 0) || und s.1 b (bO s.1.length k)) = true := by
  have hm := chn_mem (okS_up h) b (by omega) h1
  unfold bO
  by_cases hkn : k = s.1.length
  · rw [if_pos hkn]
    simp [ix, hkn]
  · rw [if_neg hkn]
    unfold und
    simp only [List.map_append, List.mem_append, List.map_cons, List.map_nil, List.mem_singleton, Bool.or_eq_true, decide_eq_true_iff, List.contains_eq_mem]
    constructor
    · rintro (h2 | h2)
      · obtain ⟨x, hx, e⟩ := List.mem_map.1 h2
        have := hm x hx
        unfold ix at e
        rw [if_neg (by omega)] at e
        right
        rw [← e, show ((x.toNat : Nat) : Int) = x by omega]
        exact hx
      · unfold ix at h2
        rw [if_pos rfl] at h2
        exact absurd h2 hkn
    · rintro (h2 | h2)
      · omega
      · left
        refine List.mem_map.2 ⟨(k : Int), h2, ?_⟩
        unfold ix
        rw [if_neg (by omega), Int.toNat_natCast]
theorem ix_nodup {s : Sup} (h : okS s = true) {b : Int} (h0 : 0 ≤ b) (h1 : b < s.1.length) : ((chn s.1 b ++ [-1]).map (ix s.1.length)).Nodup := by
  have hm := chn_mem (okS_up h) b (by omega) h1
  have hn := chn_nodup (okS_up h) b (by omega) h1
  rw [List.map_append, List.nodup_append]
  refine ⟨?_, by simp, ?_⟩
  · rw [List.Nodup, List.pairwise_map]
    refine hn.imp_of_mem ?_
    intro x y hx hy hne e
    have h1 := hm x hx
    have h2 := hm y hy
    unfold ix at e
    rw [if_neg (by omega), if_neg (by omega)] at e
    exact hne (by omega)
  · intro x hx y hy
    obtain ⟨z, hz, rfl⟩ := List.mem_map.1 hx
    have := hm z hz
    simp only [List.map_cons, List.map_nil, List.mem_singleton] at hy
    subst hy
    unfold ix
    rw [if_neg (by omega), if_pos rfl]
    omega
theorem g64_eq {s : Sup} (h : okS s = true) {S : Nat} (hS : S < 4611686018427387904) : g64 (s, (S : Int), ()) = some ((curs s S s.2.1.length, ()), ()) := by
  show F64 fuel s (S : Int) = _
  unfold F64
  have hl := okS_le h
  have hf := fuel_ge
  have hu := okS_up h
  rw [wI (by omega) (by omega), leK_in (by omega), leK_in (by omega), lenK_in (by omega) (by omega), bindV_eq]
  have e0 : List.replicate ((s.1.length : Int) + 1).toNat (List.replicate 3 (0 : Int)) = curs s S 0 := by
    refine ext_gd (by rw [curs_len, List.length_replicate]; omega) fun k hk => ?_
    rw [List.length_replicate] at hk
    rw [gd_replicate (by omega) (by omega), curs_gd s S 0 (by omega)]
    rfl
  rw [e0]
  have e := loopF (L := L64_3) (fun i => (((S : Int), s, s.2.1, (s.2.1.length : Int), (i : Int), ()), (curs s S i, ()), ())) ((), (curs s S s.2.1.length, ()), ()) 0 s.2.1.length (N := fuel) (by omega)
    (fun N => by
      simp only [L64_3, B64_3]
      rw [dec_f (by omega)]
      rfl)
    (fun N i _ hi => by
      have hx := okL_1 (okS_ld h hi)
      simp only [L64_3, B64_3]
      rw [dec_t (by omega), cond_true, getI_gd (by omega) (by omega), negK_in (by omega), bit_n hS (by omega), wI (x := (i : Int) + 1) (by omega) (by omega), show ((i : Int) + 1) = ((i + 1 : Nat) : Int) by omega]
      cases hb : S.testBit i with
      | false =>
        have : curs s S (i + 1) = curs s S i := by
          refine ext_gd (by rw [curs_len, curs_len]) fun k hk => ?_
          rw [curs_len] at hk
          rw [curs_gd s S _ (by omega), curs_gd s S _ (by omega), row3_step s S _ i hx.2.1, hb]
          rfl
        rw [this]
        rfl
      | true =>
        obtain ⟨out', e1, e2, e3⟩ := R64_ok (s := s) (ld := gd s.2.1 (i : Int)) hx.2.1 hx.2.2.1 N (chn s.1 (gd s.2.1 (i : Int)).1 ++ [-1])
          (fun x hm => by
            rcases List.mem_append.1 hm with h1 | h1
            · have := chn_mem hu _ (by omega) hx.1.2 x h1
              right; omega
            · left; simpa using h1)
          (ix_nodup h hx.1.1 hx.1.2) (curs s S i) (curs_len s S i) (fun k hk => by
            have hk : k ≤ s.1.length := by
              obtain ⟨y, hy, rfl⟩ := List.mem_map.1 hk
              unfold ix
              rcases List.mem_append.1 hy with h1 | h1
              · have := chn_mem hu _ (by omega) hx.1.2 y h1
                split <;> omega
              · split <;> simp_all
            rw [curs_gd s S i hk, row3_gd s S _ i hx.2.1]
            have := curK_bd h S (bO s.1.length k) (gd s.2.1 (i : Int)).2.1 i (by omega)
            exact ⟨rfl, by omega, by omega⟩)
        have e4 : out' = curs s S (i + 1) := by
          refine ext_gd (by rw [e2, curs_len]) fun k hk => ?_
          have hk : k ≤ s.1.length := by omega
          rw [e3 k hk, curs_gd s S _ hk, curs_gd s S _ hk, row3_step s S _ i hx.2.1, hb, Bool.true_and]
          by_cases hm : k ∈ (chn s.1 (gd s.2.1 (i : Int)).1 ++ [-1]).map (ix s.1.length)
          · rw [if_pos hm, if_pos ((ix_mem h hx.1.1 hx.1.2 hk).1 hm)]
          · rw [if_neg hm, if_neg (fun hh => hm ((ix_mem h hx.1.1 hx.1.2 hk).2 hh))]
        refine (up_k hu (by omega) (by omega) (by omega) (fun l6 => derefK (R64_7 N l6 (s, curs s S i, gd s.2.1 (i : Int), ())) fun o5 => cond (X.same .norm o5.1) (L64_3 N (((S : Int), s, s.2.1, (s.2.1.length : Int), ((i + 1 : Nat) : Int), ()), (o5.2.1, ()), ())) none)).trans ?_
        rw [e1, derefK_some, e4]
        rfl)
  have e' : L64_3 fuel (((S : Int), s, s.2.1, (s.2.1.length : Int), 0, ()), (curs s S 0, ()), ()) = _ := e
  rw [e', derefK_some]
theorem loopFst {D R : Type} {L : Nat → D → Option R} (mk : Nat → D) (n : Nat) (q : Nat → Bool) (hit : Nat → R) (e : R) (c : Nat) {N : Nat} (hN : n + c < N)
    (hend : ∀ N, L (N + 1) (mk n) = some e)
    (hstep : ∀ N i, c ≤ N → i < n → L (N + 1) (mk i) = if q i then some (hit i) else L N (mk (i + 1))) :
    L N (mk 0) = some (match (List.range n).find? q with | some i => hit i | none => e) := by
  have key : ∀ (d i : Nat) (N : Nat), i + d = n → d + c < N → L N (mk i) = some (match (List.range' i d).find? q with | some i => hit i | none => e) := by
    intro d
    induction d with
    | zero =>
      intro i N hi hN
      obtain ⟨m, rfl⟩ : ∃ m, N = m + 1 := ⟨N - 1, by omega⟩
      obtain rfl : i = n := by omega
      rw [hend]
      rfl
    | succ d ih =>
      intro i N hi hN
      obtain ⟨m, rfl⟩ : ∃ m, N = m + 1 := ⟨N - 1, by omega⟩
      rw [hstep m i (by omega) (by omega), List.range'_succ, List.find?_cons]
      cases q i with
      | true => rfl
      | false => rw [if_neg (by simp), ih (i + 1) m (by omega) (by omega)]
  rw [List.range_eq_range']
  exact key n 0 N (by omega) hN
def brs (s : Sup) (b : Int) : Int := if b < 0 then s.2.2.1 else (gd s.1 b).2.1
def mx3 (s : Sup) (S : Nat) (b : Int) : Int := max (max (cur s S b 0) (cur s S b 1)) (cur s S b 2)
def ovr (s : Sup) (S : Nat) (b : Int) : Bool := decide (mx3 s S b > brs s b)
theorem g70_eq (a b c : Int) : g70 ([a, b, c], ()) = some ((max (max a b) c, ()), ()) := by
  show F70 fuel [a, b, c] = _
  unfold F70
  rw [inR_in (by omega) (by omega), getI_gd (by omega) (by simp), inR_in (by omega) (by omega), getI_gd (by omega) (by simp), inR_in (by omega) (by omega), getI_gd (by omega) (by simp)]
  rfl
theorem g70_row (s : Sup) (S : Nat) (b : Int) : g70 (row3 s S b s.2.1.length, ()) = some ((mx3 s S b, ()), ()) := g70_eq _ _ _
theorem g66_eq (s : Sup) {k : Nat} (hk : k ≤ s.1.length) : g66 (s, (k : Int), ()) = some ((brs s (bO s.1.length k), ()), ()) := by
  show F66 fuel s (k : Int) = _
  unfold F66 brs bO
  by_cases h : k = s.1.length
  · have : ((k : Int) == (s.1.length : Int)) = true := by simp [h]
    rw [this, if_pos h, if_pos (by omega)]; rfl
  · have h1 : ((k : Int) == (s.1.length : Int)) = false := beq_eq_false_iff_ne.2 (by omega)
    have h2 : ((k : Int) == -1) = false := beq_eq_false_iff_ne.2 (by omega)
    rw [h1, h2, if_neg h, if_neg (by omega), cond_false, cond_false, getI_gd (by omega) (by omega)]
def fo (s : Sup) (S : Nat) : Option Nat := (List.range (s.1.length + 1)).find? fun i => ovr s S ((i : Int) - 1)
def foR (s : Sup) (S : Nat) : Int × (Bool × Unit) := match fo s S with | some i => ((i : Int) - 1, true, ()) | none => (0, false, ())
theorem fo_eq (s : Sup) (S : Nat) : fo s S = if ovr s S (-1) then some 0 else ((List.range s.1.length).find? fun (k : Nat) => ovr s S (k : Int)).map (· + 1) := by
  unfold fo
  rw [List.range_succ_eq_map, List.find?_cons]
  have h1 : ((0 : Nat) : Int) - 1 = -1 := rfl
  rw [h1]
  cases ovr s S (-1) with
  | true => rfl
  | false =>
    rw [if_neg (by simp), List.find?_map]
    have : ((fun (i : Nat) => ovr s S ((i : Int) - 1)) ∘ Nat.succ) = fun (k : Nat) => ovr s S (k : Int) := by
      funext k
      show ovr s S (((k + 1 : Nat) : Int) - 1) = _
      rw [show (((k + 1 : Nat) : Int) - 1) = (k : Int) by omega]
    rw [this]
theorem g55_eq {s : Sup} (h : okS s = true) {S : Nat} (hS : S < 4611686018427387904) : g55 (s, (S : Int), ()) = some (foR s S, ()) := by
  show F55 fuel s (S : Int) = _
  unfold F55
  have hl := okS_le h
  have hf := fuel_ge
  rw [g64_eq h hS, derefK_some]
  show inR (s.1.length : Int) (curs s S s.2.1.length).length (getI (curs s S s.2.1.length) (s.1.length : Int) _) = _
  rw [inR_in (by omega) (by rw [curs_len]; omega), getI_gd (by omega) (by rw [curs_len]; omega), curs_gd s S _ (Nat.le_refl _), g70_row, derefK_some]
  have hb : bO s.1.length s.1.length = -1 := by unfold bO; rw [if_pos rfl]
  rw [hb]
  unfold foR
  rw [fo_eq]
  have ho : ovr s S (-1) = decide (mx3 s S (-1) > s.2.2.1) := rfl
  rw [ho]
  by_cases h0 : mx3 s S (-1) > s.2.2.1
  · rw [dec_t h0]; rfl
  · rw [dec_f h0, cond_false, if_neg (by simp)]
    have e := loopFst (L := L55_5) (fun i => (((s.1.length : Int), (i : Int), ()), (s, curs s S s.2.1.length, ()), ())) s.1.length (fun k => ovr s S (k : Int)) (fun i => .inl (((i : Int), true, ()), (), ())) (.inr ((), (), ())) 0 (N := fuel) (by omega)
      (fun N => by
        simp only [L55_5, B55_5]
        rw [dec_f (by omega)]; rfl)
      (fun N i _ hi => by
        simp only [L55_5, B55_5]
        have hbo : bO s.1.length i = (i : Int) := by unfold bO; rw [if_neg (by omega)]
        rw [dec_t (by omega), cond_true, inR_in (by omega) (by rw [curs_len]; omega), getI_gd (by omega) (by rw [curs_len]; omega), curs_gd s S _ (by omega), g70_row, derefK_some, g66_eq s (by omega), derefK_some, hbo, wI (by omega) (by omega)]
        show (bif ovr s S (i : Int) then _ else _) = _
        cases ovr s S (i : Int) <;> rfl)
    have e' : L55_5 fuel (((s.1.length : Int), 0, ()), (s, curs s S s.2.1.length, ()), ()) = _ := e
    show derefK (L55_5 fuel (((s.1.length : Int), 0, ()), (s, curs s S s.2.1.length, ()), ())) _ = _
    rw [e', derefK_some]
    cases (List.range s.1.length).find? fun (k : Nat) => ovr s S (k : Int) with
    | none => rfl
    | some k =>
      show some (((k : Int), true, ()), ()) = some ((((k + 1 : Nat) : Int) - 1, true, ()), ())
      rw [show (((k + 1 : Nat) : Int) - 1) = (k : Int) by omega]
abbrev Plant := Sup × (Int × ((List Bool) × (List Int)))
def dly (s : Sup) (b : Int) : Int := if b < 0 then s.2.2.2.1 else (gd s.1 b).2.2.1
theorem g89_eq (p : Plant) {k : Nat} (hk : k ≤ p.1.1.length) : g89 (p, (k : Int), ()) = some ((dly p.1 (bO p.1.1.length k), ()), ()) := by
  show F89 fuel p (k : Int) = _
  unfold F89 dly bO
  by_cases h : k = p.1.1.length
  · have : ((k : Int) == (p.1.1.length : Int)) = true := by simp [h]
    rw [this, if_pos h, if_pos (by omega)]; rfl
  · have h1 : ((k : Int) == (p.1.1.length : Int)) = false := beq_eq_false_iff_ne.2 (by omega)
    rw [h1, if_neg h, if_neg (by omega), cond_false, getI_gd (by omega) (by omega)]
def ov1 (s : Sup) (S : Nat) (ov : List Int) (k : Nat) : Int := if mx3 s S (bO s.1.length k) ≤ brs s (bO s.1.length k) then 0 else gd ov (k : Int) + 1
def brd (s : Sup) (S : Nat) (q : (List Bool) × ((List Int) × (List Int))) (k : Nat) : (List Bool) × ((List Int) × (List Int)) :=
  if ov1 s S q.2.1 k > dly s (bO s.1.length k) then (q.1.set k false, q.2.1.set k 0, q.2.2 ++ [(k : Int)]) else (q.1, q.2.1.set k (ov1 s S q.2.1 k), q.2.2)
def brdK (s : Sup) (S : Nat) (q : (List Bool) × ((List Int) × (List Int))) : Nat → (List Bool) × ((List Int) × (List Int))
  | 0 => q
  | k + 1 => brd s S (brdK s S q k) k
structure QOK (n : Nat) (B : Int) (q : (List Bool) × ((List Int) × (List Int))) (k : Nat) : Prop where
  l1 : q.1.length = n + 1
  l2 : q.2.1.length = n + 1
  bd : ∀ j : Nat, j ≤ n → 0 ≤ gd q.2.1 (j : Int) ∧ gd q.2.1 (j : Int) ≤ (if j < k then B + 1 else B)
  op : q.2.2.length ≤ k
theorem ov1_bd {s : Sup} {S : Nat} {ov : List Int} {k : Nat} {B : Int} (h : 0 ≤ gd ov (k : Int) ∧ gd ov (k : Int) ≤ B) : 0 ≤ ov1 s S ov k ∧ ov1 s S ov k ≤ B + 1 := by
  unfold ov1
  split <;> omega
theorem gd_set_nat {α : Type} [Inhabited α] {l : List α} {i j : Nat} {c : α} (h : i < l.length) : gd (l.set i c) (j : Int) = if j = i then c else gd l (j : Int) := by
  by_cases e : j = i
  · subst e
    rw [if_pos rfl]
    have := gd_set_self (l := l) (i := (j : Int)) (c := c) (by omega) (by omega)
    rwa [Int.toNat_natCast] at this
  · rw [if_neg e]
    have := gd_set_ne (l := l) (i := (i : Int)) (j := (j : Int)) (c := c) (by omega) (by omega) (by omega)
    rwa [Int.toNat_natCast] at this
theorem brd_ok {s : Sup} {S : Nat} {B : Int} {q : (List Bool) × ((List Int) × (List Int))} {k : Nat} (hB : 0 ≤ B) (hk : k ≤ s.1.length) (h : QOK s.1.length B q k) : QOK s.1.length B (brd s S q k) (k + 1) := by
  have hb := h.bd k hk
  rw [if_neg (by omega)] at hb
  have ho := ov1_bd (s := s) (S := S) hb
  unfold brd
  split
  · refine ⟨by simp [h.l1], by simp [h.l2], fun j hj => ?_, by have := h.op; simp; omega⟩
    show 0 ≤ gd (q.2.1.set k 0) (j : Int) ∧ _
    rw [gd_set_nat (by have := h.l2; omega)]
    have := h.bd j hj
    split
    · split <;> omega
    · by_cases h1 : j < k
      · rw [if_pos h1] at this; rw [if_pos (by omega)]; exact this
      · rw [if_neg h1] at this; rw [if_neg (by omega)]; exact this
  · refine ⟨h.l1, by simp [h.l2], fun j hj => ?_, by have := h.op; simp; omega⟩
    show 0 ≤ gd (q.2.1.set k _) (j : Int) ∧ _
    rw [gd_set_nat (by have := h.l2; omega)]
    have := h.bd j hj
    by_cases e : j = k
    · rw [if_pos e, if_pos (by omega)]; exact ho
    · rw [if_neg e]
      by_cases h1 : j < k
      · rw [if_pos h1] at this; rw [if_pos (by omega)]; exact this
      · rw [if_neg h1] at this; rw [if_neg (by omega)]; exact this
theorem brdK_ok {s : Sup} {S : Nat} {B : Int} {q : (List Bool) × ((List Int) × (List Int))} (hB : 0 ≤ B) (h : QOK s.1.length B q 0) : ∀ k, k ≤ s.1.length + 1 → QOK s.1.length B (brdK s S q k) k
  | 0, _ => h
  | k + 1, hk => brd_ok hB (by omega) (brdK_ok hB h k (by omega))
set_option maxHeartbeats 1000000 in
theorem L59_23_step {s : Sup} {S : Nat} {B : Int} (hB : 0 ≤ B ∧ B ≤ 1000000) (hl : s.1.length ≤ 10) (l : List Swi) (t1 t2 t3 : Int) (rows : List Int) (trips : List (Int × Int)) (on : Int) {q : (List Bool) × ((List Int) × (List Int))} {k : Nat} (hk : k ≤ s.1.length) (h : QOK s.1.length B q k) (N : Nat) :
    L59_23 (N + 1) ((l, s, (s.1.length : Int), t1, t2, t3, ((curs s S s.2.1.length).length : Int), (k : Int), ()), (rows, trips, q.2.2, (s, on, q.1, q.2.1), curs s S s.2.1.length, ()), ()) =
      L59_23 N ((l, s, (s.1.length : Int), t1, t2, t3, ((curs s S s.2.1.length).length : Int), ((k + 1 : Nat) : Int), ()), (rows, trips, (brd s S q k).2.2, (s, on, (brd s S q k).1, (brd s S q k).2.1), curs s S s.2.1.length, ()), ()) := by
  have hb := h.bd k hk
  rw [if_neg (by omega)] at hb
  have hop := h.op
  obtain ⟨cl, ov, op⟩ := q
  have l1 : cl.length = s.1.length + 1 := h.l1
  have l2 : ov.length = s.1.length + 1 := h.l2
  simp only at hb hop ⊢
  have a1 : ∀ {R : Type} (X : Option R), inR (k : Int) (s.1.length + 1) X = X := fun X => inR_in (by omega) (by omega) X
  have a2 : ∀ {R : Type} (m : List Int) (hm : m.length = s.1.length + 1) (F : Int → Option R), getI m (k : Int) F = F (gd m (k : Int)) := fun m hm F => getI_gd (by omega) (by omega) F
  have a3 : ∀ {R : Type} (m : List Bool) (hm : m.length = s.1.length + 1) (F : Bool → Option R), getI m (k : Int) F = F (gd m (k : Int)) := fun m hm F => getI_gd (by omega) (by omega) F
  have a4 : ∀ {R : Type} (F : List Int → Option R), getI (curs s S s.2.1.length) (k : Int) F = F (row3 s S (bO s.1.length k) s.2.1.length) := fun F => by
    rw [getI_gd (by omega) (by rw [curs_len]; omega), curs_gd s S _ hk]
  have a5 : ∀ (m : List Int) (hm : m.length = s.1.length + 1) (v : Int), gd (m.set k v) (k : Int) = v := fun m hm v => by
    rw [gd_set_nat (by omega), if_pos rfl]
  have a6 : ∀ (a : Int) (b : List Bool) (c : List Int), g89 ((s, a, b, c), (k : Int), ()) = some ((dly s (bO s.1.length k), ()), ()) := fun a b c => g89_eq (s, a, b, c) hk
  have a7 : IntKind.wrap .i64 (gd ov (k : Int) + 1) = gd ov (k : Int) + 1 := wI (by omega) (by omega)
  have a8 : IntKind.wrap .i64 ((k : Int) + 1) = ((k + 1 : Nat) : Int) := by rw [wI (by omega) (by omega)]; omega
  have a9 : ∀ {R : Type} (X : Option R), lenK ((op.length : Int) + ([(k : Int)].length : Nat)) X = X := fun X => lenK_in (by simp; omega) (by simp; omega) X
  have hcl : (curs s S s.2.1.length).length = s.1.length + 1 := curs_len _ _ _
  have a10 : decide ((k : Int) < ((s.1.length + 1 : Nat) : Int)) = true := dec_t (by omega)
  simp only [L59_23, B59_23, hcl, a10, cond_true, bindV_eq, enumK_eq, List.length_set, l1, l2, a1, a4, a2, a3, a5, a6, a7, a8, a9, g70_row, g66_eq s hk, derefK_some, Int.toNat_natCast, agreeK_two, agreeK_one]
  have ho : ov1 s S ov k = if mx3 s S (bO s.1.length k) ≤ brs s (bO s.1.length k) then 0 else gd ov (k : Int) + 1 := rfl
  by_cases h1 : mx3 s S (bO s.1.length k) ≤ brs s (bO s.1.length k)
  · rw [if_pos h1] at ho
    rw [dec_t h1, cond_true]
    unfold brd
    simp only [ho, List.set_set]
    by_cases h2 : 0 > dly s (bO s.1.length k)
    · rw [dec_t h2, if_pos h2]; rfl
    · rw [dec_f h2, if_neg h2]; rfl
  · rw [if_neg h1] at ho
    rw [dec_f h1, cond_false]
    unfold brd
    simp only [ho, List.set_set]
    by_cases h2 : gd ov (k : Int) + 1 > dly s (bO s.1.length k)
    · rw [dec_t h2, if_pos h2]; rfl
    · rw [dec_f h2, if_neg h2]; rfl
theorem L59_23_eq' {s : Sup} {S : Nat} {B : Int} (hB : 0 ≤ B ∧ B ≤ 1000000) (hl : s.1.length ≤ 10) (l : List Swi) (t1 t2 t3 : Int) (rows : List Int) (trips : List (Int × Int)) (on : Int) {q : (List Bool) × ((List Int) × (List Int))} (h : QOK s.1.length B q 0) {N : Nat} (hN : 2000 ≤ N) :
    L59_23 N ((l, s, (s.1.length : Int), t1, t2, t3, ((curs s S s.2.1.length).length : Int), 0, ()), (rows, trips, q.2.2, (s, on, q.1, q.2.1), curs s S s.2.1.length, ()), ()) =
      some ((l, s, (s.1.length : Int), t1, t2, t3, ()), (rows, trips, (brdK s S q (s.1.length + 1)).2.2, (s, on, (brdK s S q (s.1.length + 1)).1, (brdK s S q (s.1.length + 1)).2.1), ()), ()) := by
  exact loopF (L := L59_23) (fun i => ((l, s, (s.1.length : Int), t1, t2, t3, ((curs s S s.2.1.length).length : Int), (i : Int), ()), (rows, trips, (brdK s S q i).2.2, (s, on, (brdK s S q i).1, (brdK s S q i).2.1), curs s S s.2.1.length, ()), ()))
    ((l, s, (s.1.length : Int), t1, t2, t3, ()), (rows, trips, (brdK s S q (s.1.length + 1)).2.2, (s, on, (brdK s S q (s.1.length + 1)).1, (brdK s S q (s.1.length + 1)).2.1), ()), ()) 0 (s.1.length + 1) (N := N) (by omega)
    (fun N => by
      simp only [L59_23, B59_23, curs_len]
      rw [dec_f (by omega)]
      rfl)
    (fun N i _ hi => L59_23_step hB hl l t1 t2 t3 rows trips on (by omega) (brdK_ok hB.1 h i (by omega)) N)
def okX (s : Sup) (ticks : Int) (x : Swi) : Bool :=
  rng x.1 0 (ticks - 1) && (if x.2.1 = 1 ∨ x.2.1 = 2 then rng x.2.2 0 ((s.2.1.length : Int) - 1) else if x.2.1 = 3 then rng x.2.2 0 ((s.1.length : Int) - 1) else if x.2.1 = 4 ∨ x.2.1 = 5 then x.2.2 == 0 else false)
theorem g85_eq {s : Sup} (hl : s.1.length ≤ 10 ∧ s.2.1.length ≤ 16) {ticks : Int} (ht : 0 ≤ ticks ∧ ticks ≤ 500) (x : Swi) : g85 (s, ticks, x, ()) = some ((okX s ticks x, ()), ()) := by
  show F85 fuel s ticks x = _
  unfold F85 okX
  rw [wI (x := ticks - 1) (by omega) (by omega), wI (x := (s.1.length : Int) - 1) (by omega) (by omega), wI (x := (s.2.1.length : Int) - 1) (by omega) (by omega)]
  simp only [g62_eq, derefK_some]
  cases rng x.1 0 (ticks - 1) with
  | false => rfl
  | true =>
  simp only [Bool.not_true, cond_false, Bool.true_and]
  by_cases h1 : x.2.1 = 1
  · simp [h1]
  · have e1 : (x.2.1 == 1) = false := beq_eq_false_iff_ne.2 h1
    rw [e1]
    by_cases h2 : x.2.1 = 2
    · simp [h2]
    · have e2 : (x.2.1 == 2) = false := beq_eq_false_iff_ne.2 h2
      rw [e2, if_neg (by omega)]
      by_cases h3 : x.2.1 = 3
      · simp [h3]
      · have e3 : (x.2.1 == 3) = false := beq_eq_false_iff_ne.2 h3
        rw [e3, if_neg h3]
        by_cases h4 : x.2.1 = 4
        · simp [h4]
        · have e4 : (x.2.1 == 4) = false := beq_eq_false_iff_ne.2 h4
          rw [e4]
          by_cases h5 : x.2.1 = 5
          · simp [h5]
          · have e5 : (x.2.1 == 5) = false := beq_eq_false_iff_ne.2 h5
            rw [e5, if_neg (by omega)]
            rfl
def trn (n : Nat) (st : Nat × List Bool) (x : Swi) : Nat × List Bool :=
  if x.2.1 = 1 then (st.1 ||| 2 ^ x.2.2.toNat, st.2) else if x.2.1 = 2 then (dif st.1 (2 ^ x.2.2.toNat), st.2) else if x.2.1 = 3 then (st.1, st.2.set x.2.2.toNat true) else (st.1, st.2.set n (x.2.1 == 4))
theorem trn_ok {s : Sup} (hl : s.1.length ≤ 10 ∧ s.2.1.length ≤ 16) {ticks : Int} {x : Swi} (hx : okX s ticks x = true) {st : Nat × List Bool} (h : st.1 < 65536 ∧ st.2.length = s.1.length + 1) : (trn s.1.length st x).1 < 65536 ∧ (trn s.1.length st x).2.length = s.1.length + 1 := by
  unfold okX at hx
  rw [Bool.and_eq_true] at hx
  have hx := hx.2
  unfold trn
  split
  · rename_i h1
    rw [if_pos (.inl h1), rng_iff] at hx
    exact ⟨Nat.or_lt_two_pow (n := 16) h.1 (Nat.pow_lt_pow_right (by omega) (by omega)), h.2⟩
  · split
    · exact ⟨Nat.lt_of_le_of_lt (dif_le _ _) h.1, h.2⟩
    · split
      · exact ⟨h.1, by simp [h.2]⟩
      · exact ⟨h.1, by simp [h.2]⟩
theorem g87_eq {s : Sup} (hl : s.1.length ≤ 10 ∧ s.2.1.length ≤ 16) {ticks : Int} {x : Swi} (hx : okX s ticks x = true) {st : Nat × List Bool} (h : st.1 < 65536 ∧ st.2.length = s.1.length + 1) (ov : List Int) :
    g87 ((s, (st.1 : Int), st.2, ov), x, ()) = some ((), ((s, ((trn s.1.length st x).1 : Int), (trn s.1.length st x).2, ov), ())) := by
  show F87 fuel (s, (st.1 : Int), st.2, ov) x = _
  unfold okX at hx
  rw [Bool.and_eq_true] at hx
  have hx := hx.2
  unfold F87 trn
  have hp : ∀ i : Int, 0 ≤ i → i ≤ 15 → shlI .i64 1 i = ((2 ^ i.toNat : Nat) : Int) ∧ 2 ^ i.toNat < 4611686018427387904 := fun i h0 h1 => by
    have := shl_n (i := i.toNat) (by omega)
    rw [show ((i.toNat : Nat) : Int) = i by omega] at this
    have h16 : (2 : Nat) ^ i.toNat < 2 ^ 16 := Nat.pow_lt_pow_right (by omega) (by omega)
    exact ⟨this, by omega⟩
  by_cases h1 : x.2.1 = 1
  · rw [if_pos (.inl h1), rng_iff] at hx
    have e1 : (x.2.1 == 1) = true := by simp [h1]
    obtain ⟨p1, p2⟩ := hp x.2.2 hx.1 (by omega)
    rw [e1, if_pos h1, cond_true, negK_in hx.1, p1, or_n (by omega) p2]
  · have e1 : (x.2.1 == 1) = false := beq_eq_false_iff_ne.2 h1
    rw [e1, if_neg h1, cond_false]
    by_cases h2 : x.2.1 = 2
    · rw [if_pos (.inr h2), rng_iff] at hx
      have e2 : (x.2.1 == 2) = true := by simp [h2]
      obtain ⟨p1, p2⟩ := hp x.2.2 hx.1 (by omega)
      rw [e2, if_pos h2, cond_true, negK_in hx.1, p1, andNot_n (by omega) p2]
      rfl
    · have e2 : (x.2.1 == 2) = false := beq_eq_false_iff_ne.2 h2
      rw [e2, if_neg h2, cond_false]
      rw [if_neg (by omega)] at hx
      by_cases h3 : x.2.1 = 3
      · rw [if_pos h3, rng_iff] at hx
        have e3 : (x.2.1 == 3) = true := by simp [h3]
        rw [e3, if_pos h3, cond_true]
        show inR x.2.2 st.2.length (getI st.2 x.2.2 _) = _
        rw [inR_in hx.1 (by omega), getI_gd hx.1 (by omega)]
      · have e3 : (x.2.1 == 3) = false := beq_eq_false_iff_ne.2 h3
        rw [e3, if_neg h3, cond_false]
        rw [if_neg h3] at hx
        by_cases h4 : x.2.1 = 4
        · have e4 : (x.2.1 == 4) = true := by simp [h4]
          rw [e4, cond_true, cond_true]
          show inR (s.1.length : Int) st.2.length (getI st.2 (s.1.length : Int) _) = _
          rw [inR_in (by omega) (by omega), getI_gd (by omega) (by omega)]
          rfl
        · have e4 : (x.2.1 == 4) = false := beq_eq_false_iff_ne.2 h4
          by_cases h5 : x.2.1 = 5
          · have e5 : (x.2.1 == 5) = true := by simp [h5]
            rw [e4, e5, cond_false, cond_true]
            show inR (s.1.length : Int) st.2.length (getI st.2 (s.1.length : Int) _) = _
            rw [inR_in (by omega) (by omega), getI_gd (by omega) (by omega)]
            rfl
          · rw [if_neg (by omega)] at hx
            cases hx
def live (s : Sup) (cl : List Bool) (b : Int) : Bool := (chn s.1 b ++ [-1]).all fun x => gd cl ((ix s.1.length x : Nat) : Int)
def drwK (s : Sup) (on : Nat) (cl : List Bool) : Nat → Nat
  | 0 => 0
  | i + 1 => if on.testBit i && live s cl (gd s.2.1 (i : Int)).1 then drwK s on cl i ||| 2 ^ i else drwK s on cl i
def drw (s : Sup) (on : Nat) (cl : List Bool) : Nat := drwK s on cl s.2.1.length
theorem drwK_lt (s : Sup) (on : Nat) (cl : List Bool) : ∀ i, drwK s on cl i < 2 ^ i
  | 0 => by show 0 < 1; omega
  | i + 1 => by
    have ih := drwK_lt s on cl i
    have h2 : 2 ^ i < 2 ^ (i + 1) := Nat.pow_lt_pow_right (by omega) (by omega)
    unfold drwK
    split
    · exact Nat.or_lt_two_pow (by omega) h2
    · omega
theorem R88_eq {s : Sup} (on : Int) {cl : List Bool} (hc : cl.length = s.1.length + 1) (ov : List Int) (N : Nat) : ∀ (xs : List Int), (∀ x ∈ xs, x = -1 ∨ (0 ≤ x ∧ x < s.1.length)) → ∀ lv : Bool,
    R88_6 N xs (some (s, on, cl, ov), lv, ()) = some (.norm, (lv && xs.all fun x => gd cl ((ix s.1.length x : Nat) : Int), ()))
  | [], _, lv => by
    show some (X.norm, (lv, ())) = _
    simp
  | x :: xs, hx, lv => by
    show Q88_6 N (R88_6 N xs) x (some (s, on, cl, ov)) lv = _
    unfold Q88_6
    have ih := R88_eq (s := s) on hc ov N xs fun y hy => hx y (List.mem_cons_of_mem _ hy)
    have hx0 := hx x List.mem_cons_self
    rw [List.all_cons]
    by_cases hx1 : x = -1
    · have hb1 : (x == -1) = true := by simp [hx1]
      have hi : ix s.1.length x = s.1.length := by unfold ix; rw [if_pos hx1]
      rw [hb1, cond_true, derefK_some, hi]
      cases lv with
      | false => rw [cond_false, ih]; rfl
      | true =>
        rw [cond_true, derefK_some]
        show getI cl (s.1.length : Int) _ = _
        rw [getI_gd (by omega) (by omega), ih, Bool.true_and]
    · have hb1 : (x == -1) = false := beq_eq_false_iff_ne.2 hx1
      have hi : ((ix s.1.length x : Nat) : Int) = x := by unfold ix; rw [if_neg hx1]; omega
      rw [hb1, cond_false, hi]
      cases lv with
      | false => rw [cond_false, ih]; rfl
      | true =>
        rw [cond_true, derefK_some]
        show getI cl x _ = _
        rw [getI_gd (by omega) (by omega), ih, Bool.true_and]
theorem g88_eq {s : Sup} (h : okS s = true) {on : Nat} (hon : on < 65536) {cl : List Bool} (hc : cl.length = s.1.length + 1) (ov : List Int) : g88 ((s, (on : Int), cl, ov), ()) = some ((((drw s on cl : Nat) : Int), ()), ()) := by
  show F88 fuel (s, (on : Int), cl, ov) = _
  unfold F88
  have hl := okS_le h
  have hf := fuel_ge
  have hu := okS_up h
  have e := loopF (L := L88_2) (fun i => ((some (s, (on : Int), cl, ov), ((drwK s on cl i : Nat) : Int), s.2.1, (s.2.1.length : Int), (i : Int), ()), (), ())) ((((drw s on cl : Nat) : Int), ()), (), ()) 0 s.2.1.length (N := fuel) (by omega)
    (fun N => by
      simp only [L88_2, B88_2]
      rw [dec_f (by omega)]
      rfl)
    (fun N i _ hi => by
      have hx := okL_1 (okS_ld h hi)
      simp only [L88_2, B88_2, derefK_some]
      rw [dec_t (by omega), cond_true, getI_gd (by omega) (by omega), negK_in (by omega), wI (x := (i : Int) + 1) (by omega) (by omega), show ((i : Int) + 1) = ((i + 1 : Nat) : Int) by omega]
      refine (up_k hu (by omega) (by omega) (by omega) (fun l8 => derefK (R88_6 N l8 (some (s, (on : Int), cl, ov), ((bitsI .and .i64 (shrI .i64 (on : Int) (i : Int)) 1) == 1), ())) fun o7 => cond (X.same .norm o7.1) (cond o7.2.1 (negK (i : Int) (L88_2 N ((some (s, (on : Int), cl, ov), (bitsI .or .i64 ((drwK s on cl i : Nat) : Int) (shlI .i64 1 (i : Int))), s.2.1, (s.2.1.length : Int), ((i + 1 : Nat) : Int), ()), (), ()))) (L88_2 N ((some (s, (on : Int), cl, ov), ((drwK s on cl i : Nat) : Int), s.2.1, (s.2.1.length : Int), ((i + 1 : Nat) : Int), ()), (), ()))) none)).trans ?_
      rw [R88_eq (on : Int) hc ov N _ (fun x hm => by
        rcases List.mem_append.1 hm with h1 | h1
        · have := chn_mem hu _ (by omega) hx.1.2 x h1
          right; omega
        · left; simpa using h1), derefK_some, bit_n (by omega) (by omega)]
      have hlt := drwK_lt s on cl i
      have hp : (2 : Nat) ^ i < 2 ^ 16 := Nat.pow_lt_pow_right (by omega) (by omega)
      rw [negK_in (by omega), shl_n (by omega), or_n (by omega) (by omega)]
      show (bif (((if on.testBit i then (1 : Int) else 0) == 1) && live s cl (gd s.2.1 (i : Int)).1) then _ else _) = _
      conv => rhs; unfold drwK
      cases on.testBit i with
      | false => simp
      | true =>
        cases live s cl (gd s.2.1 (i : Int)).1 with
        | false => simp
        | true => rfl)
  have e' : L88_2 fuel ((some (s, (on : Int), cl, ov), 0, s.2.1, (s.2.1.length : Int), 0, ()), (), ()) = _ := e
  rw [derefK_some]
  show derefK (L88_2 fuel ((some (s, (on : Int), cl, ov), 0, s.2.1, (s.2.1.length : Int), 0, ()), (), ())) _ = _
  rw [e', derefK_some]
def fixO (n : Nat) (op : List Int) : List Int := match op.findIdx? (· == (n : Int)) with
  | some i => -1 :: (op.take i ++ op.drop (i + 1))
  | none => op
theorem fixO_len (n : Nat) (op : List Int) : (fixO n op).length = op.length := by
  unfold fixO
  split
  · rename_i i hi
    have := (List.findIdx?_eq_some_iff_getElem.1 hi).1
    simp
    omega
  · rfl
theorem L59_33_eq' {s : Sup} {n : Nat} (l : List Swi) (t1 t2 t3 : Int) (rows : List Int) (trips : List (Int × Int)) (p : Plant) (op : List Int) (ho : op.length ≤ 1000) {N : Nat} (hN : 2000 ≤ N) :
    L59_33 N ((l, s, (n : Int), t1, t2, t3, (op.length : Int), 0, ()), (rows, trips, op, p, ()), ()) = some ((l, s, (n : Int), t1, t2, t3, ()), (rows, trips, fixO n op, p, ()), ()) := by
  have e := loopIdx (L := L59_33) (fun i => ((l, s, (n : Int), t1, t2, t3, (op.length : Int), (i : Int), ()), (rows, trips, op, p, ()), ())) op (fun x => x == (n : Int))
    (fun i => ((l, s, (n : Int), t1, t2, t3, ()), (rows, trips, -1 :: (op.take i ++ op.drop (i + 1)), p, ()), ())) ((l, s, (n : Int), t1, t2, t3, ()), (rows, trips, op, p, ()), ()) 0 (N := N) (by omega)
    (fun N => by
      simp only [L59_33, B59_33]
      rw [dec_f (by omega)]
      rfl)
    (fun N i _ hi => by
      have hd : g91 (op, (i : Int), ((i + 1 : Nat) : Int), ()) = some ((op.take i ++ op.drop (i + 1), ()), ()) := by
        show It.g91 _ = _
        unfold It.g91
        rw [if_pos (by show 0 ≤ (i : Int) ∧ (i : Int) < ((i + 1 : Nat) : Int) ∧ ((i + 1 : Nat) : Int) ≤ op.length; omega)]
        rfl
      have hins : ∀ m : List Int, m.length < 1000000 → g90 (m, 0, [-1], ()) = some ((-1 :: m, ()), ()) := fun m hm => by
        show It.g90 _ = _
        unfold It.g90
        rw [if_pos ⟨rfl, rfl, hm⟩]
        rfl
      simp only [L59_33, B59_33]
      rw [dec_t (by omega), cond_true, inR_in (by omega) (by omega), getI_gd (by omega) (by omega), wI (x := (i : Int) + 1) (by omega) (by omega), show ((i : Int) + 1) = ((i + 1 : Nat) : Int) by omega, hd, derefK_some, hins _ (by simp; omega), derefK_some]
      cases gd op (i : Int) == (n : Int) <;> rfl)
  have e' : L59_33 N ((l, s, (n : Int), t1, t2, t3, (op.length : Int), 0, ()), (rows, trips, op, p, ()), ()) = _ := e
  rw [e']
  unfold fixO
  cases op.findIdx? (fun x => x == (n : Int)) <;> rfl
theorem L59_39_eq' {s : Sup} {n : Nat} (l : List Swi) (t t2 t3 : Int) (rows : List Int) (trips : List (Int × Int)) (p : Plant) (op : List Int) (ho : op.length ≤ 1000) (ht : trips.length ≤ 1000000) {N : Nat} (hN : 2000 ≤ N) :
    L59_39 N ((l, s, (n : Int), t, t2, t3, (op.length : Int), 0, ()), (rows, trips, op, p, ()), ()) = some ((l, s, (n : Int), t2, t3, ()), (rows, trips ++ op.map (fun b => (t, b)), p, ()), ()) := by
  have e := loopF (L := L59_39) (fun i => ((l, s, (n : Int), t, t2, t3, (op.length : Int), (i : Int), ()), (rows, trips ++ (op.take i).map (fun b => (t, b)), op, p, ()), ())) ((l, s, (n : Int), t2, t3, ()), (rows, trips ++ op.map (fun b => (t, b)), p, ()), ()) 0 op.length (N := N) (by omega)
    (fun N => by
      simp only [L59_39, B59_39]
      rw [dec_f (by omega), List.take_length]
      rfl)
    (fun N i _ hi => by
      simp only [L59_39, B59_39]
      rw [dec_t (by omega), cond_true, inR_in (by omega) (by omega), getI_gd (by omega) (by omega), lenK_in (by omega) (by simp; omega), wI (x := (i : Int) + 1) (by omega) (by omega), show ((i : Int) + 1) = ((i + 1 : Nat) : Int) by omega, List.append_assoc, take_nat hi, List.map_append]
      rfl)
  have e0 : trips ++ (op.take 0).map (fun b => (t, b)) = trips := by simp
  rw [e0] at e
  exact e
def trnK (n : Nat) (l : List Swi) (t : Int) (st : Nat × List Bool) : Nat → Nat × List Bool
  | 0 => st
  | i + 1 => if (gd l (i : Int)).1 = t then trn n (trnK n l t st i) (gd l (i : Int)) else trnK n l t st i
theorem trnK_ok {s : Sup} (hl : s.1.length ≤ 10 ∧ s.2.1.length ≤ 16) {ticks : Int} {l : List Swi} (hx : l.all (okX s ticks) = true) (t : Int) {st : Nat × List Bool} (h : st.1 < 65536 ∧ st.2.length = s.1.length + 1) : ∀ i, i ≤ l.length → (trnK s.1.length l t st i).1 < 65536 ∧ (trnK s.1.length l t st i).2.length = s.1.length + 1
  | 0, _ => h
  | i + 1, hi => by
    have ih := trnK_ok hl hx t h i (by omega)
    unfold trnK
    split
    · exact trn_ok hl (List.all_eq_true.1 hx _ (gd_mem (by omega) (by omega))) ih
    · exact ih
theorem L59_14_eq' {s : Sup} (hl : s.1.length ≤ 10 ∧ s.2.1.length ≤ 16) {ticks : Int} {l : List Swi} (hx : l.all (okX s ticks) = true) (hll : l.length ≤ 1000) (t t2 t3 : Int) (rows : List Int) (trips : List (Int × Int)) {st : Nat × List Bool} (h : st.1 < 65536 ∧ st.2.length = s.1.length + 1) (ov : List Int) {N : Nat} (hN : 2000 ≤ N) :
    L59_14 N ((l, s, (s.1.length : Int), t, t2, t3, l, (l.length : Int), 0, ()), (rows, trips, (s, (st.1 : Int), st.2, ov), ()), ()) =
      some ((l, s, (s.1.length : Int), t, t2, t3, ()), (rows, trips, (s, ((trnK s.1.length l t st l.length).1 : Int), (trnK s.1.length l t st l.length).2, ov), ()), ()) := by
  exact loopF (L := L59_14) (fun i => ((l, s, (s.1.length : Int), t, t2, t3, l, (l.length : Int), (i : Int), ()), (rows, trips, (s, ((trnK s.1.length l t st i).1 : Int), (trnK s.1.length l t st i).2, ov), ()), ()))
    ((l, s, (s.1.length : Int), t, t2, t3, ()), (rows, trips, (s, ((trnK s.1.length l t st l.length).1 : Int), (trnK s.1.length l t st l.length).2, ov), ()), ()) 0 l.length (N := N) (by omega)
    (fun N => by
      simp only [L59_14, B59_14]
      rw [dec_f (by omega)]
      rfl)
    (fun N i _ hi => by
      simp only [L59_14, B59_14]
      rw [dec_t (by omega), cond_true, getI_gd (by omega) (by omega), wI (x := (i : Int) + 1) (by omega) (by omega), show ((i : Int) + 1) = ((i + 1 : Nat) : Int) by omega,
        g87_eq hl (List.all_eq_true.1 hx _ (gd_mem (by omega) (by omega))) (trnK_ok hl hx t h i (by omega)), derefK_some]
      conv => rhs; unfold trnK
      by_cases ht : (gd l (i : Int)).1 = t
      · have : ((gd l (i : Int)).1 == t) = true := by simp [ht]
        rw [this, if_pos ht]
        rfl
      · have : ((gd l (i : Int)).1 == t) = false := beq_eq_false_iff_ne.2 ht
        rw [this, if_neg ht]
        rfl)
structure PSt where
  rows : List Int
  trips : List (Int × Int)
  on : Nat
  cl : List Bool
  ov : List Int
def tickSt (s : Sup) (l : List Swi) (t : Int) (p : PSt) : Nat × List Bool := trnK s.1.length l t (p.on, p.cl) l.length
def tickSet (s : Sup) (l : List Swi) (t : Int) (p : PSt) : Nat := drw s (tickSt s l t p).1 (tickSt s l t p).2
def tickB (s : Sup) (l : List Swi) (t : Int) (p : PSt) : (List Bool) × ((List Int) × (List Int)) := brdK s (tickSet s l t p) ((tickSt s l t p).2, p.ov, []) (s.1.length + 1)
def tick (s : Sup) (l : List Swi) (t : Int) (p : PSt) : PSt :=
  ⟨p.rows ++ [((tickSet s l t p : Nat) : Int)], p.trips ++ (fixO s.1.length (tickB s l t p).2.2).map (fun b => (t, b)), (tickSt s l t p).1, (tickB s l t p).1, (tickB s l t p).2.1⟩
def ply0 (s : Sup) : PSt := ⟨[], [], 0, List.replicate (s.1.length + 1) true, List.replicate (s.1.length + 1) 0⟩
def ply (s : Sup) (l : List Swi) : Nat → PSt
  | 0 => ply0 s
  | t + 1 => tick s l (t : Int) (ply s l t)
structure POK (s : Sup) (t : Nat) (p : PSt) : Prop where
  rl : p.rows.length = t
  tl : p.trips.length ≤ 11 * t
  on : p.on < 65536
  cl : p.cl.length = s.1.length + 1
  ol : p.ov.length = s.1.length + 1
  bd : ∀ j : Nat, j ≤ s.1.length → 0 ≤ gd p.ov (j : Int) ∧ gd p.ov (j : Int) ≤ t
theorem POK.q {s : Sup} {l : List Swi} {t : Int} {n : Nat} {p : PSt} (h : POK s n p) (hst : (tickSt s l t p).2.length = s.1.length + 1) : QOK s.1.length n ((tickSt s l t p).2, p.ov, []) 0 :=
  ⟨hst, h.ol, fun j hj => by have := h.bd j hj; rw [if_neg (by omega)]; exact this, Nat.le_refl _⟩
theorem tick_ok {s : Sup} (hl : s.1.length ≤ 10 ∧ s.2.1.length ≤ 16) {ticks : Int} {l : List Swi} (hx : l.all (okX s ticks) = true) (t : Int) {n : Nat} {p : PSt} (h : POK s n p) : POK s (n + 1) (tick s l t p) := by
  have h1 := trnK_ok hl hx t (st := (p.on, p.cl)) ⟨h.on, h.cl⟩ l.length (Nat.le_refl _)
  have hq := brdK_ok (S := tickSet s l t p) (B := (n : Int)) (by omega) (h.q (l := l) (t := t) h1.2) (s.1.length + 1) (Nat.le_refl _)
  refine ⟨by show (p.rows ++ [_]).length = _; simp [h.rl], ?_, h1.1, hq.l1, hq.l2, fun j hj => ?_⟩
  · show (p.trips ++ _).length ≤ _
    have := hq.op
    rw [List.length_append, List.length_map, fixO_len]
    have := h.tl
    show p.trips.length + (brdK s (tickSet s l t p) ((tickSt s l t p).2, p.ov, []) (s.1.length + 1)).2.2.length ≤ _
    omega
  · have := hq.bd j hj
    rw [if_pos (by omega)] at this
    exact ⟨this.1, by have := this.2; show _ ≤ ((n + 1 : Nat) : Int); exact Int.le_trans this (by omega)⟩
theorem ply0_ok (s : Sup) : POK s 0 (ply0 s) := ⟨rfl, Nat.zero_le _, by show 0 < 65536; omega, by simp [ply0], by simp [ply0], fun j hj => by
  show 0 ≤ gd (List.replicate (s.1.length + 1) (0 : Int)) (j : Int) ∧ gd (List.replicate (s.1.length + 1) (0 : Int)) (j : Int) ≤ 0
  rw [gd_replicate (by omega) (by omega)]
  omega⟩
theorem ply_ok {s : Sup} (hl : s.1.length ≤ 10 ∧ s.2.1.length ≤ 16) {ticks : Int} {l : List Swi} (hx : l.all (okX s ticks) = true) : ∀ t, POK s t (ply s l t)
  | 0 => ply0_ok s
  | t + 1 => tick_ok hl hx t (ply_ok hl hx t)
theorem shr_0 {n : Int} (h0 : 0 ≤ n) (h : n ≤ 4294967295) : shrI .u64 n 32 = 0 := by
  show n.fdiv 4294967296 = 0
  rw [Int.fdiv_eq_ediv_of_nonneg _ (by omega)]
  exact Int.ediv_eq_zero_of_lt h0 (by omega)
theorem and_in {n : Int} (h0 : 0 ≤ n) (h : n ≤ 4294967295) : bitsI .and .u64 n 4294967295 = n := by
  show IntKind.wrap .u64 ((BitVec.ofInt 64 n &&& BitVec.ofInt 64 4294967295).toNat : Int) = n
  have e : (BitVec.ofInt 64 n).toNat = n.toNat := by
    rw [BitVec.toNat_ofInt]
    rw [Int.emod_eq_of_lt h0 (by show n < 18446744073709551616; omega)]
  have e2 : (BitVec.ofInt 64 4294967295).toNat = 4294967295 := by decide
  rw [BitVec.toNat_and, e, e2, show (4294967295 : Nat) = 2 ^ 32 - 1 by decide, Nat.and_two_pow_sub_one_eq_mod, Nat.mod_eq_of_lt (by show n.toNat < 4294967296; omega)]
  rw [show ((n.toNat : Nat) : Int) = n by omega]
  exact u64_in h0 h
theorem g104_one {n : Int} (h0 : 0 ≤ n) (h : n ≤ 1048576) : g104 (1, n, ()) = some ((0, n, ()), ()) := by
  show F104 fuel 1 n = _
  unfold F104
  have b1 : bitsI .and .u64 1 4294967295 = 1 := and_in (by omega) (by omega)
  have b0 : bitsI .and .u64 0 4294967295 = 0 := and_in (by omega) (by omega)
  have s1 : shrI .u64 1 32 = 0 := shr_0 (by omega) (by omega)
  have s0 : shrI .u64 0 32 = 0 := shr_0 (by omega) (by omega)
  have u0 : IntKind.wrap .u64 0 = 0 := u64_in (by omega) (by omega)
  have un : IntKind.wrap .u64 n = n := u64_in h0 (by omega)
  simp only [negK_in (show (0 : Int) ≤ 32 by decide), bindV, b1, and_in h0 (show n ≤ 4294967295 by omega), s1, shr_0 h0 (show n ≤ 4294967295 by omega), Int.one_mul, Int.zero_mul, Int.mul_zero, Int.zero_add, Int.add_zero, un, u0, s0, b0]
theorem over_step {α : Type} (b c : α) {n k : Nat} (hk : k ≤ n) : overL (List.replicate k b ++ List.replicate (n - k) c) ((List.replicate k b ++ List.replicate (n - k) c).take k) k = List.replicate (k + min k (n - k)) b ++ List.replicate (n - (k + min k (n - k))) c := by
  have h1 : (List.replicate k b ++ List.replicate (n - k) c).take k = List.replicate k b := List.take_left' (by simp)
  have h2 : (List.replicate k b ++ List.replicate (n - k) c).length = n := by simp; omega
  unfold overL
  rw [h1, h2, List.take_replicate, List.length_replicate, List.replicate_append_replicate]
  rw [List.drop_append, List.drop_eq_nil_of_le (by simp), List.nil_append, List.length_replicate, List.drop_replicate]
  congr 2
  · omega
  · omega
theorem g86_one (b : Bool) (n : Nat) (hn : n ≤ 1048576) : g86 ([b], (n : Int), ()) = some ((List.replicate n b, ()), ()) := by
  show F86 fuel [b] (n : Int) = _
  unfold F86
  have e1 : IntKind.wrap .u64 (([b] : List Bool).length : Int) = 1 := u64_in (by simp) (by simp)
  have e2 : IntKind.wrap .u64 (n : Int) = n := u64_in (by omega) (by omega)
  have e3 : g99 (1, (n : Int), ()) = some ((0, (n : Int), ()), ()) := by
    show F99 fuel 1 (n : Int) = _
    unfold F99
    rw [g104_one (by omega) (by omega)]
    rfl
  rw [dec_f (p := (n : Int) < 0) (by omega), cond_false, e1, e2, e3, derefK_some]
  simp only [bindV]
  rw [dec_f (p := (0 : Int) > 0) (by omega), cond_false, dec_f (p := (n : Int) > 9223372036854775807) (by omega), cond_false, wI (by omega) (by omega), leK_in (by omega), leK_in (by omega), lenK_in (by omega) (by omega), Int.toNat_natCast]
  by_cases h0 : n = 0
  · subst h0
    obtain ⟨m, hm⟩ : ∃ m, fuel = m + 1 := ⟨fuel - 1, by have := fuel_ge; omega⟩
    have : L86_8 fuel ((0, ()), ([], ()), ()) = some ((), ([], ()), ()) := by
      rw [hm]
      simp [L86_8, B86_8]
    show derefK (L86_8 fuel ((0, ()), ([], ()), ())) _ = _
    rw [this]
    rfl
  have ei : overL (List.replicate n false) [b] (0 : Int).toNat = List.replicate 1 b ++ List.replicate (n - 1) false := by
    show (List.replicate n false).take 0 ++ [b].take ((List.replicate n false).length - 0) ++ (List.replicate n false).drop (0 + min 1 ((List.replicate n false).length - 0)) = _
    rw [List.length_replicate, List.take_zero, List.nil_append, List.drop_replicate, show 0 + min 1 (n - 0) = 1 by omega, List.take_of_length_le (by simp; omega)]
    rfl
  have em : ((min ([b] : List Bool).length ((List.replicate n false).length - (0 : Int).toNat) : Nat) : Int) = ((1 : Nat) : Int) := by
    rw [List.length_replicate]
    show ((min 1 (n - 0) : Nat) : Int) = _
    omega
  rw [ei, em]
  obtain ⟨r, hr, hrr⟩ := loopM (L := L86_8) (fun k : Nat => (((k : Int), ()), (List.replicate k b ++ List.replicate (n - k) false, ()), ())) (fun k => 1 ≤ k ∧ k ≤ n) (fun r => r = ((), (List.replicate n b, ()), ())) 0 (fun k => n - k)
    (fun N k _ hk => by
      have hlen : (List.replicate k b ++ List.replicate (n - k) false).length = n := by simp; omega
      simp only [L86_8, B86_8]
      rw [hlen]
      by_cases hlt : k < n
      · refine .inl ⟨k + min k (n - k), by omega, by omega, ?_⟩
        have hl2 : ((List.replicate k b ++ List.replicate (n - k) false).take ((k : Nat) : Int).toNat).length = k := by
          rw [Int.toNat_natCast, List.length_take, hlen]
          omega
        rw [dec_t (by omega), cond_true]
        simp only [enumK_eq, leK_in (show (0 : Int) ≤ (k : Int) by omega), leK_in (show (k : Int) ≤ (n : Int) by omega), agreeK_two, agreeK_one]
        rw [hl2, Int.toNat_natCast, over_step b false (by omega), wI (by omega) (by omega), show (k : Int) + ((min k (n - k) : Nat) : Int) = ((k + min k (n - k) : Nat) : Int) by omega]
      · obtain rfl : k = n := by omega
        refine .inr ⟨_, ?_, rfl⟩
        rw [dec_f (by omega), cond_false, Nat.sub_self, List.replicate_zero, List.append_nil])
    (n - 1) fuel 1 (Nat.le_refl _) ⟨Nat.le_refl _, by omega⟩ (by have := fuel_ge; omega)
  have hr' : L86_8 fuel ((((1 : Nat) : Int), ()), (List.replicate 1 b ++ List.replicate (n - 1) false, ()), ()) = some r := hr
  rw [hr', hrr]
  rfl
theorem g98_eq {l : List Swi} (hl : l.length ≤ 1000000) {f : Swi → Option Bool} {q : Swi → Bool} (hf : ∀ x ∈ l, f x = some (q x)) : g83 (l, f, ()) = some ((l.any q, ()), ()) := by
  have hfu := fuel_ge
  have e : g98 (l, f, ()) = some ((match l.findIdx? q with | some i => (i : Int) | none => -1, ()), ()) := by
    show F98 fuel l f = _
    unfold F98
    have h := loopIdx (L := L98_2) (fun i => ((l, f, (l.length : Int), (i : Int), ()), (), ())) l q (fun i => .inl (((i : Int), ()), (), ())) (.inr ((), (), ())) 0 (N := fuel) (by omega)
      (fun N => by simp [L98_2, B98_2])
      (fun N i _ hi => by
        simp only [L98_2, B98_2]
        rw [dec_t (by omega), cond_true, getI_gd (by omega) (by omega), hf _ (gd_mem (by omega) (by omega)), derefK_some, wI (by omega) (by omega)]
        cases q (gd l (i : Int)) <;> rfl)
    have h' : L98_2 fuel ((l, f, (l.length : Int), 0, ()), (), ()) = _ := h
    rw [h', derefK_some]
    cases l.findIdx? q <;> rfl
  show F83 fuel l f = _
  unfold F83
  rw [e, derefK_some]
  have hn : (l.findIdx? q).isNone = l.all (fun x => !q x) := by
    clear hf hl e
    induction l with
    | nil => rfl
    | cons x l _ =>
      rw [List.findIdx?_cons, List.all_cons]
      cases q x with
      | true => rfl
      | false => simp
  cases h : l.findIdx? q with
  | some i =>
    rw [h] at hn
    simp only [Option.isNone_some] at hn
    show some ((decide ((i : Int) ≥ 0), ()), ()) = _
    rw [dec_t (by omega)]
    rw [List.all_eq_not_any_not] at hn
    simp only [Bool.not_not] at hn
    cases hh : l.any q with
    | true => rfl
    | false => rw [hh] at hn; cases hn
  | none =>
    rw [h] at hn
    simp only [Option.isNone_none] at hn
    show some ((decide ((-1 : Int) ≥ 0), ()), ()) = _
    rw [dec_f (by omega)]
    rw [List.all_eq_not_any_not] at hn
    simp only [Bool.not_not] at hn
    cases hh : l.any q with
    | false => rfl
    | true => rw [hh] at hn; cases hn
def ckW (s : Sup) (ticks : Int) (l : List Swi) : Int := if okS s then (if rng ticks 0 500 then (if decide (l.length ≤ 100) && l.all (okX s ticks) then 0 else 51) else 1) else 50
theorem any_not {l : List Swi} {q : Swi → Bool} : (l.any fun x => !q x) = !l.all q := by
  rw [List.all_eq_not_any_not, Bool.not_not]
theorem L59_11_step {s : Sup} (hs : okS s = true) {ticks : Int} (ht : 0 ≤ ticks ∧ ticks ≤ 500) {l : List Swi} (hx : l.all (okX s ticks) = true) (hll : l.length ≤ 100) {N : Nat} (hN : 2000 ≤ N) {i : Nat} (hi : (i : Int) < ticks) {p : PSt} (hp : POK s i p) :
    L59_11 (N + 1) ((l, s, (s.1.length : Int), ticks, (i : Int), ()), (p.rows, p.trips, (s, (p.on : Int), p.cl, p.ov), ()), ()) =
      L59_11 N ((l, s, (s.1.length : Int), ticks, ((i + 1 : Nat) : Int), ()), ((tick s l (i : Int) p).rows, (tick s l (i : Int) p).trips, (s, ((tick s l (i : Int) p).on : Int), (tick s l (i : Int) p).cl, (tick s l (i : Int) p).ov), ()), ()) := by
  have hl := okS_le hs
  have h1 := trnK_ok hl hx (i : Int) (st := (p.on, p.cl)) ⟨hp.on, hp.cl⟩ l.length (Nat.le_refl _)
  have hq0 := hp.q (l := l) (t := (i : Int)) h1.2
  have hq := brdK_ok (S := tickSet s l (i : Int) p) (B := (i : Int)) (by omega) hq0 (s.1.length + 1) (Nat.le_refl _)
  have hset : tickSet s l (i : Int) p < 65536 := by
    have := drwK_lt s (tickSt s l (i : Int) p).1 (tickSt s l (i : Int) p).2 s.2.1.length
    have := pow16 hl.2
    show drwK s _ _ s.2.1.length < 65536
    omega
  have hop : (tickB s l (i : Int) p).2.2.length ≤ 11 := by
    have := hq.op
    show (brdK s _ _ _).2.2.length ≤ 11
    omega
  have e1 := L59_14_eq' hl hx (by omega) (i : Int) ticks (i : Int) p.rows p.trips (st := (p.on, p.cl)) ⟨hp.on, hp.cl⟩ p.ov hN
  have e2 := g88_eq hs h1.1 h1.2 p.ov
  have e3 := g64_eq hs (S := tickSet s l (i : Int) p) (by omega)
  have e4 := L59_23_eq' (S := tickSet s l (i : Int) p) (B := (i : Int)) ⟨by omega, by omega⟩ hl.1 l (i : Int) ticks (i : Int) (p.rows ++ [((tickSet s l (i : Int) p : Nat) : Int)]) p.trips ((tickSt s l (i : Int) p).1 : Int) hq0 hN
  have e5 := L59_33_eq' (s := s) (n := s.1.length) l (i : Int) ticks (i : Int) (p.rows ++ [((tickSet s l (i : Int) p : Nat) : Int)]) p.trips (s, ((tickSt s l (i : Int) p).1 : Int), (tickB s l (i : Int) p).1, (tickB s l (i : Int) p).2.1) (tickB s l (i : Int) p).2.2 (by omega) hN
  have e6 := L59_39_eq' (s := s) (n := s.1.length) l (i : Int) ticks (i : Int) (p.rows ++ [((tickSet s l (i : Int) p : Nat) : Int)]) p.trips (s, ((tickSt s l (i : Int) p).1 : Int), (tickB s l (i : Int) p).1, (tickB s l (i : Int) p).2.1) (fixO s.1.length (tickB s l (i : Int) p).2.2) (by rw [fixO_len]; omega) (by have := hp.tl; omega) hN
  simp only [L59_11, B59_11]
  rw [dec_t hi, cond_true, e1, derefK_some]
  refine (derefK_of e2 _).trans ?_
  rw [lenK_in (by simp only [hp.rl]; simp; omega) (by simp only [hp.rl]; simp; omega)]
  refine (derefK_of e3 _).trans ?_
  refine (derefK_of e4 _).trans ?_
  refine (derefK_of e5 _).trans ?_
  refine (derefK_of e6 _).trans ?_
  show L59_11 N ((l, s, (s.1.length : Int), ticks, IntKind.wrap .i64 ((i : Int) + 1), ()), _) = _
  rw [wI (x := (i : Int) + 1) (by omega) (by omega)]
  rfl
theorem g59_eq (s : Sup) (ticks : Int) (l : List Swi) : g59 (s, ticks, l, ()) = some ((if ckW s ticks l = 0 then (ply s l ticks.toNat).rows else [], if ckW s ticks l = 0 then (ply s l ticks.toNat).trips else [], ckW s ticks l, ()), ()) := by
  show F59 fuel s ticks l = _
  unfold F59
  rw [g27_eq, derefK_some]
  by_cases hs : okS s = true
  case neg =>
    have : ckW s ticks l = 50 := by unfold ckW; rw [if_neg hs]
    rw [if_neg hs, this]
    rfl
  rw [if_pos hs, g62_eq, derefK_some]
  have hl := okS_le hs
  show (bif !rng ticks 0 500 then _ else _) = _
  by_cases ht : rng ticks 0 500 = true
  case neg =>
    have : ckW s ticks l = 1 := by unfold ckW; rw [if_pos hs, if_neg ht]
    rw [Bool.not_eq_true] at ht
    rw [this, ht]
    rfl
  have ht' := rng_iff.1 ht
  rw [ht]
  show (bif decide ((l.length : Int) > 100) then _ else _) = _
  by_cases h1 : l.length ≤ 100
  case neg =>
    have : ckW s ticks l = 51 := by unfold ckW; rw [if_pos hs, if_pos ht, dec_f h1]; rfl
    rw [this, dec_t (by omega)]
    rfl
  rw [dec_f (by omega), cond_false, g98_eq (by omega) (q := fun x => !okX s ticks x) (fun x _ => by
    have : g84 (x, s, ticks, ()) = some ((!okX s ticks x, ()), ()) := by
      show F84 fuel x s ticks = _
      unfold F84
      rw [g85_eq hl ht', derefK_some]
    rw [this, derefK_some]), derefK_some, any_not]
  by_cases hx : l.all (okX s ticks) = true
  case neg =>
    have : ckW s ticks l = 51 := by unfold ckW; rw [if_pos hs, if_pos ht, dec_t h1, Bool.true_and, if_neg hx]
    rw [Bool.not_eq_true] at hx
    rw [this, hx]
    rfl
  have h0 : ckW s ticks l = 0 := by unfold ckW; rw [if_pos hs, if_pos ht, dec_t h1, Bool.true_and, if_pos hx]
  rw [hx, h0]
  have hw : IntKind.wrap .i64 ((s.1.length : Int) + 1) = ((s.1.length + 1 : Nat) : Int) := by rw [wI (by omega) (by omega)]; omega
  rw [hw]
  have e86 := g86_one true (s.1.length + 1) (by omega)
  rw [Bool.not_true, cond_false]
  simp only [enumK_eq, e86, derefK_some, leK_in (show (0 : Int) ≤ ((s.1.length + 1 : Nat) : Int) by omega), leK_in (Int.le_refl ((s.1.length + 1 : Nat) : Int)), lenK_in (show (0 : Int) ≤ ((s.1.length + 1 : Nat) : Int) by omega) (show ((s.1.length + 1 : Nat) : Int) ≤ 274877906944 by omega), agreeK_two, agreeK_one]
  have hf := fuel_ge
  obtain ⟨T, hT⟩ : ∃ T : Nat, ticks = (T : Int) := ⟨ticks.toNat, by omega⟩
  have e := loopF (L := L59_11) (fun i => ((l, s, (s.1.length : Int), ticks, (i : Int), ()), ((ply s l i).rows, (ply s l i).trips, (s, ((ply s l i).on : Int), (ply s l i).cl, (ply s l i).ov), ()), ())) ((), ((ply s l T).rows, (ply s l T).trips, ()), ()) 2000 T (N := fuel) (by omega)
    (fun N => by
      simp only [L59_11, B59_11]
      rw [dec_f (by omega)]
      rfl)
    (fun N i hc hi => L59_11_step hs ht' hx h1 hc (by omega) (ply_ok hl hx i))
  have e' : L59_11 fuel ((l, s, (s.1.length : Int), ticks, 0, ()), ([], [], (s, 0, List.replicate (s.1.length + 1) true, List.replicate ((s.1.length + 1 : Nat) : Int).toNat 0), ()), ()) = _ := e
  rw [e', derefK_some, hT, Int.toNat_natCast]
  rfl
theorem g23_eq (s : Sup) (ticks : Int) (l : List Swi) : g23 (s, ticks, l, ()) = some ((if ckW s ticks l = 0 then (ply s l ticks.toNat).rows else [], ckW s ticks l, ()), ()) := by
  show F23 fuel s ticks l = _
  unfold F23
  rw [g59_eq, derefK_some]
def pcF : Nat → Nat → Nat
  | 0, _ => 0
  | k + 1, S => S % 2 + pcF k (S / 2)
theorem pcF_0 : ∀ k, pcF k 0 = 0
  | 0 => rfl
  | k + 1 => by
    unfold pcF
    rw [Nat.zero_mod, Nat.zero_div, pcF_0 k]
theorem mod2 (S : Nat) : S % 2 = 0 ∨ S % 2 = 1 := by omega
theorem and_half (S T : Nat) : (S &&& T) / 2 = S / 2 &&& T / 2 := by
  refine Nat.eq_of_testBit_eq fun i => ?_
  rw [Nat.testBit_div_two, Nat.testBit_and, Nat.testBit_and, Nat.testBit_div_two, Nat.testBit_div_two]
theorem and_mod2 (S T : Nat) : (S &&& T) % 2 = S % 2 * (T % 2) := by
  have h := Nat.and_mod_two_pow (a := S) (b := T) (n := 1)
  rw [Nat.pow_one] at h
  rw [h]
  rcases mod2 S with h1 | h1 <;> rcases mod2 T with h2 | h2 <;> rw [h1, h2] <;> rfl
theorem pc_step : ∀ (k S : Nat), S < 2 ^ k → 0 < S → pcF k (S &&& (S - 1)) + 1 = pcF k S ∧ S &&& (S - 1) < S
  | 0, S, h, h0 => by
    rw [Nat.pow_zero] at h
    omega
  | k + 1, S, h, h0 => by
    have h2 : S / 2 < 2 ^ k := by
      rw [Nat.pow_succ] at h
      omega
    unfold pcF
    rw [and_half, and_mod2]
    have e1 := and_half S (S - 1)
    have e2 := and_mod2 S (S - 1)
    rcases mod2 S with hm | hm
    · have a1 : (S - 1) / 2 = S / 2 - 1 := by omega
      rw [a1] at e1 ⊢
      have ih := pc_step k (S / 2) h2 (by omega)
      rw [hm] at e2 ⊢
      rw [Nat.zero_mul] at e2 ⊢
      have ih1 := ih.1
      have ih2 := ih.2
      constructor
      · omega
      · omega
    · have a1 : (S - 1) / 2 = S / 2 := by omega
      have a2 : (S - 1) % 2 = 0 := by omega
      rw [a1, Nat.and_self] at e1 ⊢
      rw [hm, a2] at e2 ⊢
      constructor
      · omega
      · omega
def ct (S : Nat) : Nat := pcF 16 S
theorem pcF_le : ∀ k S, pcF k S ≤ k
  | 0, _ => Nat.le_refl _
  | k + 1, S => by
    have := pcF_le k (S / 2)
    unfold pcF
    omega
theorem ct_le (S : Nat) : ct S ≤ 16 := pcF_le 16 S
theorem g54_eq {S : Nat} (hS : S < 65536) : g54 ((S : Int), ()) = some (((ct S : Int), ()), ()) := by
  have key : ∀ (S : Nat), S < 65536 → ∀ (n : Nat) (N : Nat), n + ct S ≤ 100 → S < N → L54_1 N (((S : Int), (n : Int), ()), (), ()) = some ((((n + ct S : Nat) : Int), ()), (), ()) := by
    intro S
    induction S using Nat.strongRecOn with
    | ind S ih =>
      intro hS n N hn hN
      obtain ⟨m, rfl⟩ : ∃ m, N = m + 1 := ⟨N - 1, by omega⟩
      by_cases h0 : S = 0
      · subst h0
        simp only [L54_1, B54_1]
        rw [dec_f (by omega)]
        show some ((((n : Nat) : Int), ()), (), ()) = _
        have : ct 0 = 0 := pcF_0 16
        rw [this, Nat.add_zero]
      · have hp := pc_step 16 S hS (by omega)
        have hc : ct (S &&& (S - 1)) + 1 = ct S := hp.1
        simp only [L54_1, B54_1]
        rw [dec_t (by omega), cond_true, wI (x := (S : Int) - 1) (by omega) (by omega), show (S : Int) - 1 = ((S - 1 : Nat) : Int) by omega, and_n (by omega) (by omega), wI (x := (n : Int) + 1) (by omega) (by omega), show (n : Int) + 1 = ((n + 1 : Nat) : Int) by omega,
          ih _ hp.2 (by omega) (n + 1) m (by omega) (by omega), show n + 1 + ct (S &&& (S - 1)) = n + ct S by omega]
  have := ct_le S
  have hf := fuel_ge
  show F54 fuel (S : Int) = _
  unfold F54
  have e : L54_1 fuel (((S : Int), 0, ()), (), ()) = _ := key S hS 0 fuel (by omega) (by omega)
  rw [e, derefK_some, Nat.zero_add]
def rkK (s : Sup) (S : Nat) : Nat → Int
  | 0 => 0
  | i + 1 => rkK s S i + (if S.testBit i then (gd s.2.1 (i : Int)).2.2.2 else 0)
def rk (s : Sup) (S : Nat) : Int := rkK s S s.2.1.length
theorem rkK_bd {s : Sup} (h : okS s = true) (S : Nat) : ∀ k, k ≤ s.2.1.length → 0 ≤ rkK s S k ∧ rkK s S k ≤ 1000 * k
  | 0, _ => ⟨Int.le_refl _, by simp [rkK]⟩
  | k + 1, hk => by
    have ih := rkK_bd h S k (by omega)
    have := okL_1 (okS_ld h (k := k) (by omega))
    unfold rkK
    split <;> omega
theorem dif_0 {x S : Nat} : dif x S = 0 ↔ x &&& S = x := by
  constructor
  · intro h
    refine Nat.eq_of_testBit_eq fun i => ?_
    have := dif_bit x S i
    rw [h, Nat.zero_testBit] at this
    rw [Nat.testBit_and]
    cases hx : x.testBit i <;> cases hS : S.testBit i <;> rw [hx, hS] at this <;> first | rfl | cases this
  · intro h
    refine Nat.eq_of_testBit_eq fun i => ?_
    rw [dif_bit, Nat.zero_testBit]
    have := congrArg (fun z => z.testBit i) h
    simp only [Nat.testBit_and] at this
    cases hx : x.testBit i <;> cases hS : S.testBit i <;> rw [hx, hS] at this <;> simp_all
theorem sub_le {x S : Nat} (h : x &&& S = x) : x ≤ S := by rw [← h]; exact Nat.and_le_right
def feas (s : Sup) (S x : Nat) : Prop := x &&& S = x ∧ fo s (dif S x) = none
def le3 (s : Sup) (x y : Nat) : Prop := rk s x < rk s y ∨ (rk s x = rk s y ∧ (ct x < ct y ∨ (ct x = ct y ∧ x ≤ y)))
theorem le3_refl (s : Sup) (x : Nat) : le3 s x x := .inr ⟨rfl, .inr ⟨rfl, Nat.le_refl _⟩⟩
structure ShOK (s : Sup) (S m : Nat) : Prop where
  fe : feas s S m
  min : ∀ x, feas s S x → le3 s m x
theorem cur_0 (s : Sup) (b ph : Int) : ∀ k, curK s 0 b ph k = 0
  | 0 => rfl
  | k + 1 => by
    unfold curK
    rw [cur_0 s b ph k, Nat.zero_testBit]
    rfl
theorem okS_pw {s : Sup} (h : okS s = true) : 1 ≤ s.2.2.1 ∧ s.2.2.1 ≤ 1000 := by
  unfold okS at h
  simp only [Bool.and_eq_true, decide_eq_true_iff] at h
  exact rng_iff.1 h.2.2.1
theorem okS_bd {s : Sup} (h : okS s = true) {b : Int} (h0 : 0 ≤ b) (h1 : b < s.1.length) : (-1 ≤ (gd s.1 b).1 ∧ (gd s.1 b).1 < b) ∧ (1 ≤ (gd s.1 b).2.1 ∧ (gd s.1 b).2.1 ≤ 1000) ∧ (0 ≤ (gd s.1 b).2.2.1 ∧ (gd s.1 b).2.2.1 ≤ 20) ∧ (1 ≤ (gd s.1 b).2.2.2 ∧ (gd s.1 b).2.2.2 ≤ 10000) := by
  unfold okS at h
  simp only [Bool.and_eq_true, decide_eq_true_iff, List.all_eq_true, List.mem_range] at h
  have := h.2.2.2.2.2.1 b.toNat (by omega)
  rw [show ((b.toNat : Nat) : Int) = b by omega] at this
  unfold okB at this
  simp only [Bool.and_eq_true, rng_iff] at this
  omega
theorem brs_pos {s : Sup} (h : okS s = true) {b : Int} (h1 : b < s.1.length) : 1 ≤ brs s b ∧ brs s b ≤ 1000 := by
  unfold brs
  have := okS_pw h
  split
  · exact this
  · exact (okS_bd h (b := b) (by omega) h1).2.1
theorem fo_none {s : Sup} {S : Nat} : fo s S = none ↔ ∀ i : Nat, i ≤ s.1.length → ovr s S ((i : Int) - 1) = false := by
  unfold fo
  rw [List.find?_eq_none]
  constructor
  · intro h i hi
    have := h i (List.mem_range.2 (by omega))
    rwa [Bool.not_eq_true] at this
  · intro h i hi
    rw [h i (by have := List.mem_range.1 hi; omega)]
    decide
theorem fo_empty {s : Sup} (h : okS s = true) : fo s 0 = none := by
  refine fo_none.2 fun i hi => ?_
  have := brs_pos h (b := (i : Int) - 1) (by omega)
  unfold ovr mx3 cur
  rw [cur_0, cur_0, cur_0, dec_f]
  omega
theorem feas_all {s : Sup} (h : okS s = true) (S : Nat) : feas s S S := by
  have e : dif S S = 0 := dif_0.2 (Nat.and_self S)
  exact ⟨Nat.and_self S, by rw [e]; exact fo_empty h⟩
theorem foR_1 (s : Sup) (S : Nat) : (foR s S).2.1 = (fo s S).isSome := by
  unfold foR
  cases fo s S <;> rfl
def offI : Option Nat → Int
  | none => -1
  | some m => (m : Int)
def rkI (s : Sup) : Option Nat → Int
  | none => 0
  | some m => rk s m
theorem L19_13_eq' {s : Sup} (h : okS s = true) {x : Nat} (hx : x < 65536) (a b c d e : Int) {N : Nat} (hN : 2000 ≤ N) :
    L19_13 N ((a, b, c, (x : Int), 0, d, e, s.2.1, (s.2.1.length : Int), 0, ()), (s, ()), ()) = some ((a, b, c, (x : Int), rk s x, d, e, ()), (s, ()), ()) := by
  have hl := okS_le h
  exact loopF (L := L19_13) (fun i => ((a, b, c, (x : Int), rkK s x i, d, e, s.2.1, (s.2.1.length : Int), (i : Int), ()), (s, ()), ())) ((a, b, c, (x : Int), rk s x, d, e, ()), (s, ()), ()) 0 s.2.1.length (N := N) (by omega)
    (fun N => by
      simp only [L19_13, B19_13]
      rw [dec_f (by omega)]
      rfl)
    (fun N i _ hi => by
      have hx := okL_1 (okS_ld h hi)
      have hr := rkK_bd h x i (by omega)
      simp only [L19_13, B19_13]
      rw [dec_t (by omega), cond_true, getI_gd (by omega) (by omega), negK_in (by omega), bit_n (by omega) (by omega), bindV_eq, wI (x := (i : Int) + 1) (by omega) (by omega), show ((i : Int) + 1) = ((i + 1 : Nat) : Int) by omega]
      conv => rhs; unfold rkK
      cases x.testBit i with
      | false =>
        simp only [Bool.false_eq_true, if_false, Int.mul_zero, Int.add_zero]
        rw [wI (x := (0 : Int)) (by omega) (by omega), Int.add_zero, wI (by omega) (by omega)]
      | true =>
        simp only [if_true, Int.mul_one]
        rw [wI (x := (gd s.2.1 (i : Int)).2.2.2) (by omega) (by omega), wI (by omega) (by omega)])
def PInv (s : Sup) (S i : Nat) : Option Nat → Prop
  | none => ∀ x, x < i → ¬ feas s S x
  | some m => m < i ∧ feas s S m ∧ ∀ x, x < i → feas s S x → le3 s m x
theorem PInv.skip {s : Sup} {S i : Nat} {o : Option Nat} (h : PInv s S i o) (hf : ¬ feas s S i) : PInv s S (i + 1) o := by
  cases o with
  | none =>
    intro x hx
    by_cases e : x = i
    · rw [e]; exact hf
    · exact h x (by omega)
  | some m =>
    refine ⟨by have := h.1; omega, h.2.1, fun x hx hfx => ?_⟩
    by_cases e : x = i
    · exact absurd (e ▸ hfx) hf
    · exact h.2.2 x (by omega) hfx
theorem PInv.keep {s : Sup} {S i m : Nat} (h : PInv s S i (some m)) (hle : le3 s m i) : PInv s S (i + 1) (some m) :=
  ⟨by have := h.1; omega, h.2.1, fun x hx hfx => by
    by_cases e : x = i
    · rw [e]; exact hle
    · exact h.2.2 x (by omega) hfx⟩
theorem le3_trans {s : Sup} {x y z : Nat} (h1 : le3 s x y) (h2 : le3 s y z) : le3 s x z := by
  unfold le3 at *
  omega
theorem PInv.new {s : Sup} {S i : Nat} {o : Option Nat} (h : PInv s S i o) (hf : feas s S i) (hlt : ∀ m, o = some m → le3 s i m) : PInv s S (i + 1) (some i) := by
  refine ⟨by omega, hf, fun x hx hfx => ?_⟩
  by_cases e : x = i
  · rw [e]; exact le3_refl s i
  · cases o with
    | none => exact absurd hfx (h x (by omega))
    | some m => exact le3_trans (hlt m rfl) (h.2.2 x (by omega) hfx)
theorem L19_8_step {s : Sup} (h : okS s = true) {S : Nat} (hS : S < 65536) {N : Nat} (hN : 2000 ≤ N) {i : Nat} (hi : i < S + 1) {o : Option Nat} (ho : PInv s S i o) :
    ∃ o', PInv s S (i + 1) o' ∧ L19_8 (N + 1) (((S : Int), offI o, rkI s o, ((S + 1 : Nat) : Int), (i : Int), ()), (s, ()), ()) = L19_8 N (((S : Int), offI o', rkI s o', ((S + 1 : Nat) : Int), ((i + 1 : Nat) : Int), ()), (s, ()), ()) := by
  have hw : IntKind.wrap .i64 ((i : Int) + 1) = ((i + 1 : Nat) : Int) := by rw [wI (by omega) (by omega)]; omega
  have hd : bitsI .andNot .i64 (i : Int) (S : Int) = ((dif i S : Nat) : Int) := andNot_n (by omega) (by omega)
  have hd2 : bitsI .andNot .i64 (S : Int) (i : Int) = ((dif S i : Nat) : Int) := andNot_n (by omega) (by omega)
  have hds : dif S i ≤ S := dif_le S i
  have h13 := L19_13_eq' h (x := i) (by omega) (S : Int) (offI o) (rkI s o) ((S + 1 : Nat) : Int) (i : Int) hN
  simp only [L19_8, B19_8]
  rw [dec_t (by omega), cond_true, hd]
  by_cases hsub : i &&& S = i
  case neg =>
    have : (((dif i S : Nat) : Int) != 0) = true := by
      rw [bne_iff_ne]
      intro e
      exact hsub (dif_0.1 (by omega))
    rw [this, cond_true, hw]
    exact ⟨o, ho.skip fun hf => hsub hf.1, rfl⟩
  have hz : dif i S = 0 := dif_0.2 hsub
  have e0 : (((dif i S : Nat) : Int) != 0) = false := by rw [hz]; rfl
  rw [e0, cond_false, h13, derefK_some]
  simp only []
  rw [hd2, g55_eq h (by omega), hw]
  have hfe : feas s S i ↔ fo s (dif S i) = none := ⟨fun hh => hh.2, fun hh => ⟨hsub, hh⟩⟩
  have hover : ∀ {R : Type} (A B : Option R), (derefK (some (foR s (dif S i), ())) fun y6 => bif !y6.1.2.1 then A else B) = if fo s (dif S i) = none then A else B := fun A B => by
    rw [derefK_some]
    show (bif !(foR s (dif S i)).2.1 then A else B) = _
    rw [foR_1]
    cases fo s (dif S i) with
    | none => rfl
    | some _ => rfl
  cases o with
  | none =>
    have : decide (offI none < 0) = true := rfl
    rw [this, cond_true]
    refine (show _ = _ from hover _ _) ▸ ?_
    by_cases hf : fo s (dif S i) = none
    · exact ⟨some i, ho.new (hfe.2 hf) (fun m e => by cases e), by rw [if_pos hf]; rfl⟩
    · exact ⟨none, ho.skip fun hh => hf hh.2, by rw [if_neg hf]⟩
  | some m =>
    have hm : offI (some m) = (m : Int) := rfl
    have hr : rkI s (some m) = rk s m := rfl
    rw [hm, hr, dec_f (p := (m : Int) < 0) (by omega), cond_false]
    have hml : m < i := ho.1
    have hnew : le3 s i m → ∃ o', PInv s S (i + 1) o' ∧ (if fo s (dif S i) = none then L19_8 N (((S : Int), (i : Int), rk s i, ((S + 1 : Nat) : Int), ((i + 1 : Nat) : Int), ()), (s, ()), ()) else L19_8 N (((S : Int), (m : Int), rk s m, ((S + 1 : Nat) : Int), ((i + 1 : Nat) : Int), ()), (s, ()), ())) =
        L19_8 N (((S : Int), offI o', rkI s o', ((S + 1 : Nat) : Int), ((i + 1 : Nat) : Int), ()), (s, ()), ()) := fun hle => by
      by_cases hf : fo s (dif S i) = none
      · exact ⟨some i, ho.new (hfe.2 hf) (fun m' e => by cases e; exact hle), by rw [if_pos hf]; rfl⟩
      · exact ⟨some m, ho.skip fun hh => hf hh.2, by rw [if_neg hf]; rfl⟩
    by_cases h1 : rk s i < rk s m
    · rw [dec_t h1, cond_true]
      refine (show _ = _ from hover _ _) ▸ ?_
      exact hnew (.inl h1)
    · rw [dec_f h1, cond_false]
      by_cases h2 : rk s i = rk s m
      · have e2 : (rk s i == rk s m) = true := by simp [h2]
        rw [e2, cond_true, g54_eq (by omega), derefK_some, g54_eq (by omega), derefK_some]
        simp only []
        by_cases h3 : ct i < ct m
        · rw [dec_t (p := (ct i : Int) < (ct m : Int)) (by omega)]
          refine (show _ = _ from hover _ _) ▸ ?_
          exact hnew (.inr ⟨h2, .inl h3⟩)
        · rw [dec_f (p := (ct i : Int) < (ct m : Int)) (by omega)]
          exact ⟨some m, ho.keep (.inr ⟨h2.symm, by omega⟩), rfl⟩
      · have e2 : (rk s i == rk s m) = false := beq_eq_false_iff_ne.2 h2
        rw [e2, cond_false]
        exact ⟨some m, ho.keep (.inl (by omega)), rfl⟩
theorem g19_eq (s : Sup) (set : Int) : (okC s set ≠ 0 ∧ g19 (s, set, ()) = some ((0, 0, okC s set, ()), ())) ∨
    ∃ S : Nat, set = (S : Int) ∧ okC s set = 0 ∧ okS s = true ∧ S < 2 ^ s.2.1.length ∧ ((12 < ct S ∧ g19 (s, set, ()) = some ((0, 0, 2, ()), ())) ∨ (ct S ≤ 12 ∧ ∃ m : Nat, ShOK s S m ∧ g19 (s, set, ()) = some (((m : Int), rk s m, 0, ()), ()))) := by
  by_cases hc : okC s set = 0
  case neg =>
    left
    refine ⟨hc, ?_⟩
    show F19 fuel s set = _
    unfold F19
    have : (okC s set != 0) = true := bne_iff_ne.2 hc
    rw [g53_eq, derefK_some]
    show (bif okC s set != 0 then _ else _) = _
    rw [this]
    rfl
  right
  obtain ⟨h, S, rfl, hS⟩ := okC_0 hc
  have hl := okS_le h
  have hp := pow16 hl.2
  have hf := fuel_ge
  refine ⟨S, rfl, hc, h, hS, ?_⟩
  have e0 : (okC s (S : Int) != 0) = false := by rw [hc]; rfl
  by_cases h12 : 12 < ct S
  · left
    refine ⟨h12, ?_⟩
    show F19 fuel s (S : Int) = _
    unfold F19
    rw [g53_eq, derefK_some]
    show (bif okC s (S : Int) != 0 then _ else _) = _
    rw [e0, cond_false, g54_eq (by omega), derefK_some]
    show (bif decide ((ct S : Int) > 12) then _ else _) = _
    rw [dec_t (by omega)]
    rfl
  · right
    refine ⟨by omega, ?_⟩
    obtain ⟨r, e, m, hm, rfl⟩ := loop0 (L := L19_8) (fun i (o : Option Nat) => (((S : Int), offI o, rkI s o, ((S + 1 : Nat) : Int), (i : Int), ()), (s, ()), ())) (fun i o => PInv s S i o) (fun r => ∃ m, ShOK s S m ∧ r = (((m : Int), rk s m, ()), (), ())) 2000 (S + 1) (N := fuel) (s := none) (fun x hx => by omega) (by omega)
      (fun N o ho => by
        have hfs := feas_all h S
        cases o with
        | none => exact absurd hfs (ho S (by omega))
        | some m =>
          refine ⟨(((m : Int), rk s m, ()), (), ()), ?_, m, ⟨ho.2.1, fun x hx => ho.2.2 x (by have := sub_le hx.1; omega) hx⟩, rfl⟩
          simp only [L19_8, B19_8]
          rw [dec_f (by omega)]
          rfl)
      (fun N i o hN hi ho => .inl (L19_8_step h (by omega) hN hi ho))
    refine ⟨m, hm, ?_⟩
    show F19 fuel s (S : Int) = _
    unfold F19
    rw [g53_eq, derefK_some]
    show (bif okC s (S : Int) != 0 then _ else _) = _
    rw [e0, cond_false, g54_eq (by omega), derefK_some]
    show (bif decide ((ct S : Int) > 12) then _ else _) = _
    rw [dec_f (by omega), cond_false, wI (by omega) (by omega)]
    have e' : L19_8 fuel (((S : Int), -1, 0, (S : Int) + 1, 0, ()), (s, ()), ()) = _ := e
    rw [e', derefK_some]
theorem g30_eq (a b : List Int) (ha : a.length ≤ 1000000000) : g30 (a, b, ()) = some ((decide (a = b), ()), ()) := by
  show F30 fuel a b = _
  unfold F30
  have hf := fuel_ge
  by_cases hl : a.length = b.length
  case neg =>
    have : ((a.length : Int) != (b.length : Int)) = true := bne_iff_ne.2 (by omega)
    rw [this, cond_true, dec_f (fun e => hl (by rw [e]))]
  have : ((a.length : Int) != (b.length : Int)) = false := by rw [hl]; simp
  rw [this, cond_false]
  have e := loopNum (L := L30_4) (fun i => ((a, b, (i : Int), ()), (), ())) a.length (fun i => gd a (i : Int) == gd b (i : Int)) (.inl ((false, ()), (), ())) (.inr ((), (), ())) 0 (N := fuel) (by omega)
    (fun N => by simp [L30_4, B30_4])
    (fun N i _ hi => by
      simp only [L30_4, B30_4]
      rw [dec_t (by omega), cond_true, getI_gd (by omega) (by omega), getI_gd (by omega) (by omega), wI (by omega) (by omega)]
      by_cases h : gd a (i : Int) = gd b (i : Int)
      · have h1 : (gd a (i : Int) != gd b (i : Int)) = false := by rw [h]; simp
        have h2 : (gd a (i : Int) == gd b (i : Int)) = true := by rw [h]; simp
        rw [h1, h2]
        rfl
      · have h1 : (gd a (i : Int) != gd b (i : Int)) = true := bne_iff_ne.2 h
        have h2 : (gd a (i : Int) == gd b (i : Int)) = false := beq_eq_false_iff_ne.2 h
        rw [h1, h2]
        rfl)
  have e' : L30_4 fuel ((a, b, 0, ()), (), ()) = _ := e
  rw [e', derefK_some]
  have hb : ((List.range a.length).all fun i => gd a (i : Int) == gd b (i : Int)) = decide (a = b) := by
    by_cases h : a = b
    · subst h
      rw [dec_t rfl, List.all_eq_true]
      intro i _
      simp
    · rw [dec_f h, Bool.eq_false_iff]
      intro hh
      rw [List.all_eq_true] at hh
      exact h (ext_gd hl fun i hi => by simpa using hh i (List.mem_range.2 hi))
  rw [hb]
  cases decide (a = b) <;> rfl
def exS : Sup := ([(-1, 32, 4, 100), (0, 16, 1, 400)], [(1, 0, 10, 3), (1, 0, 8, 5), (0, 1, 30, 1)], 63, 6, 230)
def exW : List Swi := [(0, 1, 0), (1, 1, 1)]
theorem ex_ck : ckW exS 5 exW = 0 := by decide
theorem ex_rows : (ply exS exW 5).rows = [1, 3, 3, 0, 0] := by decide
theorem ex_okC : okC exS 3 = 0 := by decide
theorem ex_m {m : Nat} (h : ShOK exS 3 m) : m = 1 ∧ rk exS m = 3 := by
  have f1 : feas exS 3 1 := ⟨by decide, by decide⟩
  have h1 : le3 exS m 1 := h.min 1 f1
  have hle : m ≤ 3 := sub_le h.fe.1
  have f0 : m ≠ 0 := fun e => by
    have := h.fe.2
    rw [e] at this
    revert this
    decide
  have hr : ∀ n : Nat, n < 4 → n ≠ 0 → n ≠ 1 → ¬ (rk exS n < rk exS 1 ∨ (rk exS n = rk exS 1 ∧ (ct n < ct 1 ∨ (ct n = ct 1 ∧ n ≤ 1)))) := by decide
  have : m = 1 := by
    by_cases e : m = 1
    · exact e
    · exact absurd h1 (hr m (by omega) f0 e)
  exact ⟨this, by rw [this]; decide⟩
theorem works_eq : g18 () = some ((true, ()), ()) := by
  show F18 fuel = _
  unfold F18
  have e52 : g52 () = some ((exS, ()), ()) := rfl
  rw [e52, derefK_some]
  have e23 := g23_eq exS 5 exW
  rw [ex_ck, if_pos rfl] at e23
  have hr : (ply exS exW (5 : Int).toNat).rows = [1, 3, 3, 0, 0] := ex_rows
  rw [hr] at e23
  refine (derefK_of e23 _).trans ?_
  show (derefK (some ((exS, ()), ())) _) = _
  rw [derefK_some]
  rcases g19_eq exS 3 with ⟨h, _⟩ | ⟨S, hS, _, _, _, ⟨h, _⟩ | ⟨_, m, hm, e19⟩⟩
  · exact absurd ex_okC h
  · obtain rfl : S = 3 := by omega
    exact absurd h (by decide)
  · obtain rfl : S = 3 := by omega
    obtain ⟨rfl, hk⟩ := ex_m hm
    rw [hk] at e19
    refine (derefK_of e19 _).trans ?_
    have e30 := g30_eq [1, 3, 3, 0, 0] [1, 3, 3, 0, 0] (by simp)
    rw [dec_t rfl] at e30
    show (derefK (g30 ([1, 3, 3, 0, 0], [1, 3, 3, 0, 0], ())) _) = _
    rw [e30]
    rfl
theorem works_k : (derefK (g18 ()) fun y => some ((y.1.1, ()), ())) = some ((true, ()), ()) := by
  rw [works_eq]
  rfl
def pk (A c : List Int) (p : Int) : Nat → Int
  | 0 => 0
  | i + 1 => pk A c p i + if gd c (i : Int) = p then gd A (i : Int) else 0
def sm (A c : List Int) : List Int := [pk A c 0 c.length, pk A c 1 c.length, pk A c 2 c.length]
def top3 (s : List Int) : Int := max (max (gd s 0) (gd s 1)) (gd s 2)
def mostA (A c : List Int) : Int := top3 (sm A c)
def AOK (A : List Int) : Prop := A.length ≤ 9 ∧ ∀ i : Nat, i < A.length → 1 ≤ gd A (i : Int) ∧ gd A (i : Int) ≤ 1000
def Dg (c : List Int) : Prop := ∀ p ∈ c, 0 ≤ p ∧ p < 3
theorem pk_app (A c x : List Int) (p : Int) : ∀ i, i ≤ c.length → pk A (c ++ x) p i = pk A c p i
  | 0, _ => rfl
  | i + 1, h => by
    show pk A (c ++ x) p i + _ = pk A c p i + _
    rw [pk_app A c x p i (by omega), gd_app_l (by omega) (by omega)]
theorem pk_snoc (A c : List Int) (x p : Int) : pk A (c ++ [x]) p (c ++ [x]).length = pk A c p c.length + if x = p then gd A (c.length : Int) else 0 := by
  rw [List.length_append, List.length_singleton]
  show pk A (c ++ [x]) p c.length + (if gd (c ++ [x]) (c.length : Int) = p then gd A (c.length : Int) else 0) = _
  rw [pk_app A c [x] p c.length (Nat.le_refl _), gd_app_end rfl]
theorem pk_bd {A : List Int} (hA : AOK A) (c : List Int) (p : Int) : ∀ i, i ≤ A.length → 0 ≤ pk A c p i ∧ pk A c p i ≤ 1000 * i
  | 0, _ => ⟨Int.le_refl _, by show (0 : Int) ≤ _; omega⟩
  | i + 1, h => by
    have ih := pk_bd hA c p i (by omega)
    have hw := hA.2 i (by omega)
    show 0 ≤ pk A c p i + (if gd c (i : Int) = p then gd A (i : Int) else 0) ∧ pk A c p i + (if gd c (i : Int) = p then gd A (i : Int) else 0) ≤ _
    split <;> omega
theorem pk_mono {A : List Int} (hA : AOK A) (c : List Int) (p : Int) : ∀ d i, i + d ≤ A.length → pk A c p i ≤ pk A c p (i + d)
  | 0, _, _ => Int.le_refl _
  | d + 1, i, h => by
    have ih := pk_mono hA c p d i (by omega)
    have hw := hA.2 (i + d) (by omega)
    show _ ≤ pk A c p (i + d) + (if gd c ((i + d : Nat) : Int) = p then gd A ((i + d : Nat) : Int) else 0)
    split <;> omega
theorem most_eq (A c : List Int) : mostA A c = max (max (pk A c 0 c.length) (pk A c 1 c.length)) (pk A c 2 c.length) := rfl
theorem most_bd {A : List Int} (hA : AOK A) {c : List Int} (hc : c.length ≤ A.length) : 0 ≤ mostA A c ∧ mostA A c ≤ 9000 := by
  have h0 := pk_bd hA c 0 c.length hc
  have h1 := pk_bd hA c 1 c.length hc
  have h2 := pk_bd hA c 2 c.length hc
  have := hA.1
  rw [most_eq]
  omega
theorem most_mono {A : List Int} (hA : AOK A) {c x : List Int} (h : (c ++ x).length ≤ A.length) : mostA A c ≤ mostA A (c ++ x) := by
  rw [List.length_append] at h
  have key : ∀ p, pk A c p c.length ≤ pk A (c ++ x) p (c ++ x).length := by
    intro p
    rw [← pk_app A c x p c.length (Nat.le_refl _), List.length_append]
    exact pk_mono hA (c ++ x) p x.length c.length h
  have h0 := key 0
  have h1 := key 1
  have h2 := key 2
  rw [most_eq, most_eq]
  omega
theorem sm_set {A c : List Int} {p : Int} (h0 : 0 ≤ p) (h3 : p < 3) : (sm A c).set p.toNat (gd (sm A c) p + gd A (c.length : Int)) = sm A (c ++ [p]) := by
  have hp : p = 0 ∨ p = 1 ∨ p = 2 := by omega
  unfold sm
  rw [pk_snoc, pk_snoc, pk_snoc]
  rcases hp with rfl | rfl | rfl
  · show [_, _, _] = [_, _, _]
    simp [gd]
  · show [_, _, _] = [_, _, _]
    simp [gd]
  · show [_, _, _] = [_, _, _]
    simp [gd]
theorem sm_gd {A c : List Int} {p : Int} (h0 : 0 ≤ p) (h3 : p < 3) : gd (sm A c) p = pk A c p c.length := by
  have hp : p = 0 ∨ p = 1 ∨ p = 2 := by omega
  rcases hp with rfl | rfl | rfl <;> rfl
def val3 : List Int → Int
  | c => c.foldl (fun a p => 3 * a + p) 0
theorem val_snoc (c : List Int) (p : Int) : val3 (c ++ [p]) = 3 * val3 c + p := by simp [val3]
theorem val_lt : ∀ (n : Nat) (x c : List Int) (p q : Int), x.length = n → Dg x → p < q → ∀ y : List Int, Dg y → y.length = n → val3 (c ++ [p] ++ x) < val3 (c ++ [q] ++ y)
  | 0, x, c, p, q, hx0, _, hpq, y, _, hy => by
    obtain rfl := List.length_eq_zero_iff.1 hy
    obtain rfl := List.length_eq_zero_iff.1 hx0
    rw [List.append_nil, List.append_nil, val_snoc, val_snoc]
    omega
  | n + 1, x, c, p, q, hx0, hx, hpq, y, hyd, hy => by
    rcases List.eq_nil_or_concat x with rfl | ⟨x', e, rfl⟩
    · simp at hx0
    rcases List.eq_nil_or_concat y with rfl | ⟨y', f, rfl⟩
    · simp at hy
    have h1 := val_lt n x' c p q (by simpa using hx0) (fun z hz => hx z (by simp [hz])) hpq y' (fun z hz => hyd z (by simp [hz])) (by simpa using hy)
    have he := hx e (by simp)
    have hf := hyd f (by simp)
    rw [List.concat_eq_append, List.concat_eq_append, ← List.append_assoc, ← List.append_assoc, val_snoc, val_snoc]
    omega
def Upd (A : List Int) (S : List Int → Prop) (m : Int) (ph : List Int) (m' : Int) (ph' : List Int) : Prop :=
  (m' = m ∧ ph' = ph ∧ 0 ≤ m ∧ ∀ c, S c → m ≤ mostA A c) ∨
  (∃ b, S b ∧ m' = mostA A b ∧ ph' = b ∧ (m < 0 ∨ mostA A b < m) ∧ ∀ c, S c → mostA A b ≤ mostA A c ∧ (mostA A c = mostA A b → val3 b ≤ val3 c)) ∨
  (m' = m ∧ ph' = ph ∧ ∀ c, ¬ S c)
theorem Upd.union {A : List Int} {S T : List Int → Prop} {m m1 m2 : Int} {ph p1 p2 : List Int} (hS : ∀ c, S c → 0 ≤ mostA A c) (h1 : Upd A S m ph m1 p1) (h2 : Upd A T m1 p1 m2 p2) (ho : ∀ b c, S b → T c → val3 b ≤ val3 c) : Upd A (fun c => S c ∨ T c) m ph m2 p2 := by
  rcases h1 with ⟨rfl, rfl, hm, ha⟩ | ⟨b, hb, e1, e2, hlt, hbest⟩ | ⟨rfl, rfl, hno⟩
  · rcases h2 with ⟨e3, e4, _, hc⟩ | ⟨d, hd, e3, e4, hlt2, hbest2⟩ | ⟨e3, e4, hno2⟩
    · exact .inl ⟨e3, e4, hm, fun c h => h.elim (ha c) (hc c)⟩
    · refine .inr (.inl ⟨d, .inr hd, e3, e4, hlt2, fun c h => ?_⟩)
      rcases h with h | h
      · have := ha c h
        exact ⟨by omega, fun e => by omega⟩
      · exact hbest2 c h
    · exact .inl ⟨e3, e4, hm, fun c h => h.elim (ha c) (fun h => absurd h (hno2 c))⟩
  · have hb0 := hS b hb
    rcases h2 with ⟨e3, e4, _, hc⟩ | ⟨d, hd, e3, e4, hlt2, hbest2⟩ | ⟨e3, e4, hno2⟩
    · refine .inr (.inl ⟨b, .inl hb, e3.trans e1, e4.trans e2, hlt, fun c h => h.elim (hbest c) (fun h => ?_)⟩)
      have := hc c h
      exact ⟨by omega, fun _ => ho b c hb h⟩
    · refine .inr (.inl ⟨d, .inr hd, e3, e4, by omega, fun c h => ?_⟩)
      rcases h with h | h
      · have := (hbest c h).1
        exact ⟨by omega, fun e => by omega⟩
      · exact hbest2 c h
    · exact .inr (.inl ⟨b, .inl hb, e3.trans e1, e4.trans e2, hlt, fun c h => h.elim (hbest c) (fun h => absurd h (hno2 c))⟩)
  · rcases h2 with ⟨e3, e4, hm, hc⟩ | ⟨d, hd, e3, e4, hlt2, hbest2⟩ | ⟨e3, e4, hno2⟩
    · exact .inl ⟨e3, e4, hm, fun c h => h.elim (fun h => absurd h (hno c)) (hc c)⟩
    · exact .inr (.inl ⟨d, .inr hd, e3, e4, hlt2, fun c h => h.elim (fun h => absurd h (hno c)) (hbest2 c)⟩)
    · exact .inr (.inr ⟨e3, e4, fun c h => h.elim (hno c) (hno2 c)⟩)
theorem Upd.congr {A : List Int} {S T : List Int → Prop} {m m' : Int} {ph ph' : List Int} (h : Upd A S m ph m' ph') (hST : ∀ c, T c ↔ S c) : Upd A T m ph m' ph' := by
  rcases h with ⟨h1, h2, h3, h4⟩ | ⟨b, h1, h2, h3, h4, h5⟩ | ⟨h1, h2, h3⟩
  · exact .inl ⟨h1, h2, h3, fun c hc => h4 c ((hST c).1 hc)⟩
  · exact .inr (.inl ⟨b, (hST b).2 h1, h2, h3, h4, fun c hc => h5 c ((hST c).1 hc)⟩)
  · exact .inr (.inr ⟨h1, h2, fun c hc => h3 c ((hST c).1 hc)⟩)
def Cmp (n : Nat) (now c : List Int) : Prop := ∃ x, c = now ++ x ∧ Dg x ∧ c.length = n
theorem g70_q {A c : List Int} : g70 (sm A c, ()) = some ((mostA A c, ()), ()) := rfl
theorem look_q {A : List Int} (hA : AOK A) : ∀ (d e : Nat) (now : List Int) (m : Int) (ph : List Int), now.length + d = A.length → Dg now → -1 ≤ m → m ≤ 9000 → ph.length ≤ 9 →
    ∃ m' ph', G69 (d + 1 + e) (sm A now, m, now, A, ph, ()) = some ((), (m', now, A, ph', ())) ∧ Upd A (Cmp A.length now) m ph m' ph' ∧ -1 ≤ m' ∧ m' ≤ 9000 ∧ ph'.length ≤ 9 := by
  intro d
  induction d with
  | zero =>
    intro e now m ph hl hd hm0 hm1 hp
    have hb := most_bd hA (c := now) (by omega)
    have h9 := hA.1
    rw [show 0 + 1 + e = e + 1 by omega]
    have hcm : ∀ c, Cmp A.length now c → c = now := by
      rintro c ⟨x, rfl, _, hx⟩
      rw [List.length_append] at hx
      obtain rfl := List.length_eq_zero_iff.1 (show x.length = 0 by omega)
      exact List.append_nil _
    have hself : Cmp A.length now now := ⟨[], (List.append_nil _).symm, (fun p h => by cases h), by omega⟩
    have hleaf : ((now.length : Int) == (A.length : Int)) = true := by simp; omega
    show ∃ m' ph', F69 _ fuel (sm A now) m now A ph = _ ∧ _
    unfold F69
    have a1 : ∀ {R : Type} (X : Option R), lenK (([] : List Int).length + (now.length : Int)) X = X := fun X => lenK_in (by simp) (by simp; omega) X
    by_cases hm : m ≥ 0
    · rw [dec_t hm, cond_true, g70_q, derefK_some]
      by_cases hc : mostA A now ≥ m
      · rw [dec_t hc]
        exact ⟨m, ph, rfl, .inl ⟨rfl, rfl, hm, fun c h => by rw [hcm c h]; exact hc⟩, hm0, hm1, hp⟩
      · rw [dec_f hc, cond_false, hleaf, cond_true]
        simp only [enumK_eq, a1, g70_q, derefK_some, agreeK_two, agreeK_one, List.nil_append]
        exact ⟨_, _, rfl, .inr (.inl ⟨now, hself, rfl, rfl, .inr (by omega), fun c h => by rw [hcm c h]; exact ⟨Int.le_refl _, fun _ => Int.le_refl _⟩⟩), by omega, by omega, by omega⟩
    · rw [dec_f hm, cond_false, hleaf, cond_true]
      simp only [enumK_eq, a1, g70_q, derefK_some, agreeK_two, agreeK_one, List.nil_append]
      exact ⟨_, _, rfl, .inr (.inl ⟨now, hself, rfl, rfl, .inl (by omega), fun c h => by rw [hcm c h]; exact ⟨Int.le_refl _, fun _ => Int.le_refl _⟩⟩), by omega, by omega, by omega⟩
  | succ d ih =>
    intro e now m ph hl hd hm0 hm1 hp
    have hb := most_bd hA (c := now) (by omega)
    have h9 := hA.1
    have hfu := fuel_ge
    rw [show d + 1 + 1 + e = (d + 1 + e) + 1 by omega]
    have hleaf : ((now.length : Int) == (A.length : Int)) = false := beq_eq_false_iff_ne.2 (by omega)
    -- one round
    have round : ∀ (t : Int) (N : Nat) (m0 : Int) (ph0 : List Int), 0 ≤ t → t < 3 → -1 ≤ m0 → m0 ≤ 9000 → ph0.length ≤ 9 → ∃ m' ph', L69_5 (G69 (d + 1 + e)) (N + 1) ((t, ()), (sm A now, m0, now, A, ph0, ()), ()) = L69_5 (G69 (d + 1 + e)) N ((t + 1, ()), (sm A now, m', now, A, ph', ()), ()) ∧ Upd A (Cmp A.length (now ++ [t])) m0 ph0 m' ph' ∧ -1 ≤ m' ∧ m' ≤ 9000 ∧ ph'.length ≤ 9 := by
      intro t N m0 ph0 ht0 ht3 hm0 hm1 hp
      obtain ⟨m', ph', h1, h2, h3, h4, h5⟩ := ih e (now ++ [t]) m0 ph0 (by rw [List.length_append, List.length_singleton]; omega) (fun p hp => by
        rcases List.mem_append.1 hp with hp | hp
        · exact hd p hp
        · obtain rfl := List.mem_singleton.1 hp; exact ⟨ht0, ht3⟩) hm0 hm1 hp
      refine ⟨m', ph', ?_, h2, h3, h4, h5⟩
      have hs3 : (sm A now).length = 3 := rfl
      have hbp := pk_bd hA now t now.length (by omega)
      have hw := hA.2 now.length (by omega)
      have hlen1 : ((now ++ [t]).length : Int) - 1 = (now.length : Int) := by simp
      simp only [L69_5, B69_5]
      rw [dec_t ht3, cond_true, inR_in ht0 (by omega), getI_gd ht0 (by rw [hs3]; omega), getI_gd (by omega) (by omega), inR_in ht0 (by omega), getI_gd ht0 (by rw [hs3]; omega), lenK_in (by simp; omega) (by simp; omega), wI (x := gd (sm A now) t + gd A (now.length : Int)) (by rw [sm_gd ht0 ht3]; omega) (by rw [sm_gd ht0 ht3]; omega), sm_set ht0 ht3, h1, derefK_some]
      simp only [bindV_eq]
      rw [hlen1, wI (x := (now.length : Int)) (by omega) (by omega), leK_in (by omega), leK_in (by rw [List.length_append, List.length_singleton]; omega), Int.toNat_natCast, List.take_left, wI (x := t + 1) (by omega) (by omega)]
    have rest : ∃ m' ph', L69_5 (G69 (d + 1 + e)) fuel ((0, ()), (sm A now, m, now, A, ph, ()), ()) = some ((), (m', now, A, ph', ()), ()) ∧ Upd A (Cmp A.length now) m ph m' ph' ∧ -1 ≤ m' ∧ m' ≤ 9000 ∧ ph'.length ≤ 9 := by
      obtain ⟨N, hN⟩ : ∃ N, fuel = N + 1 + 1 + 1 + 1 := ⟨fuel - 4, by omega⟩
      obtain ⟨m1, p1, e1, u1, b1, b2, b3⟩ := round 0 (N + 1 + 1 + 1) m ph (by omega) (by omega) hm0 hm1 hp
      obtain ⟨m2, p2, e2, u2, c1, c2, c3⟩ := round 1 (N + 1 + 1) m1 p1 (by omega) (by omega) b1 b2 b3
      obtain ⟨m3, p3, e3, u3, d1, d2, d3⟩ := round 2 (N + 1) m2 p2 (by omega) (by omega) c1 c2 c3
      refine ⟨m3, p3, ?_, ?_, d1, d2, d3⟩
      · rw [hN]
        have e2' : L69_5 (G69 (d + 1 + e)) (N + 1 + 1 + 1) ((0 + 1, ()), (sm A now, m1, now, A, p1, ()), ()) = _ := e2
        have e3' : L69_5 (G69 (d + 1 + e)) (N + 1 + 1) ((1 + 1, ()), (sm A now, m2, now, A, p2, ()), ()) = _ := e3
        rw [e1, e2', e3']
        simp only [L69_5, B69_5]
        rw [dec_f (by omega)]
        rfl
      · have hpos : ∀ t c, Cmp A.length (now ++ [t]) c → 0 ≤ mostA A c := fun t c h => by
          obtain ⟨_, _, _, hx⟩ := h
          exact (most_bd hA (by omega)).1
        have hord : ∀ t u b c, t < u → Cmp A.length (now ++ [t]) b → Cmp A.length (now ++ [u]) c → val3 b ≤ val3 c := by
          rintro t u b c htu ⟨x, rfl, hx, lx⟩ ⟨y, rfl, hy, ly⟩
          simp only [List.length_append] at lx ly
          exact Int.le_of_lt (val_lt x.length x now t u rfl hx htu y hy (by simp at lx ly; omega))
        have u12 := Upd.union (hpos 0) u1 u2 (fun b c h1 h2 => hord 0 1 b c (by omega) h1 h2)
        have u123 := Upd.union (fun c h => h.elim (hpos 0 c) (hpos 1 c)) u12 u3 (fun b c h1 h2 => h1.elim (fun h1 => hord 0 2 b c (by omega) h1 h2) (fun h1 => hord 1 2 b c (by omega) h1 h2))
        refine u123.congr fun c => ⟨?_, ?_⟩
        · rintro ⟨x, rfl, hx, hlx⟩
          cases x with
          | nil => rw [List.append_nil] at hlx; omega
          | cons t x =>
            have ht := hx t List.mem_cons_self
            have hcm : Cmp A.length (now ++ [t]) (now ++ t :: x) := ⟨x, by simp, fun p hp => hx p (List.mem_cons_of_mem _ hp), hlx⟩
            have : t = 0 ∨ t = 1 ∨ t = 2 := by omega
            rcases this with rfl | rfl | rfl
            · exact .inl (.inl hcm)
            · exact .inl (.inr hcm)
            · exact .inr hcm
        · have back : ∀ t, 0 ≤ t → t < 3 → Cmp A.length (now ++ [t]) c → Cmp A.length now c := by
            rintro t h0 h3 ⟨x, rfl, hx, hlx⟩
            exact ⟨t :: x, by simp, fun p hp => by
              rcases List.mem_cons.1 hp with rfl | hp
              · exact ⟨h0, h3⟩
              · exact hx p hp, hlx⟩
          rintro ((h | h) | h)
          · exact back 0 (by omega) (by omega) h
          · exact back 1 (by omega) (by omega) h
          · exact back 2 (by omega) (by omega) h
    obtain ⟨m3, p3, e3, u3, d1, d2, d3⟩ := rest
    show ∃ m' ph', F69 _ fuel (sm A now) m now A ph = _ ∧ _
    unfold F69
    by_cases hm : m ≥ 0
    · rw [dec_t hm, cond_true, g70_q, derefK_some]
      by_cases hc : mostA A now ≥ m
      · rw [dec_t hc]
        refine ⟨m, ph, rfl, .inl ⟨rfl, rfl, hm, ?_⟩, hm0, hm1, hp⟩
        rintro c ⟨x, rfl, _, hx⟩
        have := most_mono hA (c := now) (x := x) (by omega)
        omega
      · rw [dec_f hc, cond_false, hleaf, cond_false, e3, derefK_some]
        exact ⟨m3, p3, rfl, u3, d1, d2, d3⟩
    · rw [dec_f hm, cond_false, hleaf, cond_false, e3, derefK_some]
      exact ⟨m3, p3, rfl, u3, d1, d2, d3⟩
def Vld (A c : List Int) : Prop := c.length = A.length ∧ Dg c
def IsBest (A b : List Int) : Prop := Vld A b ∧ ∀ c, Vld A c → mostA A b ≤ mostA A c ∧ (mostA A c = mostA A b → val3 b ≤ val3 c)
theorem g69_best {A : List Int} (hA : AOK A) : ∃ b, IsBest A b ∧ g69 (List.replicate 3 (0 : Int), -1, ([] : List Int), A, ([] : List Int), ()) = some ((), (mostA A b, [], A, b, ())) := by
  have hfu := fuel_ge
  have h9 := hA.1
  obtain ⟨e, he⟩ : ∃ e, fuel = A.length + 1 + e := ⟨fuel - (A.length + 1), by omega⟩
  obtain ⟨m', ph', h1, h2, h3, h4, _⟩ := look_q hA A.length e [] (-1) [] (by simp) (fun p h => by cases h) (by omega) (by omega) (by simp)
  have hV : ∀ c, Cmp A.length [] c ↔ Vld A c := fun c => ⟨fun ⟨x, e, hx, hl⟩ => by subst e; exact ⟨hl, hx⟩, fun ⟨hl, hx⟩ => ⟨c, rfl, hx, hl⟩⟩
  rcases h2 with ⟨_, _, hm, _⟩ | ⟨b, hb, f1, f2, _, hbest⟩ | ⟨_, _, hno⟩
  · omega
  · refine ⟨b, ⟨(hV b).1 hb, fun c hc => hbest c ((hV c).2 hc)⟩, ?_⟩
    show G69 fuel _ = _
    rw [he, ← f1, ← f2]
    exact h1
  · exact absurd ((hV (List.replicate A.length 0)).2 ⟨by simp, fun p hp => by rw [(List.mem_replicate.1 hp).2]; omega⟩) (hno _)
theorem sh67_eq {l : List Int} (hl : l.length ≤ 1000000) {f : Int → Option Bool} {q : Int → Bool} (hf : ∀ x, f x = some (!q x)) : g67 (l, f, ()) = some ((!l.all q, ()), ()) := by
  have hfu := fuel_ge
  show F67 fuel l f = _
  unfold F67
  have e : g96 (l, f, ()) = some ((match l.findIdx? (fun x => !q x) with | some i => (i : Int) | none => -1, ()), ()) := by
    show F96 fuel l f = _
    unfold F96
    have h := loopIdx (L := L96_2) (fun i => ((l, f, (l.length : Int), (i : Int), ()), (), ())) l (fun x => !q x) (fun i => .inl (((i : Int), ()), (), ())) (.inr ((), (), ())) 0 (N := fuel) (by omega)
      (fun N => by simp [L96_2, B96_2])
      (fun N i _ hi => by
        simp only [L96_2, B96_2]
        rw [dec_t (by omega), cond_true, getI_gd (by omega) (by omega), hf, derefK_some, wI (by omega) (by omega)]
        cases q (gd l (i : Int)) <;> rfl)
    have h' : L96_2 fuel ((l, f, (l.length : Int), 0, ()), (), ()) = _ := h
    rw [h', derefK_some]
    cases l.findIdx? (fun x => !q x) <;> rfl
  rw [e, derefK_some]
  have hn : (l.findIdx? (fun x => !q x)).isNone = l.all q := by
    clear hl e
    induction l with
    | nil => rfl
    | cons x l _ =>
      rw [List.findIdx?_cons, List.all_cons]
      cases q x with
      | true => simp_all
      | false => simp
  cases h : l.findIdx? (fun x => !q x) with
  | some i =>
    rw [h] at hn
    show some ((decide ((i : Int) ≥ 0), ()), ()) = _
    rw [dec_t (by omega), ← hn]
    rfl
  | none =>
    rw [h] at hn
    show some ((decide ((-1 : Int) ≥ 0), ()), ()) = _
    rw [dec_f (by omega), ← hn]
    rfl
theorem most_snoc {A : List Int} (hA : AOK A) {c : List Int} {p : Int} (h0 : 0 ≤ p) (h3 : p < 3) (hc : c.length < A.length) : mostA A (c ++ [p]) = max (mostA A c) (pk A c p c.length + gd A (c.length : Int)) := by
  have hw := hA.2 c.length hc
  rw [most_eq, most_eq, pk_snoc, pk_snoc, pk_snoc]
  have hp : p = 0 ∨ p = 1 ∨ p = 2 := by omega
  rcases hp with rfl | rfl | rfl
  · rw [if_pos rfl, if_neg (by decide), if_neg (by decide)]; omega
  · rw [if_neg (by decide), if_pos rfl, if_neg (by decide)]; omega
  · rw [if_neg (by decide), if_neg (by decide), if_pos rfl]; omega
def ShR (A : List Int) (x : List Int × Int × Int) : Prop :=
  if A.length > 9 then x = ([], 0, 2) else if A.all (fun v => rng v 1 1000) = true then (∃ b, IsBest A b ∧ x = (b, mostA A b, 0)) else x = ([], 0, 1)
theorem aok_of {A : List Int} (h9 : ¬ A.length > 9) (h : A.all (fun v => rng v 1 1000) = true) : AOK A := by
  refine ⟨by omega, fun i hi => ?_⟩
  have := List.all_eq_true.1 h (gd A (i : Int)) (gd_mem (by omega) (by omega))
  exact rng_iff.1 this
theorem g38_q (A : List Int) : ∃ x, ShR A x ∧ g38 (A, ()) = some ((x.1, x.2.1, x.2.2, ()), ()) := by
  show ∃ x, ShR A x ∧ F38 fuel A = some ((x.1, x.2.1, x.2.2, ()), ())
  unfold F38
  by_cases h9 : A.length > 9
  · exact ⟨([], 0, 2), by unfold ShR; rw [if_pos h9], by rw [dec_t (by omega)]; rfl⟩
  rw [dec_f (by omega), cond_false]
  have e67 := sh67_eq (l := A) (by omega) (f := fun v1 => derefK (g68 (v1, ())) fun y2 => some y2.1.1) (q := fun v => rng v 1 1000) (fun x => by
    show derefK (F68 fuel x) _ = _
    unfold F68
    rw [g62_eq]
    rfl)
  rw [e67, derefK_some]
  cases hal : A.all (fun v => rng v 1 1000) with
  | false => exact ⟨([], 0, 1), by unfold ShR; rw [if_neg h9, hal]; simp, rfl⟩
  | true =>
    obtain ⟨b, hb, e69⟩ := g69_best (aok_of h9 hal)
    refine ⟨(b, mostA A b, 0), by unfold ShR; rw [if_neg h9, if_pos hal]; exact ⟨b, hb, rfl⟩, ?_⟩
    simp only [Bool.not_true, cond_false, e69, derefK_some, enumK_eq, agreeK_two, agreeK_one]
def sumN (A : List Int) : Nat → Int
  | 0 => 0
  | i + 1 => sumN A i + gd A (i : Int)
def maxN (A : List Int) : Nat → Int
  | 0 => 0
  | i + 1 => max (maxN A i) (gd A (i : Int))
theorem sumN_bd {A : List Int} (hA : AOK A) : ∀ i, i ≤ A.length → 0 ≤ sumN A i ∧ sumN A i ≤ 1000 * i
  | 0, _ => ⟨Int.le_refl _, by show (0 : Int) ≤ _; omega⟩
  | i + 1, h => by
    have ih := sumN_bd hA i (by omega)
    have hw := hA.2 i (by omega)
    show 0 ≤ sumN A i + gd A (i : Int) ∧ sumN A i + gd A (i : Int) ≤ _
    omega
theorem pk_sum {A c : List Int} (hd : Dg c) : ∀ i, i ≤ c.length → pk A c 0 i + pk A c 1 i + pk A c 2 i = sumN A i
  | 0, _ => rfl
  | i + 1, h => by
    have ih := pk_sum (A := A) hd i (by omega)
    have hp := hd (gd c (i : Int)) (gd_mem (by omega) (by omega))
    show (pk A c 0 i + if gd c (i : Int) = 0 then gd A (i : Int) else 0) + (pk A c 1 i + if gd c (i : Int) = 1 then gd A (i : Int) else 0) + (pk A c 2 i + if gd c (i : Int) = 2 then gd A (i : Int) else 0) = sumN A i + gd A (i : Int)
    have : gd c (i : Int) = 0 ∨ gd c (i : Int) = 1 ∨ gd c (i : Int) = 2 := by omega
    rcases this with h | h | h <;> rw [h] <;> simp <;> omega
theorem pk_le_most {A c : List Int} {p : Int} (h0 : 0 ≤ p) (h3 : p < 3) : pk A c p c.length ≤ mostA A c := by
  rw [most_eq]
  have hp : p = 0 ∨ p = 1 ∨ p = 2 := by omega
  rcases hp with rfl | rfl | rfl <;> omega
theorem most_each {A : List Int} (hA : AOK A) {c : List Int} (hv : Vld A c) {i : Nat} (hi : i < A.length) : gd A (i : Int) ≤ mostA A c := by
  have hp := hv.2 (gd c (i : Int)) (gd_mem (by omega) (by rw [hv.1]; omega))
  have h1 : pk A c (gd c (i : Int)) (i + 1) = pk A c (gd c (i : Int)) i + gd A (i : Int) := by
    show pk A c (gd c (i : Int)) i + (if gd c (i : Int) = gd c (i : Int) then gd A (i : Int) else 0) = _
    rw [if_pos rfl]
  have h2 := pk_bd hA c (gd c (i : Int)) i (by omega)
  have h3 := pk_mono hA c (gd c (i : Int)) (A.length - (i + 1)) (i + 1) (by omega)
  rw [show i + 1 + (A.length - (i + 1)) = c.length by rw [hv.1]; omega] at h3
  have := pk_le_most (A := A) (c := c) hp.1 hp.2
  omega
theorem maxN_le {A : List Int} {m : Int} (h0 : 0 ≤ m) : ∀ n, (∀ i : Nat, i < n → gd A (i : Int) ≤ m) → maxN A n ≤ m
  | 0, _ => h0
  | n + 1, h => by
    have ih := maxN_le h0 n (fun i hi => h i (by omega))
    have := h n (by omega)
    show max (maxN A n) (gd A (n : Int)) ≤ m
    omega
def dgB (c : List Int) : Bool := c.all fun p => rng p 0 2
theorem dgB_iff {c : List Int} : dgB c = true ↔ Dg c := by
  unfold dgB
  rw [List.all_eq_true]
  constructor
  · intro h p hp
    have := rng_iff.1 (h p hp)
    omega
  · intro h p hp
    have := h p hp
    exact rng_iff.2 (by omega)
theorem g40_q {A : List Int} (hA : AOK A) (c : List Int) : g40 (A, c, ()) = some (if c.length = A.length ∧ dgB c = true then ((mostA A c, sumN A A.length, maxN A A.length, true, ()), ()) else ((0, 0, 0, false, ()), ())) := by
  have hfu := fuel_ge
  have h9 := hA.1
  show F40 fuel A c = _
  unfold F40
  rw [leK_in (by omega), leK_in (by omega), lenK_in (by omega) (by omega)]
  by_cases hl : (c.length : Int) = (A.length : Int)
  case neg =>
    rw [show ((c.length : Int) != (A.length : Int)) = true by simp only [bne_iff_ne]; exact hl, if_neg (fun h => hl (by rw [h.1]))]
    rfl
  rw [show ((c.length : Int) != (A.length : Int)) = false by simp only [bne_eq_false_iff_eq]; exact hl, cond_false]
  have hl' : c.length = A.length := by omega
  have e := loopIdx (L := L40_6) (fun i => ((A, c, mostA A (c.take i), sumN A i, maxN A i, (i : Int), ()), (sm A (c.take i), ()), ())) c (fun p => !rng p 0 2) (fun _ => .inl ((0, 0, 0, false, ()), (), ())) (.inr ((mostA A c, sumN A A.length, maxN A A.length, ()), (), ())) 0 (N := fuel) (by omega)
    (fun N => by
      simp only [L40_6, B40_6]
      rw [dec_f (by omega), cond_false, List.take_length, hl'])
    (fun N i _ hi => by
      simp only [L40_6, B40_6]
      rw [dec_t (by omega), cond_true]
      have a1 : ∀ {R : Type} (F : Int → Option R), getI c (i : Int) F = F (gd c (i : Int)) := fun F => getI_gd (by omega) (by omega) F
      have a2 : ∀ {R : Type} (F : Int → Option R), getI A (i : Int) F = F (gd A (i : Int)) := fun F => getI_gd (by omega) (by omega) F
      simp only [a1, a2]
      by_cases h0 : gd c (i : Int) < 0
      · rw [dec_t h0, cond_true, show rng (gd c (i : Int)) 0 2 = false from Bool.eq_false_iff.2 (fun h => by have := rng_iff.1 h; omega)]
        rfl
      rw [dec_f h0, cond_false]
      by_cases h2 : gd c (i : Int) > 2
      · rw [dec_t h2, cond_true, show rng (gd c (i : Int)) 0 2 = false from Bool.eq_false_iff.2 (fun h => by have := rng_iff.1 h; omega)]
        rfl
      rw [dec_f h2, cond_false, show rng (gd c (i : Int)) 0 2 = true by rw [rng_iff]; omega]
      have hp0 : 0 ≤ gd c (i : Int) := by omega
      have hp3 : gd c (i : Int) < 3 := by omega
      have hlt : (c.take i).length = i := by rw [List.length_take]; omega
      have hbp := pk_bd hA (c.take i) (gd c (i : Int)) i (by omega)
      have hw := hA.2 i (by omega)
      have hsn := sumN_bd hA i (by omega)
      have hs3 : ∀ x, (sm A x).length = 3 := fun _ => rfl
      have hg := sm_gd (A := A) (c := c.take i) hp0 hp3
      rw [hlt] at hg
      have hset := sm_set (A := A) (c := c.take i) hp0 hp3
      rw [hlt, ← take_nat hi] at hset
      have hms := most_snoc hA (c := c.take i) hp0 hp3 (by omega)
      rw [hlt, ← take_nat hi] at hms
      have hg2 : gd (sm A (c.take (i + 1))) (gd c (i : Int)) = pk A (c.take i) (gd c (i : Int)) i + gd A (i : Int) := by
        rw [← hset, gd_set_self hp0 (by rw [hs3]; omega), hg]
      rw [inR_in hp0 (by rw [hs3]; omega), getI_gd hp0 (by rw [hs3]; omega), inR_in hp0 (by rw [hs3]; omega), getI_gd hp0 (by rw [hs3]; omega), wI (x := gd (sm A (c.take i)) (gd c (i : Int)) + gd A (i : Int)) (by omega) (by omega), hset, inR_in hp0 (by rw [hs3]; omega), getI_gd hp0 (by rw [hs3]; omega), hg2, ← hms, wI (x := sumN A i + gd A (i : Int)) (by omega) (by omega), wI (by omega) (by omega)]
      rfl)
  have e' : L40_6 fuel ((A, c, 0, 0, 0, 0, ()), (List.replicate (3 : Int).toNat 0, ()), ()) = _ := e
  rw [e', derefK_some]
  cases hf : c.findIdx? (fun p => !rng p 0 2) with
  | some i =>
    have hal : ¬ dgB c = true := by
      intro hall
      obtain ⟨hi, h1, _⟩ := List.findIdx?_eq_some_iff_getElem.1 hf
      have := List.all_eq_true.1 hall _ (List.getElem_mem hi)
      rw [this] at h1
      cases h1
    rw [if_neg (fun h => hal h.2)]
    rfl
  | none =>
    have hal : dgB c = true := by
      unfold dgB
      rw [List.all_eq_true]
      intro v hv
      have := List.findIdx?_eq_none_iff.1 hf v hv
      simpa using this
    rw [if_pos ⟨hl', hal⟩]
    rfl
def sumF (f : Nat → Int) : Nat → Int
  | 0 => 0
  | i + 1 => sumF f i + f i
theorem pk_sumF (A c : List Int) (p : Int) : ∀ i, pk A c p i = sumF (fun j => if gd c (j : Int) = p then gd A (j : Int) else 0) i
  | 0 => rfl
  | i + 1 => by
    show pk A c p i + _ = sumF _ i + _
    rw [pk_sumF A c p i]
theorem sumF_sw {f g : Nat → Int} {n : Nat} (h0 : g 0 = f (n + 1)) (h1 : g (n + 1) = f 0) (h : ∀ i, 0 < i → i < n + 1 → g i = f i) : sumF g (n + 2) = sumF f (n + 2) := by
  have key : ∀ k, k ≤ n → sumF g (k + 1) - g 0 = sumF f (k + 1) - f 0 := by
    intro k
    induction k with
    | zero => intro _; show (0 + g 0) - g 0 = (0 + f 0) - f 0; omega
    | succ k ih =>
      intro hk
      have := ih (by omega)
      have h2 := h (k + 1) (by omega) (by omega)
      show (sumF g (k + 1) + g (k + 1)) - g 0 = (sumF f (k + 1) + f (k + 1)) - f 0
      omega
  have := key n (Nat.le_refl _)
  show sumF g (n + 1) + g (n + 1) = sumF f (n + 1) + f (n + 1)
  omega
structure Sw (n : Nat) (l l' : List Int) : Prop where
  a : gd l' 0 = gd l ((n + 1 : Nat) : Int)
  b : gd l' ((n + 1 : Nat) : Int) = gd l 0
  c : ∀ i : Nat, 0 < i → i < n + 1 → gd l' (i : Int) = gd l (i : Int)
theorem Sw.symm {n : Nat} {l l' : List Int} (h : Sw n l l') : Sw n l' l := ⟨h.b.symm, h.a.symm, fun i h1 h2 => (h.c i h1 h2).symm⟩
theorem most_sw {n : Nat} {A A' c c' : List Int} (hA : Sw n A A') (hc : Sw n c c') (l1 : c.length = n + 2) (l2 : c'.length = n + 2) : mostA A' c' = mostA A c := by
  have key : ∀ p, pk A' c' p c'.length = pk A c p c.length := by
    intro p
    rw [l1, l2, pk_sumF, pk_sumF]
    refine sumF_sw ?_ ?_ (fun i h1 h2 => ?_)
    · show (if gd c' ((0 : Nat) : Int) = p then gd A' ((0 : Nat) : Int) else 0) = _
      rw [show ((0 : Nat) : Int) = 0 from rfl, hc.a, hA.a]
    · show (if gd c' ((n + 1 : Nat) : Int) = p then gd A' ((n + 1 : Nat) : Int) else 0) = (if gd c ((0 : Nat) : Int) = p then gd A ((0 : Nat) : Int) else 0)
      rw [hc.b, hA.b]
      rfl
    · show (if gd c' (i : Int) = p then gd A' (i : Int) else 0) = _
      rw [hc.c i h1 h2, hA.c i h1 h2]
  rw [most_eq, most_eq, key, key, key]
def swp (n : Nat) (l : List Int) : List Int := (l.set 0 (gd l ((n + 1 : Nat) : Int))).set (n + 1) (gd l 0)
theorem swp_len (n : Nat) (l : List Int) : (swp n l).length = l.length := by simp [swp]
theorem swp_sw {n : Nat} {l : List Int} (h : l.length = n + 2) : Sw n l (swp n l) := by
  have g : ∀ i : Nat, i < n + 2 → gd (swp n l) (i : Int) = if i = n + 1 then gd l 0 else if i = 0 then gd l ((n + 1 : Nat) : Int) else gd l (i : Int) := by
    intro i hi
    refine gd_of ?_
    unfold swp
    rw [List.getElem?_set]
    by_cases e : n + 1 = i
    · rw [if_pos e, if_pos (by rw [List.length_set]; omega), if_pos e.symm]
    · rw [if_neg e, if_neg (show ¬ i = n + 1 from fun e2 => e e2.symm), List.getElem?_set]
      by_cases e0 : 0 = i
      · rw [if_pos e0, if_pos (by omega), if_pos e0.symm]
      · rw [if_neg e0, if_neg (show ¬ i = 0 from fun e2 => e0 e2.symm), gd_nat (by omega)]
  refine ⟨?_, ?_, fun i h1 h2 => ?_⟩
  · have := g 0 (by omega)
    rw [if_neg (by omega), if_pos rfl] at this
    exact this
  · have := g (n + 1) (by omega)
    rw [if_pos rfl] at this
    exact this
  · have := g i (by omega)
    rw [if_neg (by omega), if_neg (by omega)] at this
    exact this
theorem swp_all {n : Nat} {l : List Int} (h : l.length = n + 2) {Q : Int → Prop} (hl : ∀ p ∈ l, Q p) : ∀ p ∈ swp n l, Q p := by
  intro p hp
  unfold swp at hp
  rcases List.mem_or_eq_of_mem_set hp with hp | rfl
  · rcases List.mem_or_eq_of_mem_set hp with hp | rfl
    · exact hl p hp
    · exact hl _ (gd_mem (by omega) (by omega))
  · exact hl _ (gd_mem (by omega) (by omega))
theorem swp_vld {n : Nat} {A A' c : List Int} (hA : A.length = n + 2) (hA' : A'.length = n + 2) (hc : Vld A c) : Vld A' (swp n c) := by
  have h1 := hc.1
  exact ⟨by rw [swp_len]; omega, swp_all (by omega) hc.2⟩
theorem least_sw {n : Nat} {A : List Int} (hl : A.length = n + 2) {b b' : List Int} (hb : IsBest A b) (hb' : IsBest (swp n A) b') : mostA (swp n A) b' = mostA A b := by
  have hA := swp_sw hl
  have l1 := hb.1.1
  have l2 := hb'.1.1
  rw [swp_len] at l2
  have hz : (swp n A).length = n + 2 := by rw [swp_len]; exact hl
  have e1 := most_sw hA (swp_sw (l := b) (by omega)) (by omega) (by rw [swp_len]; omega)
  have e2 := most_sw hA.symm (swp_sw (l := b') (by omega)) (by omega) (by rw [swp_len]; omega)
  have h1 := (hb'.2 _ (swp_vld hl hz hb.1)).1
  have h2 := (hb.2 _ (swp_vld hz hl hb'.1)).1
  omega
theorem L12_22_q {A c b : List Int} (hb : IsBest A b) (hl : A.length ≤ 1000) (hc : c.length = A.length ∧ dgB c = true) : ∃ r, L12_22 fuel ((A, c, b, mostA A b, mostA A c, 0, ()), (), ()) = some r ∧ (r = .inl ((true, ()), (), ()) ∨ r = .inr ((), (), ())) := by
  have hfu := fuel_ge
  have lb := hb.1.1
  have hcd := dgB_iff.1 hc.2
  exact loop0 (L := L12_22) (fun i (_ : Unit) => ((A, c, b, mostA A b, mostA A c, (i : Int), ()), (), ())) (fun i _ => c.take i = b.take i) (fun r => r = .inl ((true, ()), (), ()) ∨ r = .inr ((), (), ())) 0 A.length (N := fuel) (s := ()) rfl (by omega)
    (by
      rintro N s -
      simp only [L12_22, B12_22]
      rw [dec_f (by omega)]
      exact ⟨_, rfl, .inr rfl⟩)
    (by
      rintro N i s - hi h
      simp only [L12_22, B12_22]
      rw [dec_t (by omega), cond_true]
      by_cases he : mostA A c = mostA A b
      case neg =>
        rw [show (mostA A c == mostA A b) = false from beq_eq_false_iff_ne.2 he, cond_false]
        exact .inr ⟨_, rfl, .inr rfl⟩
      rw [show (mostA A c == mostA A b) = true by simp [he], cond_true, getI_gd (by omega) (by omega), getI_gd (by omega) (by omega)]
      have hle := (hb.2 c ⟨hc.1, hcd⟩).2 he
      by_cases hd : gd c (i : Int) = gd b (i : Int)
      · rw [show (gd c (i : Int) != gd b (i : Int)) = false by simp [hd], cond_false, wI (by omega) (by omega)]
        refine .inl ⟨(), ?_, rfl⟩
        show c.take (i + 1) = b.take (i + 1)
        rw [take_nat (by omega), take_nat (by omega), h, hd]
      · rw [show (gd c (i : Int) != gd b (i : Int)) = true by simp [hd], cond_true, getI_gd (by omega) (by omega), getI_gd (by omega) (by omega)]
        by_cases hgt : gd c (i : Int) > gd b (i : Int)
        · rw [dec_t hgt, cond_true, works_eq]
          exact .inr ⟨_, rfl, .inl rfl⟩
        · exfalso
          have e1 : c = c.take i ++ [gd c (i : Int)] ++ c.drop (i + 1) := by rw [← take_nat (by omega), List.take_append_drop]
          have e2 : b = c.take i ++ [gd b (i : Int)] ++ b.drop (i + 1) := by rw [h, ← take_nat (by omega), List.take_append_drop]
          have := val_lt (A.length - (i + 1)) (c.drop (i + 1)) (c.take i) (gd c (i : Int)) (gd b (i : Int)) (by rw [List.length_drop]; omega) (fun p hp => hcd p (List.mem_of_mem_drop hp)) (by omega) (b.drop (i + 1)) (fun p hp => hb.1.2 p (List.mem_of_mem_drop hp)) (by rw [List.length_drop]; omega)
          rw [← e1, ← e2] at this
          omega)
theorem g38_ok {A : List Int} (h9 : A.length ≤ 9) (h : A.all (fun v => rng v 1 1000) = true) : ∃ b, IsBest A b ∧ g38 (A, ()) = some ((b, mostA A b, 0, ()), ()) := by
  obtain ⟨x, hx, e⟩ := g38_q A
  unfold ShR at hx
  rw [if_neg (by omega), if_pos h] at hx
  obtain ⟨b, hb, rfl⟩ := hx
  exact ⟨b, hb, e⟩
theorem law12 (A c : List Int) : g12 (A, c, ()) = some ((true, ()), ()) := by
  show F12 fuel A c = _
  unfold F12
  have hw := works_k
  have main : ∀ k : Option ((Bool × Unit) × Unit), k = some ((true, ()), ()) → k = some ((true, ()), ()) := fun _ h => h
  obtain ⟨x, hx, e38⟩ := g38_q A
  by_cases hgood : A.length ≤ 9 ∧ A.all (fun v => rng v 1 1000) = true
  case neg =>
    have hne : (x.2.2 != 0) = true := by
      unfold ShR at hx
      split at hx
      · rw [hx]; rfl
      · split at hx
        · rename_i h1 h2; exact absurd ⟨by omega, h2⟩ hgood
        · rw [hx]; rfl
    rw [e38, derefK_some]
    simp only [hne, cond_true]
    cases decide ((A.length : Int) > 7) with
    | true =>
      rw [cond_true]
      cases decide ((A.length : Int) ≤ 9) with
      | true => exact hw
      | false => exact hw
    | false => exact hw
  obtain ⟨h9, hal⟩ := hgood
  clear e38 hx
  have hA := aok_of (by omega) hal
  obtain ⟨b, hb, e38⟩ := g38_ok h9 hal
  have e40 : g40 (A, b, ()) = some ((mostA A b, sumN A A.length, maxN A A.length, true, ()), ()) := by rw [g40_q hA b, if_pos ⟨hb.1.1, dgB_iff.2 hb.1.2⟩]
  have e40c := g40_q hA c
  have lb := hb.1.1
  have hmb := most_bd hA (c := b) (by omega)
  have hsum : ¬ 3 * mostA A b < sumN A A.length := by
    have h1 := pk_sum (A := A) hb.1.2 b.length (Nat.le_refl _)
    rw [lb] at h1
    have h2 := most_eq A b
    rw [lb] at h2
    omega
  have hgr : ¬ mostA A b < maxN A A.length := by
    have := maxN_le (A := A) hmb.1 A.length (fun i hi => most_each hA hb.1 hi)
    omega
  have tail : (derefK (g40 (A, c, ())) fun y11 => cond (!y11.1.2.2.2.1) (derefK (g18 ()) fun y12 => some ((y12.1.1, ()), ())) (cond (decide (y11.1.1 < mostA A b)) (some ((false, ()), ())) (derefK (L12_22 fuel ((A, c, b, mostA A b, y11.1.1, 0, ()), (), ())) fun o18 => sumK o18 (fun d19 => some ((d19.1.1, ()), ())) (fun _ => derefK (g18 ()) fun y21 => some ((y21.1.1, ()), ()))))) = some ((true, ()), ()) := by
    rw [e40c, derefK_some]
    by_cases hv : c.length = A.length ∧ dgB c = true
    · rw [if_pos hv]
      have hle := (hb.2 c ⟨hv.1, dgB_iff.1 hv.2⟩).1
      simp only [Bool.not_true, cond_false]
      rw [dec_f (by omega), cond_false]
      obtain ⟨r, e, hr⟩ := L12_22_q hb (by omega) hv
      rw [e, derefK_some]
      rcases hr with rfl | rfl
      · rfl
      · exact hw
    · rw [if_neg hv]
      exact hw
  have full : ∀ P : Prop, [Decidable P] → (P ↔ (A.length : Int) > 1) → (derefK (g38 (A, ())) fun y2 => cond (y2.1.2.2.1 != 0) (derefK (g18 ()) fun y3 => some ((y3.1.1, ()), ())) (derefK (g40 (A, y2.1.1, ())) fun y4 => cond (!y4.1.2.2.2.1) (some ((false, ()), ())) (cond (y4.1.1 != y2.1.2.1) (some ((false, ()), ())) (cond (decide ((IntKind.wrap .i64 (3 * y2.1.2.1)) < y4.1.2.1)) (some ((false, ()), ())) (cond (decide (y2.1.2.1 < y4.1.2.2.1)) (some ((false, ()), ())) (some ((true, ()), ()))))))) = some ((true, ()), ()) := by
    intro P _ _
    rw [e38, derefK_some]
    simp only [show ((0 : Int) != 0) = false from rfl, cond_false, e40, derefK_some, Bool.not_true, bne_self_eq_false]
    rw [wI (by omega) (by omega), dec_f hsum, dec_f hgr]
    rfl
  clear full
  rw [e38, derefK_some]
  simp only [show ((0 : Int) != 0) = false from rfl, cond_false, e40, derefK_some, Bool.not_true, bne_self_eq_false]
  rw [wI (x := 3 * mostA A b) (by omega) (by omega), dec_f hsum, dec_f hgr]
  simp only [cond_false]
  have body : cond (decide ((A.length : Int) > 1)) (lenK (A.length : Int) (getI A (IntKind.wrap .i64 ((A.length : Int) - 1)) fun e5 => inR 0 A.length (getI A 0 fun _ => getI A 0 fun e7 => inR (IntKind.wrap .i64 ((A.length : Int) - 1)) (A.set (0 : Int).toNat e5).length (getI (A.set (0 : Int).toNat e5) (IntKind.wrap .i64 ((A.length : Int) - 1)) fun _ => bindV ((A.set (0 : Int).toNat e5).set (IntKind.wrap .i64 ((A.length : Int) - 1)).toNat e7) fun z9 => derefK (g38 (z9, ())) fun y10 => cond (y10.1.2.2.1 != 0) (some ((false, ()), ())) (cond (y10.1.2.1 != mostA A b) (some ((false, ()), ())) (derefK (g40 (A, c, ())) fun y11 => cond (!y11.1.2.2.2.1) (derefK (g18 ()) fun y12 => some ((y12.1.1, ()), ())) (cond (decide (y11.1.1 < mostA A b)) (some ((false, ()), ())) (derefK (L12_22 fuel ((A, c, b, mostA A b, y11.1.1, 0, ()), (), ())) fun o18 => sumK o18 (fun d19 => some ((d19.1.1, ()), ())) (fun _ => derefK (g18 ()) fun y21 => some ((y21.1.1, ()), ())))))))))) (derefK (g40 (A, c, ())) fun y11 => cond (!y11.1.2.2.2.1) (derefK (g18 ()) fun y12 => some ((y12.1.1, ()), ())) (cond (decide (y11.1.1 < mostA A b)) (some ((false, ()), ())) (derefK (L12_22 fuel ((A, c, b, mostA A b, y11.1.1, 0, ()), (), ())) fun o18 => sumK o18 (fun d19 => some ((d19.1.1, ()), ())) (fun _ => derefK (g18 ()) fun y21 => some ((y21.1.1, ()), ()))))) = some ((true, ()), ()) := by
    by_cases h1 : (A.length : Int) > 1
    case neg => rw [dec_f h1, cond_false]; exact tail
    obtain ⟨n, hn⟩ : ∃ n, A.length = n + 2 := ⟨A.length - 2, by omega⟩
    have hz : (A.set (0 : Int).toNat (gd A ((n + 1 : Nat) : Int))).set (n + 1) (gd A 0) = swp n A := rfl
    have hzal : (swp n A).all (fun v => rng v 1 1000) = true := by
      rw [List.all_eq_true]
      exact swp_all hn (fun p hp => List.all_eq_true.1 hal p hp)
    obtain ⟨b', hb', e38z⟩ := g38_ok (A := swp n A) (by rw [swp_len]; exact h9) hzal
    have hleast := least_sw hn hb hb'
    have hi : IntKind.wrap .i64 ((A.length : Int) - 1) = ((n + 1 : Nat) : Int) := by rw [wI (by omega) (by omega)]; omega
    rw [dec_t h1, cond_true, lenK_in (by omega) (by omega), hi, getI_gd (by omega) (by omega), inR_in (by omega) (by omega), getI_gd (by omega) (by omega), getI_gd (by omega) (by omega), inR_in (by omega) (by rw [List.length_set]; omega), getI_gd (by omega) (by rw [List.length_set]; omega), bindV_eq, Int.toNat_natCast, hz, e38z, derefK_some]
    simp only [show ((0 : Int) != 0) = false from rfl, cond_false, hleast, bne_self_eq_false]
    exact tail
  cases decide ((A.length : Int) > 7) with
  | true =>
    rw [cond_true]
    cases decide ((A.length : Int) ≤ 9) with
    | true => exact hw
    | false => exact body
  | false => exact body
end Go.Proofs.Try.V
