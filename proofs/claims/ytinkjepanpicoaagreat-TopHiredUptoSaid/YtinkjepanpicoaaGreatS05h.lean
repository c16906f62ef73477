/- Plain laws: what the last text needs of the others, in one. No condition beyond those typed in each theorem. -/
import Derived.Test.YtinkjepanpicoaaGreatFn4
namespace Go.Proofs.Tryz.V.L05
open Go.Vi
set_option maxRecDepth 100000
abbrev Brd := Int × (Int × (Int × Int))
abbrev Ld := Int × (Int × (Int × Int))
abbrev Sup := (List Brd) × ((List Ld) × (Int × (Int × Int)))
abbrev Swi := Int × (Int × Int)
theorem loopIdx {α D R : Type} [Inhabited α] {L : Nat → D → Option R} (mk : Nat → D) (l : List α) (q : α → Bool) (hit : Nat → R) (e : R) (c : Nat) {N : Nat} (hN : l.length + c < N)
    (hend : ∀ N, L (N + 1) (mk l.length) = some e)
    (hstep : ∀ N i, c ≤ N → i < l.length → L (N + 1) (mk i) = if q (gd l (i : Int)) then some (hit i) else L N (mk (i + 1))) :
    L N (mk 0) = some (match l.findIdx? q with | some i => hit i | none => e) := by
  have key : ∀ (d i : Nat) (N : Nat), i + d = l.length → d + c < N → L N (mk i) = some (match (l.drop i).findIdx? q with | some j => hit (i + j) | none => e) := by
    intro d
    induction d with
    | zero =>
      intro i N hi hN
      obtain ⟨m, rfl⟩ : ∃ m, N = m + 1 := ⟨N - 1, by omega⟩
      obtain rfl : i = l.length := by omega
      rw [hend, List.drop_length]
      rfl
    | succ d ih =>
      intro i N hi hN
      obtain ⟨m, rfl⟩ : ∃ m, N = m + 1 := ⟨N - 1, by omega⟩
      rw [hstep m i (by omega) (by omega), qbC (by omega), List.findIdx?_cons]
      cases hq : q (gd l (i : Int)) with
      | true => rfl
      | false =>
        rw [if_neg (by simp), ih (i + 1) m (by omega) (by omega)]
        simp only [Bool.false_eq_true, if_false]
        cases (l.drop (i + 1)).findIdx? q with
        | none => rfl
        | some j =>
          simp only [Option.map_some]
          rw [show i + (j + 1) = i + 1 + j by omega]
  have := key l.length 0 N (by omega) hN
  simpa using this
theorem qf0 {D R : Type} {L : Nat → D → Option R} (mk : Nat → D) (n : Nat) (p : Nat → Bool) (bad good : R) (c : Nat) {N : Nat} (hN : n + c < N)
    (hend : ∀ N, L (N + 1) (mk n) = some good)
    (hstep : ∀ N i, c ≤ N → i < n → L (N + 1) (mk i) = if p i then L N (mk (i + 1)) else some bad) :
    L N (mk 0) = some (if (List.range n).all p then good else bad) := by
  have key : ∀ (d i : Nat) (N : Nat), i + d = n → d + c < N → L N (mk i) = some (if (List.range' i d).all p then good else bad) := by
    intro d
    induction d with
    | zero =>
      intro i N hi hN
      obtain ⟨m, rfl⟩ : ∃ m, N = m + 1 := ⟨N - 1, by omega⟩
      obtain rfl : i = n := by omega
      rw [hend]
      rfl
    | succ d ih =>
      intro i N hi hN
      obtain ⟨m, rfl⟩ : ∃ m, N = m + 1 := ⟨N - 1, by omega⟩
      rw [hstep m i (by omega) (by omega), List.range'_succ, List.all_cons]
      cases p i with
      | true => rw [if_pos rfl, ih (i + 1) m (by omega) (by omega), Bool.true_and]
      | false => rw [if_neg (by simp), Bool.false_and, if_neg (by simp)]
  rw [List.range_eq_range']
  exact key n 0 N (by omega) hN
theorem negK_in {R : Type} {a : Int} (h : 0 ≤ a) (k : Option R) : qbU a k = k := by
  unfold qbU
  rw [if_neg (by omega)]
theorem ofN (S : Nat) (h : S < 4611686018427387904) : (BitVec.ofInt 64 (S : Int)).toNat = S := by
  rw [BitVec.toNat_ofInt, Int.emod_eq_of_lt (by omega) (by show (S : Int) < 18446744073709551616; omega)]
  omega
theorem and_n {S T : Nat} (hS : S < 4611686018427387904) (hT : T < 4611686018427387904) : qbl .and .i64 (S : Int) (T : Int) = ((S &&& T : Nat) : Int) := by
  show IntKind.wrap .i64 ((BitVec.ofInt 64 (S : Int) &&& BitVec.ofInt 64 (T : Int)).toNat : Int) = _
  rw [BitVec.toNat_and, ofN S hS, ofN T hT]
  have := Nat.and_le_left (n := S) (m := T)
  exact wI (by omega) (by omega)
theorem or_n {S T : Nat} (hS : S < 4611686018427387904) (hT : T < 4611686018427387904) : qbl .or .i64 (S : Int) (T : Int) = ((S ||| T : Nat) : Int) := by
  show IntKind.wrap .i64 ((BitVec.ofInt 64 (S : Int) ||| BitVec.ofInt 64 (T : Int)).toNat : Int) = _
  rw [BitVec.toNat_or, ofN S hS, ofN T hT]
  have : S ||| T < 2 ^ 62 := Nat.or_lt_two_pow hS hT
  exact wI (by omega) (by omega)
def dif (S T : Nat) : Nat := S ^^^ (S &&& T)
theorem qku (S T i : Nat) : (dif S T).testBit i = (S.testBit i && !T.testBit i) := by
  unfold dif
  rw [Nat.testBit_xor, Nat.testBit_and]
  cases S.testBit i <;> cases T.testBit i <;> rfl
theorem dif_le (S T : Nat) : dif S T ≤ S := by
  have h : dif S T = S &&& dif S T := by
    refine Nat.eq_of_testBit_eq fun i => ?_
    rw [Nat.testBit_and, qku]
    cases S.testBit i <;> rfl
  rw [h]
  exact Nat.and_le_left
theorem shl_n {i : Nat} (hi : i < 62) : qeh .i64 1 (i : Int) = ((2 ^ i : Nat) : Int) := by
  have h : (2 : Nat) ^ i < 2 ^ 62 := Nat.pow_lt_pow_right (by omega) hi
  have e : min (i : Int).toNat IntKind.i64.bits = i := by
    rw [Int.toNat_natCast]
    exact Nat.min_eq_left (by show i ≤ 64; omega)
  unfold qeh
  rw [e, Int.one_mul, show ((2 : Int) ^ i) = ((2 ^ i : Nat) : Int) by simp]
  generalize 2 ^ i = p at h ⊢
  exact wI (by omega) (by omega)
theorem shr_n {S i : Nat} (hi : i < 62) : qdt .i64 (S : Int) (i : Int) = ((S >>> i : Nat) : Int) := by
  have e : min (i : Int).toNat IntKind.i64.bits = i := by
    rw [Int.toNat_natCast]
    exact Nat.min_eq_left (by show i ≤ 64; omega)
  unfold qdt
  rw [e, Nat.shiftRight_eq_div_pow, show ((2 : Int) ^ i) = ((2 ^ i : Nat) : Int) by simp, Int.fdiv_eq_ediv_of_nonneg _ (Int.natCast_nonneg _)]
  simp
theorem bit_n {S i : Nat} (hS : S < 4611686018427387904) (hi : i < 62) : qbl .and .i64 (qdt .i64 (S : Int) (i : Int)) 1 = if S.testBit i then 1 else 0 := by
  have h : S >>> i ≤ S := by rw [Nat.shiftRight_eq_div_pow]; exact Nat.div_le_self _ _
  rw [shr_n hi, show (1 : Int) = ((1 : Nat) : Int) by rfl, and_n (by omega) (by omega)]
  have : S.testBit i = ((1 &&& (S >>> i)) != 0) := rfl
  rw [this, Nat.and_comm 1]
  have := Nat.and_le_right (n := S >>> i) (m := 1)
  rcases Nat.lt_or_ge 0 (S >>> i &&& 1) with h1 | h1
  · obtain h2 : S >>> i &&& 1 = 1 := by omega
    rw [h2]; rfl
  · obtain h2 : S >>> i &&& 1 = 0 := by omega
    rw [h2]; rfl
theorem qdw {n : Int} (h0 : 0 ≤ n) (h : n ≤ 4294967295) : IntKind.wrap .u64 n = n := by
  show n % 18446744073709551616 = n
  exact Int.emod_eq_of_lt h0 (by omega)
def jA (x lo hi : Int) : Bool := decide (lo ≤ x) && decide (x ≤ hi)
theorem qN {x lo hi : Int} : jA x lo hi = true ↔ lo ≤ x ∧ x ≤ hi := by unfold jA; rw [Bool.and_eq_true, decide_eq_true_iff, decide_eq_true_iff]
theorem g35_eq (x lo hi : Int) : g35 (x, lo, hi, ()) = some ((jA x lo hi, ()), ()) := by
  show F35 fuel x lo hi = _
  unfold F35 jA
  by_cases h : lo ≤ x
  · rw [qs (p := x ≥ lo) h]; rfl
  · rw [qy (p := x ≥ lo) h]; rfl
theorem g59_eq (x lo hi : Int) : g59 (x, lo, hi, ()) = some ((jA x lo hi, ()), ()) := by
  show F59 fuel x lo hi = _
  unfold F59 jA
  by_cases h : lo ≤ x
  · rw [qs (p := x ≥ lo) h]; rfl
  · rw [qy (p := x ≥ lo) h]; rfl
def okB (b : Brd) (i : Nat) : Bool := jA b.1 (-1) ((i : Int) - 1) && (jA b.2.1 1 1000 && (jA b.2.2.1 0 20 && jA b.2.2.2 1 10000))
def okL (n : Nat) (x : Ld) : Bool := jA x.1 0 ((n : Int) - 1) && (jA x.2.1 0 2 && (jA x.2.2.1 1 1000 && jA x.2.2.2 0 1000))
def okS (s : Sup) : Bool :=
  decide (s.1.length ≤ 10) && (decide (s.2.1.length ≤ 16) && (jA s.2.2.1 1 1000 && (jA s.2.2.2.1 0 20 && (jA s.2.2.2.2 1 1000 && ((List.range s.1.length).all (fun i => okB (gd s.1 (i : Int)) i) && s.2.1.all (okL s.1.length))))))
theorem okB_c {α : Type} (b : Brd) (i : Nat) (x y : α) : (bif !jA b.1 (-1) ((i : Int) - 1) then x else bif !jA b.2.1 1 1000 then x else bif !jA b.2.2.1 0 20 then x else bif !jA b.2.2.2 1 10000 then x else y) = if okB b i then y else x := by
  unfold okB
  cases jA b.1 (-1) ((i : Int) - 1) <;> cases jA b.2.1 1 1000 <;> cases jA b.2.2.1 0 20 <;> cases jA b.2.2.2 1 10000 <;> rfl
theorem okL_c {α : Type} (n : Nat) (b : Ld) (x y : α) : (bif !jA b.1 0 ((n : Int) - 1) then x else bif !jA b.2.1 0 2 then x else bif !jA b.2.2.1 1 1000 then x else bif !jA b.2.2.2 0 1000 then x else y) = if okL n b then y else x := by
  unfold okL
  cases jA b.1 0 ((n : Int) - 1) <;> cases jA b.2.1 0 2 <;> cases jA b.2.2.1 1 1000 <;> cases jA b.2.2.2 0 1000 <;> rfl
theorem okS_c {α : Type} (s : Sup) (x z : α) : (bif decide ((s.1.length : Int) > 10) then x else bif decide ((s.2.1.length : Int) > 16) then x else bif !jA s.2.2.1 1 1000 then x else bif !jA s.2.2.2.1 0 20 then x else bif !jA s.2.2.2.2 1 1000 then x else z) =
    if (decide (s.1.length ≤ 10) && (decide (s.2.1.length ≤ 16) && (jA s.2.2.1 1 1000 && (jA s.2.2.2.1 0 20 && jA s.2.2.2.2 1 1000)))) then z else x := by
  by_cases h1 : s.1.length ≤ 10
  · rw [qy (p := (s.1.length : Int) > 10) (by omega), qs (p := s.1.length ≤ 10) h1]
    by_cases h2 : s.2.1.length ≤ 16
    · rw [qy (p := (s.2.1.length : Int) > 16) (by omega), qs (p := s.2.1.length ≤ 16) h2]
      cases jA s.2.2.1 1 1000 <;> cases jA s.2.2.2.1 0 20 <;> cases jA s.2.2.2.2 1 1000 <;> rfl
    · rw [qs (p := (s.2.1.length : Int) > 16) (by omega), qy (p := s.2.1.length ≤ 16) h2]
      rfl
  · rw [qs (p := (s.1.length : Int) > 10) (by omega), qy (p := s.1.length ≤ 10) h1]
    rfl
theorem qc6 {s : Sup} (h : okS s = true) : s.1.length ≤ 10 ∧ s.2.1.length ≤ 16 := by
  unfold okS at h
  simp only [Bool.and_eq_true, decide_eq_true_iff] at h
  exact ⟨h.1, h.2.1⟩
theorem qiE {α : Type} [Inhabited α] (l : List α) (p : α → Bool) : (List.range l.length).all (fun i => p (gd l (i : Int))) = l.all p := by
  induction l with
  | nil => rfl
  | cons x l ih =>
    rw [List.length_cons, List.range_succ_eq_map, List.all_cons, List.all_map, List.all_cons, ← ih]
    rfl
theorem qki (s : Sup) {R : Type} (a b : R) : (if (decide (s.1.length ≤ 10) && (decide (s.2.1.length ≤ 16) && (jA s.2.2.1 1 1000 && (jA s.2.2.2.1 0 20 && jA s.2.2.2.2 1 1000)))) then
    (if (List.range s.1.length).all (fun i => okB (gd s.1 (i : Int)) i) then (if (List.range s.2.1.length).all (fun i => okL s.1.length (gd s.2.1 (i : Int))) then a else b) else b) else b) = if okS s then a else b := by
  rw [qiE]
  unfold okS
  cases decide (s.1.length ≤ 10) <;> cases decide (s.2.1.length ≤ 16) <;> cases jA s.2.2.1 1 1000 <;> cases jA s.2.2.2.1 0 20 <;> cases jA s.2.2.2.2 1 1000 <;> cases (List.range s.1.length).all (fun i => okB (gd s.1 (i : Int)) i) <;> rfl
theorem g22_eq (s : Sup) : g22 (s, ()) = some ((if okS s then 0 else 50, ()), ()) := by
  show F22 fuel s = _
  unfold F22
  simp only [g35_eq, qb]
  have hr : some ((if okS s then (0 : Int) else 50, ()), ()) = if okS s then some (((0 : Int), ()), ()) else some ((50, ()), ()) := by split <;> rfl
  rw [okS_c, hr, ← qki s]
  by_cases h : (decide (s.1.length ≤ 10) && (decide (s.2.1.length ≤ 16) && (jA s.2.2.1 1 1000 && (jA s.2.2.2.1 0 20 && jA s.2.2.2.2 1 1000)))) = true
  case neg => rw [if_neg h, if_neg h]
  rw [if_pos h, if_pos h]
  simp only [Bool.and_eq_true, decide_eq_true_iff] at h
  have hf := qY
  have e1 := qf0 (L := L22_4) (fun i => ((s.1, (s.1.length : Int), (i : Int), ()), (s, ()), ())) s.1.length (fun i => okB (gd s.1 (i : Int)) i) (.inl ((50, ()), (), ())) (.inr ((), (s, ()), ())) 0 (N := fuel) (by omega)
    (fun N => by simp [L22_4, B22_4])
    (fun N i _ hi => by
      simp only [L22_4, B22_4, g35_eq, qb]
      rw [qs (by omega), cond_true, ql (by omega) (by omega), wI (x := (i : Int) - 1) (by omega) (by omega), okB_c, wI (by omega) (by omega)]
      split <;> rfl)
  have e1' : L22_4 fuel ((s.1, (s.1.length : Int), 0, ()), (s, ()), ()) = _ := e1
  rw [e1', qb]
  cases (List.range s.1.length).all (fun i => okB (gd s.1 (i : Int)) i) with
  | false => rfl
  | true =>
  rw [if_pos rfl, qcH, if_pos rfl]
  have e2 := qf0 (L := L22_10) (fun i => ((s.2.1, (s.2.1.length : Int), (i : Int), ()), (s, ()), ())) s.2.1.length (fun i => okL s.1.length (gd s.2.1 (i : Int))) (.inl ((50, ()), (), ())) (.inr ((), (), ())) 0 (N := fuel) (by omega)
    (fun N => by simp [L22_10, B22_10])
    (fun N i _ hi => by
      simp only [L22_10, B22_10, g35_eq, qb]
      rw [qs (by omega), cond_true, ql (by omega) (by omega), wI (x := (s.1.length : Int) - 1) (by omega) (by omega), okL_c, wI (by omega) (by omega)]
      split <;> rfl)
  have e2' : L22_10 fuel ((s.2.1, (s.2.1.length : Int), 0, ()), (s, ()), ()) = _ := e2
  simp only [e2', qb]
  cases (List.range s.2.1.length).all (fun i => okL s.1.length (gd s.2.1 (i : Int))) <;> rfl
theorem g29_eq (s : Sup) : g29 (s, ()) = some ((if okS s then 0 else 50, ()), ()) := by
  show F29 fuel s = _
  unfold F29
  simp only [g59_eq, qb]
  have hr : some ((if okS s then (0 : Int) else 50, ()), ()) = if okS s then some (((0 : Int), ()), ()) else some ((50, ()), ()) := by split <;> rfl
  rw [okS_c, hr, ← qki s]
  by_cases h : (decide (s.1.length ≤ 10) && (decide (s.2.1.length ≤ 16) && (jA s.2.2.1 1 1000 && (jA s.2.2.2.1 0 20 && jA s.2.2.2.2 1 1000)))) = true
  case neg => rw [if_neg h, if_neg h]
  rw [if_pos h, if_pos h]
  simp only [Bool.and_eq_true, decide_eq_true_iff] at h
  have hf := qY
  have e1 := qf0 (L := L29_4) (fun i => (((i : Int), ()), (s, ()), ())) s.1.length (fun i => okB (gd s.1 (i : Int)) i) (.inl ((50, ()), (), ())) (.inr ((), (s, ()), ())) 0 (N := fuel) (by omega)
    (fun N => by simp [L29_4, B29_4])
    (fun N i _ hi => by
      simp only [L29_4, B29_4, g59_eq, qb]
      rw [qs (by omega), cond_true, ql (by omega) (by omega), wI (x := (i : Int) - 1) (by omega) (by omega), okB_c, wI (by omega) (by omega)]
      split <;> rfl)
  have e1' : L29_4 fuel ((0, ()), (s, ()), ()) = _ := e1
  rw [e1', qb]
  cases (List.range s.1.length).all (fun i => okB (gd s.1 (i : Int)) i) with
  | false => rfl
  | true =>
  rw [if_pos rfl, qcH, if_pos rfl]
  have e2 := qf0 (L := L29_10) (fun i => (((i : Int), ()), (s, ()), ())) s.2.1.length (fun i => okL s.1.length (gd s.2.1 (i : Int))) (.inl ((50, ()), (), ())) (.inr ((), (), ())) 0 (N := fuel) (by omega)
    (fun N => by simp [L29_10, B29_10])
    (fun N i _ hi => by
      simp only [L29_10, B29_10, g59_eq, qb]
      rw [qs (by omega), cond_true, ql (by omega) (by omega), wI (x := (s.1.length : Int) - 1) (by omega) (by omega), okL_c, wI (by omega) (by omega)]
      split <;> rfl)
  have e2' : L29_10 fuel ((0, ()), (s, ()), ()) = _ := e2
  simp only [e2', qb]
  cases (List.range s.2.1.length).all (fun i => okL s.1.length (gd s.2.1 (i : Int))) <;> rfl
def okC (s : Sup) (set : Int) : Int := if okS s then (if jA set 0 (((2 ^ s.2.1.length : Nat) : Int) - 1) then 0 else 1) else 50
theorem pow16 {n : Nat} (h : n ≤ 16) : 2 ^ n ≤ 65536 := by
  have : (2 : Nat) ^ n ≤ 2 ^ 16 := Nat.pow_le_pow_right (by omega) h
  omega
theorem g31_eq (s : Sup) (set : Int) : g31 (s, set, ()) = some ((okC s set, ()), ()) := by
  show F31 fuel s set = _
  unfold F31 okC
  rw [g22_eq, qb]
  by_cases h : okS s = true
  case neg => rw [if_neg h, if_neg h]; rfl
  rw [if_pos h, if_pos h]
  have hl := (qc6 h).2
  have e : g60 (s, set, ()) = some ((jA set 0 (((2 ^ s.2.1.length : Nat) : Int) - 1), ()), ()) := by
    show F60 fuel s set = _
    unfold F60
    have := pow16 hl
    rw [negK_in (by omega), shl_n (by omega), g35_eq, qb]
    generalize 2 ^ s.2.1.length = p at this ⊢
    rw [wI (by omega) (by omega)]
  rw [e]
  cases jA set 0 (((2 ^ s.2.1.length : Nat) : Int) - 1) <;> rfl
def qg9 (l : List Brd) : Prop := ∀ j : Nat, j < l.length → -1 ≤ (gd l (j : Int)).1 ∧ (gd l (j : Int)).1 < j
theorem qgv {s : Sup} (h : okS s = true) : qg9 s.1 := by
  unfold okS at h
  simp only [Bool.and_eq_true, decide_eq_true_iff, List.all_eq_true, List.mem_range] at h
  intro j hj
  have := h.2.2.2.2.2.1 j hj
  unfold okB at this
  simp only [Bool.and_eq_true, qN] at this
  omega
theorem qg9.at {l : List Brd} (h : qg9 l) {b : Int} (h0 : 0 ≤ b) (h1 : b < l.length) : -1 ≤ (gd l b).1 ∧ (gd l b).1 < b := by
  have := h b.toNat (by omega)
  rwa [show ((b.toNat : Nat) : Int) = b by omega] at this
def chF (l : List Brd) : Nat → Int → List Int
  | 0, _ => []
  | n + 1, b => if b < 0 then [] else b :: chF l n (gd l b).1
theorem chF_eq {l : List Brd} (hu : qg9 l) : ∀ (n m : Nat) (b : Int), b < n → b < m → b < l.length → chF l n b = chF l m b
  | 0, 0, _, _, _, _ => rfl
  | 0, m + 1, b, h, _, _ => by
    unfold chF
    rw [if_pos (by omega)]
  | n + 1, 0, b, _, h, _ => by
    unfold chF
    rw [if_pos (by omega)]
  | n + 1, m + 1, b, h1, h2, h3 => by
    unfold chF
    by_cases hb : b < 0
    · rw [if_pos hb, if_pos hb]
    · rw [if_neg hb, if_neg hb]
      have := hu.at (b := b) (by omega) h3
      rw [chF_eq hu n m _ (by omega) (by omega) (by omega)]
def chn (l : List Brd) (b : Int) : List Int := chF l (l.length + 1) b
theorem qix {l : List Brd} {b : Int} (hb : b < 0) : chn l b = [] := by
  unfold chn chF
  rw [if_pos hb]
theorem qiw {l : List Brd} (hu : qg9 l) {b : Int} (h0 : 0 ≤ b) (h1 : b < l.length) : chn l b = b :: chn l (gd l b).1 := by
  have := hu.at h0 h1
  unfold chn
  rw [chF, if_neg (by omega), chF_eq hu l.length (l.length + 1) _ (by omega) (by omega) (by omega)]
theorem qkx {l : List Brd} (hu : qg9 l) {p : Int → Prop} (hneg : p (-1)) (hpos : ∀ b : Int, 0 ≤ b → b < l.length → p (gd l b).1 → p b) : ∀ b : Int, -1 ≤ b → b < l.length → p b := by
  have key : ∀ (n : Nat) (b : Int), b < n → -1 ≤ b → b < l.length → p b := by
    intro n
    induction n with
    | zero =>
      intro b h1 h2 h3
      obtain rfl : b = -1 := by omega
      exact hneg
    | succ n ih =>
      intro b h1 h2 h3
      by_cases hb : b < 0
      · obtain rfl : b = -1 := by omega
        exact hneg
      · have := hu.at (b := b) (by omega) h3
        exact hpos b (by omega) h3 (ih _ (by omega) (by omega) (by omega))
  intro b h1 h2
  exact key (b + 1).toNat b (by omega) h1 h2
theorem qd3 {l : List Brd} (hu : qg9 l) : ∀ b : Int, -1 ≤ b → b < l.length → ∀ x ∈ chn l b, 0 ≤ x ∧ x ≤ b := by
  refine qkx hu ?_ ?_
  · rw [qix (by omega)]
    intro x h
    cases h
  · intro b h0 h1 ih x hx
    rw [qiw hu h0 h1] at hx
    have := hu.at h0 h1
    rcases List.mem_cons.1 hx with rfl | h
    · omega
    · have := ih x h
      omega
theorem qk1 {l : List Brd} (hu : qg9 l) : ∀ b : Int, -1 ≤ b → b < l.length → (chn l b).Nodup := by
  refine qkx hu ?_ ?_
  · rw [qix (by omega)]
    exact List.nodup_nil
  · intro b h0 h1 ih
    have := hu.at h0 h1
    rw [qiw hu h0 h1, List.nodup_cons]
    refine ⟨fun h => ?_, ih⟩
    have := qd3 hu (gd l b).1 (by omega) (by omega) b h
    omega
theorem upL_eq {l : List Brd} (hu : qg9 l) : ∀ (n : Nat) (b : Int), -1 ≤ b → b < n → b < l.length → It.upL (n + 1) l b = some (chn l b ++ [-1])
  | n, b, h0, h1, h2 => by
    unfold It.upL
    by_cases hb : b < 0
    · rw [qs hb, cond_true, qix hb]
      rfl
    · have hp := hu.at (b := b) (by omega) h2
      rw [qy hb, cond_false, ql (by omega) h2, qs hp.2, cond_true]
      match n with
      | 0 => omega
      | n + 1 =>
        rw [upL_eq hu n (gd l b).1 hp.1 (by omega) (by omega), qb, qiw hu (by omega) h2]
        rfl
theorem it90_eq {s : Sup} (hu : qg9 s.1) (hl : s.1.length ≤ 1000) {b : Int} (h0 : -1 ≤ b) (h1 : b < s.1.length) : It.it90.g (b, s, ()) = some (chn s.1 b ++ [-1]) := by
  show jF (s.1.length : Int) (It.upL (s.1.length + 1) s.1 b) = _
  rw [jS (by omega) (by omega), upL_eq hu s.1.length b h0 (by omega) h1]; rfl
theorem up_k {R : Type} {s : Sup} (hu : qg9 s.1) (hl : s.1.length ≤ 1000) {b : Int} (h0 : -1 ≤ b) (h1 : b < s.1.length) (K : List Int → Option R) :
    (qa (It.m61.p.g (s, b, ())) fun y3 => qa y3.1.2.1 fun q4 => qa (It.it90.g (y3.1.1, q4, ())) fun l6 => K l6) = K (chn s.1 b ++ [-1]) := by
  show qa (It.it90.g (b, s, ())) _ = _
  rw [it90_eq hu hl h0 h1]
  rfl
def und (l : List Brd) (b top : Int) : Bool := (chn l b).contains top
def qdf (s : Sup) (S : Nat) (b ph : Int) : Nat → Int
  | 0 => 0
  | k + 1 => qdf s S b ph k + (if S.testBit k && ((gd s.2.1 (k : Int)).2.1 == ph && (decide (b < 0) || und s.1 (gd s.2.1 (k : Int)).1 b)) then (gd s.2.1 (k : Int)).2.2.1 else 0)
def cur (s : Sup) (S : Nat) (b ph : Int) : Int := qdf s S b ph s.2.1.length
theorem qe9 {s : Sup} (h : okS s = true) {k : Nat} (hk : k < s.2.1.length) : okL s.1.length (gd s.2.1 (k : Int)) = true := by
  unfold okS at h
  simp only [Bool.and_eq_true, decide_eq_true_iff, List.all_eq_true] at h
  exact h.2.2.2.2.2.2 _ (qay (by omega) (by omega))
theorem qhD {n : Nat} {x : Ld} (h : okL n x = true) : (0 ≤ x.1 ∧ x.1 < n) ∧ (0 ≤ x.2.1 ∧ x.2.1 ≤ 2) ∧ (1 ≤ x.2.2.1 ∧ x.2.2.1 ≤ 1000) ∧ (0 ≤ x.2.2.2 ∧ x.2.2.2 ≤ 1000) := by
  unfold okL at h
  simp only [Bool.and_eq_true, qN] at h
  omega
theorem qkw {s : Sup} (h : okS s = true) (S : Nat) (b ph : Int) : ∀ k, k ≤ s.2.1.length → 0 ≤ qdf s S b ph k ∧ qdf s S b ph k ≤ 1000 * k
  | 0, _ => ⟨Int.le_refl _, by simp [qdf]⟩
  | k + 1, hk => by
    have ih := qkw h S b ph k (by omega)
    have := qhD (qe9 h (k := k) (by omega))
    unfold qdf
    split <;> omega
theorem qko {α : Type} [Inhabited α] (f : Nat → α) {n k : Nat} (h : k < n) : gd ((List.range n).map f) (k : Int) = f k := by
  refine qgM ?_
  simp [h]
def ix (n : Nat) (x : Int) : Nat := if x = -1 then n else x.toNat
def bO (n k : Nat) : Int := if k = n then -1 else (k : Int)
theorem agree3 {R : Type} (x : Option R) : qE [qE [qE [x, x], x], x] = x := by
  simp only [qdj, qdk]
theorem R32_ok {s : Sup} {ld : Ld} (hph : 0 ≤ ld.2.1 ∧ ld.2.1 ≤ 2) (ha : 1 ≤ ld.2.2.1 ∧ ld.2.2.1 ≤ 1000) (N : Nat) : ∀ (xs : List Int), (∀ x ∈ xs, x = -1 ∨ (0 ≤ x ∧ x < s.1.length)) → (xs.map (ix s.1.length)).Nodup →
    ∀ out : List (List Int), out.length = s.1.length + 1 → (∀ k ∈ xs.map (ix s.1.length), (gd out (k : Int)).length = 3 ∧ 0 ≤ gd (gd out (k : Int)) ld.2.1 ∧ gd (gd out (k : Int)) ld.2.1 ≤ 1099511627776) →
    ∃ out', R32_7 N xs (s, out, ld, ()) = some (.norm, (out', ())) ∧ out'.length = s.1.length + 1 ∧
      ∀ k : Nat, k ≤ s.1.length → gd out' (k : Int) = if k ∈ xs.map (ix s.1.length) then (gd out (k : Int)).set ld.2.1.toNat (gd (gd out (k : Int)) ld.2.1 + ld.2.2.1) else gd out (k : Int)
  | [], _, _, out, hl, _ => ⟨out, rfl, hl, fun k _ => by rw [if_neg (by simp)]⟩
  | x :: xs, hx, hnd, out, hl, hb => by
    rw [List.map_cons, List.nodup_cons] at hnd
    have hstep : ∀ i : Int, 0 ≤ i → i ≤ s.1.length → i.toNat = ix s.1.length x → (∀ (F : Int → List Int → Option (X × (List (List Int) × Unit))), qE [jQ i out.length (qE [jQ ld.2.1 3 (qE [qi out i fun e4 => qi e4 ld.2.1 fun e5 => jQ i out.length (jQ ld.2.1 3 (qi out i fun e6 => qi e6 ld.2.1 fun _ => F e5 e6)), jQ i out.length (qi out i fun e8 => qi e8 ld.2.1 fun e9 => jQ ld.2.1 3 (qi out i fun e10 => qi e10 ld.2.1 fun _ => F e9 e10))]), jQ i out.length (jQ ld.2.1 3 (qi out i fun e12 => qi e12 ld.2.1 fun e13 => jQ ld.2.1 3 (qi out i fun e14 => qi e14 ld.2.1 fun _ => F e13 e14)))]), jQ i out.length (jQ i out.length (jQ ld.2.1 3 (qi out i fun e16 => qi e16 ld.2.1 fun e17 => jQ ld.2.1 3 (qi out i fun e18 => qi e18 ld.2.1 fun _ => F e17 e18))))] =
        F (gd (gd out i) ld.2.1) (gd out i)) := fun i h0 h1 hi F => by
      have h3 := hb i.toNat (by rw [hi]; simp)
      rw [show ((i.toNat : Nat) : Int) = i by omega] at h3
      have a1 : ∀ {R : Type} (k : Option R), jQ i out.length k = k := fun k => jG h0 (by omega) k
      have a2 : ∀ {R : Type} (k : Option R), jQ ld.2.1 3 k = k := fun k => jG hph.1 (by omega) k
      have a3 : ∀ {R : Type} (k : List Int → Option R), qi out i k = k (gd out i) := fun k => ql h0 (by omega) k
      have a4 : ∀ {R : Type} (k : Int → Option R), qi (gd out i) ld.2.1 k = k (gd (gd out i) ld.2.1) := fun k => ql hph.1 (by omega) k
      simp only [a1, a2, a3, a4, agree3]
    have hgo : ∀ i : Int, 0 ≤ i → i ≤ s.1.length → i.toNat = ix s.1.length x → ∃ out', R32_7 N xs (s, out.set i.toNat ((gd out i).set ld.2.1.toNat (IntKind.wrap .i64 (gd (gd out i) ld.2.1 + ld.2.2.1))), ld, ()) = some (.norm, (out', ())) ∧ out'.length = s.1.length + 1 ∧
        ∀ k : Nat, k ≤ s.1.length → gd out' (k : Int) = if k ∈ (x :: xs).map (ix s.1.length) then (gd out (k : Int)).set ld.2.1.toNat (gd (gd out (k : Int)) ld.2.1 + ld.2.2.1) else gd out (k : Int) := fun i h0 h1 hi => by
      have h3 := hb i.toNat (by rw [hi]; simp)
      rw [show ((i.toNat : Nat) : Int) = i by omega] at h3
      rw [wI (by omega) (by omega)]
      obtain ⟨o2, ho2⟩ : ∃ o2, out.set i.toNat ((gd out i).set ld.2.1.toNat (gd (gd out i) ld.2.1 + ld.2.2.1)) = o2 := ⟨_, rfl⟩
      have hself : gd o2 i = (gd out i).set ld.2.1.toNat (gd (gd out i) ld.2.1 + ld.2.2.1) := by rw [← ho2]; exact qao h0 (by omega)
      have hoth : ∀ k : Nat, (k : Int) ≠ i → gd o2 (k : Int) = gd out (k : Int) := fun k hk => by rw [← ho2]; exact qbh h0 (by omega) hk
      have hl2 : o2.length = s.1.length + 1 := by rw [← ho2, List.length_set, hl]
      rw [ho2]
      have hnot : i.toNat ∉ xs.map (ix s.1.length) := by rw [hi]; exact hnd.1
      obtain ⟨out', e1, e2, e3⟩ := R32_ok hph ha N xs (fun y hy => hx y (List.mem_cons_of_mem _ hy)) hnd.2 o2 hl2 (fun k hk => by
        have hne : (k : Int) ≠ i := fun e => hnot (by rw [← e, Int.toNat_natCast]; exact hk)
        rw [hoth k hne]
        exact hb k (by rw [List.map_cons]; exact List.mem_cons_of_mem _ hk))
      refine ⟨out', e1, e2, fun k hk => ?_⟩
      rw [e3 k hk, List.map_cons, ← hi]
      by_cases hki : k = i.toNat
      · subst hki
        rw [if_neg hnot, if_pos (by simp), show ((i.toNat : Nat) : Int) = i by omega, hself]
      · rw [hoth k (by omega)]
        by_cases hm : k ∈ xs.map (ix s.1.length)
        · rw [if_pos hm, if_pos (List.mem_cons_of_mem _ hm)]
        · rw [if_neg hm, if_neg (by simp only [List.mem_cons, not_or]; exact ⟨hki, hm⟩)]
    show ∃ out', Q32_7 N (R32_7 N xs) x s out ld = some (.norm, (out', ())) ∧ _
    unfold Q32_7
    have hx0 := hx x List.mem_cons_self
    by_cases hx1 : x = -1
    · have hi : ((s.1.length : Nat) : Int).toNat = ix s.1.length x := by unfold ix; rw [if_pos hx1, Int.toNat_natCast]
      have hb1 : (x == -1) = true := by simp [hx1]
      rw [hb1, cond_true, qeP, hstep _ (by omega) (Int.le_refl _) hi]
      exact hgo _ (by omega) (Int.le_refl _) hi
    · have hi : x.toNat = ix s.1.length x := by unfold ix; rw [if_neg hx1]
      have hb1 : (x == -1) = false := by simp [hx1]
      rw [hb1, cond_false, qeP, hstep _ (by omega) (by omega) hi]
      exact hgo _ (by omega) (by omega) hi
def row3 (s : Sup) (S : Nat) (b : Int) (i : Nat) : List Int := [qdf s S b 0 i, qdf s S b 1 i, qdf s S b 2 i]
def qbk (s : Sup) (S : Nat) (i : Nat) : List (List Int) := (List.range (s.1.length + 1)).map fun k => row3 s S (bO s.1.length k) i
theorem qkf (s : Sup) (S : Nat) (b : Int) (i : Nat) {ph : Int} (h : 0 ≤ ph ∧ ph ≤ 2) : gd (row3 s S b i) ph = qdf s S b ph i := by
  obtain rfl | rfl | rfl : ph = 0 ∨ ph = 1 ∨ ph = 2 := by omega
  all_goals rfl
theorem qhw (s : Sup) (S : Nat) (b : Int) (i : Nat) (h : 0 ≤ (gd s.2.1 (i : Int)).2.1 ∧ (gd s.2.1 (i : Int)).2.1 ≤ 2) :
    row3 s S b (i + 1) = if S.testBit i && (decide (b < 0) || und s.1 (gd s.2.1 (i : Int)).1 b) then (row3 s S b i).set (gd s.2.1 (i : Int)).2.1.toNat (gd (row3 s S b i) (gd s.2.1 (i : Int)).2.1 + (gd s.2.1 (i : Int)).2.2.1) else row3 s S b i := by
  rw [qkf s S b i h]
  unfold row3
  simp only [qdf]
  generalize (gd s.2.1 (i : Int)).2.1 = p at h ⊢
  generalize (decide (b < 0) || und s.1 (gd s.2.1 (i : Int)).1 b) = q
  generalize S.testBit i = r
  obtain rfl | rfl | rfl : p = 0 ∨ p = 1 ∨ p = 2 := by omega
  all_goals cases r <;> cases q <;> simp
theorem qaW (s : Sup) (S i : Nat) : (qbk s S i).length = s.1.length + 1 := by simp [qbk]
theorem qcw (s : Sup) (S i : Nat) {k : Nat} (h : k ≤ s.1.length) : gd (qbk s S i) (k : Int) = row3 s S (bO s.1.length k) i := qko _ (by omega)
theorem qjQ {s : Sup} (h : okS s = true) {b : Int} (h0 : 0 ≤ b) (h1 : b < s.1.length) {k : Nat} (hk : k ≤ s.1.length) : k ∈ (chn s.1 b ++ [-1]).map (ix s.1.length) ↔ (decide (bO s.1.length k < 0) || und s.1 b (bO s.1.length k)) = true := by
  have hm := qd3 (qgv h) b (by omega) h1
  unfold bO
  by_cases hkn : k = s.1.length
  · rw [if_pos hkn]
    simp [ix, hkn]
  · rw [if_neg hkn]
    unfold und
    simp only [List.map_append, List.mem_append, List.map_cons, List.map_nil, List.mem_singleton, Bool.or_eq_true, decide_eq_true_iff, List.contains_eq_mem]
    constructor
    · rintro (h2 | h2)
      · obtain ⟨x, hx, e⟩ := List.mem_map.1 h2
        have := hm x hx
        unfold ix at e
        rw [if_neg (by omega)] at e
        right
        rw [← e, show ((x.toNat : Nat) : Int) = x by omega]
        exact hx
      · unfold ix at h2
        rw [if_pos rfl] at h2
        exact absurd h2 hkn
    · rintro (h2 | h2)
      · omega
      · left
        refine List.mem_map.2 ⟨(k : Int), h2, ?_⟩
        unfold ix
        rw [if_neg (by omega), Int.toNat_natCast]
theorem ix_nodup {s : Sup} (h : okS s = true) {b : Int} (h0 : 0 ≤ b) (h1 : b < s.1.length) : ((chn s.1 b ++ [-1]).map (ix s.1.length)).Nodup := by
  have hm := qd3 (qgv h) b (by omega) h1
  have hn := qk1 (qgv h) b (by omega) h1
  rw [List.map_append, List.nodup_append]
  refine ⟨?_, by simp, ?_⟩
  · rw [List.Nodup, List.pairwise_map]
    refine hn.imp_of_mem ?_
    intro x y hx hy hne e
    have h1 := hm x hx
    have h2 := hm y hy
    unfold ix at e
    rw [if_neg (by omega), if_neg (by omega)] at e
    exact hne (by omega)
  · intro x hx y hy
    obtain ⟨z, hz, rfl⟩ := List.mem_map.1 hx
    have := hm z hz
    simp only [List.map_cons, List.map_nil, List.mem_singleton] at hy
    subst hy
    unfold ix
    rw [if_neg (by omega), if_pos rfl]
    omega
theorem g32_eq {s : Sup} (h : okS s = true) {S : Nat} (hS : S < 4611686018427387904) : g32 (s, (S : Int), ()) = some ((qbk s S s.2.1.length, ()), ()) := by
  show F32 fuel s (S : Int) = _
  unfold F32
  have hl := qc6 h
  have hf := qY
  have hu := qgv h
  rw [wI (by omega) (by omega), qaZ (by omega), qaZ (by omega), jS (by omega) (by omega), qbm]
  have e0 : List.replicate ((s.1.length : Int) + 1).toNat (List.replicate 3 (0 : Int)) = qbk s S 0 := by
    refine qfo (by rw [qaW, List.length_replicate]; omega) fun k hk => ?_
    rw [List.length_replicate] at hk
    rw [qaU (by omega) (by omega), qcw s S 0 (by omega)]
    rfl
  rw [e0]
  have e := qea (L := L32_3) (fun i => (((S : Int), s, s.2.1, (s.2.1.length : Int), (i : Int), ()), (qbk s S i, ()), ())) ((), (qbk s S s.2.1.length, ()), ()) 0 s.2.1.length (N := fuel) (by omega)
    (fun N => by
      simp only [L32_3, B32_3]
      rw [qy (by omega)]
      rfl)
    (fun N i _ hi => by
      have hx := qhD (qe9 h hi)
      simp only [L32_3, B32_3]
      rw [qs (by omega), cond_true, ql (by omega) (by omega), negK_in (by omega), bit_n hS (by omega), wI (x := (i : Int) + 1) (by omega) (by omega), show ((i : Int) + 1) = ((i + 1 : Nat) : Int) by omega]
      cases hb : S.testBit i with
      | false =>
        have : qbk s S (i + 1) = qbk s S i := by
          refine qfo (by rw [qaW, qaW]) fun k hk => ?_
          rw [qaW] at hk
          rw [qcw s S _ (by omega), qcw s S _ (by omega), qhw s S _ i hx.2.1, hb]
          rfl
        rw [this]
        rfl
      | true =>
        obtain ⟨out', e1, e2, e3⟩ := R32_ok (s := s) (ld := gd s.2.1 (i : Int)) hx.2.1 hx.2.2.1 N (chn s.1 (gd s.2.1 (i : Int)).1 ++ [-1])
          (fun x hm => by
            rcases List.mem_append.1 hm with h1 | h1
            · have := qd3 hu _ (by omega) hx.1.2 x h1
              right; omega
            · left; simpa using h1)
          (ix_nodup h hx.1.1 hx.1.2) (qbk s S i) (qaW s S i) (fun k hk => by
            have hk : k ≤ s.1.length := by
              obtain ⟨y, hy, rfl⟩ := List.mem_map.1 hk
              unfold ix
              rcases List.mem_append.1 hy with h1 | h1
              · have := qd3 hu _ (by omega) hx.1.2 y h1
                split <;> omega
              · split <;> simp_all
            rw [qcw s S i hk, qkf s S _ i hx.2.1]
            have := qkw h S (bO s.1.length k) (gd s.2.1 (i : Int)).2.1 i (by omega)
            exact ⟨rfl, by omega, by omega⟩)
        have e4 : out' = qbk s S (i + 1) := by
          refine qfo (by rw [e2, qaW]) fun k hk => ?_
          have hk : k ≤ s.1.length := by omega
          rw [e3 k hk, qcw s S _ hk, qcw s S _ hk, qhw s S _ i hx.2.1, hb, Bool.true_and]
          by_cases hm : k ∈ (chn s.1 (gd s.2.1 (i : Int)).1 ++ [-1]).map (ix s.1.length)
          · rw [if_pos hm, if_pos ((qjQ h hx.1.1 hx.1.2 hk).1 hm)]
          · rw [if_neg hm, if_neg (fun hh => hm ((qjQ h hx.1.1 hx.1.2 hk).2 hh))]
        refine (up_k hu (by omega) (by omega) (by omega) (fun l6 => qa (R32_7 N l6 (s, qbk s S i, gd s.2.1 (i : Int), ())) fun o5 => cond (X.same .norm o5.1) (L32_3 N (((S : Int), s, s.2.1, (s.2.1.length : Int), ((i + 1 : Nat) : Int), ()), (o5.2.1, ()), ())) none)).trans ?_
        rw [e1, qb, e4]
        rfl)
  have e' : L32_3 fuel (((S : Int), s, s.2.1, (s.2.1.length : Int), 0, ()), (qbk s S 0, ()), ()) = _ := e
  rw [e', qb]
theorem loopFst {D R : Type} {L : Nat → D → Option R} (mk : Nat → D) (n : Nat) (q : Nat → Bool) (hit : Nat → R) (e : R) (c : Nat) {N : Nat} (hN : n + c < N)
    (hend : ∀ N, L (N + 1) (mk n) = some e)
    (hstep : ∀ N i, c ≤ N → i < n → L (N + 1) (mk i) = if q i then some (hit i) else L N (mk (i + 1))) :
    L N (mk 0) = some (match (List.range n).find? q with | some i => hit i | none => e) := by
  have key : ∀ (d i : Nat) (N : Nat), i + d = n → d + c < N → L N (mk i) = some (match (List.range' i d).find? q with | some i => hit i | none => e) := by
    intro d
    induction d with
    | zero =>
      intro i N hi hN
      obtain ⟨m, rfl⟩ : ∃ m, N = m + 1 := ⟨N - 1, by omega⟩
      obtain rfl : i = n := by omega
      rw [hend]
      rfl
    | succ d ih =>
      intro i N hi hN
      obtain ⟨m, rfl⟩ : ∃ m, N = m + 1 := ⟨N - 1, by omega⟩
      rw [hstep m i (by omega) (by omega), List.range'_succ, List.find?_cons]
      cases q i with
      | true => rfl
      | false => rw [if_neg (by simp), ih (i + 1) m (by omega) (by omega)]
  rw [List.range_eq_range']
  exact key n 0 N (by omega) hN
def brs (s : Sup) (b : Int) : Int := if b < 0 then s.2.2.1 else (gd s.1 b).2.1
def mx3 (s : Sup) (S : Nat) (b : Int) : Int := max (max (cur s S b 0) (cur s S b 1)) (cur s S b 2)
def ovr (s : Sup) (S : Nat) (b : Int) : Bool := decide (mx3 s S b > brs s b)
theorem g111_eq (a b c : Int) : g111 ([a, b, c], ()) = some ((max (max a b) c, ()), ()) := by
  show F111 fuel [a, b, c] = _
  unfold F111
  rw [jG (by omega) (by omega), ql (by omega) (by simp), jG (by omega) (by omega), ql (by omega) (by simp), jG (by omega) (by omega), ql (by omega) (by simp)]
  rfl
theorem g111_row (s : Sup) (S : Nat) (b : Int) : g111 (row3 s S b s.2.1.length, ()) = some ((mx3 s S b, ()), ()) := g111_eq _ _ _
theorem g112_eq (s : Sup) {k : Nat} (hk : k ≤ s.1.length) : g112 (s, (k : Int), ()) = some ((brs s (bO s.1.length k), ()), ()) := by
  show F112 fuel s (k : Int) = _
  unfold F112 brs bO
  by_cases h : k = s.1.length
  · have : ((k : Int) == (s.1.length : Int)) = true := by simp [h]
    rw [this, if_pos h, if_pos (by omega)]; rfl
  · have h1 : ((k : Int) == (s.1.length : Int)) = false := beq_eq_false_iff_ne.2 (by omega)
    have h2 : ((k : Int) == -1) = false := beq_eq_false_iff_ne.2 (by omega)
    rw [h1, h2, if_neg h, if_neg (by omega), cond_false, cond_false, ql (by omega) (by omega)]
def fo (s : Sup) (S : Nat) : Option Nat := (List.range (s.1.length + 1)).find? fun i => ovr s S ((i : Int) - 1)
def foR (s : Sup) (S : Nat) : Int × (Bool × Unit) := match fo s S with | some i => ((i : Int) - 1, true, ()) | none => (0, false, ())
theorem fo_eq (s : Sup) (S : Nat) : fo s S = if ovr s S (-1) then some 0 else ((List.range s.1.length).find? fun (k : Nat) => ovr s S (k : Int)).map (· + 1) := by
  unfold fo
  rw [List.range_succ_eq_map, List.find?_cons]
  have h1 : ((0 : Nat) : Int) - 1 = -1 := rfl
  rw [h1]
  cases ovr s S (-1) with
  | true => rfl
  | false =>
    rw [if_neg (by simp), List.find?_map]
    have : ((fun (i : Nat) => ovr s S ((i : Int) - 1)) ∘ Nat.succ) = fun (k : Nat) => ovr s S (k : Int) := by
      funext k
      show ovr s S (((k + 1 : Nat) : Int) - 1) = _
      rw [show (((k + 1 : Nat) : Int) - 1) = (k : Int) by omega]
    rw [this]
theorem g92_eq {s : Sup} (h : okS s = true) {S : Nat} (hS : S < 4611686018427387904) : g92 (s, (S : Int), ()) = some (foR s S, ()) := by
  show F92 fuel s (S : Int) = _
  unfold F92
  have hl := qc6 h
  have hf := qY
  rw [g32_eq h hS, qb]
  show jQ (s.1.length : Int) (qbk s S s.2.1.length).length (qi (qbk s S s.2.1.length) (s.1.length : Int) _) = _
  rw [jG (by omega) (by rw [qaW]; omega), ql (by omega) (by rw [qaW]; omega), qcw s S _ (Nat.le_refl _), g111_row, qb]
  have hb : bO s.1.length s.1.length = -1 := by unfold bO; rw [if_pos rfl]
  rw [hb]
  unfold foR
  rw [fo_eq]
  have ho : ovr s S (-1) = decide (mx3 s S (-1) > s.2.2.1) := rfl
  rw [ho]
  by_cases h0 : mx3 s S (-1) > s.2.2.1
  · rw [qs h0]; rfl
  · rw [qy h0, cond_false, if_neg (by simp)]
    have e := loopFst (L := L92_5) (fun i => (((s.1.length : Int), (i : Int), ()), (s, qbk s S s.2.1.length, ()), ())) s.1.length (fun k => ovr s S (k : Int)) (fun i => .inl (((i : Int), true, ()), (), ())) (.inr ((), (), ())) 0 (N := fuel) (by omega)
      (fun N => by
        simp only [L92_5, B92_5]
        rw [qy (by omega)]; rfl)
      (fun N i _ hi => by
        simp only [L92_5, B92_5]
        have hbo : bO s.1.length i = (i : Int) := by unfold bO; rw [if_neg (by omega)]
        rw [qs (by omega), cond_true, jG (by omega) (by rw [qaW]; omega), ql (by omega) (by rw [qaW]; omega), qcw s S _ (by omega), g111_row, qb, g112_eq s (by omega), qb, hbo, wI (by omega) (by omega)]
        show (bif ovr s S (i : Int) then _ else _) = _
        cases ovr s S (i : Int) <;> rfl)
    have e' : L92_5 fuel (((s.1.length : Int), 0, ()), (s, qbk s S s.2.1.length, ()), ()) = _ := e
    show qa (L92_5 fuel (((s.1.length : Int), 0, ()), (s, qbk s S s.2.1.length, ()), ())) _ = _
    rw [e', qb]
    cases (List.range s.1.length).find? fun (k : Nat) => ovr s S (k : Int) with
    | none => rfl
    | some k =>
      show some (((k : Int), true, ()), ()) = some ((((k + 1 : Nat) : Int) - 1, true, ()), ())
      rw [show (((k + 1 : Nat) : Int) - 1) = (k : Int) by omega]
def dly (s : Sup) (b : Int) : Int := if b < 0 then s.2.2.2.1 else (gd s.1 b).2.2.1
def ov1 (s : Sup) (S : Nat) (ov : List Int) (k : Nat) : Int := if mx3 s S (bO s.1.length k) ≤ brs s (bO s.1.length k) then 0 else gd ov (k : Int) + 1
def brd (s : Sup) (S : Nat) (q : (List Bool) × ((List Int) × (List Int))) (k : Nat) : (List Bool) × ((List Int) × (List Int)) :=
  if ov1 s S q.2.1 k > dly s (bO s.1.length k) then (q.1.set k false, q.2.1.set k 0, q.2.2 ++ [(k : Int)]) else (q.1, q.2.1.set k (ov1 s S q.2.1 k), q.2.2)
def qdi (s : Sup) (S : Nat) (q : (List Bool) × ((List Int) × (List Int))) : Nat → (List Bool) × ((List Int) × (List Int))
  | 0 => q
  | k + 1 => brd s S (qdi s S q k) k
structure QOK (n : Nat) (B : Int) (q : (List Bool) × ((List Int) × (List Int))) (k : Nat) : Prop where
  l1 : q.1.length = n + 1
  l2 : q.2.1.length = n + 1
  bd : ∀ j : Nat, j ≤ n → 0 ≤ gd q.2.1 (j : Int) ∧ gd q.2.1 (j : Int) ≤ (if j < k then B + 1 else B)
  op : q.2.2.length ≤ k
theorem ov1_bd {s : Sup} {S : Nat} {ov : List Int} {k : Nat} {B : Int} (h : 0 ≤ gd ov (k : Int) ∧ gd ov (k : Int) ≤ B) : 0 ≤ ov1 s S ov k ∧ ov1 s S ov k ≤ B + 1 := by
  unfold ov1
  split <;> omega
theorem qaT {α : Type} [Inhabited α] {l : List α} {i j : Nat} {c : α} (h : i < l.length) : gd (l.set i c) (j : Int) = if j = i then c else gd l (j : Int) := by
  by_cases e : j = i
  · subst e
    rw [if_pos rfl]
    have := qao (l := l) (i := (j : Int)) (c := c) (by omega) (by omega)
    rwa [Int.toNat_natCast] at this
  · rw [if_neg e]
    have := qbh (l := l) (i := (i : Int)) (j := (j : Int)) (c := c) (by omega) (by omega) (by omega)
    rwa [Int.toNat_natCast] at this
theorem brd_ok {s : Sup} {S : Nat} {B : Int} {q : (List Bool) × ((List Int) × (List Int))} {k : Nat} (hB : 0 ≤ B) (hk : k ≤ s.1.length) (h : QOK s.1.length B q k) : QOK s.1.length B (brd s S q k) (k + 1) := by
  have hb := h.bd k hk
  rw [if_neg (by omega)] at hb
  have ho := ov1_bd (s := s) (S := S) hb
  unfold brd
  split
  · refine ⟨by simp [h.l1], by simp [h.l2], fun j hj => ?_, by have := h.op; simp; omega⟩
    show 0 ≤ gd (q.2.1.set k 0) (j : Int) ∧ _
    rw [qaT (by have := h.l2; omega)]
    have := h.bd j hj
    split
    · split <;> omega
    · by_cases h1 : j < k
      · rw [if_pos h1] at this; rw [if_pos (by omega)]; exact this
      · rw [if_neg h1] at this; rw [if_neg (by omega)]; exact this
  · refine ⟨h.l1, by simp [h.l2], fun j hj => ?_, by have := h.op; simp; omega⟩
    show 0 ≤ gd (q.2.1.set k _) (j : Int) ∧ _
    rw [qaT (by have := h.l2; omega)]
    have := h.bd j hj
    by_cases e : j = k
    · rw [if_pos e, if_pos (by omega)]; exact ho
    · rw [if_neg e]
      by_cases h1 : j < k
      · rw [if_pos h1] at this; rw [if_pos (by omega)]; exact this
      · rw [if_neg h1] at this; rw [if_neg (by omega)]; exact this
theorem qky {s : Sup} {S : Nat} {B : Int} {q : (List Bool) × ((List Int) × (List Int))} (hB : 0 ≤ B) (h : QOK s.1.length B q 0) : ∀ k, k ≤ s.1.length + 1 → QOK s.1.length B (qdi s S q k) k
  | 0, _ => h
  | k + 1, hk => brd_ok hB (by omega) (qky hB h k (by omega))
def okX (s : Sup) (ticks : Int) (x : Swi) : Bool :=
  jA x.1 0 (ticks - 1) && (if x.2.1 = 1 ∨ x.2.1 = 2 then jA x.2.2 0 ((s.2.1.length : Int) - 1) else if x.2.1 = 3 then jA x.2.2 0 ((s.1.length : Int) - 1) else if x.2.1 = 4 ∨ x.2.1 = 5 then x.2.2 == 0 else false)
def trn (n : Nat) (st : Nat × List Bool) (x : Swi) : Nat × List Bool :=
  if x.2.1 = 1 then (st.1 ||| 2 ^ x.2.2.toNat, st.2) else if x.2.1 = 2 then (dif st.1 (2 ^ x.2.2.toNat), st.2) else if x.2.1 = 3 then (st.1, st.2.set x.2.2.toNat true) else (st.1, st.2.set n (x.2.1 == 4))
theorem trn_ok {s : Sup} (hl : s.1.length ≤ 10 ∧ s.2.1.length ≤ 16) {ticks : Int} {x : Swi} (hx : okX s ticks x = true) {st : Nat × List Bool} (h : st.1 < 65536 ∧ st.2.length = s.1.length + 1) : (trn s.1.length st x).1 < 65536 ∧ (trn s.1.length st x).2.length = s.1.length + 1 := by
  unfold okX at hx
  rw [Bool.and_eq_true] at hx
  have hx := hx.2
  unfold trn
  split
  · rename_i h1
    rw [if_pos (.inl h1), qN] at hx
    exact ⟨Nat.or_lt_two_pow (n := 16) h.1 (Nat.pow_lt_pow_right (by omega) (by omega)), h.2⟩
  · split
    · exact ⟨Nat.lt_of_le_of_lt (dif_le _ _) h.1, h.2⟩
    · split
      · exact ⟨h.1, by simp [h.2]⟩
      · exact ⟨h.1, by simp [h.2]⟩
def live (s : Sup) (cl : List Bool) (b : Int) : Bool := (chn s.1 b ++ [-1]).all fun x => gd cl ((ix s.1.length x : Nat) : Int)
def drwK (s : Sup) (on : Nat) (cl : List Bool) : Nat → Nat
  | 0 => 0
  | i + 1 => if on.testBit i && live s cl (gd s.2.1 (i : Int)).1 then drwK s on cl i ||| 2 ^ i else drwK s on cl i
def drw (s : Sup) (on : Nat) (cl : List Bool) : Nat := drwK s on cl s.2.1.length
theorem qiu (s : Sup) (on : Nat) (cl : List Bool) : ∀ n i, (drwK s on cl n).testBit i = (decide (i < n) && (on.testBit i && live s cl (gd s.2.1 (i : Int)).1))
  | 0, i => by simp [drwK]
  | n + 1, i => by
    have ih := qiu s on cl n i
    unfold drwK
    by_cases hi : i = n
    · subst hi
      rw [qy (by omega), Bool.false_and] at ih
      rw [qs (by omega), Bool.true_and]
      cases on.testBit i && live s cl (gd s.2.1 (i : Int)).1 with
      | false => rw [if_neg (by simp), ih]
      | true => rw [if_pos rfl, Nat.testBit_or, Nat.testBit_two_pow_self, Bool.or_true]
    · have hd : decide (i < n + 1) = decide (i < n) := by
        by_cases h : i < n
        · rw [qs h, qs (by omega)]
        · rw [qy h, qy (by omega)]
      rw [hd, ← ih]
      split
      · rw [Nat.testBit_or, Nat.testBit_two_pow_of_ne (by omega), Bool.or_false]
      · rfl
def fixO (n : Nat) (op : List Int) : List Int := match op.findIdx? (· == (n : Int)) with
  | some i => -1 :: (op.take i ++ op.drop (i + 1))
  | none => op
theorem fixO_len (n : Nat) (op : List Int) : (fixO n op).length = op.length := by
  unfold fixO
  split
  · rename_i i hi
    have := (List.findIdx?_eq_some_iff_getElem.1 hi).1
    simp
    omega
  · rfl
def qcV (n : Nat) (l : List Swi) (t : Int) (st : Nat × List Bool) : Nat → Nat × List Bool
  | 0 => st
  | i + 1 => if (gd l (i : Int)).1 = t then trn n (qcV n l t st i) (gd l (i : Int)) else qcV n l t st i
theorem qdR {s : Sup} (hl : s.1.length ≤ 10 ∧ s.2.1.length ≤ 16) {ticks : Int} {l : List Swi} (hx : l.all (okX s ticks) = true) (t : Int) {st : Nat × List Bool} (h : st.1 < 65536 ∧ st.2.length = s.1.length + 1) : ∀ i, i ≤ l.length → (qcV s.1.length l t st i).1 < 65536 ∧ (qcV s.1.length l t st i).2.length = s.1.length + 1
  | 0, _ => h
  | i + 1, hi => by
    have ih := qdR hl hx t h i (by omega)
    unfold qcV
    split
    · exact trn_ok hl (List.all_eq_true.1 hx _ (qay (by omega) (by omega))) ih
    · exact ih
structure PSt where
  rows : List Int
  trips : List (Int × Int)
  on : Nat
  cl : List Bool
  ov : List Int
def qaH (s : Sup) (l : List Swi) (t : Int) (p : PSt) : Nat × List Bool := qcV s.1.length l t (p.on, p.cl) l.length
def j5 (s : Sup) (l : List Swi) (t : Int) (p : PSt) : Nat := drw s (qaH s l t p).1 (qaH s l t p).2
def qiM (s : Sup) (l : List Swi) (t : Int) (p : PSt) : (List Bool) × ((List Int) × (List Int)) := qdi s (j5 s l t p) ((qaH s l t p).2, p.ov, []) (s.1.length + 1)
def tick (s : Sup) (l : List Swi) (t : Int) (p : PSt) : PSt :=
  ⟨p.rows ++ [((j5 s l t p : Nat) : Int)], p.trips ++ (fixO s.1.length (qiM s l t p).2.2).map (fun b => (t, b)), (qaH s l t p).1, (qiM s l t p).1, (qiM s l t p).2.1⟩
def ply0 (s : Sup) : PSt := ⟨[], [], 0, List.replicate (s.1.length + 1) true, List.replicate (s.1.length + 1) 0⟩
def ply (s : Sup) (l : List Swi) : Nat → PSt
  | 0 => ply0 s
  | t + 1 => tick s l (t : Int) (ply s l t)
structure POK (s : Sup) (t : Nat) (p : PSt) : Prop where
  rl : p.rows.length = t
  tl : p.trips.length ≤ 11 * t
  on : p.on < 65536
  cl : p.cl.length = s.1.length + 1
  ol : p.ov.length = s.1.length + 1
  bd : ∀ j : Nat, j ≤ s.1.length → 0 ≤ gd p.ov (j : Int) ∧ gd p.ov (j : Int) ≤ t
theorem POK.q {s : Sup} {l : List Swi} {t : Int} {n : Nat} {p : PSt} (h : POK s n p) (hst : (qaH s l t p).2.length = s.1.length + 1) : QOK s.1.length n ((qaH s l t p).2, p.ov, []) 0 :=
  ⟨hst, h.ol, fun j hj => by have := h.bd j hj; rw [if_neg (by omega)]; exact this, Nat.le_refl _⟩
theorem tick_ok {s : Sup} (hl : s.1.length ≤ 10 ∧ s.2.1.length ≤ 16) {ticks : Int} {l : List Swi} (hx : l.all (okX s ticks) = true) (t : Int) {n : Nat} {p : PSt} (h : POK s n p) : POK s (n + 1) (tick s l t p) := by
  have h1 := qdR hl hx t (st := (p.on, p.cl)) ⟨h.on, h.cl⟩ l.length (Nat.le_refl _)
  have hq := qky (S := j5 s l t p) (B := (n : Int)) (by omega) (h.q (l := l) (t := t) h1.2) (s.1.length + 1) (Nat.le_refl _)
  refine ⟨by show (p.rows ++ [_]).length = _; simp [h.rl], ?_, h1.1, hq.l1, hq.l2, fun j hj => ?_⟩
  · show (p.trips ++ _).length ≤ _
    have := hq.op
    rw [List.length_append, List.length_map, fixO_len]
    have := h.tl
    show p.trips.length + (qdi s (j5 s l t p) ((qaH s l t p).2, p.ov, []) (s.1.length + 1)).2.2.length ≤ _
    omega
  · have := hq.bd j hj
    rw [if_pos (by omega)] at this
    exact ⟨this.1, by have := this.2; show _ ≤ ((n + 1 : Nat) : Int); exact Int.le_trans this (by omega)⟩
theorem ply0_ok (s : Sup) : POK s 0 (ply0 s) := ⟨rfl, Nat.zero_le _, by show 0 < 65536; omega, by simp [ply0], by simp [ply0], fun j hj => by
  show 0 ≤ gd (List.replicate (s.1.length + 1) (0 : Int)) (j : Int) ∧ gd (List.replicate (s.1.length + 1) (0 : Int)) (j : Int) ≤ 0
  rw [qaU (by omega) (by omega)]
  omega⟩
theorem ply_ok {s : Sup} (hl : s.1.length ≤ 10 ∧ s.2.1.length ≤ 16) {ticks : Int} {l : List Swi} (hx : l.all (okX s ticks) = true) : ∀ t, POK s t (ply s l t)
  | 0 => ply0_ok s
  | t + 1 => tick_ok hl hx t (ply_ok hl hx t)
theorem okS_pw {s : Sup} (h : okS s = true) : 1 ≤ s.2.2.1 ∧ s.2.2.1 ≤ 1000 := by
  unfold okS at h
  simp only [Bool.and_eq_true, decide_eq_true_iff] at h
  exact qN.1 h.2.2.1
theorem okS_bd {s : Sup} (h : okS s = true) {b : Int} (h0 : 0 ≤ b) (h1 : b < s.1.length) : (-1 ≤ (gd s.1 b).1 ∧ (gd s.1 b).1 < b) ∧ (1 ≤ (gd s.1 b).2.1 ∧ (gd s.1 b).2.1 ≤ 1000) ∧ (0 ≤ (gd s.1 b).2.2.1 ∧ (gd s.1 b).2.2.1 ≤ 20) ∧ (1 ≤ (gd s.1 b).2.2.2 ∧ (gd s.1 b).2.2.2 ≤ 10000) := by
  unfold okS at h
  simp only [Bool.and_eq_true, decide_eq_true_iff, List.all_eq_true, List.mem_range] at h
  have := h.2.2.2.2.2.1 b.toNat (by omega)
  rw [show ((b.toNat : Nat) : Int) = b by omega] at this
  unfold okB at this
  simp only [Bool.and_eq_true, qN] at this
  omega
theorem brs_pos {s : Sup} (h : okS s = true) {b : Int} (h1 : b < s.1.length) : 1 ≤ brs s b ∧ brs s b ≤ 1000 := by
  unfold brs
  have := okS_pw h
  split
  · exact this
  · exact (okS_bd h (b := b) (by omega) h1).2.1
theorem qks {s : Sup} {S : Nat} : fo s S = none ↔ ∀ i : Nat, i ≤ s.1.length → ovr s S ((i : Int) - 1) = false := by
  unfold fo
  rw [List.find?_eq_none]
  constructor
  · intro h i hi
    have := h i (List.mem_range.2 (by omega))
    rwa [Bool.not_eq_true] at this
  · intro h i hi
    rw [h i (by have := List.mem_range.1 hi; omega)]
    decide
theorem foR_1 (s : Sup) (S : Nat) : (foR s S).2.1 = (fo s S).isSome := by
  unfold foR
  cases fo s S <;> rfl
theorem okC_in {s : Sup} {S : Nat} (h : okS s = true) (hS : S < 2 ^ s.2.1.length) : okC s (S : Int) = 0 := by
  unfold okC
  rw [if_pos h, if_pos (qN.2 ⟨by omega, by omega⟩)]
theorem g63_ok {s : Sup} {S : Nat} (h : okS s = true) (hS : S < 2 ^ s.2.1.length) : g63 (s, (S : Int), ()) = some (((foR s S).1, (fo s S).isNone, 0, ()), ()) := by
  show F63 fuel s (S : Int) = _
  unfold F63
  have hp := pow16 (qc6 h).2
  rw [g31_eq, qb, okC_in h hS, g92_eq h (by omega)]
  show some (((foR s S).1, !(foR s S).2.1, 0, ()), ()) = _
  rw [foR_1]
  cases fo s S <;> rfl
def agn1 (t b : Int) (x : Swi) : Bool := x.1 == t && (if 0 ≤ b then x.2.1 == 3 && x.2.2 == b else x.2.1 == 4)
def agn (l : List Swi) (t b : Int) : Bool := l.any (agn1 t b)
def opn (s : Sup) (S : Nat) (ov : List Int) (k : Nat) : Bool := decide (ov1 s S ov k > dly s (bO s.1.length k))
theorem ov1_eq {s : Sup} {S : Nat} {ov ov' : List Int} {k : Nat} (h : gd ov (k : Int) = gd ov' (k : Int)) : ov1 s S ov k = ov1 s S ov' k := by
  unfold ov1
  rw [h]
theorem qiA {s : Sup} {S : Nat} {q : (List Bool) × ((List Int) × (List Int))} (h1 : q.1.length = s.1.length + 1) (h2 : q.2.1.length = s.1.length + 1) : ∀ m, m ≤ s.1.length + 1 →
    (qdi s S q m).1.length = s.1.length + 1 ∧ (qdi s S q m).2.1.length = s.1.length + 1 ∧
    (∀ j : Nat, gd (qdi s S q m).1 (j : Int) = if j < m ∧ opn s S q.2.1 j = true then false else gd q.1 (j : Int)) ∧
    (∀ j : Nat, gd (qdi s S q m).2.1 (j : Int) = if j < m then (if opn s S q.2.1 j = true then 0 else ov1 s S q.2.1 j) else gd q.2.1 (j : Int)) ∧
    (qdi s S q m).2.2 = q.2.2 ++ ((List.range m).filter (opn s S q.2.1)).map (fun (k : Nat) => (k : Int))
  | 0, _ => ⟨h1, h2, fun j => by rw [if_neg (by omega)]; rfl, fun j => by rw [if_neg (by omega)]; rfl, by simp [qdi]⟩
  | m + 1, hm => by
    obtain ⟨i1, i2, i3, i4, i5⟩ := qiA (S := S) h1 h2 m (by omega)
    have ho : ov1 s S (qdi s S q m).2.1 m = ov1 s S q.2.1 m := ov1_eq (by rw [i4, if_neg (by omega)])
    have hs : qdi s S q (m + 1) = brd s S (qdi s S q m) m := rfl
    rw [hs]
    unfold brd
    rw [ho, List.range_succ, List.filter_append]
    by_cases hop : ov1 s S q.2.1 m > dly s (bO s.1.length m)
    · have hopn : opn s S q.2.1 m = true := qs hop
      rw [if_pos hop]
      refine ⟨by simp [i1], by simp [i2], fun j => ?_, fun j => ?_, ?_⟩
      · show gd ((qdi s S q m).1.set m false) (j : Int) = _
        rw [qaT (by omega), i3]
        by_cases e : j = m
        · rw [if_pos e, if_pos ⟨by omega, by rw [e]; exact hopn⟩]
        · rw [if_neg e]
          by_cases h : j < m ∧ opn s S q.2.1 j = true
          · rw [if_pos h, if_pos ⟨by omega, h.2⟩]
          · rw [if_neg h, if_neg (fun hh => h ⟨by omega, hh.2⟩)]
      · show gd ((qdi s S q m).2.1.set m 0) (j : Int) = _
        rw [qaT (by omega), i4]
        by_cases e : j = m
        · rw [if_pos e, if_pos (show j < m + 1 by omega), e, if_pos hopn]
        · rw [if_neg e]
          by_cases h : j < m
          · rw [if_pos h, if_pos (show j < m + 1 by omega)]
          · rw [if_neg h, if_neg (show ¬ j < m + 1 by omega)]
      · show (qdi s S q m).2.2 ++ [(m : Int)] = _
        rw [i5]
        simp [hopn]
    · have hopn : opn s S q.2.1 m = false := qy hop
      rw [if_neg hop]
      refine ⟨i1, by simp [i2], fun j => ?_, fun j => ?_, ?_⟩
      · show gd (qdi s S q m).1 (j : Int) = _
        rw [i3]
        by_cases h : j < m ∧ opn s S q.2.1 j = true
        · rw [if_pos h, if_pos ⟨by omega, h.2⟩]
        · rw [if_neg h, if_neg]
          rintro ⟨a, b⟩
          refine h ⟨?_, b⟩
          by_cases e : j = m
          · rw [e, hopn] at b; cases b
          · omega
      · show gd ((qdi s S q m).2.1.set m _) (j : Int) = _
        rw [qaT (by omega), i4]
        by_cases e : j = m
        · rw [if_pos e, if_pos (show j < m + 1 by omega), e, if_neg (by rw [hopn]; decide)]
        · rw [if_neg e]
          by_cases h : j < m
          · rw [if_pos h, if_pos (show j < m + 1 by omega)]
          · rw [if_neg h, if_neg (show ¬ j < m + 1 by omega)]
      · show (qdi s S q m).2.2 = _
        rw [i5]
        simp [hopn]
theorem qf9 {s : Sup} (hl : s.1.length ≤ 10 ∧ s.2.1.length ≤ 16) {ticks : Int} {l : List Swi} (hx : l.all (okX s ticks) = true) (t : Int) {st : Nat × List Bool} (h : st.1 < 65536 ∧ st.2.length = s.1.length + 1) {k : Nat} (hk : k ≤ s.1.length) :
    ∀ i, i ≤ l.length → gd (qcV s.1.length l t st i).2 (k : Int) = true → gd st.2 (k : Int) = true ∨ agn l t (bO s.1.length k) = true
  | 0, _, hc => .inl hc
  | i + 1, hi, hc => by
    have hok := qdR hl hx t h i (by omega)
    have ih := qf9 hl hx t h hk i (by omega)
    have hmem : gd l (i : Int) ∈ l := qay (by omega) (by omega)
    have hxi := List.all_eq_true.1 hx _ hmem
    have hagn : agn1 t (bO s.1.length k) (gd l (i : Int)) = true → agn l t (bO s.1.length k) = true := fun ha => List.any_eq_true.2 ⟨_, hmem, ha⟩
    unfold qcV at hc
    split at hc
    case isFalse => exact ih hc
    rename_i ht
    unfold trn at hc
    split at hc
    · exact ih hc
    split at hc
    · exact ih hc
    rename_i hk1 hk2
    unfold okX at hxi
    rw [Bool.and_eq_true, if_neg (fun hh => hh.elim hk1 hk2)] at hxi
    have hxi := hxi.2
    split at hc
    · rename_i h3
      rw [if_pos h3, qN] at hxi
      have hc : gd ((qcV s.1.length l t st i).2.set (gd l (i : Int)).2.2.toNat true) (k : Int) = true := hc
      rw [qaT (by omega)] at hc
      split at hc
      · rename_i e
        right
        refine hagn ?_
        unfold agn1 bO
        rw [if_neg (show ¬ k = s.1.length by omega), if_pos (show (0 : Int) ≤ (k : Int) by omega)]
        simp only [Bool.and_eq_true, beq_iff_eq]
        exact ⟨ht, h3, by omega⟩
      · exact ih hc
    · have hc : gd ((qcV s.1.length l t st i).2.set s.1.length ((gd l (i : Int)).2.1 == 4)) (k : Int) = true := hc
      rw [qaT (by omega)] at hc
      split at hc
      · rename_i e
        right
        refine hagn ?_
        unfold agn1 bO
        rw [if_pos e, if_neg (show ¬ (0 : Int) ≤ -1 by omega), hc]
        simp [ht]
      · exact ih hc
theorem qdg {s : Sup} (hs : okS s = true) (on : Nat) {cl : List Bool} {k : Nat} (hk : k ≤ s.1.length) (hc : gd cl (k : Int) = false) (ph : Int) : ∀ i, i ≤ s.2.1.length → qdf s (drw s on cl) (bO s.1.length k) ph i = 0
  | 0, _ => rfl
  | i + 1, hi => by
    have hx := qhD (qe9 hs (k := i) (by omega))
    unfold qdf
    rw [qdg hs on hk hc ph i (by omega), if_neg, Int.zero_add]
    rw [Bool.and_eq_true, Bool.and_eq_true]
    rintro ⟨h1, _, h2⟩
    unfold drw at h1
    rw [qiu, Bool.and_eq_true, Bool.and_eq_true] at h1
    have h3 := h1.2.2
    unfold live at h3
    rw [List.all_eq_true] at h3
    have hm := (qjQ hs hx.1.1 hx.1.2 hk).2 h2
    obtain ⟨x, hx1, hx2⟩ := List.mem_map.1 hm
    have := h3 x hx1
    rw [hx2, hc] at this
    cases this
theorem qj3 {s : Sup} (hs : okS s = true) (on : Nat) {cl : List Bool} {k : Nat} (hk : k ≤ s.1.length) (hc : gd cl (k : Int) = false) : ovr s (drw s on cl) (bO s.1.length k) = false := by
  have hb : bO s.1.length k < s.1.length := by unfold bO; split <;> omega
  have := brs_pos hs hb
  unfold ovr mx3 cur
  rw [qdg hs on hk hc _ _ (Nat.le_refl _), qdg hs on hk hc _ _ (Nat.le_refl _), qdg hs on hk hc _ _ (Nat.le_refl _), qy]
  omega
theorem qj1 {s : Sup} (h : okS s = true) {b : Int} (hb : b < s.1.length) : 0 ≤ dly s b ∧ dly s b ≤ 20 := by
  unfold dly
  split
  · unfold okS at h
    simp only [Bool.and_eq_true, decide_eq_true_iff] at h
    exact qN.1 h.2.2.2.1
  · exact (okS_bd h (b := b) (by omega) hb).2.2.1
theorem qh4 {s : Sup} (hl : s.1.length ≤ 10 ∧ s.2.1.length ≤ 16) {ticks : Int} {l : List Swi} (hx : l.all (okX s ticks) = true) (t : Int) {n : Nat} {p : PSt} (h : POK s n p) {k : Nat} (hk : k ≤ s.1.length) :
    gd (tick s l t p).cl (k : Int) = (if opn s (j5 s l t p) p.ov k = true then false else gd (qaH s l t p).2 (k : Int)) ∧
    gd (tick s l t p).ov (k : Int) = (if opn s (j5 s l t p) p.ov k = true then 0 else ov1 s (j5 s l t p) p.ov k) := by
  have h1 := qdR hl hx t (st := (p.on, p.cl)) ⟨h.on, h.cl⟩ l.length (Nat.le_refl _)
  obtain ⟨_, _, a3, a4, _⟩ := qiA (s := s) (S := j5 s l t p) (q := ((qaH s l t p).2, p.ov, [])) h1.2 h.ol (s.1.length + 1) (Nat.le_refl _)
  have b3 := a3 k
  have b4 := a4 k
  refine ⟨b3.trans ?_, b4.trans ?_⟩
  · by_cases e : opn s (j5 s l t p) p.ov k = true
    · rw [if_pos e, if_pos ⟨by omega, e⟩]
    · rw [if_neg e, if_neg (fun hh => e hh.2)]
  · rw [if_pos (by omega)]
structure LInv (s : Sup) (k : Nat) (p : PSt) (row : Int) : Prop where
  nn : 0 ≤ row
  le : row ≤ dly s (bO s.1.length k) + 1
  ov : gd p.ov (k : Int) ≤ dly s (bO s.1.length k)
  cl : gd p.cl (k : Int) = true → row ≤ gd p.ov (k : Int)
def rowN (s : Sup) (l : List Swi) (t : Int) (S : Nat) (b row : Int) : Int := if ovr s S b = true then (if agn l t b = true then 1 else row + 1) else 0
theorem LInv.step {s : Sup} (hs : okS s = true) {ticks : Int} {l : List Swi} (hx : l.all (okX s ticks) = true) (t : Int) {n : Nat} {p : PSt} (h : POK s n p) {k : Nat} (hk : k ≤ s.1.length) {row : Int} (hi : LInv s k p row) :
    LInv s k (tick s l t p) (rowN s l t (j5 s l t p) (bO s.1.length k) row) := by
  have hl := qc6 hs
  obtain ⟨c1, c2⟩ := qh4 hl hx t h hk
  have hb : bO s.1.length k < s.1.length := by unfold bO; split <;> omega
  have hd := qj1 hs hb
  have hov := h.bd k hk
  have hov2 := hi.ov
  have hnn := hi.nn
  unfold rowN
  by_cases ho : ovr s (j5 s l t p) (bO s.1.length k) = true
  · have ho1 : ov1 s (j5 s l t p) p.ov k = gd p.ov (k : Int) + 1 := by
      unfold ovr at ho
      have := of_decide_eq_true ho
      unfold ov1
      rw [if_neg (by omega)]
    rw [if_pos ho]
    have hcl : gd (qaH s l t p).2 (k : Int) = true := by
      cases hc : gd (qaH s l t p).2 (k : Int) with
      | true => rfl
      | false =>
        have := qj3 hs (qaH s l t p).1 hk hc
        unfold j5 at ho
        rw [this] at ho
        cases ho
    have hrow : 0 ≤ (if agn l t (bO s.1.length k) = true then 1 else row + 1) ∧ (if agn l t (bO s.1.length k) = true then 1 else row + 1) ≤ gd p.ov (k : Int) + 1 := by
      by_cases ha : agn l t (bO s.1.length k) = true
      · rw [if_pos ha]; omega
      · rw [if_neg ha]
        rcases qf9 hl hx t (st := (p.on, p.cl)) ⟨h.on, h.cl⟩ hk l.length (Nat.le_refl _) hcl with hc | hc
        · have := hi.cl hc
          omega
        · exact absurd hc ha
    refine ⟨hrow.1, by omega, ?_, fun hc => ?_⟩
    · rw [c2]
      by_cases hop : opn s (j5 s l t p) p.ov k = true
      · rw [if_pos hop]; exact hd.1
      · rw [if_neg hop]
        unfold opn at hop
        rw [decide_eq_true_iff] at hop
        omega
    · rw [c2]
      by_cases hop : opn s (j5 s l t p) p.ov k = true
      · rw [c1, if_pos hop] at hc
        cases hc
      · rw [if_neg hop, ho1]
        exact hrow.2
  · rw [if_neg ho]
    have ho1 : ov1 s (j5 s l t p) p.ov k = 0 := by
      unfold ovr at ho
      rw [decide_eq_true_iff] at ho
      unfold ov1
      rw [if_pos (by omega)]
    have : gd (tick s l t p).ov (k : Int) = 0 := by
      rw [c2, ho1]
      split <;> rfl
    exact ⟨Int.le_refl _, by omega, by omega, fun _ => by omega⟩
theorem LInv.zero {s : Sup} (hs : okS s = true) {k : Nat} (hk : k ≤ s.1.length) : LInv s k (ply0 s) 0 := by
  have hb : bO s.1.length k < s.1.length := by unfold bO; split <;> omega
  have hd := qj1 hs hb
  have : gd (ply0 s).ov (k : Int) = 0 := by
    show gd (List.replicate (s.1.length + 1) (0 : Int)) (k : Int) = 0
    rw [qaU (by omega) (by omega)]
  exact ⟨Int.le_refl _, by omega, by omega, fun _ => by omega⟩
def Sub (x S : Nat) : Prop := ∀ i, x.testBit i = true → S.testBit i = true
theorem qd2 {s : Sup} (hs : okS s = true) {x S : Nat} (h : Sub x S) (b ph : Int) : ∀ k, k ≤ s.2.1.length → qdf s x b ph k ≤ qdf s S b ph k
  | 0, _ => Int.le_refl _
  | k + 1, hk => by
    have ih := qd2 hs h b ph k (by omega)
    have ha := qhD (qe9 hs (k := k) (by omega))
    unfold qdf
    by_cases hx : x.testBit k = true
    · rw [hx, h k hx]
      split <;> omega
    · rw [Bool.not_eq_true] at hx
      rw [hx, Bool.false_and, if_neg (by simp)]
      split <;> omega
theorem ovr_mono {s : Sup} (hs : okS s = true) {x S : Nat} (h : Sub x S) {b : Int} (ho : ovr s S b = false) : ovr s x b = false := by
  unfold ovr at *
  rw [decide_eq_false_iff_not] at *
  have m0 := qd2 hs h b 0 _ (Nat.le_refl _)
  have m1 := qd2 hs h b 1 _ (Nat.le_refl _)
  have m2 := qd2 hs h b 2 _ (Nat.le_refl _)
  unfold mx3 cur at *
  omega
theorem fo_bO {s : Sup} {S : Nat} (h : fo s S = none) {k : Nat} (hk : k ≤ s.1.length) : ovr s S (bO s.1.length k) = false := by
  unfold bO
  by_cases e : k = s.1.length
  · rw [if_pos e]
    exact qks.1 h 0 (Nat.zero_le _)
  · rw [if_neg e]
    have := qks.1 h (k + 1) (by omega)
    rwa [show (((k + 1 : Nat) : Int) - 1) = (k : Int) by omega] at this
def tsK (l : List Swi) : Nat → Nat
  | 0 => 0
  | i + 1 => if (gd l (i : Int)).2.1 = 1 then tsK l i ||| 2 ^ (gd l (i : Int)).2.2.toNat else tsK l i
theorem qkb (l : List Swi) : ∀ (d i : Nat), Sub (tsK l i) (tsK l (i + d))
  | 0, _ => fun _ h => h
  | d + 1, i => fun b h => by
    have ih := qkb l d i b h
    show (tsK l (i + d + 1)).testBit b = true
    unfold tsK
    split
    · rw [Nat.testBit_or, ih]; rfl
    · exact ih
theorem tsK_in (l : List Swi) {i n : Nat} (h : i < n) (hk : (gd l (i : Int)).2.1 = 1) : (tsK l n).testBit (gd l (i : Int)).2.2.toNat = true := by
  have := qkb l (n - (i + 1)) (i + 1) (gd l (i : Int)).2.2.toNat (by
    unfold tsK
    rw [if_pos hk, Nat.testBit_or, Nat.testBit_two_pow_self, Bool.or_true])
  rwa [show i + 1 + (n - (i + 1)) = n by omega] at this
theorem okX_num {s : Sup} {ticks : Int} {x : Swi} (h : okX s ticks x = true) (hk : x.2.1 = 1 ∨ x.2.1 = 2) : 0 ≤ x.2.2 ∧ x.2.2 ≤ (s.2.1.length : Int) - 1 := by
  unfold okX at h
  rw [Bool.and_eq_true, if_pos hk] at h
  exact qN.1 h.2
theorem tsK_lt {s : Sup} {ticks : Int} {l : List Swi} (hx : l.all (okX s ticks) = true) : ∀ i, i ≤ l.length → tsK l i < 2 ^ s.2.1.length
  | 0, _ => Nat.two_pow_pos _
  | i + 1, hi => by
    have ih := tsK_lt hx i (by omega)
    unfold tsK
    split
    · rename_i hk
      have := okX_num (List.all_eq_true.1 hx _ (qay (l := l) (i := (i : Int)) (by omega) (by omega))) (.inl hk)
      exact Nat.or_lt_two_pow ih (Nat.pow_lt_pow_right (by omega) (by omega))
    · exact ih
theorem qiL {n : Nat} {l : List Swi} (t : Int) {st : Nat × List Bool} (h : Sub st.1 (tsK l l.length)) : ∀ i, i ≤ l.length → Sub (qcV n l t st i).1 (tsK l l.length)
  | 0, _ => h
  | i + 1, hi => by
    have ih := qiL (n := n) t h i (by omega)
    unfold qcV
    split
    case isFalse => exact ih
    unfold trn
    split
    · rename_i hk
      intro b hb
      have hb : ((qcV n l t st i).1 ||| 2 ^ (gd l (i : Int)).2.2.toNat).testBit b = true := hb
      rw [Nat.testBit_or, Bool.or_eq_true] at hb
      rcases hb with hb | hb
      · exact ih b hb
      · by_cases e : (gd l (i : Int)).2.2.toNat = b
        · rw [← e]
          exact tsK_in l (by omega) hk
        · rw [Nat.testBit_two_pow_of_ne e] at hb
          cases hb
    · split
      · intro b hb
        have hb : (dif (qcV n l t st i).1 (2 ^ (gd l (i : Int)).2.2.toNat)).testBit b = true := hb
        rw [qku, Bool.and_eq_true] at hb
        exact ih b hb.1
      · split <;> exact ih
theorem qkc {s : Sup} (hl : s.1.length ≤ 10 ∧ s.2.1.length ≤ 16) {ticks : Int} {l : List Swi} (hx : l.all (okX s ticks) = true) (t : Int) {st : Nat × List Bool} (h : st.1 < 65536 ∧ st.2.length = s.1.length + 1) {k : Nat} (hk : k < s.1.length) (hc : gd st.2 (k : Int) = true) :
    ∀ i, i ≤ l.length → gd (qcV s.1.length l t st i).2 (k : Int) = true
  | 0, _ => hc
  | i + 1, hi => by
    have hok := qdR hl hx t h i (by omega)
    have ih := qkc hl hx t h hk hc i (by omega)
    unfold qcV
    split
    case isFalse => exact ih
    unfold trn
    split
    · exact ih
    split
    · exact ih
    split
    · show gd ((qcV s.1.length l t st i).2.set _ true) (k : Int) = true
      by_cases hn : (gd l (i : Int)).2.2.toNat < (qcV s.1.length l t st i).2.length
      · rw [qaT hn]
        split
        · rfl
        · exact ih
      · rw [List.set_eq_of_length_le (by omega)]
        exact ih
    · show gd ((qcV s.1.length l t st i).2.set _ _) (k : Int) = true
      rw [qaT (by omega), if_neg (by omega)]
      exact ih
theorem live_gen {s : Sup} (hs : okS s = true) {cl : List Bool} (hc : ∀ k : Nat, k < s.1.length → gd cl (k : Int) = true) {b : Int} (h0 : 0 ≤ b) (h1 : b < s.1.length) : live s cl b = gd cl (s.1.length : Int) := by
  have hm := qd3 (qgv hs) b (by omega) h1
  unfold live
  rw [List.all_append]
  have e1 : (chn s.1 b).all (fun x => gd cl ((ix s.1.length x : Nat) : Int)) = true := List.all_eq_true.2 fun x hx => by
    have := hm x hx
    have hi : ix s.1.length x = x.toNat := by unfold ix; rw [if_neg (by omega)]
    rw [hi]
    exact hc _ (by omega)
  have hi : ix s.1.length (-1) = s.1.length := by unfold ix; rw [if_pos rfl]
  rw [e1, Bool.true_and, List.all_cons, hi, List.all_nil, Bool.and_true]
theorem drw_gen {s : Sup} (hs : okS s = true) {on : Nat} {cl : List Bool} (hc : ∀ k : Nat, k < s.1.length → gd cl (k : Int) = true) (hon : on < 2 ^ s.2.1.length) : drw s on cl = if gd cl (s.1.length : Int) = true then on else 0 := by
  refine Nat.eq_of_testBit_eq fun i => ?_
  unfold drw
  rw [qiu]
  by_cases hi : i < s.2.1.length
  · have hx := qhD (qe9 hs hi)
    rw [qs hi, Bool.true_and, live_gen hs hc hx.1.1 hx.1.2]
    cases gd cl (s.1.length : Int) with
    | true => rw [if_pos rfl, Bool.and_true]
    | false => rw [if_neg (by simp), Bool.and_false, Nat.zero_testBit]
  · rw [qy hi, Bool.false_and]
    have h1 : on.testBit i = false := Nat.testBit_lt_two_pow (Nat.lt_of_lt_of_le hon (Nat.pow_le_pow_right (by omega) (by omega)))
    split
    · exact h1.symm
    · exact (Nat.zero_testBit i).symm
structure RInv (s : Sup) (l : List Swi) (p : PSt) : Prop where
  cl : ∀ k : Nat, k < s.1.length → gd p.cl (k : Int) = true
  tr : p.trips = []
  on : Sub p.on (tsK l l.length)
theorem sub_lt {x S n : Nat} (h : Sub x S) (hS : S < 2 ^ n) : x < 2 ^ n := by
  refine Nat.lt_pow_two_of_testBit x fun i hi => ?_
  cases hb : x.testBit i with
  | false => rfl
  | true =>
    have h1 := h i hb
    rw [Nat.testBit_lt_two_pow (Nat.lt_of_lt_of_le hS (Nat.pow_le_pow_right (by omega) hi))] at h1
    cases h1
theorem RInv.step {s : Sup} (hs : okS s = true) {ticks : Int} {l : List Swi} (hx : l.all (okX s ticks) = true) (hfit : fo s (tsK l l.length) = none) (t : Int) {n : Nat} {p : PSt} (h : POK s n p) (hi : RInv s l p) :
    RInv s l (tick s l t p) ∧ j5 s l t p = (if gd (qaH s l t p).2 (s.1.length : Int) = true then (qaH s l t p).1 else 0) ∧ (tick s l t p).on = (qaH s l t p).1 ∧ gd (tick s l t p).cl (s.1.length : Int) = gd (qaH s l t p).2 (s.1.length : Int) := by
  have hl := qc6 hs
  have hlt := tsK_lt hx l.length (Nat.le_refl _)
  have hsub : Sub (qaH s l t p).1 (tsK l l.length) := qiL t hi.on l.length (Nat.le_refl _)
  have hcl : ∀ k : Nat, k < s.1.length → gd (qaH s l t p).2 (k : Int) = true := fun k hk => qkc hl hx t (st := (p.on, p.cl)) ⟨h.on, h.cl⟩ hk (hi.cl k hk) l.length (Nat.le_refl _)
  have hset : j5 s l t p = (if gd (qaH s l t p).2 (s.1.length : Int) = true then (qaH s l t p).1 else 0) := drw_gen hs hcl (sub_lt hsub hlt)
  have hsub2 : Sub (j5 s l t p) (tsK l l.length) := by
    rw [hset]
    split
    · exact hsub
    · intro i hh
      rw [Nat.zero_testBit] at hh
      cases hh
  have hop : ∀ k : Nat, k ≤ s.1.length → opn s (j5 s l t p) p.ov k = false := fun k hk => by
    have ho := ovr_mono hs hsub2 (fo_bO hfit hk)
    have hb : bO s.1.length k < s.1.length := by unfold bO; split <;> omega
    have hd := qj1 hs hb
    unfold ovr at ho
    rw [decide_eq_false_iff_not] at ho
    unfold opn ov1
    rw [if_pos (by omega), qy]
    omega
  have hgen := (qh4 hl hx t h (Nat.le_refl s.1.length)).1
  rw [if_neg (by rw [hop _ (Nat.le_refl _)]; decide)] at hgen
  refine ⟨⟨fun k hk => ?_, ?_, hsub⟩, hset, rfl, hgen⟩
  · rw [(qh4 hl hx t h (show k ≤ s.1.length by omega)).1, if_neg (by rw [hop k (by omega)]; decide)]
    exact hcl k hk
  · have h1 := qdR hl hx t (st := (p.on, p.cl)) ⟨h.on, h.cl⟩ l.length (Nat.le_refl _)
    have h5 := (qiA (s := s) (S := j5 s l t p) (q := ((qaH s l t p).2, p.ov, [])) h1.2 h.ol (s.1.length + 1) (Nat.le_refl _)).2.2.2.2
    have hnil : (List.range (s.1.length + 1)).filter (opn s (j5 s l t p) p.ov) = [] := by
      rw [List.filter_eq_nil_iff]
      intro k hk
      rw [hop k (by have := List.mem_range.1 hk; omega)]
      decide
    have h6 : (qiM s l t p).2.2 = [] := h5.trans (by
      show [] ++ ((List.range (s.1.length + 1)).filter (opn s (j5 s l t p) p.ov)).map (fun (k : Nat) => (k : Int)) = []
      rw [hnil]
      rfl)
    show p.trips ++ (fixO s.1.length (qiM s l t p).2.2).map (fun b => (t, b)) = []
    rw [h6, hi.tr]
    rfl
theorem RInv.zero (s : Sup) (l : List Swi) : RInv s l (ply0 s) :=
  ⟨fun k hk => by
    show gd (List.replicate (s.1.length + 1) true) (k : Int) = true
    rw [qaU (by omega) (by omega)], rfl, fun i h => by
    have h : (0 : Nat).testBit i = true := h
    rw [Nat.zero_testBit] at h
    cases h⟩
theorem RInv.all {s : Sup} (hs : okS s = true) {ticks : Int} {l : List Swi} (hx : l.all (okX s ticks) = true) (hfit : fo s (tsK l l.length) = none) : ∀ t, RInv s l (ply s l t)
  | 0 => RInv.zero s l
  | t + 1 => (RInv.step hs hx hfit (t : Int) (ply_ok (qc6 hs) hx t) (RInv.all hs hx hfit t)).1
theorem shl_i {i : Int} (h0 : 0 ≤ i) (h1 : i ≤ 61) : qeh .i64 1 (IntKind.wrap .u64 i) = ((2 ^ i.toNat : Nat) : Int) := by
  rw [qdw h0 (by omega)]
  have := shl_n (i := i.toNat) (by omega)
  rwa [show ((i.toNat : Nat) : Int) = i by omega] at this
theorem neg_i {R : Type} {i : Int} (h0 : 0 ≤ i) (h1 : i ≤ 61) (X : Option R) : qbU (IntKind.wrap .u64 i) X = X := by
  rw [qdw h0 (by omega), negK_in h0]
theorem okC_1 {s : Sup} {set : Int} (h : okC s set = 0) {R : Type} (x y : R) : (bif okC s set != 0 then x else y) = y := by rw [h]; rfl
theorem g10_ok {s : Sup} (hs : okS s = true) {S : Nat} (hS : S < 2 ^ s.2.1.length) : g10 (s, (S : Int), ()) = some ((qbk s S s.2.1.length, 0, ()), ()) := by
  show F10 fuel s (S : Int) = _
  unfold F10
  have hl := qc6 hs
  have hp := pow16 hl.2
  have hf := qY
  rw [g31_eq, qb]
  refine (okC_1 (okC_in hs hS) _ _).trans ?_
  rw [g32_eq hs (by omega), qb]
  have hcl := qaW s S s.2.1.length
  have e := qea (L := L10_5) (fun (i : Nat) => ((((qbk s S s.2.1.length).length : Int), (i : Int), ()), ((qbk s S s.2.1.length).take i, qbk s S s.2.1.length, ()), ())) ((), (qbk s S s.2.1.length, ()), ()) 0 (qbk s S s.2.1.length).length (N := fuel) (by omega)
    (fun N => by
      simp only [L10_5, B10_5]
      rw [qy (by omega), List.take_length]
      rfl)
    (fun N i _ hi => by
      simp only [L10_5, B10_5]
      rw [qs (by omega), cond_true, jG (by omega) (by omega), ql (by omega) (by omega), jS (by omega) (by simp; omega), wI (x := (i : Int) + 1) (by omega) (by omega), show ((i : Int) + 1) = ((i + 1 : Nat) : Int) by omega, qbR hi])
  have e' : L10_5 fuel ((((qbk s S s.2.1.length).length : Int), 0, ()), ([], qbk s S s.2.1.length, ()), ()) = _ := e
  show qa (L10_5 fuel ((((qbk s S s.2.1.length).length : Int), 0, ()), ([], qbk s S s.2.1.length, ()), ())) _ = _
  rw [e', qb]
def fil (q : Nat → Bool) (n : Nat) : List Int := ((List.range n).filter q).map fun (k : Nat) => (k : Int)
theorem qgT (q : Nat → Bool) (n : Nat) : fil q (n + 1) = if q n = true then fil q n ++ [(n : Int)] else fil q n := by
  unfold fil
  rw [List.range_succ, List.filter_append, List.map_append]
  cases h : q n with
  | true => simp [h]
  | false => simp [h]
theorem qbQ (q : Nat → Bool) : ∀ n, (fil q n).length ≤ n
  | 0 => Nat.le_refl _
  | n + 1 => by
    have := qbQ q n
    rw [qgT]
    split
    · simp; omega
    · omega
def ltL : List Int → List Int → Bool
  | a :: x, b :: y => if a = b then ltL x y else decide (a < b)
  | _, _ => false
theorem ltL_at {a b : List Int} {i : Nat} (ha : i < a.length) (hb : i < b.length) : ltL (a.drop i) (b.drop i) = if gd a (i : Int) = gd b (i : Int) then ltL (a.drop (i + 1)) (b.drop (i + 1)) else decide (gd a (i : Int) < gd b (i : Int)) := by
  rw [qbC ha, qbC hb]
  rfl
theorem g62_eq (x y : Int) : g62 (x, y, ()) = some ((if x = y then 0 else if x < y then -1 else 1, ()), ()) := by
  show F62 fuel x y = _
  unfold F62
  have h : ∀ z : Int, g91 (z, ()) = some ((false, ()), ()) := fun z => by
    show F91 fuel z = _
    unfold F91
    rw [bne_self_eq_false]
  rw [h, h, qb, qb]
  show (bif decide (x < y) then _ else bif decide (x > y) then _ else _) = _
  by_cases h1 : x = y
  · rw [if_pos h1, qy (by omega), qy (by omega)]; rfl
  · rw [if_neg h1]
    by_cases h2 : x < y
    · rw [if_pos h2, qs h2]; rfl
    · rw [if_neg h2, qy h2, qs (by omega)]; rfl
theorem g37_eq {a b : List Int} (ha : a.length ≤ 1000) (hl : a.length = b.length) : ∃ v : Int, g37 (a, b, ()) = some ((v, ()), ()) ∧ decide (v < 0) = ltL a b := by
  have e0 : g37 (a, b, ()) = F37 fuel a b := rfl
  rw [e0]
  unfold F37
  have hf := qY
  obtain ⟨r, e, h⟩ := qfG (L := L37_2) (fun (i : Nat) (_ : Unit) => ((a, b, a, (a.length : Int), (i : Int), ()), (), ())) (fun i _ => ltL (a.drop i) (b.drop i) = ltL a b) (fun r => (∃ v : Int, r = .inl ((v, ()), (), ()) ∧ decide (v < 0) = ltL a b) ∨ (r = .inr ((a, b, ()), (), ()) ∧ ltL a b = false)) 0 a.length (N := fuel) (s := ()) rfl (by omega)
    (fun N _ h => ⟨_, by
      simp only [L37_2, B37_2]
      rw [qy (by omega)]
      rfl, .inr ⟨rfl, by rw [← h, List.drop_length]; rfl⟩⟩)
    (fun N i _ _ hi h => by
      rw [ltL_at hi (by omega)] at h
      simp only [L37_2, B37_2]
      rw [qs (by omega), cond_true]
      simp only [ql (l := a) (i := (i : Int)) (by omega) (by omega)]
      rw [qy (p := (i : Int) ≥ (b.length : Int)) (by omega), cond_false, ql (l := b) (i := (i : Int)) (by omega) (by omega), g62_eq, qb]
      by_cases he : gd a (i : Int) = gd b (i : Int)
      · left
        rw [if_pos he] at h
        refine ⟨(), h, ?_⟩
        rw [if_pos he, bne_self_eq_false, cond_false, wI (by omega) (by omega)]
        rfl
      · right
        rw [if_neg he] at h
        rw [if_neg he]
        by_cases hlt : gd a (i : Int) < gd b (i : Int)
        · rw [if_pos hlt]
          refine ⟨_, rfl, .inl ⟨-1, rfl, ?_⟩⟩
          rw [← h, qs hlt]; rfl
        · rw [if_neg hlt]
          refine ⟨_, rfl, .inl ⟨1, rfl, ?_⟩⟩
          rw [← h, qy hlt]; rfl)
  have e' : L37_2 fuel ((a, b, a, (a.length : Int), 0, ()), (), ()) = _ := e
  rw [e', qb]
  rcases h with ⟨v, rfl, h⟩ | ⟨rfl, h⟩
  · exact ⟨v, rfl, h⟩
  · refine ⟨0, ?_, by rw [h]; rfl⟩
    rw [qcH]
    show (bif decide ((a.length : Int) < (b.length : Int)) then _ else _) = _
    rw [qy (by omega)]
    rfl
theorem qit {S i : Nat} (hS : S < 2 ^ i) : ∀ j, i ≤ j → fil S.testBit j = fil S.testBit i
  | 0, h => by rw [show i = 0 by omega]
  | j + 1, h => by
    by_cases e : i = j + 1
    · rw [e]
    · have hlt : S.testBit j = false := Nat.testBit_lt_two_pow (Nat.lt_of_lt_of_le hS (Nat.pow_le_pow_right (by omega) (by omega)))
      rw [qgT, hlt, if_neg (by simp), qit hS j (by omega)]
theorem g36_eq {S n : Nat} (hS : S < 2 ^ n) (hn : n ≤ 10) : g36 ((S : Int), ()) = some ((fil S.testBit n, ()), ()) := by
  show F36 fuel (S : Int) = _
  unfold F36
  have hf := qY
  have h10 : (2 : Nat) ^ n ≤ 2 ^ 10 := Nat.pow_le_pow_right (by omega) hn
  have hexit : ∀ i : Nat, S >>> i = 0 → fil S.testBit i = fil S.testBit n := fun i h => by
    rw [Nat.shiftRight_eq_div_pow] at h
    have h2 : S < 2 ^ i := by
      rcases Nat.div_eq_zero_iff.1 h with h | h
      · have := Nat.two_pow_pos i; omega
      · exact h
    by_cases hle : i ≤ n
    · exact (qit h2 n hle).symm
    · exact qit hS i (by omega)
  obtain ⟨r, e, rfl⟩ := qfG (L := L36_2) (fun (i : Nat) (_ : Unit) => (((S : Int), (i : Int), ()), (fil S.testBit i, ()), ())) (fun _ _ => True) (fun r => r = ((), (fil S.testBit n, ()), ())) 0 10 (N := fuel) (s := ()) trivial (by omega)
    (fun N _ _ => by
      have h0 : S >>> 10 = 0 := by rw [Nat.shiftRight_eq_div_pow]; exact Nat.div_eq_of_lt (by omega)
      refine ⟨_, ?_, rfl⟩
      simp only [L36_2, B36_2]
      rw [negK_in (by omega), shr_n (by omega), h0, qy (by omega), ← hexit 10 h0]
      rfl)
    (fun N i _ _ hi _ => by
      have hlen := qbQ S.testBit i
      simp only [L36_2, B36_2]
      rw [negK_in (by omega), bit_n (by omega) (by omega), shr_n (by omega)]
      by_cases h0 : S >>> i = 0
      · right
        refine ⟨_, ?_, rfl⟩
        rw [h0, qy (by omega), ← hexit i h0]
        rfl
      · left
        refine ⟨(), trivial, ?_⟩
        rw [qs (p := ((S >>> i : Nat) : Int) > 0) (Int.natCast_pos.2 (Nat.pos_of_ne_zero h0)), cond_true, negK_in (by omega), jS (by omega) (by simp; omega), wI (x := (i : Int) + 1) (by omega) (by omega), show (i : Int) + 1 = ((i + 1 : Nat) : Int) by omega, qgT]
        cases S.testBit i <;> rfl)
  have e' : L36_2 fuel (((S : Int), 0, ()), ([], ()), ()) = _ := e
  rw [e', qb]
def aL (f : List Int) : List Int → Int
  | [] => 0
  | x :: r => gd f x + aL f r
theorem qf6 (f : List Int) (x : Int) : ∀ l, aL f (l ++ [x]) = aL f l + gd f x
  | [] => by simp [aL]
  | y :: l => by
    show gd f y + aL f (l ++ [x]) = gd f y + aL f l + gd f x
    rw [qf6 f x l]
    omega
theorem qjv {f : List Int} {B : Int} (hB : ∀ x ∈ f, 0 ≤ x ∧ x ≤ B) : ∀ l : List Int, (∀ x ∈ l, 0 ≤ x ∧ x < f.length) → 0 ≤ aL f l ∧ aL f l ≤ B * l.length
  | [], _ => by simp [aL]
  | x :: l, h => by
    have ih := qjv hB l fun y hy => h y (List.mem_cons_of_mem _ hy)
    have hx := h x List.mem_cons_self
    have := hB _ (qay hx.1 hx.2)
    show 0 ≤ gd f x + aL f l ∧ gd f x + aL f l ≤ B * ((l.length + 1 : Nat) : Int)
    have e : B * ((l.length + 1 : Nat) : Int) = B * (l.length : Int) + B := by rw [Int.natCast_add, Int.mul_add]; simp
    omega
theorem qeO {q : Nat → Bool} {n : Nat} : ∀ x ∈ fil q n, 0 ≤ x ∧ x < n := fun x hx => by
  unfold fil at hx
  obtain ⟨k, hk, rfl⟩ := List.mem_map.1 hx
  have := List.mem_range.1 (List.mem_filter.1 hk).1
  omega
structure HOK5 (pw pr : List Int) (need : Int) : Prop where
  n : pw.length ≤ 10
  e : pr.length = pw.length
  pw : ∀ x ∈ pw, 1 ≤ x ∧ x ≤ 1000
  pr : ∀ x ∈ pr, 0 ≤ x ∧ x ≤ 1000000
  nd : 0 ≤ need ∧ need ≤ 10000
def btr (m w : List Int) (c s : Int) : Bool := decide (c < s) || (decide (c = s) && (if m.length = w.length then ltL m w else decide (m.length < w.length)))
def hst (pw pr : List Int) (need : Int) : Nat → Option (List Int × Int)
  | 0 => none
  | S + 1 => if aL pw (fil S.testBit pw.length) < need then hst pw pr need S else
    match hst pw pr need S with
    | none => some (fil S.testBit pw.length, aL pr (fil S.testBit pw.length))
    | some (w, s) => if btr (fil S.testBit pw.length) w (aL pr (fil S.testBit pw.length)) s = true then some (fil S.testBit pw.length, aL pr (fil S.testBit pw.length)) else some (w, s)
def hW : Option (List Int × Int) → List Int
  | none => []
  | some x => x.1
def hS : Option (List Int × Int) → Int
  | none => 0
  | some x => x.2
theorem hst_lt {pw pr : List Int} {need : Int} {S : Nat} (h : aL pw (fil S.testBit pw.length) < need) : hst pw pr need (S + 1) = hst pw pr need S := by
  conv => lhs; unfold hst
  rw [if_pos h]
theorem hst_none {pw pr : List Int} {need : Int} {S : Nat} (h : ¬ aL pw (fil S.testBit pw.length) < need) (hs : hst pw pr need S = none) : hst pw pr need (S + 1) = some (fil S.testBit pw.length, aL pr (fil S.testBit pw.length)) := by
  conv => lhs; unfold hst
  rw [if_neg h, hs]
theorem hst_some {pw pr : List Int} {need : Int} {S : Nat} (h : ¬ aL pw (fil S.testBit pw.length) < need) {w : List Int} {s : Int} (hs : hst pw pr need S = some (w, s)) :
    hst pw pr need (S + 1) = if btr (fil S.testBit pw.length) w (aL pr (fil S.testBit pw.length)) s = true then some (fil S.testBit pw.length, aL pr (fil S.testBit pw.length)) else some (w, s) := by
  conv => lhs; unfold hst
  rw [if_neg h, hs]
theorem qkl {pw pr : List Int} {need : Int} (h : HOK5 pw pr need) : ∀ S, (hW (hst pw pr need S)).length ≤ 10 ∧ (∀ x, hst pw pr need S = some x → 0 ≤ x.2)
  | 0 => ⟨Nat.zero_le _, fun x h => by cases h⟩
  | S + 1 => by
    have ih := qkl h S
    have hl := qbQ S.testBit pw.length
    have hn := h.n
    have hb := (qjv h.pr (fil S.testBit pw.length) (fun x hx => by have := qeO x hx; have := h.e; omega)).1
    unfold hst
    split
    · exact ih
    · split
      · refine ⟨by show (fil S.testBit pw.length).length ≤ 10; omega, fun x hx => by cases hx; exact hb⟩
      · rename_i w s hws
        rw [hws] at ih
        split
        · refine ⟨by show (fil S.testBit pw.length).length ≤ 10; omega, fun x hx => by cases hx; exact hb⟩
        · exact ih
theorem L11_13_eq' {pw pr : List Int} {need nd : Int} (h : HOK5 pw pr need) (w : List Int) (a : Int) (f : Bool) (c d : Int) {m : List Int} (hm : ∀ x ∈ m, 0 ≤ x ∧ x < pw.length) (hml : m.length ≤ 10) {N : Nat} (hN : 2000 ≤ N) :
    L11_13 N ((pw, pr, nd, w, a, f, 0, 0, c, d, (m.length : Int), 0, ()), (m, ()), ()) = some ((pw, pr, nd, w, a, f, aL pw m, aL pr m, c, d, ()), (m, ()), ()) := by
  have he := h.e
  have e := qea (L := L11_13) (fun (i : Nat) => ((pw, pr, nd, w, a, f, aL pw (m.take i), aL pr (m.take i), c, d, (m.length : Int), (i : Int), ()), (m, ()), ())) ((pw, pr, nd, w, a, f, aL pw m, aL pr m, c, d, ()), (m, ()), ()) 0 m.length (N := N) (by omega)
    (fun N => by
      simp only [L11_13, B11_13]
      rw [qy (by omega), List.take_length]
      rfl)
    (fun N i _ hi => by
      have hx := hm _ (qay (l := m) (i := (i : Int)) (by omega) (by omega))
      have htl : (m.take i).length ≤ 10 := by rw [List.length_take]; omega
      have hmt : ∀ x ∈ m.take i, 0 ≤ x ∧ x < pw.length := fun x hx => hm x (List.mem_of_mem_take hx)
      have b1 := qjv (B := 1000) (fun x hx => by have := h.pw x hx; omega) (m.take i) hmt
      have b2 := qjv h.pr (m.take i) (fun x hx => by have := hmt x hx; omega)
      have c1 := h.pw _ (qay (l := pw) hx.1 hx.2)
      have c2 := h.pr _ (qay (l := pr) hx.1 (by omega))
      simp only [L11_13, B11_13]
      rw [qs (by omega), cond_true, jG (by omega) (by omega), ql (by omega) (by omega), ql hx.1 hx.2, ql hx.1 (by omega), wI (x := (i : Int) + 1) (by omega) (by omega), wI (x := aL pw (m.take i) + _) (by omega) (by omega), wI (x := aL pr (m.take i) + _) (by omega) (by omega), show (i : Int) + 1 = ((i + 1 : Nat) : Int) by omega, qbR hi, qf6, qf6])
  have e' : L11_13 N ((pw, pr, nd, w, a, f, 0, 0, c, d, (m.length : Int), 0, ()), (m, ()), ()) = _ := e
  exact e'
theorem L11_8_step {pw pr : List Int} {need : Int} (h : HOK5 pw pr need) {N : Nat} (hN : 2000 ≤ N) {S : Nat} (hS' : S < 2 ^ pw.length) :
    L11_8 (N + 1) ((pw, pr, need, hW (hst pw pr need S), hS (hst pw pr need S), (hst pw pr need S).isSome, ((2 ^ pw.length : Nat) : Int), (S : Int), ()), (), ()) =
      L11_8 N ((pw, pr, need, hW (hst pw pr need (S + 1)), hS (hst pw pr need (S + 1)), (hst pw pr need (S + 1)).isSome, ((2 ^ pw.length : Nat) : Int), ((S + 1 : Nat) : Int), ()), (), ()) := by
  have hn := h.n
  have h10 : (2 : Nat) ^ pw.length ≤ 2 ^ 10 := Nat.pow_le_pow_right (by omega) hn
  have hl := qbQ S.testBit pw.length
  have hwl := (qkl h S).1
  have e13 := L11_13_eq' (nd := need) h (hW (hst pw pr need S)) (hS (hst pw pr need S)) (hst pw pr need S).isSome ((2 ^ pw.length : Nat) : Int) (S : Int) (m := fil S.testBit pw.length) (fun x hx => qeO x hx) (by omega) hN
  have hw : IntKind.wrap .i64 ((S : Int) + 1) = ((S + 1 : Nat) : Int) := by rw [wI (by omega) (by omega)]; omega
  simp only [L11_8, B11_8]
  rw [qs (by omega), cond_true, g36_eq hS' hn, qb]
  refine (qZ e13 _).trans ?_
  simp only [hw]
  by_cases h1 : aL pw (fil S.testBit pw.length) < need
  · rw [qs h1, cond_true, hst_lt h1]
  rw [qy h1, cond_false]
  cases hs : hst pw pr need S with
  | none =>
    rw [hst_none h1 hs]
    rfl
  | some x =>
    obtain ⟨w, s⟩ := x
    rw [hs] at hwl
    have hwl : w.length ≤ 10 := hwl
    rw [hst_some h1 hs]
    have hbt : btr (fil S.testBit pw.length) w (aL pr (fil S.testBit pw.length)) s = (decide (aL pr (fil S.testBit pw.length) < s) || (decide (aL pr (fil S.testBit pw.length) = s) && (if (fil S.testBit pw.length).length = w.length then ltL (fil S.testBit pw.length) w else decide ((fil S.testBit pw.length).length < w.length)))) := rfl
    rw [hbt]
    show (bif !true then _ else bif decide (aL pr (fil S.testBit pw.length) < s) then _ else bif aL pr (fil S.testBit pw.length) == s then (bif decide (((fil S.testBit pw.length).length : Int) < (w.length : Int)) then _ else bif ((fil S.testBit pw.length).length : Int) == (w.length : Int) then qa (g37 (fil S.testBit pw.length, w, ())) _ else _) else _) = _
    rw [Bool.not_true, cond_false]
    by_cases h2 : aL pr (fil S.testBit pw.length) < s
    · rw [qs h2, Bool.true_or]
      rfl
    rw [qy h2, cond_false, Bool.false_or]
    by_cases h3 : aL pr (fil S.testBit pw.length) = s
    case neg =>
      rw [show (aL pr (fil S.testBit pw.length) == s) = false from beq_eq_false_iff_ne.2 h3, qy h3, Bool.false_and]
      rfl
    rw [show (aL pr (fil S.testBit pw.length) == s) = true by simp [h3], qs h3, Bool.true_and, cond_true]
    by_cases h4 : (fil S.testBit pw.length).length = w.length
    · obtain ⟨v, e80, hv⟩ := g37_eq (a := fil S.testBit pw.length) (b := w) (by omega) h4
      rw [qy (by omega), cond_false, show (((fil S.testBit pw.length).length : Int) == (w.length : Int)) = true by rw [h4]; simp, cond_true, if_pos h4]
      refine (qZ e80 _).trans ?_
      show (bif decide (v < 0) then _ else _) = _
      rw [hv]
      cases ltL (fil S.testBit pw.length) w <;> rfl
    · rw [if_neg h4]
      by_cases h5 : (fil S.testBit pw.length).length < w.length
      · rw [qs (p := ((fil S.testBit pw.length).length : Int) < (w.length : Int)) (by omega), qs h5]
        rfl
      · rw [qy (p := ((fil S.testBit pw.length).length : Int) < (w.length : Int)) (by omega), qy h5, cond_false, show (((fil S.testBit pw.length).length : Int) == (w.length : Int)) = false from beq_eq_false_iff_ne.2 (by omega)]
        rfl
def hrB (pw pr : List Int) (need : Int) : Bool := decide (pr.length = pw.length) && (pw.all (fun x => jA x 1 1000) && (pr.all (fun x => jA x 0 1000000) && jA need 0 10000))
def hrR (pw pr : List Int) (need : Int) : List Int × (Int × (Int × Unit)) :=
  if pw.length ≤ 10 then (if hrB pw pr need = true then (match hst pw pr need (2 ^ pw.length) with | none => ([], 0, 3, ()) | some x => (x.1, x.2, 0, ())) else ([], 0, 1, ())) else ([], 0, 2, ())
theorem hrB_ok {pw pr : List Int} {need : Int} (hn : pw.length ≤ 10) (h : hrB pw pr need = true) : HOK5 pw pr need := by
  unfold hrB at h
  simp only [Bool.and_eq_true, decide_eq_true_iff, List.all_eq_true, qN] at h
  exact ⟨hn, h.1, h.2.1, h.2.2.1, h.2.2.2⟩
theorem g26_eq {l : List Int} (hl : l.length ≤ 1000000) {f : Int → Option Bool} {q : Int → Bool} (hf : ∀ x, f x = some (!q x)) : g26 (l, f, ()) = some ((!l.all q, ()), ()) := by
  have hfu := qY
  show F26 fuel l f = _
  unfold F26
  have e : g54 (l, f, ()) = some ((match l.findIdx? (fun x => !q x) with | some i => (i : Int) | none => -1, ()), ()) := by
    show F54 fuel l f = _
    unfold F54
    have h := loopIdx (L := L54_2) (fun i => ((l, f, (l.length : Int), (i : Int), ()), (), ())) l (fun x => !q x) (fun i => .inl (((i : Int), ()), (), ())) (.inr ((), (), ())) 0 (N := fuel) (by omega)
      (fun N => by simp [L54_2, B54_2])
      (fun N i _ hi => by
        simp only [L54_2, B54_2]
        rw [qs (by omega), cond_true, ql (by omega) (by omega), hf, qb, wI (by omega) (by omega)]
        cases q (gd l (i : Int)) <;> rfl)
    have h' : L54_2 fuel ((l, f, (l.length : Int), 0, ()), (), ()) = _ := h
    rw [h', qb]
    cases l.findIdx? (fun x => !q x) <;> rfl
  rw [e, qb]
  have hn : (l.findIdx? (fun x => !q x)).isNone = l.all q := by
    clear hl e
    induction l with
    | nil => rfl
    | cons x l _ =>
      rw [List.findIdx?_cons, List.all_cons]
      cases q x with
      | true => simp_all
      | false => simp
  cases h : l.findIdx? (fun x => !q x) with
  | some i =>
    rw [h] at hn
    show some ((decide ((i : Int) ≥ 0), ()), ()) = _
    rw [qs (by omega), ← hn]
    rfl
  | none =>
    rw [h] at hn
    show some ((decide ((-1 : Int) ≥ 0), ()), ()) = _
    rw [qy (by omega), ← hn]
    rfl
theorem g34_eq (x lo hi : Int) : g34 (x, lo, hi, ()) = some ((!jA x lo hi, ()), ()) := by
  show F34 fuel x lo hi = _
  unfold F34
  rw [g35_eq, qb]
theorem g11_eq (pw pr : List Int) (need : Int) : g11 (pw, pr, need, ()) = some (hrR pw pr need, ()) := by
  show F11 fuel pw pr need = _
  unfold F11 hrR
  by_cases hn : pw.length ≤ 10
  case neg =>
    rw [qs (by omega), if_neg hn]
    rfl
  rw [qy (by omega), cond_false, if_pos hn]
  by_cases he : pr.length = pw.length
  case neg =>
    have : hrB pw pr need = false := by unfold hrB; rw [qy he]; rfl
    rw [show ((pr.length : Int) != (pw.length : Int)) = true from bne_iff_ne.2 (by omega), cond_true, if_neg (by rw [this]; decide)]
  rw [show ((pr.length : Int) != (pw.length : Int)) = false by rw [he]; simp, cond_false]
  have k67 : ∀ {R : Type} (l : List Int) (lo hi : Int) (K : Bool → Option R), l.length ≤ 1000 → (qa (Mk.m33.p.g (lo, hi, ())) fun y1 => qa (g26 (l, (fun v2 => qa y1.1.1 fun q4 => qa y1.1.2.1 fun q5 => qa (g34 (v2, q4, q5, ())) fun y3 => some y3.1.1), ())) fun y6 => K y6.1.1) = K (!l.all fun x => jA x lo hi) := fun l lo hi K hl => by
    show (qa (g26 (l, (fun v2 => qa (some lo) fun q4 => qa (some hi) fun q5 => qa (g34 (v2, q4, q5, ())) fun y3 => some y3.1.1), ())) fun y6 => K y6.1.1) = _
    rw [g26_eq (by omega) (q := fun x => jA x lo hi) (fun x => by rw [qb, qb, g34_eq, qb])]
    rfl
  have hf := qY
  refine (k67 pw 1 1000 (fun b => bif b then some ((([] : List Int), (0 : Int), (1 : Int), ()), ()) else (qa (Mk.m33.p.g (0, 1000000, ())) fun y7 => qa (g26 (pr, (fun v8 => qa y7.1.1 fun q10 => qa y7.1.2.1 fun q11 => qa (g34 (v8, q10, q11, ())) fun y9 => some y9.1.1), ())) fun y12 => bif y12.1.1 then some (([], 0, 1, ()), ()) else (qa (g35 (need, 0, 10000, ())) fun y13 => bif !y13.1.1 then some (([], 0, 1, ()), ()) else (qbU (pw.length : Int) (qa (L11_8 fuel ((pw, pr, need, [], 0, false, (qeh .i64 1 (pw.length : Int)), 0, ()), (), ())) fun o20 => bif !o20.1.2.2.1 then some (([], 0, 3, ()), ()) else some ((o20.1.1, o20.1.2.1, 0, ()), ())))))) (by omega)).trans ?_
  cases h1 : pw.all fun x => jA x 1 1000 with
  | false =>
    have : hrB pw pr need = false := by unfold hrB; rw [h1]; simp
    rw [if_neg (show ¬ hrB pw pr need = true by rw [this]; decide)]
    rfl
  | true =>
  rw [Bool.not_true, cond_false]
  refine (k67 pr 0 1000000 (fun b => bif b then some ((([] : List Int), (0 : Int), (1 : Int), ()), ()) else (qa (g35 (need, 0, 10000, ())) fun y13 => bif !y13.1.1 then some (([], 0, 1, ()), ()) else (qbU (pw.length : Int) (qa (L11_8 fuel ((pw, pr, need, [], 0, false, (qeh .i64 1 (pw.length : Int)), 0, ()), (), ())) fun o20 => bif !o20.1.2.2.1 then some (([], 0, 3, ()), ()) else some ((o20.1.1, o20.1.2.1, 0, ()), ()))))) (by omega)).trans ?_
  cases h2 : pr.all fun x => jA x 0 1000000 with
  | false =>
    have : hrB pw pr need = false := by unfold hrB; rw [h2]; simp
    rw [if_neg (show ¬ hrB pw pr need = true by rw [this]; decide)]
    rfl
  | true =>
  rw [Bool.not_true, cond_false, g35_eq, qb]
  cases h3 : jA need 0 10000 with
  | false =>
    have : hrB pw pr need = false := by unfold hrB; rw [h3]; simp
    rw [if_neg (show ¬ hrB pw pr need = true by rw [this]; decide)]
    rfl
  | true =>
  have hb : hrB pw pr need = true := by unfold hrB; rw [qs he, h1, h2, h3]; rfl
  have hok := hrB_ok hn hb
  have h10 : (2 : Nat) ^ pw.length ≤ 2 ^ 10 := Nat.pow_le_pow_right (by omega) hn
  rw [if_pos hb]
  show qbU (pw.length : Int) (qa (L11_8 fuel ((pw, pr, need, [], 0, false, (qeh .i64 1 (pw.length : Int)), 0, ()), (), ())) _) = _
  rw [negK_in (by omega), shl_n (by omega)]
  have e := qea (L := L11_8) (fun (S : Nat) => ((pw, pr, need, hW (hst pw pr need S), hS (hst pw pr need S), (hst pw pr need S).isSome, ((2 ^ pw.length : Nat) : Int), (S : Int), ()), (), ())) ((hW (hst pw pr need (2 ^ pw.length)), hS (hst pw pr need (2 ^ pw.length)), (hst pw pr need (2 ^ pw.length)).isSome, ()), (), ()) 2000 (2 ^ pw.length) (N := fuel) (by omega)
    (fun N => by
      simp only [L11_8, B11_8]
      rw [qy (by omega)]
      rfl)
    (fun N i hN hi => L11_8_step hok hN hi)
  have e' : L11_8 fuel ((pw, pr, need, [], 0, false, ((2 ^ pw.length : Nat) : Int), 0, ()), (), ()) = _ := e
  rw [e', qb]
  cases hst pw pr need (2 ^ pw.length) <;> rfl
theorem root05 : (∀ s : Sup, g22 (s, ()) = some ((if okS s then 0 else 50, ()), ())) ∧ (∀ s : Sup, g29 (s, ()) = some ((if okS s then 0 else 50, ()), ())) ∧ (∀ (s : Sup) (S : Nat), okS s = true → S < 2 ^ s.2.1.length → g63 (s, (S : Int), ()) = some (((foR s S).1, (fo s S).isNone, 0, ()), ())) ∧ (∀ s : Sup, okS s = true → s.2.1.length ≤ 16) := ⟨g22_eq, g29_eq, fun _ _ => g63_ok, fun _ h => (qc6 h).2⟩
theorem set_bit {S n : Nat} {r : Int} (hn : n ≤ 16) (hS : S < 2 ^ n) (h0 : 0 ≤ r) (h1 : r < n) : qbl .or .i64 (S : Int) (qeh .i64 1 r) = ((S ||| 2 ^ r.toNat : Nat) : Int) ∧ S ||| 2 ^ r.toNat < 2 ^ n := by
  have hp : (2 : Nat) ^ n ≤ 2 ^ 16 := Nat.pow_le_pow_right (by omega) hn
  have hr : (2 : Nat) ^ r.toNat < 2 ^ n := Nat.pow_lt_pow_right (by omega) (by omega)
  have e : r = ((r.toNat : Nat) : Int) := by omega
  refine ⟨?_, Nat.or_lt_two_pow hS hr⟩
  conv => lhs; rw [e]
  rw [shl_n (by omega), or_n (by omega) (by omega)]
def oneB (b : Brd) : Brd := (b.1, (1000, b.2.2))
def bear (s : Sup) (has : Int) : Sup := (s.1.map oneB, (s.2.1, (has, s.2.2.2)))
theorem gd_map {α β : Type} [Inhabited α] [Inhabited β] (f : α → β) {l : List α} {i : Nat} (h : i < l.length) : gd (l.map f) (i : Int) = f (gd l (i : Int)) := by
  have e := qgM (List.getElem?_eq_getElem h)
  rw [e]
  exact qgM (by rw [List.getElem?_map, List.getElem?_eq_getElem h]; rfl)
theorem okS_bear {s : Sup} (h : okS s = true) {has : Int} (hh : 1 ≤ has ∧ has ≤ 1000) : okS (bear s has) = true := by
  unfold okS at h ⊢
  simp only [Bool.and_eq_true, decide_eq_true_iff, List.all_eq_true, List.mem_range] at h ⊢
  obtain ⟨h1, h2, h3, h4, h5, h6, h7⟩ := h
  refine ⟨by show (s.1.map oneB).length ≤ 10; simpa using h1, h2, qN.2 hh, h4, h5, fun i hi => ?_, fun x hx => ?_⟩
  · have hi' : i < s.1.length := by
      have : i < (s.1.map oneB).length := hi
      simpa using this
    have := h6 i hi'
    show okB (gd (s.1.map oneB) (i : Int)) i = true
    rw [gd_map oneB hi']
    unfold okB at this ⊢
    simp only [Bool.and_eq_true] at this ⊢
    exact ⟨this.1, rfl, this.2.2⟩
  · have := h7 x hx
    show okL (s.1.map oneB).length x = true
    rwa [List.length_map]
theorem qhR {s : Sup} (h : okS s = true) (has : Int) (S : Nat) (b ph : Int) : ∀ k, k ≤ s.2.1.length → qdf (bear s has) S b ph k ≤ qdf s (2 ^ s.2.1.length - 1) (-1) ph k
  | 0, _ => Int.le_refl _
  | k + 1, hk => by
    have ih := qhR h has S b ph k (by omega)
    have hl := qhD (qe9 h (k := k) (by omega))
    have e : (bear s has).2.1 = s.2.1 := rfl
    have et : (2 ^ s.2.1.length - 1).testBit k = true := by
      rw [Nat.testBit_two_pow_sub_one]
      exact decide_eq_true (by omega)
    unfold qdf
    rw [e, et, qs (p := (-1 : Int) < 0) (by omega), Bool.true_or, Bool.true_and, Bool.and_true]
    cases hp : (gd s.2.1 (k : Int)).2.1 == ph with
    | true =>
      rw [if_pos rfl]
      split <;> omega
    | false =>
      simp only [Bool.false_and, Bool.and_false, Bool.false_eq_true, if_false]
      omega
theorem fo_bear {s : Sup} (h : okS s = true) {has : Int} (h1 : mx3 s (2 ^ s.2.1.length - 1) (-1) ≤ has) (h2 : has ≤ 1000) (S : Nat) : fo (bear s has) S = none := by
  unfold fo
  rw [List.find?_eq_none]
  intro i hi
  have hi' : i < s.1.length + 1 := by
    have := List.mem_range.1 hi
    have e : (bear s has).1.length = s.1.length := by show (s.1.map oneB).length = _; simp
    omega
  have c : ∀ ph, cur (bear s has) S ((i : Int) - 1) ph ≤ cur s (2 ^ s.2.1.length - 1) (-1) ph := fun ph => qhR h has S _ ph s.2.1.length (Nat.le_refl _)
  have hb : has ≤ brs (bear s has) ((i : Int) - 1) := by
    unfold brs
    split
    · exact Int.le_refl _
    · show has ≤ (gd (s.1.map oneB) ((i : Int) - 1)).2.1
      rw [show (i : Int) - 1 = ((i - 1 : Nat) : Int) by omega, gd_map oneB (by omega)]
      exact h2
  have h0 := c 0
  have hh1 := c 1
  have hh2 := c 2
  unfold mx3 at h1
  unfold ovr mx3
  simp only [decide_eq_true_eq]
  omega
theorem hst_in (pw pr : List Int) (need : Int) : ∀ S x, hst pw pr need S = some x → need ≤ aL pw x.1 ∧ ∃ T : Nat, x.1 = fil T.testBit pw.length
  | 0, x, h => by cases h
  | S + 1, x, h => by
    have ih := hst_in pw pr need S
    unfold hst at h
    by_cases h1 : aL pw (fil S.testBit pw.length) < need
    · rw [if_pos h1] at h
      exact ih x h
    rw [if_neg h1] at h
    cases hs : hst pw pr need S with
    | none =>
      rw [hs] at h
      cases h
      exact ⟨by dsimp only; omega, S, rfl⟩
    | some w =>
      rw [hs] at h
      dsimp only at h
      split at h
      · cases h
        exact ⟨by dsimp only; omega, S, rfl⟩
      · cases h
        exact ih _ hs
theorem hire_ok {pw pr : List Int} {need : Int} (h : (hrR pw pr need).2.2.1 = 0) : need ≤ aL pw (hrR pw pr need).1 ∧ (∀ x, x ∈ (hrR pw pr need).1 → 0 ≤ x ∧ x < pw.length) ∧ (hrR pw pr need).1.length ≤ 10 ∧ (∀ x, x ∈ pw → 1 ≤ x ∧ x ≤ 1000) := by
  unfold hrR at h ⊢
  by_cases h10 : pw.length ≤ 10
  case neg => rw [if_neg h10] at h; exact absurd (show (2 : Int) = 0 from h) (by decide)
  rw [if_pos h10] at h ⊢
  by_cases hb : hrB pw pr need = true
  case neg => rw [if_neg hb] at h; exact absurd (show (1 : Int) = 0 from h) (by decide)
  rw [if_pos hb] at h ⊢
  cases hs : hst pw pr need (2 ^ pw.length) with
  | none => rw [hs] at h; exact absurd (show (3 : Int) = 0 from h) (by decide)
  | some x =>
    obtain ⟨h1, T, h2⟩ := hst_in pw pr need _ x hs
    dsimp only
    refine ⟨h1, fun y hy => ?_, ?_, fun y hy => ?_⟩
    · rw [h2] at hy
      exact qeO y hy
    · rw [h2]
      have := qbQ T.testBit pw.length
      omega
    · unfold hrB at hb
      simp only [Bool.and_eq_true, List.all_eq_true] at hb
      exact qN.1 (hb.2.1 y hy)
theorem aL_add (f : List Int) (x : Int) (l : List Int) : aL f (l ++ [x]) = aL f l + gd f x := qf6 f x l
theorem root05h : (∀ {s : Sup} (_ : okS s = true) {S : Nat} (_ : S < 2 ^ s.2.1.length), g10 (s, (S : Int), ()) = some ((qbk s S s.2.1.length, 0, ()), ())) ∧ (∀ (pw pr : List Int) (need : Int), g11 (pw, pr, need, ()) = some (hrR pw pr need, ())) ∧ (∀ (s : Sup) (S i : Nat), (qbk s S i).length = s.1.length + 1) := ⟨g10_ok, g11_eq, qaW⟩
theorem curs_end (s : Sup) (S : Nat) (i : Nat) : gd (qbk s S i) (s.1.length : Int) = row3 s S (-1) i := by
  unfold qbk
  rw [qko _ (by omega)]
  unfold bO
  rw [if_pos rfl]
theorem shl_all {n : Nat} (h : n ≤ 16) : (∀ {R : Type} (X : Option R), qbU (IntKind.wrap .u64 (n : Int)) X = X) ∧ IntKind.wrap .i64 (qeh .i64 1 (IntKind.wrap .u64 (n : Int)) - 1) = ((2 ^ n - 1 : Nat) : Int) := by
  refine ⟨fun X => neg_i (by omega) (by omega) X, ?_⟩
  have hp : (2 : Nat) ^ n ≤ 2 ^ 16 := Nat.pow_le_pow_right (by omega) h
  have h1 : 1 ≤ (2 : Nat) ^ n := Nat.one_le_two_pow
  rw [shl_i (by omega) (by omega), Int.toNat_natCast, wI (by omega) (by omega)]
  omega
theorem aL_in {f : List Int} (hB : ∀ x, x ∈ f → 1 ≤ x ∧ x ≤ 1000) : ∀ l : List Int, (∀ x, x ∈ l → 0 ≤ x ∧ x < f.length) → 0 ≤ aL f l ∧ aL f l ≤ 1000 * l.length := fun l hl => qjv (fun x hx => ⟨by have := hB x hx; omega, (hB x hx).2⟩) l hl
end Go.Proofs.Tryz.V.L05
