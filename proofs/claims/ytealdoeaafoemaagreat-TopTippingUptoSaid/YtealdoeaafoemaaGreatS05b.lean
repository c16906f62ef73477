/- Plain laws: what the last text needs of the others, in one. No condition beyond those typed in each theorem. -/
import Derived.Test.YtealdoeaafoemaaGreatFn1
namespace Go.Proofs.Tryz.V.L05
open Go.Vi
set_option maxRecDepth 100000
abbrev Brd := Int × (Int × (Int × Int))
abbrev Ld := Int × (Int × (Int × Int))
abbrev Sup := (List Brd) × ((List Ld) × (Int × (Int × Int)))
theorem loopNum {D R : Type} {L : Nat → D → Option R} (mk : Nat → D) (n : Nat) (p : Nat → Bool) (bad good : R) (c : Nat) {N : Nat} (hN : n + c < N)
  (hend : ∀ N, L (N + 1) (mk n) = some good)
  (hstep : ∀ N i, c ≤ N → i < n → L (N + 1) (mk i) = if p i then L N (mk (i + 1)) else some bad) :
  L N (mk 0) = some (if (List.range n).all p then good else bad) := by
 have key : ∀ (d i : Nat) (N : Nat), i + d = n → d + c < N → L N (mk i) = some (if (List.range' i d).all p then good else bad) := by
  intro d
  induction d with
  | zero =>
   intro i N hi hN
   obtain ⟨m, rfl⟩ : ∃ m, N = m + 1 := ⟨N - 1, by omega⟩
   obtain rfl : i = n := by omega
   rw [hend]
   rfl
  | succ d ih =>
   intro i N hi hN
   obtain ⟨m, rfl⟩ : ∃ m, N = m + 1 := ⟨N - 1, by omega⟩
   rw [hstep m i (by omega) (by omega), List.range'_succ, List.all_cons]
   cases p i with
   | true => rw [if_pos rfl, ih (i + 1) m (by omega) (by omega), Bool.true_and]
   | false => rw [if_neg (by simp), Bool.false_and, if_neg (by simp)]
 rw [List.range_eq_range']
 exact key n 0 N (by omega) hN
theorem negK_in {R : Type} {a : Int} (h : 0 ≤ a) (k : Option R) : qdQ a k = k := by
 unfold qdQ
 rw [if_neg (by omega)]
theorem ofN (S : Nat) (h : S < 4611686018427387904) : (BitVec.ofInt 64 (S : Int)).toNat = S := by
 rw [BitVec.toNat_ofInt, Int.emod_eq_of_lt (by omega) (by show (S : Int) < 18446744073709551616; omega)]
 omega
theorem and_n {S T : Nat} (hS : S < 4611686018427387904) (hT : T < 4611686018427387904) : qbJ .and .i64 (S : Int) (T : Int) = ((S &&& T : Nat) : Int) := by
 show IntKind.wrap .i64 ((BitVec.ofInt 64 (S : Int) &&& BitVec.ofInt 64 (T : Int)).toNat : Int) = _
 rw [BitVec.toNat_and, ofN S hS, ofN T hT]
 have := Nat.and_le_left (n := S) (m := T)
 exact wI (by omega) (by omega)
theorem or_n {S T : Nat} (hS : S < 4611686018427387904) (hT : T < 4611686018427387904) : qbJ .or .i64 (S : Int) (T : Int) = ((S ||| T : Nat) : Int) := by
 show IntKind.wrap .i64 ((BitVec.ofInt 64 (S : Int) ||| BitVec.ofInt 64 (T : Int)).toNat : Int) = _
 rw [BitVec.toNat_or, ofN S hS, ofN T hT]
 have : S ||| T < 2 ^ 62 := Nat.or_lt_two_pow hS hT
 exact wI (by omega) (by omega)
theorem shl_n {i : Nat} (hi : i < 62) : shlI .i64 1 (i : Int) = ((2 ^ i : Nat) : Int) := by
 have h : (2 : Nat) ^ i < 2 ^ 62 := Nat.pow_lt_pow_right (by omega) hi
 have e : min (i : Int).toNat IntKind.i64.bits = i := by
  rw [Int.toNat_natCast]
  exact Nat.min_eq_left (by show i ≤ 64; omega)
 unfold shlI
 rw [e, Int.one_mul, show ((2 : Int) ^ i) = ((2 ^ i : Nat) : Int) by simp]
 generalize 2 ^ i = p at h ⊢
 exact wI (by omega) (by omega)
theorem shr_n {S i : Nat} (hi : i < 62) : qdU .i64 (S : Int) (i : Int) = ((S >>> i : Nat) : Int) := by
 have e : min (i : Int).toNat IntKind.i64.bits = i := by
  rw [Int.toNat_natCast]
  exact Nat.min_eq_left (by show i ≤ 64; omega)
 unfold qdU
 rw [e, Nat.shiftRight_eq_div_pow, show ((2 : Int) ^ i) = ((2 ^ i : Nat) : Int) by simp, Int.fdiv_eq_ediv_of_nonneg _ (Int.natCast_nonneg _)]
 simp
theorem bit_n {S i : Nat} (hS : S < 4611686018427387904) (hi : i < 62) : qbJ .and .i64 (qdU .i64 (S : Int) (i : Int)) 1 = if S.testBit i then 1 else 0 := by
 have h : S >>> i ≤ S := by rw [Nat.shiftRight_eq_div_pow]; exact Nat.div_le_self _ _
 rw [shr_n hi, show (1 : Int) = ((1 : Nat) : Int) by rfl, and_n (by omega) (by omega)]
 have : S.testBit i = ((1 &&& (S >>> i)) != 0) := rfl
 rw [this, Nat.and_comm 1]
 have := Nat.and_le_right (n := S >>> i) (m := 1)
 rcases Nat.lt_or_ge 0 (S >>> i &&& 1) with h1 | h1
 ·obtain h2 : S >>> i &&& 1 = 1 := by omega
  rw [h2]; rfl
 ·obtain h2 : S >>> i &&& 1 = 0 := by omega
  rw [h2]; rfl
def jD (x lo hi : Int) : Bool := decide (lo ≤ x) && decide (x ≤ hi)
theorem qG {x lo hi : Int} : jD x lo hi = true ↔ lo ≤ x ∧ x ≤ hi := by unfold jD; rw [Bool.and_eq_true, decide_eq_true_iff, decide_eq_true_iff]
theorem g82_eq (x lo hi : Int) : g82 (x, lo, hi, ()) = some ((jD x lo hi, ()), ()) := by
 show F82 qc x lo hi = _
 unfold F82 jD
 by_cases h : lo ≤ x
 ·rw [qu (p := x ≥ lo) h]; rfl
 ·rw [qD (p := x ≥ lo) h]; rfl
theorem g45_eq (x lo hi : Int) : g45 (x, lo, hi, ()) = some ((jD x lo hi, ()), ()) := by
 show F45 qc x lo hi = _
 unfold F45 jD
 by_cases h : lo ≤ x
 ·rw [qu (p := x ≥ lo) h]; rfl
 ·rw [qD (p := x ≥ lo) h]; rfl
def okB (b : Brd) (i : Nat) : Bool := jD b.1 (-1) ((i : Int) - 1) && (jD b.2.1 1 1000 && (jD b.2.2.1 0 20 && jD b.2.2.2 1 10000))
def okL (n : Nat) (x : Ld) : Bool := jD x.1 0 ((n : Int) - 1) && (jD x.2.1 0 2 && (jD x.2.2.1 1 1000 && jD x.2.2.2 0 1000))
def okS (s : Sup) : Bool :=
 decide (s.1.length ≤ 10) && (decide (s.2.1.length ≤ 16) && (jD s.2.2.1 1 1000 && (jD s.2.2.2.1 0 20 && (jD s.2.2.2.2 1 1000 && ((List.range s.1.length).all (fun i => okB (gd s.1 (i : Int)) i) && s.2.1.all (okL s.1.length))))))
theorem okB_c {α : Type} (b : Brd) (i : Nat) (x y : α) : (bif !jD b.1 (-1) ((i : Int) - 1) then x else bif !jD b.2.1 1 1000 then x else bif !jD b.2.2.1 0 20 then x else bif !jD b.2.2.2 1 10000 then x else y) = if okB b i then y else x := by
 unfold okB
 cases jD b.1 (-1) ((i : Int) - 1) <;> cases jD b.2.1 1 1000 <;> cases jD b.2.2.1 0 20 <;> cases jD b.2.2.2 1 10000 <;> rfl
theorem okL_c {α : Type} (n : Nat) (b : Ld) (x y : α) : (bif !jD b.1 0 ((n : Int) - 1) then x else bif !jD b.2.1 0 2 then x else bif !jD b.2.2.1 1 1000 then x else bif !jD b.2.2.2 0 1000 then x else y) = if okL n b then y else x := by
 unfold okL
 cases jD b.1 0 ((n : Int) - 1) <;> cases jD b.2.1 0 2 <;> cases jD b.2.2.1 1 1000 <;> cases jD b.2.2.2 0 1000 <;> rfl
theorem okS_c {α : Type} (s : Sup) (x z : α) : (bif decide ((s.1.length : Int) > 10) then x else bif decide ((s.2.1.length : Int) > 16) then x else bif !jD s.2.2.1 1 1000 then x else bif !jD s.2.2.2.1 0 20 then x else bif !jD s.2.2.2.2 1 1000 then x else z) =
  if (decide (s.1.length ≤ 10) && (decide (s.2.1.length ≤ 16) && (jD s.2.2.1 1 1000 && (jD s.2.2.2.1 0 20 && jD s.2.2.2.2 1 1000)))) then z else x := by
 by_cases h1 : s.1.length ≤ 10
 ·rw [qD (p := (s.1.length : Int) > 10) (by omega), qu (p := s.1.length ≤ 10) h1]
  by_cases h2 : s.2.1.length ≤ 16
  ·rw [qD (p := (s.2.1.length : Int) > 16) (by omega), qu (p := s.2.1.length ≤ 16) h2]
   cases jD s.2.2.1 1 1000 <;> cases jD s.2.2.2.1 0 20 <;> cases jD s.2.2.2.2 1 1000 <;> rfl
  ·rw [qu (p := (s.2.1.length : Int) > 16) (by omega), qD (p := s.2.1.length ≤ 16) h2]
   rfl
 ·rw [qu (p := (s.1.length : Int) > 10) (by omega), qD (p := s.1.length ≤ 10) h1]
  rfl
theorem qgU {s : Sup} (h : okS s = true) : s.1.length ≤ 10 ∧ s.2.1.length ≤ 16 := by
 unfold okS at h
 simp only [Bool.and_eq_true, decide_eq_true_iff] at h
 exact ⟨h.1, h.2.1⟩
theorem qi6 {α : Type} [Inhabited α] (l : List α) (p : α → Bool) : (List.range l.length).all (fun i => p (gd l (i : Int))) = l.all p := by
 induction l with
 | nil => rfl
 | cons x l ih =>
  rw [List.length_cons, List.range_succ_eq_map, List.all_cons, List.all_map, List.all_cons, ← ih]
  rfl
theorem qkW (s : Sup) {R : Type} (a b : R) : (if (decide (s.1.length ≤ 10) && (decide (s.2.1.length ≤ 16) && (jD s.2.2.1 1 1000 && (jD s.2.2.2.1 0 20 && jD s.2.2.2.2 1 1000)))) then
  (if (List.range s.1.length).all (fun i => okB (gd s.1 (i : Int)) i) then (if (List.range s.2.1.length).all (fun i => okL s.1.length (gd s.2.1 (i : Int))) then a else b) else b) else b) = if okS s then a else b := by
 rw [qi6]
 unfold okS
 cases decide (s.1.length ≤ 10) <;> cases decide (s.2.1.length ≤ 16) <;> cases jD s.2.2.1 1 1000 <;> cases jD s.2.2.2.1 0 20 <;> cases jD s.2.2.2.2 1 1000 <;> cases (List.range s.1.length).all (fun i => okB (gd s.1 (i : Int)) i) <;> rfl
theorem g64_eq (s : Sup) : g64 (s, ()) = some ((if okS s then 0 else 50, ()), ()) := by
 show F64 qc s = _
 unfold F64
 simp only [g82_eq, qb]
 have hr : some ((if okS s then (0 : Int) else 50, ()), ()) = if okS s then some (((0 : Int), ()), ()) else some ((50, ()), ()) := by split <;> rfl
 rw [okS_c, hr, ← qkW s]
 by_cases h : (decide (s.1.length ≤ 10) && (decide (s.2.1.length ≤ 16) && (jD s.2.2.1 1 1000 && (jD s.2.2.2.1 0 20 && jD s.2.2.2.2 1 1000)))) = true
 case neg => rw [if_neg h, if_neg h]
 rw [if_pos h, if_pos h]
 simp only [Bool.and_eq_true, decide_eq_true_iff] at h
 have hf := qP
 have e1 := loopNum (L := L64_4) (fun i => ((s.1, (s.1.length : Int), (i : Int), ()), (s, ()), ())) s.1.length (fun i => okB (gd s.1 (i : Int)) i) (.inl ((50, ()), (), ())) (.inr ((), (s, ()), ())) 0 (N := qc) (by omega)
  (fun N => by simp [L64_4, B64_4])
  (fun N i _ hi => by
   simp only [L64_4, B64_4, g82_eq, qb]
   rw [qu (by omega), cond_true, qk (by omega) (by omega), wI (x := (i : Int) - 1) (by omega) (by omega), okB_c, wI (by omega) (by omega)]
   split <;> rfl)
 have e1' : L64_4 qc ((s.1, (s.1.length : Int), 0, ()), (s, ()), ()) = _ := e1
 rw [e1', qb]
 cases (List.range s.1.length).all (fun i => okB (gd s.1 (i : Int)) i) with
 | false => rfl
 | true =>
 rw [if_pos rfl, qcG, if_pos rfl]
 have e2 := loopNum (L := L64_10) (fun i => ((s.2.1, (s.2.1.length : Int), (i : Int), ()), (s, ()), ())) s.2.1.length (fun i => okL s.1.length (gd s.2.1 (i : Int))) (.inl ((50, ()), (), ())) (.inr ((), (), ())) 0 (N := qc) (by omega)
  (fun N => by simp [L64_10, B64_10])
  (fun N i _ hi => by
   simp only [L64_10, B64_10, g82_eq, qb]
   rw [qu (by omega), cond_true, qk (by omega) (by omega), wI (x := (s.1.length : Int) - 1) (by omega) (by omega), okL_c, wI (by omega) (by omega)]
   split <;> rfl)
 have e2' : L64_10 qc ((s.2.1, (s.2.1.length : Int), 0, ()), (s, ()), ()) = _ := e2
 simp only [e2', qb]
 cases (List.range s.2.1.length).all (fun i => okL s.1.length (gd s.2.1 (i : Int))) <;> rfl
theorem g19_eq (s : Sup) : g19 (s, ()) = some ((if okS s then 0 else 50, ()), ()) := by
 show F19 qc s = _
 unfold F19
 simp only [g45_eq, qb]
 have hr : some ((if okS s then (0 : Int) else 50, ()), ()) = if okS s then some (((0 : Int), ()), ()) else some ((50, ()), ()) := by split <;> rfl
 rw [okS_c, hr, ← qkW s]
 by_cases h : (decide (s.1.length ≤ 10) && (decide (s.2.1.length ≤ 16) && (jD s.2.2.1 1 1000 && (jD s.2.2.2.1 0 20 && jD s.2.2.2.2 1 1000)))) = true
 case neg => rw [if_neg h, if_neg h]
 rw [if_pos h, if_pos h]
 simp only [Bool.and_eq_true, decide_eq_true_iff] at h
 have hf := qP
 have e1 := loopNum (L := L19_4) (fun i => (((i : Int), ()), (s, ()), ())) s.1.length (fun i => okB (gd s.1 (i : Int)) i) (.inl ((50, ()), (), ())) (.inr ((), (s, ()), ())) 0 (N := qc) (by omega)
  (fun N => by simp [L19_4, B19_4])
  (fun N i _ hi => by
   simp only [L19_4, B19_4, g45_eq, qb]
   rw [qu (by omega), cond_true, qk (by omega) (by omega), wI (x := (i : Int) - 1) (by omega) (by omega), okB_c, wI (by omega) (by omega)]
   split <;> rfl)
 have e1' : L19_4 qc ((0, ()), (s, ()), ()) = _ := e1
 rw [e1', qb]
 cases (List.range s.1.length).all (fun i => okB (gd s.1 (i : Int)) i) with
 | false => rfl
 | true =>
 rw [if_pos rfl, qcG, if_pos rfl]
 have e2 := loopNum (L := L19_10) (fun i => (((i : Int), ()), (s, ()), ())) s.2.1.length (fun i => okL s.1.length (gd s.2.1 (i : Int))) (.inl ((50, ()), (), ())) (.inr ((), (), ())) 0 (N := qc) (by omega)
  (fun N => by simp [L19_10, B19_10])
  (fun N i _ hi => by
   simp only [L19_10, B19_10, g45_eq, qb]
   rw [qu (by omega), cond_true, qk (by omega) (by omega), wI (x := (s.1.length : Int) - 1) (by omega) (by omega), okL_c, wI (by omega) (by omega)]
   split <;> rfl)
 have e2' : L19_10 qc ((0, ()), (s, ()), ()) = _ := e2
 simp only [e2', qb]
 cases (List.range s.2.1.length).all (fun i => okL s.1.length (gd s.2.1 (i : Int))) <;> rfl
def okC (s : Sup) (set : Int) : Int := if okS s then (if jD set 0 (((2 ^ s.2.1.length : Nat) : Int) - 1) then 0 else 1) else 50
theorem pow16 {n : Nat} (h : n ≤ 16) : 2 ^ n ≤ 65536 := by
 have : (2 : Nat) ^ n ≤ 2 ^ 16 := Nat.pow_le_pow_right (by omega) h
 omega
theorem g85_eq (s : Sup) (set : Int) : g85 (s, set, ()) = some ((okC s set, ()), ()) := by
 show F85 qc s set = _
 unfold F85 okC
 rw [g64_eq, qb]
 by_cases h : okS s = true
 case neg => rw [if_neg h, if_neg h]; rfl
 rw [if_pos h, if_pos h]
 have hl := (qgU h).2
 have e : g102 (s, set, ()) = some ((jD set 0 (((2 ^ s.2.1.length : Nat) : Int) - 1), ()), ()) := by
  show F102 qc s set = _
  unfold F102
  have := pow16 hl
  rw [negK_in (by omega), shl_n (by omega), g82_eq, qb]
  generalize 2 ^ s.2.1.length = p at this ⊢
  rw [wI (by omega) (by omega)]
 rw [e]
 cases jD set 0 (((2 ^ s.2.1.length : Nat) : Int) - 1) <;> rfl
def qhz (l : List Brd) : Prop := ∀ j : Nat, j < l.length → -1 ≤ (gd l (j : Int)).1 ∧ (gd l (j : Int)).1 < j
theorem qiF {s : Sup} (h : okS s = true) : qhz s.1 := by
 unfold okS at h
 simp only [Bool.and_eq_true, decide_eq_true_iff, List.all_eq_true, List.mem_range] at h
 intro j hj
 have := h.2.2.2.2.2.1 j hj
 unfold okB at this
 simp only [Bool.and_eq_true, qG] at this
 omega
theorem qhz.at {l : List Brd} (h : qhz l) {b : Int} (h0 : 0 ≤ b) (h1 : b < l.length) : -1 ≤ (gd l b).1 ∧ (gd l b).1 < b := by
 have := h b.toNat (by omega)
 rwa [show ((b.toNat : Nat) : Int) = b by omega] at this
def chF (l : List Brd) : Nat → Int → List Int
 | 0, _ => []
 | n + 1, b => if b < 0 then [] else b :: chF l n (gd l b).1
theorem chF_eq {l : List Brd} (hu : qhz l) : ∀ (n m : Nat) (b : Int), b < n → b < m → b < l.length → chF l n b = chF l m b
 | 0, 0, _, _, _, _ => rfl
 | 0, m + 1, b, h, _, _ => by
  unfold chF
  rw [if_pos (by omega)]
 | n + 1, 0, b, _, h, _ => by
  unfold chF
  rw [if_pos (by omega)]
 | n + 1, m + 1, b, h1, h2, h3 => by
  unfold chF
  by_cases hb : b < 0
  ·rw [if_pos hb, if_pos hb]
  ·rw [if_neg hb, if_neg hb]
   have := hu.at (b := b) (by omega) h3
   rw [chF_eq hu n m _ (by omega) (by omega) (by omega)]
def chn (l : List Brd) (b : Int) : List Int := chF l (l.length + 1) b
theorem qi0 {l : List Brd} {b : Int} (hb : b < 0) : chn l b = [] := by
 unfold chn chF
 rw [if_pos hb]
theorem qiZ {l : List Brd} (hu : qhz l) {b : Int} (h0 : 0 ≤ b) (h1 : b < l.length) : chn l b = b :: chn l (gd l b).1 := by
 have := hu.at h0 h1
 unfold chn
 rw [chF, if_neg (by omega), chF_eq hu l.length (l.length + 1) _ (by omega) (by omega) (by omega)]
theorem qk9 {l : List Brd} (hu : qhz l) {p : Int → Prop} (hneg : p (-1)) (hpos : ∀ b : Int, 0 ≤ b → b < l.length → p (gd l b).1 → p b) : ∀ b : Int, -1 ≤ b → b < l.length → p b := by
 have key : ∀ (n : Nat) (b : Int), b < n → -1 ≤ b → b < l.length → p b := by
  intro n
  induction n with
  | zero =>
   intro b h1 h2 h3
   obtain rfl : b = -1 := by omega
   exact hneg
  | succ n ih =>
   intro b h1 h2 h3
   by_cases hb : b < 0
   ·obtain rfl : b = -1 := by omega
    exact hneg
   ·have := hu.at (b := b) (by omega) h3
    exact hpos b (by omega) h3 (ih _ (by omega) (by omega) (by omega))
 intro b h1 h2
 exact key (b + 1).toNat b (by omega) h1 h2
theorem qfj {l : List Brd} (hu : qhz l) : ∀ b : Int, -1 ≤ b → b < l.length → ∀ x ∈ chn l b, 0 ≤ x ∧ x ≤ b := by
 refine qk9 hu ?_ ?_
 ·rw [qi0 (by omega)]
  intro x h
  cases h
 ·intro b h0 h1 ih x hx
  rw [qiZ hu h0 h1] at hx
  have := hu.at h0 h1
  rcases List.mem_cons.1 hx with rfl | h
  ·omega
  ·have := ih x h
   omega
theorem qlI {l : List Brd} (hu : qhz l) : ∀ b : Int, -1 ≤ b → b < l.length → (chn l b).Nodup := by
 refine qk9 hu ?_ ?_
 ·rw [qi0 (by omega)]
  exact List.nodup_nil
 ·intro b h0 h1 ih
  have := hu.at h0 h1
  rw [qiZ hu h0 h1, List.nodup_cons]
  refine ⟨fun h => ?_, ih⟩
  have := qfj hu (gd l b).1 (by omega) (by omega) b h
  omega
theorem upL_eq {l : List Brd} (hu : qhz l) : ∀ (n : Nat) (b : Int), -1 ≤ b → b < n → b < l.length → It.upL (n + 1) l b = some (chn l b ++ [-1])
 | n, b, h0, h1, h2 => by
  unfold It.upL
  by_cases hb : b < 0
  ·rw [qu hb, cond_true, qi0 hb]
   rfl
  ·have hp := hu.at (b := b) (by omega) h2
   rw [qD hb, cond_false, qk (by omega) h2, qu hp.2, cond_true]
   match n with
   | 0 => omega
   | n + 1 =>
    rw [upL_eq hu n (gd l b).1 hp.1 (by omega) (by omega), qb, qiZ hu (by omega) h2]
    rfl
theorem it131_eq {s : Sup} (hu : qhz s.1) (hl : s.1.length ≤ 1000) {b : Int} (h0 : -1 ≤ b) (h1 : b < s.1.length) : It.it131.g (b, s, ()) = some (chn s.1 b ++ [-1]) := by
 show jE (s.1.length : Int) (It.upL (s.1.length + 1) s.1 b) = _
 rw [jT (by omega) (by omega), upL_eq hu s.1.length b h0 (by omega) h1]; rfl
theorem up_k {R : Type} {s : Sup} (hu : qhz s.1) (hl : s.1.length ≤ 1000) {b : Int} (h0 : -1 ≤ b) (h1 : b < s.1.length) (K : List Int → Option R) :
  (qa (It.m123.p.g (s, b, ())) fun y3 => qa y3.1.2.1 fun q4 => qa (It.it131.g (y3.1.1, q4, ())) fun l6 => K l6) = K (chn s.1 b ++ [-1]) := by
 show qa (It.it131.g (b, s, ())) _ = _
 rw [it131_eq hu hl h0 h1]
 rfl
def und (l : List Brd) (b top : Int) : Bool := (chn l b).contains top
def qhr (s : Sup) (S : Nat) (b ph : Int) : Nat → Int
 | 0 => 0
 | k + 1 => qhr s S b ph k + (if S.testBit k && ((gd s.2.1 (k : Int)).2.1 == ph && (decide (b < 0) || und s.1 (gd s.2.1 (k : Int)).1 b)) then (gd s.2.1 (k : Int)).2.2.1 else 0)
def cur (s : Sup) (S : Nat) (b ph : Int) : Int := qhr s S b ph s.2.1.length
theorem okS_ld {s : Sup} (h : okS s = true) {k : Nat} (hk : k < s.2.1.length) : okL s.1.length (gd s.2.1 (k : Int)) = true := by
 unfold okS at h
 simp only [Bool.and_eq_true, decide_eq_true_iff, List.all_eq_true] at h
 exact h.2.2.2.2.2.2 _ (qau (by omega) (by omega))
theorem okL_1 {n : Nat} {x : Ld} (h : okL n x = true) : (0 ≤ x.1 ∧ x.1 < n) ∧ (0 ≤ x.2.1 ∧ x.2.1 ≤ 2) ∧ (1 ≤ x.2.2.1 ∧ x.2.2.1 ≤ 1000) ∧ (0 ≤ x.2.2.2 ∧ x.2.2.2 ≤ 1000) := by
 unfold okL at h
 simp only [Bool.and_eq_true, qG] at h
 omega
theorem qk8 {s : Sup} (h : okS s = true) (S : Nat) (b ph : Int) : ∀ k, k ≤ s.2.1.length → 0 ≤ qhr s S b ph k ∧ qhr s S b ph k ≤ 1000 * k
 | 0, _ => ⟨Int.le_refl _, by simp [qhr]⟩
 | k + 1, hk => by
  have ih := qk8 h S b ph k (by omega)
  have := okL_1 (okS_ld h (k := k) (by omega))
  unfold qhr
  split <;> omega
theorem gd_mapr {α : Type} [Inhabited α] (f : Nat → α) {n k : Nat} (h : k < n) : gd ((List.range n).map f) (k : Int) = f k := by
 refine qdM ?_
 simp [h]
def ix (n : Nat) (x : Int) : Nat := if x = -1 then n else x.toNat
def bO (n k : Nat) : Int := if k = n then -1 else (k : Int)
theorem agree3 {R : Type} (x : Option R) : jC [jC [jC [x, x], x], x] = x := by
 simp only [qbm, qbn]
theorem R103_ok {s : Sup} {ld : Ld} (hph : 0 ≤ ld.2.1 ∧ ld.2.1 ≤ 2) (ha : 1 ≤ ld.2.2.1 ∧ ld.2.2.1 ≤ 1000) (N : Nat) : ∀ (xs : List Int), (∀ x ∈ xs, x = -1 ∨ (0 ≤ x ∧ x < s.1.length)) → (xs.map (ix s.1.length)).Nodup →
  ∀ out : List (List Int), out.length = s.1.length + 1 → (∀ k ∈ xs.map (ix s.1.length), (gd out (k : Int)).length = 3 ∧ 0 ≤ gd (gd out (k : Int)) ld.2.1 ∧ gd (gd out (k : Int)) ld.2.1 ≤ 1099511627776) →
  ∃ out', R103_7 N xs (s, out, ld, ()) = some (.norm, (out', ())) ∧ out'.length = s.1.length + 1 ∧
   ∀ k : Nat, k ≤ s.1.length → gd out' (k : Int) = if k ∈ xs.map (ix s.1.length) then (gd out (k : Int)).set ld.2.1.toNat (gd (gd out (k : Int)) ld.2.1 + ld.2.2.1) else gd out (k : Int)
 | [], _, _, out, hl, _ => ⟨out, rfl, hl, fun k _ => by rw [if_neg (by simp)]⟩
 | x :: xs, hx, hnd, out, hl, hb => by
  rw [List.map_cons, List.nodup_cons] at hnd
  have hstep : ∀ i : Int, 0 ≤ i → i ≤ s.1.length → i.toNat = ix s.1.length x → (∀ (F : Int → List Int → Option (X × (List (List Int) × Unit))), jC [jS i out.length (jC [jS ld.2.1 3 (jC [qi out i fun e4 => qi e4 ld.2.1 fun e5 => jS i out.length (jS ld.2.1 3 (qi out i fun e6 => qi e6 ld.2.1 fun _ => F e5 e6)), jS i out.length (qi out i fun e8 => qi e8 ld.2.1 fun e9 => jS ld.2.1 3 (qi out i fun e10 => qi e10 ld.2.1 fun _ => F e9 e10))]), jS i out.length (jS ld.2.1 3 (qi out i fun e12 => qi e12 ld.2.1 fun e13 => jS ld.2.1 3 (qi out i fun e14 => qi e14 ld.2.1 fun _ => F e13 e14)))]), jS i out.length (jS i out.length (jS ld.2.1 3 (qi out i fun e16 => qi e16 ld.2.1 fun e17 => jS ld.2.1 3 (qi out i fun e18 => qi e18 ld.2.1 fun _ => F e17 e18))))] =
    F (gd (gd out i) ld.2.1) (gd out i)) := fun i h0 h1 hi F => by
   have h3 := hb i.toNat (by rw [hi]; simp)
   rw [show ((i.toNat : Nat) : Int) = i by omega] at h3
   have a1 : ∀ {R : Type} (k : Option R), jS i out.length k = k := fun k => jM h0 (by omega) k
   have a2 : ∀ {R : Type} (k : Option R), jS ld.2.1 3 k = k := fun k => jM hph.1 (by omega) k
   have a3 : ∀ {R : Type} (k : List Int → Option R), qi out i k = k (gd out i) := fun k => qk h0 (by omega) k
   have a4 : ∀ {R : Type} (k : Int → Option R), qi (gd out i) ld.2.1 k = k (gd (gd out i) ld.2.1) := fun k => qk hph.1 (by omega) k
   simp only [a1, a2, a3, a4, agree3]
  have hgo : ∀ i : Int, 0 ≤ i → i ≤ s.1.length → i.toNat = ix s.1.length x → ∃ out', R103_7 N xs (s, out.set i.toNat ((gd out i).set ld.2.1.toNat (IntKind.wrap .i64 (gd (gd out i) ld.2.1 + ld.2.2.1))), ld, ()) = some (.norm, (out', ())) ∧ out'.length = s.1.length + 1 ∧
    ∀ k : Nat, k ≤ s.1.length → gd out' (k : Int) = if k ∈ (x :: xs).map (ix s.1.length) then (gd out (k : Int)).set ld.2.1.toNat (gd (gd out (k : Int)) ld.2.1 + ld.2.2.1) else gd out (k : Int) := fun i h0 h1 hi => by
   have h3 := hb i.toNat (by rw [hi]; simp)
   rw [show ((i.toNat : Nat) : Int) = i by omega] at h3
   rw [wI (by omega) (by omega)]
   obtain ⟨o2, ho2⟩ : ∃ o2, out.set i.toNat ((gd out i).set ld.2.1.toNat (gd (gd out i) ld.2.1 + ld.2.2.1)) = o2 := ⟨_, rfl⟩
   have hself : gd o2 i = (gd out i).set ld.2.1.toNat (gd (gd out i) ld.2.1 + ld.2.2.1) := by rw [← ho2]; exact qaN h0 (by omega)
   have hoth : ∀ k : Nat, (k : Int) ≠ i → gd o2 (k : Int) = gd out (k : Int) := fun k hk => by rw [← ho2]; exact qbI h0 (by omega) hk
   have hl2 : o2.length = s.1.length + 1 := by rw [← ho2, List.length_set, hl]
   rw [ho2]
   have hnot : i.toNat ∉ xs.map (ix s.1.length) := by rw [hi]; exact hnd.1
   obtain ⟨out', e1, e2, e3⟩ := R103_ok hph ha N xs (fun y hy => hx y (List.mem_cons_of_mem _ hy)) hnd.2 o2 hl2 (fun k hk => by
    have hne : (k : Int) ≠ i := fun e => hnot (by rw [← e, Int.toNat_natCast]; exact hk)
    rw [hoth k hne]
    exact hb k (by rw [List.map_cons]; exact List.mem_cons_of_mem _ hk))
   refine ⟨out', e1, e2, fun k hk => ?_⟩
   rw [e3 k hk, List.map_cons, ← hi]
   by_cases hki : k = i.toNat
   ·subst hki
    rw [if_neg hnot, if_pos (by simp), show ((i.toNat : Nat) : Int) = i by omega, hself]
   ·rw [hoth k (by omega)]
    by_cases hm : k ∈ xs.map (ix s.1.length)
    ·rw [if_pos hm, if_pos (List.mem_cons_of_mem _ hm)]
    ·rw [if_neg hm, if_neg (by simp only [List.mem_cons, not_or]; exact ⟨hki, hm⟩)]
  show ∃ out', Q103_7 N (R103_7 N xs) x s out ld = some (.norm, (out', ())) ∧ _
  unfold Q103_7
  have hx0 := hx x List.mem_cons_self
  by_cases hx1 : x = -1
  ·have hi : ((s.1.length : Nat) : Int).toNat = ix s.1.length x := by unfold ix; rw [if_pos hx1, Int.toNat_natCast]
   have hb1 : (x == -1) = true := by simp [hx1]
   rw [hb1, cond_true, qdh, hstep _ (by omega) (Int.le_refl _) hi]
   exact hgo _ (by omega) (Int.le_refl _) hi
  ·have hi : x.toNat = ix s.1.length x := by unfold ix; rw [if_neg hx1]
   have hb1 : (x == -1) = false := by simp [hx1]
   rw [hb1, cond_false, qdh, hstep _ (by omega) (by omega) hi]
   exact hgo _ (by omega) (by omega) hi
def row3 (s : Sup) (S : Nat) (b : Int) (i : Nat) : List Int := [qhr s S b 0 i, qhr s S b 1 i, qhr s S b 2 i]
def qdR (s : Sup) (S : Nat) (i : Nat) : List (List Int) := (List.range (s.1.length + 1)).map fun k => row3 s S (bO s.1.length k) i
theorem qkU (s : Sup) (S : Nat) (b : Int) (i : Nat) {ph : Int} (h : 0 ≤ ph ∧ ph ≤ 2) : gd (row3 s S b i) ph = qhr s S b ph i := by
 obtain rfl | rfl | rfl : ph = 0 ∨ ph = 1 ∨ ph = 2 := by omega
 all_goals rfl
theorem qhY (s : Sup) (S : Nat) (b : Int) (i : Nat) (h : 0 ≤ (gd s.2.1 (i : Int)).2.1 ∧ (gd s.2.1 (i : Int)).2.1 ≤ 2) :
  row3 s S b (i + 1) = if S.testBit i && (decide (b < 0) || und s.1 (gd s.2.1 (i : Int)).1 b) then (row3 s S b i).set (gd s.2.1 (i : Int)).2.1.toNat (gd (row3 s S b i) (gd s.2.1 (i : Int)).2.1 + (gd s.2.1 (i : Int)).2.2.1) else row3 s S b i := by
 rw [qkU s S b i h]
 unfold row3
 simp only [qhr]
 generalize (gd s.2.1 (i : Int)).2.1 = p at h ⊢
 generalize (decide (b < 0) || und s.1 (gd s.2.1 (i : Int)).1 b) = q
 generalize S.testBit i = r
 obtain rfl | rfl | rfl : p = 0 ∨ p = 1 ∨ p = 2 := by omega
 all_goals cases r <;> cases q <;> simp
theorem qbx (s : Sup) (S i : Nat) : (qdR s S i).length = s.1.length + 1 := by simp [qdR]
theorem qcY (s : Sup) (S i : Nat) {k : Nat} (h : k ≤ s.1.length) : gd (qdR s S i) (k : Int) = row3 s S (bO s.1.length k) i := gd_mapr _ (by omega)
theorem ix_mem {s : Sup} (h : okS s = true) {b : Int} (h0 : 0 ≤ b) (h1 : b < s.1.length) {k : Nat} (hk : k ≤ s.1.length) : k ∈ (chn s.1 b ++ [-1]).map (ix s.1.length) ↔ (decide (bO s.1.length k < 0) || und s.1 b (bO s.1.length k)) = true := by
 have hm := qfj (qiF h) b (by omega) h1
 unfold bO
 by_cases hkn : k = s.1.length
 ·rw [if_pos hkn]
  simp [ix, hkn]
 ·rw [if_neg hkn]
  unfold und
  simp only [List.map_append, List.mem_append, List.map_cons, List.map_nil, List.mem_singleton, Bool.or_eq_true, decide_eq_true_iff, List.contains_eq_mem]
  constructor
  ·rintro (h2 | h2)
   ·obtain ⟨x, hx, e⟩ := List.mem_map.1 h2
    have := hm x hx
    unfold ix at e
    rw [if_neg (by omega)] at e
    right
    rw [← e, show ((x.toNat : Nat) : Int) = x by omega]
    exact hx
   ·unfold ix at h2
    rw [if_pos rfl] at h2
    exact absurd h2 hkn
  ·rintro (h2 | h2)
   ·omega
   ·left
    refine List.mem_map.2 ⟨(k : Int), h2, ?_⟩
    unfold ix
    rw [if_neg (by omega), Int.toNat_natCast]
theorem ix_nodup {s : Sup} (h : okS s = true) {b : Int} (h0 : 0 ≤ b) (h1 : b < s.1.length) : ((chn s.1 b ++ [-1]).map (ix s.1.length)).Nodup := by
 have hm := qfj (qiF h) b (by omega) h1
 have hn := qlI (qiF h) b (by omega) h1
 rw [List.map_append, List.nodup_append]
 refine ⟨?_, by simp, ?_⟩
 ·rw [List.Nodup, List.pairwise_map]
  refine hn.imp_of_mem ?_
  intro x y hx hy hne e
  have h1 := hm x hx
  have h2 := hm y hy
  unfold ix at e
  rw [if_neg (by omega), if_neg (by omega)] at e
  exact hne (by omega)
 ·intro x hx y hy
  obtain ⟨z, hz, rfl⟩ := List.mem_map.1 hx
  have := hm z hz
  simp only [List.map_cons, List.map_nil, List.mem_singleton] at hy
  subst hy
  unfold ix
  rw [if_neg (by omega), if_pos rfl]
  omega
theorem g103_eq {s : Sup} (h : okS s = true) {S : Nat} (hS : S < 4611686018427387904) : g103 (s, (S : Int), ()) = some ((qdR s S s.2.1.length, ()), ()) := by
 show F103 qc s (S : Int) = _
 unfold F103
 have hl := qgU h
 have hf := qP
 have hu := qiF h
 rw [wI (by omega) (by omega), qaG (by omega), qaG (by omega), jT (by omega) (by omega), qao]
 have e0 : List.replicate ((s.1.length : Int) + 1).toNat (List.replicate 3 (0 : Int)) = qdR s S 0 := by
  refine qfO (by rw [qbx, List.length_replicate]; omega) fun k hk => ?_
  rw [List.length_replicate] at hk
  rw [qcu (by omega) (by omega), qcY s S 0 (by omega)]
  rfl
 rw [e0]
 have e := qd2 (L := L103_3) (fun i => (((S : Int), s, s.2.1, (s.2.1.length : Int), (i : Int), ()), (qdR s S i, ()), ())) ((), (qdR s S s.2.1.length, ()), ()) 0 s.2.1.length (N := qc) (by omega)
  (fun N => by
   simp only [L103_3, B103_3]
   rw [qD (by omega)]
   rfl)
  (fun N i _ hi => by
   have hx := okL_1 (okS_ld h hi)
   simp only [L103_3, B103_3]
   rw [qu (by omega), cond_true, qk (by omega) (by omega), negK_in (by omega), bit_n hS (by omega), wI (x := (i : Int) + 1) (by omega) (by omega), show ((i : Int) + 1) = ((i + 1 : Nat) : Int) by omega]
   cases hb : S.testBit i with
   | false =>
    have : qdR s S (i + 1) = qdR s S i := by
     refine qfO (by rw [qbx, qbx]) fun k hk => ?_
     rw [qbx] at hk
     rw [qcY s S _ (by omega), qcY s S _ (by omega), qhY s S _ i hx.2.1, hb]
     rfl
    rw [this]
    rfl
   | true =>
    obtain ⟨out', e1, e2, e3⟩ := R103_ok (s := s) (ld := gd s.2.1 (i : Int)) hx.2.1 hx.2.2.1 N (chn s.1 (gd s.2.1 (i : Int)).1 ++ [-1])
     (fun x hm => by
      rcases List.mem_append.1 hm with h1 | h1
      ·have := qfj hu _ (by omega) hx.1.2 x h1
       right; omega
      ·left; simpa using h1)
     (ix_nodup h hx.1.1 hx.1.2) (qdR s S i) (qbx s S i) (fun k hk => by
      have hk : k ≤ s.1.length := by
       obtain ⟨y, hy, rfl⟩ := List.mem_map.1 hk
       unfold ix
       rcases List.mem_append.1 hy with h1 | h1
       ·have := qfj hu _ (by omega) hx.1.2 y h1
        split <;> omega
       ·split <;> simp_all
      rw [qcY s S i hk, qkU s S _ i hx.2.1]
      have := qk8 h S (bO s.1.length k) (gd s.2.1 (i : Int)).2.1 i (by omega)
      exact ⟨rfl, by omega, by omega⟩)
    have e4 : out' = qdR s S (i + 1) := by
     refine qfO (by rw [e2, qbx]) fun k hk => ?_
     have hk : k ≤ s.1.length := by omega
     rw [e3 k hk, qcY s S _ hk, qcY s S _ hk, qhY s S _ i hx.2.1, hb, Bool.true_and]
     by_cases hm : k ∈ (chn s.1 (gd s.2.1 (i : Int)).1 ++ [-1]).map (ix s.1.length)
     ·rw [if_pos hm, if_pos ((ix_mem h hx.1.1 hx.1.2 hk).1 hm)]
     ·rw [if_neg hm, if_neg (fun hh => hm ((ix_mem h hx.1.1 hx.1.2 hk).2 hh))]
    refine (up_k hu (by omega) (by omega) (by omega) (fun l6 => qa (R103_7 N l6 (s, qdR s S i, gd s.2.1 (i : Int), ())) fun o5 => cond (X.same .norm o5.1) (L103_3 N (((S : Int), s, s.2.1, (s.2.1.length : Int), ((i + 1 : Nat) : Int), ()), (o5.2.1, ()), ())) none)).trans ?_
    rw [e1, qb, e4]
    rfl)
 have e' : L103_3 qc (((S : Int), s, s.2.1, (s.2.1.length : Int), 0, ()), (qdR s S 0, ()), ()) = _ := e
 rw [e', qb]
theorem loopFst {D R : Type} {L : Nat → D → Option R} (mk : Nat → D) (n : Nat) (q : Nat → Bool) (hit : Nat → R) (e : R) (c : Nat) {N : Nat} (hN : n + c < N)
  (hend : ∀ N, L (N + 1) (mk n) = some e)
  (hstep : ∀ N i, c ≤ N → i < n → L (N + 1) (mk i) = if q i then some (hit i) else L N (mk (i + 1))) :
  L N (mk 0) = some (match (List.range n).find? q with | some i => hit i | none => e) := by
 have key : ∀ (d i : Nat) (N : Nat), i + d = n → d + c < N → L N (mk i) = some (match (List.range' i d).find? q with | some i => hit i | none => e) := by
  intro d
  induction d with
  | zero =>
   intro i N hi hN
   obtain ⟨m, rfl⟩ : ∃ m, N = m + 1 := ⟨N - 1, by omega⟩
   obtain rfl : i = n := by omega
   rw [hend]
   rfl
  | succ d ih =>
   intro i N hi hN
   obtain ⟨m, rfl⟩ : ∃ m, N = m + 1 := ⟨N - 1, by omega⟩
   rw [hstep m i (by omega) (by omega), List.range'_succ, List.find?_cons]
   cases q i with
   | true => rfl
   | false => rw [if_neg (by simp), ih (i + 1) m (by omega) (by omega)]
 rw [List.range_eq_range']
 exact key n 0 N (by omega) hN
def brs (s : Sup) (b : Int) : Int := if b < 0 then s.2.2.1 else (gd s.1 b).2.1
def mx3 (s : Sup) (S : Nat) (b : Int) : Int := max (max (cur s S b 0) (cur s S b 1)) (cur s S b 2)
def ovr (s : Sup) (S : Nat) (b : Int) : Bool := decide (mx3 s S b > brs s b)
theorem g104_eq (a b c : Int) : g104 ([a, b, c], ()) = some ((max (max a b) c, ()), ()) := by
 show F104 qc [a, b, c] = _
 unfold F104
 rw [jM (by omega) (by omega), qk (by omega) (by simp), jM (by omega) (by omega), qk (by omega) (by simp), jM (by omega) (by omega), qk (by omega) (by simp)]
 rfl
theorem g104_row (s : Sup) (S : Nat) (b : Int) : g104 (row3 s S b s.2.1.length, ()) = some ((mx3 s S b, ()), ()) := g104_eq _ _ _
theorem g105_eq (s : Sup) {k : Nat} (hk : k ≤ s.1.length) : g105 (s, (k : Int), ()) = some ((brs s (bO s.1.length k), ()), ()) := by
 show F105 qc s (k : Int) = _
 unfold F105 brs bO
 by_cases h : k = s.1.length
 ·have : ((k : Int) == (s.1.length : Int)) = true := by simp [h]
  rw [this, if_pos h, if_pos (by omega)]; rfl
 ·have h1 : ((k : Int) == (s.1.length : Int)) = false := beq_eq_false_iff_ne.2 (by omega)
  have h2 : ((k : Int) == -1) = false := beq_eq_false_iff_ne.2 (by omega)
  rw [h1, h2, if_neg h, if_neg (by omega), cond_false, cond_false, qk (by omega) (by omega)]
def fo (s : Sup) (S : Nat) : Option Nat := (List.range (s.1.length + 1)).find? fun i => ovr s S ((i : Int) - 1)
def foR (s : Sup) (S : Nat) : Int × (Bool × Unit) := match fo s S with | some i => ((i : Int) - 1, true, ()) | none => (0, false, ())
theorem fo_eq (s : Sup) (S : Nat) : fo s S = if ovr s S (-1) then some 0 else ((List.range s.1.length).find? fun (k : Nat) => ovr s S (k : Int)).map (· + 1) := by
 unfold fo
 rw [List.range_succ_eq_map, List.find?_cons]
 have h1 : ((0 : Nat) : Int) - 1 = -1 := rfl
 rw [h1]
 cases ovr s S (-1) with
 | true => rfl
 | false =>
  rw [if_neg (by simp), List.find?_map]
  have : ((fun (i : Nat) => ovr s S ((i : Int) - 1)) ∘ Nat.succ) = fun (k : Nat) => ovr s S (k : Int) := by
   funext k
   show ovr s S (((k + 1 : Nat) : Int) - 1) = _
   rw [show (((k + 1 : Nat) : Int) - 1) = (k : Int) by omega]
  rw [this]
theorem g86_eq {s : Sup} (h : okS s = true) {S : Nat} (hS : S < 4611686018427387904) : g86 (s, (S : Int), ()) = some (foR s S, ()) := by
 show F86 qc s (S : Int) = _
 unfold F86
 have hl := qgU h
 have hf := qP
 rw [g103_eq h hS, qb]
 show jS (s.1.length : Int) (qdR s S s.2.1.length).length (qi (qdR s S s.2.1.length) (s.1.length : Int) _) = _
 rw [jM (by omega) (by rw [qbx]; omega), qk (by omega) (by rw [qbx]; omega), qcY s S _ (Nat.le_refl _), g104_row, qb]
 have hb : bO s.1.length s.1.length = -1 := by unfold bO; rw [if_pos rfl]
 rw [hb]
 unfold foR
 rw [fo_eq]
 have ho : ovr s S (-1) = decide (mx3 s S (-1) > s.2.2.1) := rfl
 rw [ho]
 by_cases h0 : mx3 s S (-1) > s.2.2.1
 ·rw [qu h0]; rfl
 ·rw [qD h0, cond_false, if_neg (by simp)]
  have e := loopFst (L := L86_5) (fun i => (((s.1.length : Int), (i : Int), ()), (s, qdR s S s.2.1.length, ()), ())) s.1.length (fun k => ovr s S (k : Int)) (fun i => .inl (((i : Int), true, ()), (), ())) (.inr ((), (), ())) 0 (N := qc) (by omega)
   (fun N => by
    simp only [L86_5, B86_5]
    rw [qD (by omega)]; rfl)
   (fun N i _ hi => by
    simp only [L86_5, B86_5]
    have hbo : bO s.1.length i = (i : Int) := by unfold bO; rw [if_neg (by omega)]
    rw [qu (by omega), cond_true, jM (by omega) (by rw [qbx]; omega), qk (by omega) (by rw [qbx]; omega), qcY s S _ (by omega), g104_row, qb, g105_eq s (by omega), qb, hbo, wI (by omega) (by omega)]
    show (bif ovr s S (i : Int) then _ else _) = _
    cases ovr s S (i : Int) <;> rfl)
  have e' : L86_5 qc (((s.1.length : Int), 0, ()), (s, qdR s S s.2.1.length, ()), ()) = _ := e
  show qa (L86_5 qc (((s.1.length : Int), 0, ()), (s, qdR s S s.2.1.length, ()), ())) _ = _
  rw [e', qb]
  cases (List.range s.1.length).find? fun (k : Nat) => ovr s S (k : Int) with
  | none => rfl
  | some k =>
   show some (((k : Int), true, ()), ()) = some ((((k + 1 : Nat) : Int) - 1, true, ()), ())
   rw [show (((k + 1 : Nat) : Int) - 1) = (k : Int) by omega]
theorem foR_1 (s : Sup) (S : Nat) : (foR s S).2.1 = (fo s S).isSome := by
 unfold foR
 cases fo s S <;> rfl
theorem okC_in {s : Sup} {S : Nat} (h : okS s = true) (hS : S < 2 ^ s.2.1.length) : okC s (S : Int) = 0 := by
 unfold okC
 rw [if_pos h, if_pos (qG.2 ⟨by omega, by omega⟩)]
theorem g69_ok {s : Sup} {S : Nat} (h : okS s = true) (hS : S < 2 ^ s.2.1.length) : g69 (s, (S : Int), ()) = some (((foR s S).1, (fo s S).isNone, 0, ()), ()) := by
 show F69 qc s (S : Int) = _
 unfold F69
 have hp := pow16 (qgU h).2
 rw [g85_eq, qb, okC_in h hS, g86_eq h (by omega)]
 show some (((foR s S).1, !(foR s S).2.1, 0, ()), ()) = _
 rw [foR_1]
 cases fo s S <;> rfl
theorem root05 : (∀ s : Sup, g64 (s, ()) = some ((if okS s then 0 else 50, ()), ())) ∧ (∀ s : Sup, g19 (s, ()) = some ((if okS s then 0 else 50, ()), ())) ∧ (∀ (s : Sup) (S : Nat), okS s = true → S < 2 ^ s.2.1.length → g69 (s, (S : Int), ()) = some (((foR s S).1, (fo s S).isNone, 0, ()), ())) ∧ (∀ s : Sup, okS s = true → s.2.1.length ≤ 16) := ⟨g64_eq, g19_eq, fun _ _ => g69_ok, fun _ h => (qgU h).2⟩
theorem set_bit {S n : Nat} {r : Int} (hn : n ≤ 16) (hS : S < 2 ^ n) (h0 : 0 ≤ r) (h1 : r < n) : qbJ .or .i64 (S : Int) (shlI .i64 1 r) = ((S ||| 2 ^ r.toNat : Nat) : Int) ∧ S ||| 2 ^ r.toNat < 2 ^ n := by
 have hp : (2 : Nat) ^ n ≤ 2 ^ 16 := Nat.pow_le_pow_right (by omega) hn
 have hr : (2 : Nat) ^ r.toNat < 2 ^ n := Nat.pow_lt_pow_right (by omega) (by omega)
 have e : r = ((r.toNat : Nat) : Int) := by omega
 refine ⟨?_, Nat.or_lt_two_pow hS hr⟩
 conv => lhs; rw [e]
 rw [shl_n (by omega), or_n (by omega) (by omega)]
end Go.Proofs.Tryz.V.L05
