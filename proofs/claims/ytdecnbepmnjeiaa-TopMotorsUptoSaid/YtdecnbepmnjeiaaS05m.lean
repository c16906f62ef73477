/- Plain laws: what the last text needs of the others, in one. No condition beyond those typed in each theorem. -/
import Derived.Test.YtdecnbepmnjeiaaFn4
namespace Go.Proofs.Try.V.L05
open Go.Vi
set_option maxRecDepth 100000
abbrev Brd := Int × (Int × (Int × Int))
abbrev Ld := Int × (Int × (Int × Int))
abbrev Sup := (List Brd) × ((List Ld) × (Int × (Int × Int)))
abbrev Swi := Int × (Int × Int)
theorem loopIdx {α D R : Type} [Inhabited α] {L : Nat → D → Option R} (mk : Nat → D) (l : List α) (q : α → Bool) (hit : Nat → R) (e : R) (c : Nat) {N : Nat} (hN : l.length + c < N)
  (hend : ∀ N, L (N + 1) (mk l.length) = some e)
  (hstep : ∀ N i, c ≤ N → i < l.length → L (N + 1) (mk i) = if q (gd l (i : Int)) then some (hit i) else L N (mk (i + 1))) :
  L N (mk 0) = some (match l.findIdx? q with | some i => hit i | none => e) := by
 have key : ∀ (d i : Nat) (N : Nat), i + d = l.length → d + c < N → L N (mk i) = some (match (l.drop i).findIdx? q with | some j => hit (i + j) | none => e) := by
  intro d
  induction d with
  | zero =>
   intro i N hi hN
   obtain ⟨m, rfl⟩ : ∃ m, N = m + 1 := ⟨N - 1, by omega⟩
   obtain rfl : i = l.length := by omega
   rw [hend, List.drop_length]
   rfl
  | succ d ih =>
   intro i N hi hN
   obtain ⟨m, rfl⟩ : ∃ m, N = m + 1 := ⟨N - 1, by omega⟩
   rw [hstep m i (by omega) (by omega), qdR (by omega), List.findIdx?_cons]
   cases hq : q (gd l (i : Int)) with
   | true => rfl
   | false =>
    rw [if_neg (by simp), ih (i + 1) m (by omega) (by omega)]
    simp only [Bool.false_eq_true, if_false]
    cases (l.drop (i + 1)).findIdx? q with
    | none => rfl
    | some j =>
     simp only [Option.map_some]
     rw [show i + (j + 1) = i + 1 + j by omega]
 have := key l.length 0 N (by omega) hN
 simpa using this
theorem qkj {D R : Type} {L : Nat → D → Option R} (mk : Nat → D) (n : Nat) (p : Nat → Bool) (bad good : R) (c : Nat) {N : Nat} (hN : n + c < N)
  (hend : ∀ N, L (N + 1) (mk n) = some good)
  (hstep : ∀ N i, c ≤ N → i < n → L (N + 1) (mk i) = if p i then L N (mk (i + 1)) else some bad) :
  L N (mk 0) = some (if (List.range n).all p then good else bad) := by
 have key : ∀ (d i : Nat) (N : Nat), i + d = n → d + c < N → L N (mk i) = some (if (List.range' i d).all p then good else bad) := by
  intro d
  induction d with
  | zero =>
   intro i N hi hN
   obtain ⟨m, rfl⟩ : ∃ m, N = m + 1 := ⟨N - 1, by omega⟩
   obtain rfl : i = n := by omega
   rw [hend]
   rfl
  | succ d ih =>
   intro i N hi hN
   obtain ⟨m, rfl⟩ : ∃ m, N = m + 1 := ⟨N - 1, by omega⟩
   rw [hstep m i (by omega) (by omega), List.range'_succ, List.all_cons]
   cases p i with
   | true => rw [if_pos rfl, ih (i + 1) m (by omega) (by omega), Bool.true_and]
   | false => rw [if_neg (by simp), Bool.false_and, if_neg (by simp)]
 rw [List.range_eq_range']
 exact key n 0 N (by omega) hN
theorem negK_in {R : Type} {a : Int} (h : 0 ≤ a) (k : Option R) : qbL a k = k := by
 unfold qbL
 rw [if_neg (by omega)]
theorem ofN (S : Nat) (h : S < 4611686018427387904) : (BitVec.ofInt 64 (S : Int)).toNat = S := by
 rw [BitVec.toNat_ofInt, Int.emod_eq_of_lt (by omega) (by show (S : Int) < 18446744073709551616; omega)]
 omega
theorem and_n {S T : Nat} (hS : S < 4611686018427387904) (hT : T < 4611686018427387904) : qai .and .i64 (S : Int) (T : Int) = ((S &&& T : Nat) : Int) := by
 show IntKind.wrap .i64 ((BitVec.ofInt 64 (S : Int) &&& BitVec.ofInt 64 (T : Int)).toNat : Int) = _
 rw [BitVec.toNat_and, ofN S hS, ofN T hT]
 have := Nat.and_le_left (n := S) (m := T)
 exact wI (by omega) (by omega)
theorem or_n {S T : Nat} (hS : S < 4611686018427387904) (hT : T < 4611686018427387904) : qai .or .i64 (S : Int) (T : Int) = ((S ||| T : Nat) : Int) := by
 show IntKind.wrap .i64 ((BitVec.ofInt 64 (S : Int) ||| BitVec.ofInt 64 (T : Int)).toNat : Int) = _
 rw [BitVec.toNat_or, ofN S hS, ofN T hT]
 have : S ||| T < 2 ^ 62 := Nat.or_lt_two_pow hS hT
 exact wI (by omega) (by omega)
def dif (S T : Nat) : Nat := S ^^^ (S &&& T)
theorem qf0 (S T i : Nat) : (dif S T).testBit i = (S.testBit i && !T.testBit i) := by
 unfold dif
 rw [Nat.testBit_xor, Nat.testBit_and]
 cases S.testBit i <;> cases T.testBit i <;> rfl
theorem dif_le (S T : Nat) : dif S T ≤ S := by
 have h : dif S T = S &&& dif S T := by
  refine Nat.eq_of_testBit_eq fun i => ?_
  rw [Nat.testBit_and, qf0]
  cases S.testBit i <;> rfl
 rw [h]
 exact Nat.and_le_left
theorem andNot_n {S T : Nat} (hS : S < 4611686018427387904) (hT : T < 4611686018427387904) : qai .andNot .i64 (S : Int) (T : Int) = ((dif S T : Nat) : Int) := by
 show IntKind.wrap .i64 ((BitVec.ofInt 64 (S : Int) &&& ~~~ BitVec.ofInt 64 (T : Int)).toNat : Int) = _
 have e : (BitVec.ofInt 64 (S : Int) &&& ~~~ BitVec.ofInt 64 (T : Int)).toNat = dif S T := by
  rw [BitVec.toNat_and, BitVec.toNat_not, ofN S hS, ofN T hT]
  refine Nat.eq_of_testBit_eq fun i => ?_
  rw [Nat.testBit_and, qf0, show 2 ^ 64 - 1 - T = 2 ^ 64 - (T + 1) by omega, Nat.testBit_two_pow_sub_succ (by omega)]
  by_cases hi : i < 64
  ·rw [qM hi, Bool.true_and]
  ·rw [qL hi, Nat.testBit_lt_two_pow (Nat.lt_of_lt_of_le (show S < 2 ^ 64 by omega) (Nat.pow_le_pow_right (by omega) (by omega)))]
   rfl
 rw [e]
 have := dif_le S T
 exact wI (by omega) (by omega)
theorem shl_n {i : Nat} (hi : i < 62) : qgh .i64 1 (i : Int) = ((2 ^ i : Nat) : Int) := by
 have h : (2 : Nat) ^ i < 2 ^ 62 := Nat.pow_lt_pow_right (by omega) hi
 have e : min (i : Int).toNat IntKind.i64.bits = i := by
  rw [Int.toNat_natCast]
  exact Nat.min_eq_left (by show i ≤ 64; omega)
 unfold qgh
 rw [e, Int.one_mul, show ((2 : Int) ^ i) = ((2 ^ i : Nat) : Int) by simp]
 generalize 2 ^ i = p at h ⊢
 exact wI (by omega) (by omega)
theorem shr_n {S i : Nat} (hi : i < 62) : qbu .i64 (S : Int) (i : Int) = ((S >>> i : Nat) : Int) := by
 have e : min (i : Int).toNat IntKind.i64.bits = i := by
  rw [Int.toNat_natCast]
  exact Nat.min_eq_left (by show i ≤ 64; omega)
 unfold qbu
 rw [e, Nat.shiftRight_eq_div_pow, show ((2 : Int) ^ i) = ((2 ^ i : Nat) : Int) by simp, Int.fdiv_eq_ediv_of_nonneg _ (Int.natCast_nonneg _)]
 simp
theorem bit_n {S i : Nat} (hS : S < 4611686018427387904) (hi : i < 62) : qai .and .i64 (qbu .i64 (S : Int) (i : Int)) 1 = if S.testBit i then 1 else 0 := by
 have h : S >>> i ≤ S := by rw [Nat.shiftRight_eq_div_pow]; exact Nat.div_le_self _ _
 rw [shr_n hi, show (1 : Int) = ((1 : Nat) : Int) by rfl, and_n (by omega) (by omega)]
 have : S.testBit i = ((1 &&& (S >>> i)) != 0) := rfl
 rw [this, Nat.and_comm 1]
 have := Nat.and_le_right (n := S >>> i) (m := 1)
 rcases Nat.lt_or_ge 0 (S >>> i &&& 1) with h1 | h1
 ·obtain h2 : S >>> i &&& 1 = 1 := by omega
  rw [h2]; rfl
 ·obtain h2 : S >>> i &&& 1 = 0 := by omega
  rw [h2]; rfl
theorem u64_in {n : Int} (h0 : 0 ≤ n) (h : n ≤ 4294967295) : IntKind.wrap .u64 n = n := by
 show n % 18446744073709551616 = n
 exact Int.emod_eq_of_lt h0 (by omega)
def rng (x lo hi : Int) : Bool := decide (lo ≤ x) && decide (x ≤ hi)
theorem jL {x lo hi : Int} : rng x lo hi = true ↔ lo ≤ x ∧ x ≤ hi := by unfold rng; rw [Bool.and_eq_true, decide_eq_true_iff, decide_eq_true_iff]
theorem g16_eq (x lo hi : Int) : g16 (x, lo, hi, ()) = some ((rng x lo hi, ()), ()) := by
 show F16 qj x lo hi = _
 unfold F16 rng
 by_cases h : lo ≤ x
 ·rw [qM (p := x ≥ lo) h]; rfl
 ·rw [qL (p := x ≥ lo) h]; rfl
def okB (b : Brd) (i : Nat) : Bool := rng b.1 (-1) ((i : Int) - 1) && (rng b.2.1 1 1000 && (rng b.2.2.1 0 20 && rng b.2.2.2 1 10000))
def okL (n : Nat) (x : Ld) : Bool := rng x.1 0 ((n : Int) - 1) && (rng x.2.1 0 2 && (rng x.2.2.1 1 1000 && rng x.2.2.2 0 1000))
def okS (s : Sup) : Bool :=
 decide (s.1.length ≤ 10) && (decide (s.2.1.length ≤ 16) && (rng s.2.2.1 1 1000 && (rng s.2.2.2.1 0 20 && (rng s.2.2.2.2 1 1000 && ((List.range s.1.length).all (fun i => okB (gd s.1 (i : Int)) i) && s.2.1.all (okL s.1.length))))))
theorem okB_c {α : Type} (b : Brd) (i : Nat) (x y : α) : (bif !rng b.1 (-1) ((i : Int) - 1) then x else bif !rng b.2.1 1 1000 then x else bif !rng b.2.2.1 0 20 then x else bif !rng b.2.2.2 1 10000 then x else y) = if okB b i then y else x := by
 unfold okB
 cases rng b.1 (-1) ((i : Int) - 1) <;> cases rng b.2.1 1 1000 <;> cases rng b.2.2.1 0 20 <;> cases rng b.2.2.2 1 10000 <;> rfl
theorem okL_c {α : Type} (n : Nat) (b : Ld) (x y : α) : (bif !rng b.1 0 ((n : Int) - 1) then x else bif !rng b.2.1 0 2 then x else bif !rng b.2.2.1 1 1000 then x else bif !rng b.2.2.2 0 1000 then x else y) = if okL n b then y else x := by
 unfold okL
 cases rng b.1 0 ((n : Int) - 1) <;> cases rng b.2.1 0 2 <;> cases rng b.2.2.1 1 1000 <;> cases rng b.2.2.2 0 1000 <;> rfl
theorem okS_c {α : Type} (s : Sup) (x z : α) : (bif decide ((s.1.length : Int) > 10) then x else bif decide ((s.2.1.length : Int) > 16) then x else bif !rng s.2.2.1 1 1000 then x else bif !rng s.2.2.2.1 0 20 then x else bif !rng s.2.2.2.2 1 1000 then x else z) =
  if (decide (s.1.length ≤ 10) && (decide (s.2.1.length ≤ 16) && (rng s.2.2.1 1 1000 && (rng s.2.2.2.1 0 20 && rng s.2.2.2.2 1 1000)))) then z else x := by
 by_cases h1 : s.1.length ≤ 10
 ·rw [qL (p := (s.1.length : Int) > 10) (by omega), qM (p := s.1.length ≤ 10) h1]
  by_cases h2 : s.2.1.length ≤ 16
  ·rw [qL (p := (s.2.1.length : Int) > 16) (by omega), qM (p := s.2.1.length ≤ 16) h2]
   cases rng s.2.2.1 1 1000 <;> cases rng s.2.2.2.1 0 20 <;> cases rng s.2.2.2.2 1 1000 <;> rfl
  ·rw [qM (p := (s.2.1.length : Int) > 16) (by omega), qL (p := s.2.1.length ≤ 16) h2]
   rfl
 ·rw [qM (p := (s.1.length : Int) > 10) (by omega), qL (p := s.1.length ≤ 10) h1]
  rfl
theorem qdh {s : Sup} (h : okS s = true) : s.1.length ≤ 10 ∧ s.2.1.length ≤ 16 := by
 unfold okS at h
 simp only [Bool.and_eq_true, decide_eq_true_iff] at h
 exact ⟨h.1, h.2.1⟩
theorem all_gd {α : Type} [Inhabited α] (l : List α) (p : α → Bool) : (List.range l.length).all (fun i => p (gd l (i : Int))) = l.all p := by
 induction l with
 | nil => rfl
 | cons x l ih =>
  rw [List.length_cons, List.range_succ_eq_map, List.all_cons, List.all_map, List.all_cons, ← ih]
  rfl
theorem okS_fin (s : Sup) {R : Type} (a b : R) : (if (decide (s.1.length ≤ 10) && (decide (s.2.1.length ≤ 16) && (rng s.2.2.1 1 1000 && (rng s.2.2.2.1 0 20 && rng s.2.2.2.2 1 1000)))) then
  (if (List.range s.1.length).all (fun i => okB (gd s.1 (i : Int)) i) then (if (List.range s.2.1.length).all (fun i => okL s.1.length (gd s.2.1 (i : Int))) then a else b) else b) else b) = if okS s then a else b := by
 rw [all_gd]
 unfold okS
 cases decide (s.1.length ≤ 10) <;> cases decide (s.2.1.length ≤ 16) <;> cases rng s.2.2.1 1 1000 <;> cases rng s.2.2.2.1 0 20 <;> cases rng s.2.2.2.2 1 1000 <;> cases (List.range s.1.length).all (fun i => okB (gd s.1 (i : Int)) i) <;> rfl
theorem g7_eq (s : Sup) : g7 (s, ()) = some ((if okS s then 0 else 50, ()), ()) := by
 show F7 qj s = _
 unfold F7
 simp only [g16_eq, qd]
 have hr : some ((if okS s then (0 : Int) else 50, ()), ()) = if okS s then some (((0 : Int), ()), ()) else some ((50, ()), ()) := by split <;> rfl
 rw [okS_c, hr, ← okS_fin s]
 by_cases h : (decide (s.1.length ≤ 10) && (decide (s.2.1.length ≤ 16) && (rng s.2.2.1 1 1000 && (rng s.2.2.2.1 0 20 && rng s.2.2.2.2 1 1000)))) = true
 case neg => rw [if_neg h, if_neg h]
 rw [if_pos h, if_pos h]
 simp only [Bool.and_eq_true, decide_eq_true_iff] at h
 have hf := jP
 have e1 := qkj (L := L7_4) (fun i => ((s.1, (s.1.length : Int), (i : Int), ()), (s, ()), ())) s.1.length (fun i => okB (gd s.1 (i : Int)) i) (.inl ((50, ()), (), ())) (.inr ((), (s, ()), ())) 0 (N := qj) (by omega)
  (fun N => by simp [L7_4, B7_4])
  (fun N i _ hi => by
   simp only [L7_4, B7_4, g16_eq, qd]
   rw [qM (by omega), cond_true, qv (by omega) (by omega), wI (x := (i : Int) - 1) (by omega) (by omega), okB_c, wI (by omega) (by omega)]
   split <;> rfl)
 have e1' : L7_4 qj ((s.1, (s.1.length : Int), 0, ()), (s, ()), ()) = _ := e1
 rw [e1', qd]
 cases (List.range s.1.length).all (fun i => okB (gd s.1 (i : Int)) i) with
 | false => rfl
 | true =>
 rw [if_pos rfl, qex, if_pos rfl]
 have e2 := qkj (L := L7_10) (fun i => ((s.2.1, (s.2.1.length : Int), (i : Int), ()), (s, ()), ())) s.2.1.length (fun i => okL s.1.length (gd s.2.1 (i : Int))) (.inl ((50, ()), (), ())) (.inr ((), (), ())) 0 (N := qj) (by omega)
  (fun N => by simp [L7_10, B7_10])
  (fun N i _ hi => by
   simp only [L7_10, B7_10, g16_eq, qd]
   rw [qM (by omega), cond_true, qv (by omega) (by omega), wI (x := (s.1.length : Int) - 1) (by omega) (by omega), okL_c, wI (by omega) (by omega)]
   split <;> rfl)
 have e2' : L7_10 qj ((s.2.1, (s.2.1.length : Int), 0, ()), (s, ()), ()) = _ := e2
 simp only [e2', qd]
 cases (List.range s.2.1.length).all (fun i => okL s.1.length (gd s.2.1 (i : Int))) <;> rfl
theorem pow16 {n : Nat} (h : n ≤ 16) : 2 ^ n ≤ 65536 := by
 have : (2 : Nat) ^ n ≤ 2 ^ 16 := Nat.pow_le_pow_right (by omega) h
 omega
def qg0 (l : List Brd) : Prop := ∀ j : Nat, j < l.length → -1 ≤ (gd l (j : Int)).1 ∧ (gd l (j : Int)).1 < j
theorem qe5 {s : Sup} (h : okS s = true) : qg0 s.1 := by
 unfold okS at h
 simp only [Bool.and_eq_true, decide_eq_true_iff, List.all_eq_true, List.mem_range] at h
 intro j hj
 have := h.2.2.2.2.2.1 j hj
 unfold okB at this
 simp only [Bool.and_eq_true, jL] at this
 omega
theorem qg0.at {l : List Brd} (h : qg0 l) {b : Int} (h0 : 0 ≤ b) (h1 : b < l.length) : -1 ≤ (gd l b).1 ∧ (gd l b).1 < b := by
 have := h b.toNat (by omega)
 rwa [show ((b.toNat : Nat) : Int) = b by omega] at this
def chF (l : List Brd) : Nat → Int → List Int
 | 0, _ => []
 | n + 1, b => if b < 0 then [] else b :: chF l n (gd l b).1
theorem chF_eq {l : List Brd} (hu : qg0 l) : ∀ (n m : Nat) (b : Int), b < n → b < m → b < l.length → chF l n b = chF l m b
 | 0, 0, _, _, _, _ => rfl
 | 0, m + 1, b, h, _, _ => by
  unfold chF
  rw [if_pos (by omega)]
 | n + 1, 0, b, _, h, _ => by
  unfold chF
  rw [if_pos (by omega)]
 | n + 1, m + 1, b, h1, h2, h3 => by
  unfold chF
  by_cases hb : b < 0
  ·rw [if_pos hb, if_pos hb]
  ·rw [if_neg hb, if_neg hb]
   have := hu.at (b := b) (by omega) h3
   rw [chF_eq hu n m _ (by omega) (by omega) (by omega)]
def chn (l : List Brd) (b : Int) : List Int := chF l (l.length + 1) b
theorem qiw {l : List Brd} {b : Int} (hb : b < 0) : chn l b = [] := by
 unfold chn chF
 rw [if_pos hb]
theorem qiv {l : List Brd} (hu : qg0 l) {b : Int} (h0 : 0 ≤ b) (h1 : b < l.length) : chn l b = b :: chn l (gd l b).1 := by
 have := hu.at h0 h1
 unfold chn
 rw [chF, if_neg (by omega), chF_eq hu l.length (l.length + 1) _ (by omega) (by omega) (by omega)]
theorem qkv {l : List Brd} (hu : qg0 l) {p : Int → Prop} (hneg : p (-1)) (hpos : ∀ b : Int, 0 ≤ b → b < l.length → p (gd l b).1 → p b) : ∀ b : Int, -1 ≤ b → b < l.length → p b := by
 have key : ∀ (n : Nat) (b : Int), b < n → -1 ≤ b → b < l.length → p b := by
  intro n
  induction n with
  | zero =>
   intro b h1 h2 h3
   obtain rfl : b = -1 := by omega
   exact hneg
  | succ n ih =>
   intro b h1 h2 h3
   by_cases hb : b < 0
   ·obtain rfl : b = -1 := by omega
    exact hneg
   ·have := hu.at (b := b) (by omega) h3
    exact hpos b (by omega) h3 (ih _ (by omega) (by omega) (by omega))
 intro b h1 h2
 exact key (b + 1).toNat b (by omega) h1 h2
theorem qdr {l : List Brd} (hu : qg0 l) : ∀ b : Int, -1 ≤ b → b < l.length → ∀ x ∈ chn l b, 0 ≤ x ∧ x ≤ b := by
 refine qkv hu ?_ ?_
 ·rw [qiw (by omega)]
  intro x h
  cases h
 ·intro b h0 h1 ih x hx
  rw [qiv hu h0 h1] at hx
  have := hu.at h0 h1
  rcases List.mem_cons.1 hx with rfl | h
  ·omega
  ·have := ih x h
   omega
theorem qkU {l : List Brd} (hu : qg0 l) : ∀ b : Int, -1 ≤ b → b < l.length → (chn l b).Nodup := by
 refine qkv hu ?_ ?_
 ·rw [qiw (by omega)]
  exact List.nodup_nil
 ·intro b h0 h1 ih
  have := hu.at h0 h1
  rw [qiv hu h0 h1, List.nodup_cons]
  refine ⟨fun h => ?_, ih⟩
  have := qdr hu (gd l b).1 (by omega) (by omega) b h
  omega
theorem upL_eq {l : List Brd} (hu : qg0 l) : ∀ (n : Nat) (b : Int), -1 ≤ b → b < n → b < l.length → It.upL (n + 1) l b = some (chn l b ++ [-1])
 | n, b, h0, h1, h2 => by
  unfold It.upL
  by_cases hb : b < 0
  ·rw [qM hb, cond_true, qiw hb]
   rfl
  ·have hp := hu.at (b := b) (by omega) h2
   rw [qL hb, cond_false, qv (by omega) h2, qM hp.2, cond_true]
   match n with
   | 0 => omega
   | n + 1 =>
    rw [upL_eq hu n (gd l b).1 hp.1 (by omega) (by omega), qd, qiv hu (by omega) h2]
    rfl
theorem it75_eq {s : Sup} (hu : qg0 s.1) (hl : s.1.length ≤ 1000) {b : Int} (h0 : -1 ≤ b) (h1 : b < s.1.length) : It.it75.g (b, s, ()) = some (chn s.1 b ++ [-1]) := by
 show qN (s.1.length : Int) (It.upL (s.1.length + 1) s.1 b) = _
 rw [qaq (by omega) (by omega), upL_eq hu s.1.length b h0 (by omega) h1]; rfl
theorem up_k {R : Type} {s : Sup} (hu : qg0 s.1) (hl : s.1.length ≤ 1000) {b : Int} (h0 : -1 ≤ b) (h1 : b < s.1.length) (K : List Int → Option R) :
  (qa (It.m66.p.g (s, b, ())) fun y3 => qa y3.1.2.1 fun q4 => qa (It.it75.g (y3.1.1, q4, ())) fun l6 => K l6) = K (chn s.1 b ++ [-1]) := by
 show qa (It.it75.g (b, s, ())) _ = _
 rw [it75_eq hu hl h0 h1]
 rfl
def und (l : List Brd) (b top : Int) : Bool := (chn l b).contains top
def qdC (s : Sup) (S : Nat) (b ph : Int) : Nat → Int
 | 0 => 0
 | k + 1 => qdC s S b ph k + (if S.testBit k && ((gd s.2.1 (k : Int)).2.1 == ph && (decide (b < 0) || und s.1 (gd s.2.1 (k : Int)).1 b)) then (gd s.2.1 (k : Int)).2.2.1 else 0)
def cur (s : Sup) (S : Nat) (b ph : Int) : Int := qdC s S b ph s.2.1.length
theorem okS_ld {s : Sup} (h : okS s = true) {k : Nat} (hk : k < s.2.1.length) : okL s.1.length (gd s.2.1 (k : Int)) = true := by
 unfold okS at h
 simp only [Bool.and_eq_true, decide_eq_true_iff, List.all_eq_true] at h
 exact h.2.2.2.2.2.2 _ (j6 (by omega) (by omega))
theorem okL_1 {n : Nat} {x : Ld} (h : okL n x = true) : (0 ≤ x.1 ∧ x.1 < n) ∧ (0 ≤ x.2.1 ∧ x.2.1 ≤ 2) ∧ (1 ≤ x.2.2.1 ∧ x.2.2.1 ≤ 1000) ∧ (0 ≤ x.2.2.2 ∧ x.2.2.2 ≤ 1000) := by
 unfold okL at h
 simp only [Bool.and_eq_true, jL] at h
 omega
theorem qku {s : Sup} (h : okS s = true) (S : Nat) (b ph : Int) : ∀ k, k ≤ s.2.1.length → 0 ≤ qdC s S b ph k ∧ qdC s S b ph k ≤ 1000 * k
 | 0, _ => ⟨Int.le_refl _, by simp [qdC]⟩
 | k + 1, hk => by
  have ih := qku h S b ph k (by omega)
  have := okL_1 (okS_ld h (k := k) (by omega))
  unfold qdC
  split <;> omega
theorem gd_mapr {α : Type} [Inhabited α] (f : Nat → α) {n k : Nat} (h : k < n) : gd ((List.range n).map f) (k : Int) = f k := by
 refine gd_of ?_
 simp [h]
def ix (n : Nat) (x : Int) : Nat := if x = -1 then n else x.toNat
def bO (n k : Nat) : Int := if k = n then -1 else (k : Int)
theorem agree3 {R : Type} (x : Option R) : qs [qs [qs [x, x], x], x] = x := by
 simp only [qaJ, qaK]
theorem R44_ok {s : Sup} {ld : Ld} (hph : 0 ≤ ld.2.1 ∧ ld.2.1 ≤ 2) (ha : 1 ≤ ld.2.2.1 ∧ ld.2.2.1 ≤ 1000) (N : Nat) : ∀ (xs : List Int), (∀ x ∈ xs, x = -1 ∨ (0 ≤ x ∧ x < s.1.length)) → (xs.map (ix s.1.length)).Nodup →
  ∀ out : List (List Int), out.length = s.1.length + 1 → (∀ k ∈ xs.map (ix s.1.length), (gd out (k : Int)).length = 3 ∧ 0 ≤ gd (gd out (k : Int)) ld.2.1 ∧ gd (gd out (k : Int)) ld.2.1 ≤ 1099511627776) →
  ∃ out', R44_7 N xs (s, out, ld, ()) = some (.norm, (out', ())) ∧ out'.length = s.1.length + 1 ∧
   ∀ k : Nat, k ≤ s.1.length → gd out' (k : Int) = if k ∈ xs.map (ix s.1.length) then (gd out (k : Int)).set ld.2.1.toNat (gd (gd out (k : Int)) ld.2.1 + ld.2.2.1) else gd out (k : Int)
 | [], _, _, out, hl, _ => ⟨out, rfl, hl, fun k _ => by rw [if_neg (by simp)]⟩
 | x :: xs, hx, hnd, out, hl, hb => by
  rw [List.map_cons, List.nodup_cons] at hnd
  have hstep : ∀ i : Int, 0 ≤ i → i ≤ s.1.length → i.toNat = ix s.1.length x → (∀ (F : Int → List Int → Option (X × (List (List Int) × Unit))), qs [qZ i out.length (qs [qZ ld.2.1 3 (qs [qe out i fun e4 => qe e4 ld.2.1 fun e5 => qZ i out.length (qZ ld.2.1 3 (qe out i fun e6 => qe e6 ld.2.1 fun _ => F e5 e6)), qZ i out.length (qe out i fun e8 => qe e8 ld.2.1 fun e9 => qZ ld.2.1 3 (qe out i fun e10 => qe e10 ld.2.1 fun _ => F e9 e10))]), qZ i out.length (qZ ld.2.1 3 (qe out i fun e12 => qe e12 ld.2.1 fun e13 => qZ ld.2.1 3 (qe out i fun e14 => qe e14 ld.2.1 fun _ => F e13 e14)))]), qZ i out.length (qZ i out.length (qZ ld.2.1 3 (qe out i fun e16 => qe e16 ld.2.1 fun e17 => qZ ld.2.1 3 (qe out i fun e18 => qe e18 ld.2.1 fun _ => F e17 e18))))] =
    F (gd (gd out i) ld.2.1) (gd out i)) := fun i h0 h1 hi F => by
   have h3 := hb i.toNat (by rw [hi]; simp)
   rw [show ((i.toNat : Nat) : Int) = i by omega] at h3
   have a1 : ∀ {R : Type} (k : Option R), qZ i out.length k = k := fun k => jU h0 (by omega) k
   have a2 : ∀ {R : Type} (k : Option R), qZ ld.2.1 3 k = k := fun k => jU hph.1 (by omega) k
   have a3 : ∀ {R : Type} (k : List Int → Option R), qe out i k = k (gd out i) := fun k => qv h0 (by omega) k
   have a4 : ∀ {R : Type} (k : Int → Option R), qe (gd out i) ld.2.1 k = k (gd (gd out i) ld.2.1) := fun k => qv hph.1 (by omega) k
   simp only [a1, a2, a3, a4, agree3]
  have hgo : ∀ i : Int, 0 ≤ i → i ≤ s.1.length → i.toNat = ix s.1.length x → ∃ out', R44_7 N xs (s, out.set i.toNat ((gd out i).set ld.2.1.toNat (IntKind.wrap .i64 (gd (gd out i) ld.2.1 + ld.2.2.1))), ld, ()) = some (.norm, (out', ())) ∧ out'.length = s.1.length + 1 ∧
    ∀ k : Nat, k ≤ s.1.length → gd out' (k : Int) = if k ∈ (x :: xs).map (ix s.1.length) then (gd out (k : Int)).set ld.2.1.toNat (gd (gd out (k : Int)) ld.2.1 + ld.2.2.1) else gd out (k : Int) := fun i h0 h1 hi => by
   have h3 := hb i.toNat (by rw [hi]; simp)
   rw [show ((i.toNat : Nat) : Int) = i by omega] at h3
   rw [wI (by omega) (by omega)]
   obtain ⟨o2, ho2⟩ : ∃ o2, out.set i.toNat ((gd out i).set ld.2.1.toNat (gd (gd out i) ld.2.1 + ld.2.2.1)) = o2 := ⟨_, rfl⟩
   have hself : gd o2 i = (gd out i).set ld.2.1.toNat (gd (gd out i) ld.2.1 + ld.2.2.1) := by rw [← ho2]; exact qao h0 (by omega)
   have hoth : ∀ k : Nat, (k : Int) ≠ i → gd o2 (k : Int) = gd out (k : Int) := fun k hk => by rw [← ho2]; exact qba h0 (by omega) hk
   have hl2 : o2.length = s.1.length + 1 := by rw [← ho2, List.length_set, hl]
   rw [ho2]
   have hnot : i.toNat ∉ xs.map (ix s.1.length) := by rw [hi]; exact hnd.1
   obtain ⟨out', e1, e2, e3⟩ := R44_ok hph ha N xs (fun y hy => hx y (List.mem_cons_of_mem _ hy)) hnd.2 o2 hl2 (fun k hk => by
    have hne : (k : Int) ≠ i := fun e => hnot (by rw [← e, Int.toNat_natCast]; exact hk)
    rw [hoth k hne]
    exact hb k (by rw [List.map_cons]; exact List.mem_cons_of_mem _ hk))
   refine ⟨out', e1, e2, fun k hk => ?_⟩
   rw [e3 k hk, List.map_cons, ← hi]
   by_cases hki : k = i.toNat
   ·subst hki
    rw [if_neg hnot, if_pos (by simp), show ((i.toNat : Nat) : Int) = i by omega, hself]
   ·rw [hoth k (by omega)]
    by_cases hm : k ∈ xs.map (ix s.1.length)
    ·rw [if_pos hm, if_pos (List.mem_cons_of_mem _ hm)]
    ·rw [if_neg hm, if_neg (by simp only [List.mem_cons, not_or]; exact ⟨hki, hm⟩)]
  show ∃ out', Q44_7 N (R44_7 N xs) x s out ld = some (.norm, (out', ())) ∧ _
  unfold Q44_7
  have hx0 := hx x List.mem_cons_self
  by_cases hx1 : x = -1
  ·have hi : ((s.1.length : Nat) : Int).toNat = ix s.1.length x := by unfold ix; rw [if_pos hx1, Int.toNat_natCast]
   have hb1 : (x == -1) = true := by simp [hx1]
   rw [hb1, cond_true, qa8, hstep _ (by omega) (Int.le_refl _) hi]
   exact hgo _ (by omega) (Int.le_refl _) hi
  ·have hi : x.toNat = ix s.1.length x := by unfold ix; rw [if_neg hx1]
   have hb1 : (x == -1) = false := by simp [hx1]
   rw [hb1, cond_false, qa8, hstep _ (by omega) (by omega) hi]
   exact hgo _ (by omega) (by omega) hi
def row3 (s : Sup) (S : Nat) (b : Int) (i : Nat) : List Int := [qdC s S b 0 i, qdC s S b 1 i, qdC s S b 2 i]
def qcw (s : Sup) (S : Nat) (i : Nat) : List (List Int) := (List.range (s.1.length + 1)).map fun k => row3 s S (bO s.1.length k) i
theorem qkg (s : Sup) (S : Nat) (b : Int) (i : Nat) {ph : Int} (h : 0 ≤ ph ∧ ph ≤ 2) : gd (row3 s S b i) ph = qdC s S b ph i := by
 obtain rfl | rfl | rfl : ph = 0 ∨ ph = 1 ∨ ph = 2 := by omega
 all_goals rfl
theorem qhs (s : Sup) (S : Nat) (b : Int) (i : Nat) (h : 0 ≤ (gd s.2.1 (i : Int)).2.1 ∧ (gd s.2.1 (i : Int)).2.1 ≤ 2) :
  row3 s S b (i + 1) = if S.testBit i && (decide (b < 0) || und s.1 (gd s.2.1 (i : Int)).1 b) then (row3 s S b i).set (gd s.2.1 (i : Int)).2.1.toNat (gd (row3 s S b i) (gd s.2.1 (i : Int)).2.1 + (gd s.2.1 (i : Int)).2.2.1) else row3 s S b i := by
 rw [qkg s S b i h]
 unfold row3
 simp only [qdC]
 generalize (gd s.2.1 (i : Int)).2.1 = p at h ⊢
 generalize (decide (b < 0) || und s.1 (gd s.2.1 (i : Int)).1 b) = q
 generalize S.testBit i = r
 obtain rfl | rfl | rfl : p = 0 ∨ p = 1 ∨ p = 2 := by omega
 all_goals cases r <;> cases q <;> simp
theorem qbQ (s : Sup) (S i : Nat) : (qcw s S i).length = s.1.length + 1 := by simp [qcw]
theorem qdp (s : Sup) (S i : Nat) {k : Nat} (h : k ≤ s.1.length) : gd (qcw s S i) (k : Int) = row3 s S (bO s.1.length k) i := gd_mapr _ (by omega)
theorem qjT {s : Sup} (h : okS s = true) {b : Int} (h0 : 0 ≤ b) (h1 : b < s.1.length) {k : Nat} (hk : k ≤ s.1.length) : k ∈ (chn s.1 b ++ [-1]).map (ix s.1.length) ↔ (decide (bO s.1.length k < 0) || und s.1 b (bO s.1.length k)) = true := by
 have hm := qdr (qe5 h) b (by omega) h1
 unfold bO
 by_cases hkn : k = s.1.length
 ·rw [if_pos hkn]
  simp [ix, hkn]
 ·rw [if_neg hkn]
  unfold und
  simp only [List.map_append, List.mem_append, List.map_cons, List.map_nil, List.mem_singleton, Bool.or_eq_true, decide_eq_true_iff, List.contains_eq_mem]
  constructor
  ·rintro (h2 | h2)
   ·obtain ⟨x, hx, e⟩ := List.mem_map.1 h2
    have := hm x hx
    unfold ix at e
    rw [if_neg (by omega)] at e
    right
    rw [← e, show ((x.toNat : Nat) : Int) = x by omega]
    exact hx
   ·unfold ix at h2
    rw [if_pos rfl] at h2
    exact absurd h2 hkn
  ·rintro (h2 | h2)
   ·omega
   ·left
    refine List.mem_map.2 ⟨(k : Int), h2, ?_⟩
    unfold ix
    rw [if_neg (by omega), Int.toNat_natCast]
theorem ix_nodup {s : Sup} (h : okS s = true) {b : Int} (h0 : 0 ≤ b) (h1 : b < s.1.length) : ((chn s.1 b ++ [-1]).map (ix s.1.length)).Nodup := by
 have hm := qdr (qe5 h) b (by omega) h1
 have hn := qkU (qe5 h) b (by omega) h1
 rw [List.map_append, List.nodup_append]
 refine ⟨?_, by simp, ?_⟩
 ·rw [List.Nodup, List.pairwise_map]
  refine hn.imp_of_mem ?_
  intro x y hx hy hne e
  have h1 := hm x hx
  have h2 := hm y hy
  unfold ix at e
  rw [if_neg (by omega), if_neg (by omega)] at e
  exact hne (by omega)
 ·intro x hx y hy
  obtain ⟨z, hz, rfl⟩ := List.mem_map.1 hx
  have := hm z hz
  simp only [List.map_cons, List.map_nil, List.mem_singleton] at hy
  subst hy
  unfold ix
  rw [if_neg (by omega), if_pos rfl]
  omega
theorem g44_eq {s : Sup} (h : okS s = true) {S : Nat} (hS : S < 4611686018427387904) : g44 (s, (S : Int), ()) = some ((qcw s S s.2.1.length, ()), ()) := by
 show F44 qj s (S : Int) = _
 unfold F44
 have hl := qdh h
 have hf := jP
 have hu := qe5 h
 rw [wI (by omega) (by omega), qaV (by omega), qaV (by omega), qaq (by omega) (by omega), qb8]
 have e0 : List.replicate ((s.1.length : Int) + 1).toNat (List.replicate 3 (0 : Int)) = qcw s S 0 := by
  refine qfi (by rw [qbQ, List.length_replicate]; omega) fun k hk => ?_
  rw [List.length_replicate] at hk
  rw [qaB (by omega) (by omega), qdp s S 0 (by omega)]
  rfl
 rw [e0]
 have e := qee (L := L44_3) (fun i => (((S : Int), s, s.2.1, (s.2.1.length : Int), (i : Int), ()), (qcw s S i, ()), ())) ((), (qcw s S s.2.1.length, ()), ()) 0 s.2.1.length (N := qj) (by omega)
  (fun N => by
   simp only [L44_3, B44_3]
   rw [qL (by omega)]
   rfl)
  (fun N i _ hi => by
   have hx := okL_1 (okS_ld h hi)
   simp only [L44_3, B44_3]
   rw [qM (by omega), cond_true, qv (by omega) (by omega), negK_in (by omega), bit_n hS (by omega), wI (x := (i : Int) + 1) (by omega) (by omega), show ((i : Int) + 1) = ((i + 1 : Nat) : Int) by omega]
   cases hb : S.testBit i with
   | false =>
    have : qcw s S (i + 1) = qcw s S i := by
     refine qfi (by rw [qbQ, qbQ]) fun k hk => ?_
     rw [qbQ] at hk
     rw [qdp s S _ (by omega), qdp s S _ (by omega), qhs s S _ i hx.2.1, hb]
     rfl
    rw [this]
    rfl
   | true =>
    obtain ⟨out', e1, e2, e3⟩ := R44_ok (s := s) (ld := gd s.2.1 (i : Int)) hx.2.1 hx.2.2.1 N (chn s.1 (gd s.2.1 (i : Int)).1 ++ [-1])
     (fun x hm => by
      rcases List.mem_append.1 hm with h1 | h1
      ·have := qdr hu _ (by omega) hx.1.2 x h1
       right; omega
      ·left; simpa using h1)
     (ix_nodup h hx.1.1 hx.1.2) (qcw s S i) (qbQ s S i) (fun k hk => by
      have hk : k ≤ s.1.length := by
       obtain ⟨y, hy, rfl⟩ := List.mem_map.1 hk
       unfold ix
       rcases List.mem_append.1 hy with h1 | h1
       ·have := qdr hu _ (by omega) hx.1.2 y h1
        split <;> omega
       ·split <;> simp_all
      rw [qdp s S i hk, qkg s S _ i hx.2.1]
      have := qku h S (bO s.1.length k) (gd s.2.1 (i : Int)).2.1 i (by omega)
      exact ⟨rfl, by omega, by omega⟩)
    have e4 : out' = qcw s S (i + 1) := by
     refine qfi (by rw [e2, qbQ]) fun k hk => ?_
     have hk : k ≤ s.1.length := by omega
     rw [e3 k hk, qdp s S _ hk, qdp s S _ hk, qhs s S _ i hx.2.1, hb, Bool.true_and]
     by_cases hm : k ∈ (chn s.1 (gd s.2.1 (i : Int)).1 ++ [-1]).map (ix s.1.length)
     ·rw [if_pos hm, if_pos ((qjT h hx.1.1 hx.1.2 hk).1 hm)]
     ·rw [if_neg hm, if_neg (fun hh => hm ((qjT h hx.1.1 hx.1.2 hk).2 hh))]
    refine (up_k hu (by omega) (by omega) (by omega) (fun l6 => qa (R44_7 N l6 (s, qcw s S i, gd s.2.1 (i : Int), ())) fun o5 => cond (X.same .norm o5.1) (L44_3 N (((S : Int), s, s.2.1, (s.2.1.length : Int), ((i + 1 : Nat) : Int), ()), (o5.2.1, ()), ())) none)).trans ?_
    rw [e1, qd, e4]
    rfl)
 have e' : L44_3 qj (((S : Int), s, s.2.1, (s.2.1.length : Int), 0, ()), (qcw s S 0, ()), ()) = _ := e
 rw [e', qd]
def brs (s : Sup) (b : Int) : Int := if b < 0 then s.2.2.1 else (gd s.1 b).2.1
def mx3 (s : Sup) (S : Nat) (b : Int) : Int := max (max (cur s S b 0) (cur s S b 1)) (cur s S b 2)
def ovr (s : Sup) (S : Nat) (b : Int) : Bool := decide (mx3 s S b > brs s b)
theorem g45_eq (a b c : Int) : g45 ([a, b, c], ()) = some ((max (max a b) c, ()), ()) := by
 show F45 qj [a, b, c] = _
 unfold F45
 rw [jU (by omega) (by omega), qv (by omega) (by simp), jU (by omega) (by omega), qv (by omega) (by simp), jU (by omega) (by omega), qv (by omega) (by simp)]
 rfl
theorem g45_row (s : Sup) (S : Nat) (b : Int) : g45 (row3 s S b s.2.1.length, ()) = some ((mx3 s S b, ()), ()) := g45_eq _ _ _
theorem g46_eq (s : Sup) {k : Nat} (hk : k ≤ s.1.length) : g46 (s, (k : Int), ()) = some ((brs s (bO s.1.length k), ()), ()) := by
 show F46 qj s (k : Int) = _
 unfold F46 brs bO
 by_cases h : k = s.1.length
 ·have : ((k : Int) == (s.1.length : Int)) = true := by simp [h]
  rw [this, if_pos h, if_pos (by omega)]; rfl
 ·have h1 : ((k : Int) == (s.1.length : Int)) = false := beq_eq_false_iff_ne.2 (by omega)
  have h2 : ((k : Int) == -1) = false := beq_eq_false_iff_ne.2 (by omega)
  rw [h1, h2, if_neg h, if_neg (by omega), cond_false, cond_false, qv (by omega) (by omega)]
def fo (s : Sup) (S : Nat) : Option Nat := (List.range (s.1.length + 1)).find? fun i => ovr s S ((i : Int) - 1)
abbrev Plant := Sup × (Int × ((List Bool) × (List Int)))
def dly (s : Sup) (b : Int) : Int := if b < 0 then s.2.2.2.1 else (gd s.1 b).2.2.1
theorem g47_eq (p : Plant) {k : Nat} (hk : k ≤ p.1.1.length) : g47 (p, (k : Int), ()) = some ((dly p.1 (bO p.1.1.length k), ()), ()) := by
 show F47 qj p (k : Int) = _
 unfold F47 dly bO
 by_cases h : k = p.1.1.length
 ·have : ((k : Int) == (p.1.1.length : Int)) = true := by simp [h]
  rw [this, if_pos h, if_pos (by omega)]; rfl
 ·have h1 : ((k : Int) == (p.1.1.length : Int)) = false := beq_eq_false_iff_ne.2 (by omega)
  rw [h1, if_neg h, if_neg (by omega), cond_false, qv (by omega) (by omega)]
def ov1 (s : Sup) (S : Nat) (ov : List Int) (k : Nat) : Int := if mx3 s S (bO s.1.length k) ≤ brs s (bO s.1.length k) then 0 else gd ov (k : Int) + 1
def brd (s : Sup) (S : Nat) (q : (List Bool) × ((List Int) × (List Int))) (k : Nat) : (List Bool) × ((List Int) × (List Int)) :=
 if ov1 s S q.2.1 k > dly s (bO s.1.length k) then (q.1.set k false, q.2.1.set k 0, q.2.2 ++ [(k : Int)]) else (q.1, q.2.1.set k (ov1 s S q.2.1 k), q.2.2)
def qbS (s : Sup) (S : Nat) (q : (List Bool) × ((List Int) × (List Int))) : Nat → (List Bool) × ((List Int) × (List Int))
 | 0 => q
 | k + 1 => brd s S (qbS s S q k) k
structure QOK (n : Nat) (B : Int) (q : (List Bool) × ((List Int) × (List Int))) (k : Nat) : Prop where
 l1 : q.1.length = n + 1
 l2 : q.2.1.length = n + 1
 bd : ∀ j : Nat, j ≤ n → 0 ≤ gd q.2.1 (j : Int) ∧ gd q.2.1 (j : Int) ≤ (if j < k then B + 1 else B)
 op : q.2.2.length ≤ k
theorem ov1_bd {s : Sup} {S : Nat} {ov : List Int} {k : Nat} {B : Int} (h : 0 ≤ gd ov (k : Int) ∧ gd ov (k : Int) ≤ B) : 0 ≤ ov1 s S ov k ∧ ov1 s S ov k ≤ B + 1 := by
 unfold ov1
 split <;> omega
theorem gd_set_nat {α : Type} [Inhabited α] {l : List α} {i j : Nat} {c : α} (h : i < l.length) : gd (l.set i c) (j : Int) = if j = i then c else gd l (j : Int) := by
 by_cases e : j = i
 ·subst e
  rw [if_pos rfl]
  have := qao (l := l) (i := (j : Int)) (c := c) (by omega) (by omega)
  rwa [Int.toNat_natCast] at this
 ·rw [if_neg e]
  have := qba (l := l) (i := (i : Int)) (j := (j : Int)) (c := c) (by omega) (by omega) (by omega)
  rwa [Int.toNat_natCast] at this
theorem brd_ok {s : Sup} {S : Nat} {B : Int} {q : (List Bool) × ((List Int) × (List Int))} {k : Nat} (hB : 0 ≤ B) (hk : k ≤ s.1.length) (h : QOK s.1.length B q k) : QOK s.1.length B (brd s S q k) (k + 1) := by
 have hb := h.bd k hk
 rw [if_neg (by omega)] at hb
 have ho := ov1_bd (s := s) (S := S) hb
 unfold brd
 split
 ·refine ⟨by simp [h.l1], by simp [h.l2], fun j hj => ?_, by have := h.op; simp; omega⟩
  show 0 ≤ gd (q.2.1.set k 0) (j : Int) ∧ _
  rw [gd_set_nat (by have := h.l2; omega)]
  have := h.bd j hj
  split
  ·split <;> omega
  ·by_cases h1 : j < k
   ·rw [if_pos h1] at this; rw [if_pos (by omega)]; exact this
   ·rw [if_neg h1] at this; rw [if_neg (by omega)]; exact this
 ·refine ⟨h.l1, by simp [h.l2], fun j hj => ?_, by have := h.op; simp; omega⟩
  show 0 ≤ gd (q.2.1.set k _) (j : Int) ∧ _
  rw [gd_set_nat (by have := h.l2; omega)]
  have := h.bd j hj
  by_cases e : j = k
  ·rw [if_pos e, if_pos (by omega)]; exact ho
  ·rw [if_neg e]
   by_cases h1 : j < k
   ·rw [if_pos h1] at this; rw [if_pos (by omega)]; exact this
   ·rw [if_neg h1] at this; rw [if_neg (by omega)]; exact this
theorem qf3 {s : Sup} {S : Nat} {B : Int} {q : (List Bool) × ((List Int) × (List Int))} (hB : 0 ≤ B) (h : QOK s.1.length B q 0) : ∀ k, k ≤ s.1.length + 1 → QOK s.1.length B (qbS s S q k) k
 | 0, _ => h
 | k + 1, hk => brd_ok hB (by omega) (qf3 hB h k (by omega))
set_option maxHeartbeats 1000000 in
theorem L17_23_step {s : Sup} {S : Nat} {B : Int} (hB : 0 ≤ B ∧ B ≤ 1000000) (hl : s.1.length ≤ 10) (l : List Swi) (t1 t2 t3 : Int) (rows : List Int) (trips : List (Int × Int)) (on : Int) {q : (List Bool) × ((List Int) × (List Int))} {k : Nat} (hk : k ≤ s.1.length) (h : QOK s.1.length B q k) (N : Nat) :
  L17_23 (N + 1) ((l, s, (s.1.length : Int), t1, t2, t3, ((qcw s S s.2.1.length).length : Int), (k : Int), ()), (rows, trips, q.2.2, (s, on, q.1, q.2.1), qcw s S s.2.1.length, ()), ()) =
   L17_23 N ((l, s, (s.1.length : Int), t1, t2, t3, ((qcw s S s.2.1.length).length : Int), ((k + 1 : Nat) : Int), ()), (rows, trips, (brd s S q k).2.2, (s, on, (brd s S q k).1, (brd s S q k).2.1), qcw s S s.2.1.length, ()), ()) := by
 have hb := h.bd k hk
 rw [if_neg (by omega)] at hb
 have hop := h.op
 obtain ⟨cl, ov, op⟩ := q
 have l1 : cl.length = s.1.length + 1 := h.l1
 have l2 : ov.length = s.1.length + 1 := h.l2
 simp only at hb hop ⊢
 have a1 : ∀ {R : Type} (X : Option R), qZ (k : Int) (s.1.length + 1) X = X := fun X => jU (by omega) (by omega) X
 have a2 : ∀ {R : Type} (m : List Int) (hm : m.length = s.1.length + 1) (F : Int → Option R), qe m (k : Int) F = F (gd m (k : Int)) := fun m hm F => qv (by omega) (by omega) F
 have a3 : ∀ {R : Type} (m : List Bool) (hm : m.length = s.1.length + 1) (F : Bool → Option R), qe m (k : Int) F = F (gd m (k : Int)) := fun m hm F => qv (by omega) (by omega) F
 have a4 : ∀ {R : Type} (F : List Int → Option R), qe (qcw s S s.2.1.length) (k : Int) F = F (row3 s S (bO s.1.length k) s.2.1.length) := fun F => by
  rw [qv (by omega) (by rw [qbQ]; omega), qdp s S _ hk]
 have a5 : ∀ (m : List Int) (hm : m.length = s.1.length + 1) (v : Int), gd (m.set k v) (k : Int) = v := fun m hm v => by
  rw [gd_set_nat (by omega), if_pos rfl]
 have a6 : ∀ (a : Int) (b : List Bool) (c : List Int), g47 ((s, a, b, c), (k : Int), ()) = some ((dly s (bO s.1.length k), ()), ()) := fun a b c => g47_eq (s, a, b, c) hk
 have a7 : IntKind.wrap .i64 (gd ov (k : Int) + 1) = gd ov (k : Int) + 1 := wI (by omega) (by omega)
 have a8 : IntKind.wrap .i64 ((k : Int) + 1) = ((k + 1 : Nat) : Int) := by rw [wI (by omega) (by omega)]; omega
 have a9 : ∀ {R : Type} (X : Option R), qN ((op.length : Int) + ([(k : Int)].length : Nat)) X = X := fun X => qaq (by simp; omega) (by simp; omega) X
 have hcl : (qcw s S s.2.1.length).length = s.1.length + 1 := qbQ _ _ _
 have a10 : decide ((k : Int) < ((s.1.length + 1 : Nat) : Int)) = true := qM (by omega)
 simp only [L17_23, B17_23, hcl, a10, cond_true, qb8, qa8, List.length_set, l1, l2, a1, a4, a2, a3, a5, a6, a7, a8, a9, g45_row, g46_eq s hk, qd, Int.toNat_natCast, qaJ, qaK]
 have ho : ov1 s S ov k = if mx3 s S (bO s.1.length k) ≤ brs s (bO s.1.length k) then 0 else gd ov (k : Int) + 1 := rfl
 by_cases h1 : mx3 s S (bO s.1.length k) ≤ brs s (bO s.1.length k)
 ·rw [if_pos h1] at ho
  rw [qM h1, cond_true]
  unfold brd
  simp only [ho, List.set_set]
  by_cases h2 : 0 > dly s (bO s.1.length k)
  ·rw [qM h2, if_pos h2]; rfl
  ·rw [qL h2, if_neg h2]; rfl
 ·rw [if_neg h1] at ho
  rw [qL h1, cond_false]
  unfold brd
  simp only [ho, List.set_set]
  by_cases h2 : gd ov (k : Int) + 1 > dly s (bO s.1.length k)
  ·rw [qM h2, if_pos h2]; rfl
  ·rw [qL h2, if_neg h2]; rfl
theorem L17_23_eq' {s : Sup} {S : Nat} {B : Int} (hB : 0 ≤ B ∧ B ≤ 1000000) (hl : s.1.length ≤ 10) (l : List Swi) (t1 t2 t3 : Int) (rows : List Int) (trips : List (Int × Int)) (on : Int) {q : (List Bool) × ((List Int) × (List Int))} (h : QOK s.1.length B q 0) {N : Nat} (hN : 2000 ≤ N) :
  L17_23 N ((l, s, (s.1.length : Int), t1, t2, t3, ((qcw s S s.2.1.length).length : Int), 0, ()), (rows, trips, q.2.2, (s, on, q.1, q.2.1), qcw s S s.2.1.length, ()), ()) =
   some ((l, s, (s.1.length : Int), t1, t2, t3, ()), (rows, trips, (qbS s S q (s.1.length + 1)).2.2, (s, on, (qbS s S q (s.1.length + 1)).1, (qbS s S q (s.1.length + 1)).2.1), ()), ()) := by
 exact qee (L := L17_23) (fun i => ((l, s, (s.1.length : Int), t1, t2, t3, ((qcw s S s.2.1.length).length : Int), (i : Int), ()), (rows, trips, (qbS s S q i).2.2, (s, on, (qbS s S q i).1, (qbS s S q i).2.1), qcw s S s.2.1.length, ()), ()))
  ((l, s, (s.1.length : Int), t1, t2, t3, ()), (rows, trips, (qbS s S q (s.1.length + 1)).2.2, (s, on, (qbS s S q (s.1.length + 1)).1, (qbS s S q (s.1.length + 1)).2.1), ()), ()) 0 (s.1.length + 1) (N := N) (by omega)
  (fun N => by
   simp only [L17_23, B17_23, qbQ]
   rw [qL (by omega)]
   rfl)
  (fun N i _ hi => L17_23_step hB hl l t1 t2 t3 rows trips on (by omega) (qf3 hB.1 h i (by omega)) N)
def okX (s : Sup) (ticks : Int) (x : Swi) : Bool :=
 rng x.1 0 (ticks - 1) && (if x.2.1 = 1 ∨ x.2.1 = 2 then rng x.2.2 0 ((s.2.1.length : Int) - 1) else if x.2.1 = 3 then rng x.2.2 0 ((s.1.length : Int) - 1) else if x.2.1 = 4 ∨ x.2.1 = 5 then x.2.2 == 0 else false)
theorem g40_eq {s : Sup} (hl : s.1.length ≤ 10 ∧ s.2.1.length ≤ 16) {ticks : Int} (ht : 0 ≤ ticks ∧ ticks ≤ 500) (x : Swi) : g40 (s, ticks, x, ()) = some ((okX s ticks x, ()), ()) := by
 show F40 qj s ticks x = _
 unfold F40 okX
 rw [wI (x := ticks - 1) (by omega) (by omega), wI (x := (s.1.length : Int) - 1) (by omega) (by omega), wI (x := (s.2.1.length : Int) - 1) (by omega) (by omega)]
 simp only [g16_eq, qd]
 cases rng x.1 0 (ticks - 1) with
 | false => rfl
 | true =>
 simp only [Bool.not_true, cond_false, Bool.true_and]
 by_cases h1 : x.2.1 = 1
 ·simp [h1]
 ·have e1 : (x.2.1 == 1) = false := beq_eq_false_iff_ne.2 h1
  rw [e1]
  by_cases h2 : x.2.1 = 2
  ·simp [h2]
  ·have e2 : (x.2.1 == 2) = false := beq_eq_false_iff_ne.2 h2
   rw [e2, if_neg (by omega)]
   by_cases h3 : x.2.1 = 3
   ·simp [h3]
   ·have e3 : (x.2.1 == 3) = false := beq_eq_false_iff_ne.2 h3
    rw [e3, if_neg h3]
    by_cases h4 : x.2.1 = 4
    ·simp [h4]
    ·have e4 : (x.2.1 == 4) = false := beq_eq_false_iff_ne.2 h4
     rw [e4]
     by_cases h5 : x.2.1 = 5
     ·simp [h5]
     ·have e5 : (x.2.1 == 5) = false := beq_eq_false_iff_ne.2 h5
      rw [e5, if_neg (by omega)]
      rfl
def trn (n : Nat) (st : Nat × List Bool) (x : Swi) : Nat × List Bool :=
 if x.2.1 = 1 then (st.1 ||| 2 ^ x.2.2.toNat, st.2) else if x.2.1 = 2 then (dif st.1 (2 ^ x.2.2.toNat), st.2) else if x.2.1 = 3 then (st.1, st.2.set x.2.2.toNat true) else (st.1, st.2.set n (x.2.1 == 4))
theorem trn_ok {s : Sup} (hl : s.1.length ≤ 10 ∧ s.2.1.length ≤ 16) {ticks : Int} {x : Swi} (hx : okX s ticks x = true) {st : Nat × List Bool} (h : st.1 < 65536 ∧ st.2.length = s.1.length + 1) : (trn s.1.length st x).1 < 65536 ∧ (trn s.1.length st x).2.length = s.1.length + 1 := by
 unfold okX at hx
 rw [Bool.and_eq_true] at hx
 have hx := hx.2
 unfold trn
 split
 ·rename_i h1
  rw [if_pos (.inl h1), jL] at hx
  exact ⟨Nat.or_lt_two_pow (n := 16) h.1 (Nat.pow_lt_pow_right (by omega) (by omega)), h.2⟩
 ·split
  ·exact ⟨Nat.lt_of_le_of_lt (dif_le _ _) h.1, h.2⟩
  ·split
   ·exact ⟨h.1, by simp [h.2]⟩
   ·exact ⟨h.1, by simp [h.2]⟩
theorem g42_eq {s : Sup} (hl : s.1.length ≤ 10 ∧ s.2.1.length ≤ 16) {ticks : Int} {x : Swi} (hx : okX s ticks x = true) {st : Nat × List Bool} (h : st.1 < 65536 ∧ st.2.length = s.1.length + 1) (ov : List Int) :
  g42 ((s, (st.1 : Int), st.2, ov), x, ()) = some ((), ((s, ((trn s.1.length st x).1 : Int), (trn s.1.length st x).2, ov), ())) := by
 show F42 qj (s, (st.1 : Int), st.2, ov) x = _
 unfold okX at hx
 rw [Bool.and_eq_true] at hx
 have hx := hx.2
 unfold F42 trn
 have hp : ∀ i : Int, 0 ≤ i → i ≤ 15 → qgh .i64 1 i = ((2 ^ i.toNat : Nat) : Int) ∧ 2 ^ i.toNat < 4611686018427387904 := fun i h0 h1 => by
  have := shl_n (i := i.toNat) (by omega)
  rw [show ((i.toNat : Nat) : Int) = i by omega] at this
  have h16 : (2 : Nat) ^ i.toNat < 2 ^ 16 := Nat.pow_lt_pow_right (by omega) (by omega)
  exact ⟨this, by omega⟩
 by_cases h1 : x.2.1 = 1
 ·rw [if_pos (.inl h1), jL] at hx
  have e1 : (x.2.1 == 1) = true := by simp [h1]
  obtain ⟨p1, p2⟩ := hp x.2.2 hx.1 (by omega)
  rw [e1, if_pos h1, cond_true, negK_in hx.1, p1, or_n (by omega) p2]
 ·have e1 : (x.2.1 == 1) = false := beq_eq_false_iff_ne.2 h1
  rw [e1, if_neg h1, cond_false]
  by_cases h2 : x.2.1 = 2
  ·rw [if_pos (.inr h2), jL] at hx
   have e2 : (x.2.1 == 2) = true := by simp [h2]
   obtain ⟨p1, p2⟩ := hp x.2.2 hx.1 (by omega)
   rw [e2, if_pos h2, cond_true, negK_in hx.1, p1, andNot_n (by omega) p2]
   rfl
  ·have e2 : (x.2.1 == 2) = false := beq_eq_false_iff_ne.2 h2
   rw [e2, if_neg h2, cond_false]
   rw [if_neg (by omega)] at hx
   by_cases h3 : x.2.1 = 3
   ·rw [if_pos h3, jL] at hx
    have e3 : (x.2.1 == 3) = true := by simp [h3]
    rw [e3, if_pos h3, cond_true]
    show qZ x.2.2 st.2.length (qe st.2 x.2.2 _) = _
    rw [jU hx.1 (by omega), qv hx.1 (by omega)]
   ·have e3 : (x.2.1 == 3) = false := beq_eq_false_iff_ne.2 h3
    rw [e3, if_neg h3, cond_false]
    rw [if_neg h3] at hx
    by_cases h4 : x.2.1 = 4
    ·have e4 : (x.2.1 == 4) = true := by simp [h4]
     rw [e4, cond_true, cond_true]
     show qZ (s.1.length : Int) st.2.length (qe st.2 (s.1.length : Int) _) = _
     rw [jU (by omega) (by omega), qv (by omega) (by omega)]
     rfl
    ·have e4 : (x.2.1 == 4) = false := beq_eq_false_iff_ne.2 h4
     by_cases h5 : x.2.1 = 5
     ·have e5 : (x.2.1 == 5) = true := by simp [h5]
      rw [e4, e5, cond_false, cond_true]
      show qZ (s.1.length : Int) st.2.length (qe st.2 (s.1.length : Int) _) = _
      rw [jU (by omega) (by omega), qv (by omega) (by omega)]
      rfl
     ·rw [if_neg (by omega)] at hx
      cases hx
def live (s : Sup) (cl : List Bool) (b : Int) : Bool := (chn s.1 b ++ [-1]).all fun x => gd cl ((ix s.1.length x : Nat) : Int)
def qfk (s : Sup) (on : Nat) (cl : List Bool) : Nat → Nat
 | 0 => 0
 | i + 1 => if on.testBit i && live s cl (gd s.2.1 (i : Int)).1 then qfk s on cl i ||| 2 ^ i else qfk s on cl i
def drw (s : Sup) (on : Nat) (cl : List Bool) : Nat := qfk s on cl s.2.1.length
theorem qir (s : Sup) (on : Nat) (cl : List Bool) : ∀ i, qfk s on cl i < 2 ^ i
 | 0 => by show 0 < 1; omega
 | i + 1 => by
  have ih := qir s on cl i
  have h2 : 2 ^ i < 2 ^ (i + 1) := Nat.pow_lt_pow_right (by omega) (by omega)
  unfold qfk
  split
  ·exact Nat.or_lt_two_pow (by omega) h2
  ·omega
theorem qiq (s : Sup) (on : Nat) (cl : List Bool) : ∀ n i, (qfk s on cl n).testBit i = (decide (i < n) && (on.testBit i && live s cl (gd s.2.1 (i : Int)).1))
 | 0, i => by simp [qfk]
 | n + 1, i => by
  have ih := qiq s on cl n i
  unfold qfk
  by_cases hi : i = n
  ·subst hi
   rw [qL (by omega), Bool.false_and] at ih
   rw [qM (by omega), Bool.true_and]
   cases on.testBit i && live s cl (gd s.2.1 (i : Int)).1 with
   | false => rw [if_neg (by simp), ih]
   | true => rw [if_pos rfl, Nat.testBit_or, Nat.testBit_two_pow_self, Bool.or_true]
  ·have hd : decide (i < n + 1) = decide (i < n) := by
    by_cases h : i < n
    ·rw [qM h, qM (by omega)]
    ·rw [qL h, qL (by omega)]
   rw [hd, ← ih]
   split
   ·rw [Nat.testBit_or, Nat.testBit_two_pow_of_ne (by omega), Bool.or_false]
   ·rfl
theorem R43_eq {s : Sup} (on : Int) {cl : List Bool} (hc : cl.length = s.1.length + 1) (ov : List Int) (N : Nat) : ∀ (xs : List Int), (∀ x ∈ xs, x = -1 ∨ (0 ≤ x ∧ x < s.1.length)) → ∀ lv : Bool,
  R43_6 N xs (some (s, on, cl, ov), lv, ()) = some (.norm, (lv && xs.all fun x => gd cl ((ix s.1.length x : Nat) : Int), ()))
 | [], _, lv => by
  show some (X.norm, (lv, ())) = _
  simp
 | x :: xs, hx, lv => by
  show Q43_6 N (R43_6 N xs) x (some (s, on, cl, ov)) lv = _
  unfold Q43_6
  have ih := R43_eq (s := s) on hc ov N xs fun y hy => hx y (List.mem_cons_of_mem _ hy)
  have hx0 := hx x List.mem_cons_self
  rw [List.all_cons]
  by_cases hx1 : x = -1
  ·have hb1 : (x == -1) = true := by simp [hx1]
   have hi : ix s.1.length x = s.1.length := by unfold ix; rw [if_pos hx1]
   rw [hb1, cond_true, qd, hi]
   cases lv with
   | false => rw [cond_false, ih]; rfl
   | true =>
    rw [cond_true, qd]
    show qe cl (s.1.length : Int) _ = _
    rw [qv (by omega) (by omega), ih, Bool.true_and]
  ·have hb1 : (x == -1) = false := beq_eq_false_iff_ne.2 hx1
   have hi : ((ix s.1.length x : Nat) : Int) = x := by unfold ix; rw [if_neg hx1]; omega
   rw [hb1, cond_false, hi]
   cases lv with
   | false => rw [cond_false, ih]; rfl
   | true =>
    rw [cond_true, qd]
    show qe cl x _ = _
    rw [qv (by omega) (by omega), ih, Bool.true_and]
theorem g43_eq {s : Sup} (h : okS s = true) {on : Nat} (hon : on < 65536) {cl : List Bool} (hc : cl.length = s.1.length + 1) (ov : List Int) : g43 ((s, (on : Int), cl, ov), ()) = some ((((drw s on cl : Nat) : Int), ()), ()) := by
 show F43 qj (s, (on : Int), cl, ov) = _
 unfold F43
 have hl := qdh h
 have hf := jP
 have hu := qe5 h
 have e := qee (L := L43_2) (fun i => ((some (s, (on : Int), cl, ov), ((qfk s on cl i : Nat) : Int), s.2.1, (s.2.1.length : Int), (i : Int), ()), (), ())) ((((drw s on cl : Nat) : Int), ()), (), ()) 0 s.2.1.length (N := qj) (by omega)
  (fun N => by
   simp only [L43_2, B43_2]
   rw [qL (by omega)]
   rfl)
  (fun N i _ hi => by
   have hx := okL_1 (okS_ld h hi)
   simp only [L43_2, B43_2, qd]
   rw [qM (by omega), cond_true, qv (by omega) (by omega), negK_in (by omega), wI (x := (i : Int) + 1) (by omega) (by omega), show ((i : Int) + 1) = ((i + 1 : Nat) : Int) by omega]
   refine (up_k hu (by omega) (by omega) (by omega) (fun l8 => qa (R43_6 N l8 (some (s, (on : Int), cl, ov), ((qai .and .i64 (qbu .i64 (on : Int) (i : Int)) 1) == 1), ())) fun o7 => cond (X.same .norm o7.1) (cond o7.2.1 (qbL (i : Int) (L43_2 N ((some (s, (on : Int), cl, ov), (qai .or .i64 ((qfk s on cl i : Nat) : Int) (qgh .i64 1 (i : Int))), s.2.1, (s.2.1.length : Int), ((i + 1 : Nat) : Int), ()), (), ()))) (L43_2 N ((some (s, (on : Int), cl, ov), ((qfk s on cl i : Nat) : Int), s.2.1, (s.2.1.length : Int), ((i + 1 : Nat) : Int), ()), (), ()))) none)).trans ?_
   rw [R43_eq (on : Int) hc ov N _ (fun x hm => by
    rcases List.mem_append.1 hm with h1 | h1
    ·have := qdr hu _ (by omega) hx.1.2 x h1
     right; omega
    ·left; simpa using h1), qd, bit_n (by omega) (by omega)]
   have hlt := qir s on cl i
   have hp : (2 : Nat) ^ i < 2 ^ 16 := Nat.pow_lt_pow_right (by omega) (by omega)
   rw [negK_in (by omega), shl_n (by omega), or_n (by omega) (by omega)]
   show (bif (((if on.testBit i then (1 : Int) else 0) == 1) && live s cl (gd s.2.1 (i : Int)).1) then _ else _) = _
   conv => rhs; unfold qfk
   cases on.testBit i with
   | false => simp
   | true =>
    cases live s cl (gd s.2.1 (i : Int)).1 with
    | false => simp
    | true => rfl)
 have e' : L43_2 qj ((some (s, (on : Int), cl, ov), 0, s.2.1, (s.2.1.length : Int), 0, ()), (), ()) = _ := e
 rw [qd]
 show qa (L43_2 qj ((some (s, (on : Int), cl, ov), 0, s.2.1, (s.2.1.length : Int), 0, ()), (), ())) _ = _
 rw [e', qd]
def fixO (n : Nat) (op : List Int) : List Int := match op.findIdx? (· == (n : Int)) with
 | some i => -1 :: (op.take i ++ op.drop (i + 1))
 | none => op
theorem qjj (n : Nat) (op : List Int) : (fixO n op).length = op.length := by
 unfold fixO
 split
 ·rename_i i hi
  have := (List.findIdx?_eq_some_iff_getElem.1 hi).1
  simp
  omega
 ·rfl
theorem L17_33_eq' {s : Sup} {n : Nat} (l : List Swi) (t1 t2 t3 : Int) (rows : List Int) (trips : List (Int × Int)) (p : Plant) (op : List Int) (ho : op.length ≤ 1000) {N : Nat} (hN : 2000 ≤ N) :
  L17_33 N ((l, s, (n : Int), t1, t2, t3, (op.length : Int), 0, ()), (rows, trips, op, p, ()), ()) = some ((l, s, (n : Int), t1, t2, t3, ()), (rows, trips, fixO n op, p, ()), ()) := by
 have e := loopIdx (L := L17_33) (fun i => ((l, s, (n : Int), t1, t2, t3, (op.length : Int), (i : Int), ()), (rows, trips, op, p, ()), ())) op (fun x => x == (n : Int))
  (fun i => ((l, s, (n : Int), t1, t2, t3, ()), (rows, trips, -1 :: (op.take i ++ op.drop (i + 1)), p, ()), ())) ((l, s, (n : Int), t1, t2, t3, ()), (rows, trips, op, p, ()), ()) 0 (N := N) (by omega)
  (fun N => by
   simp only [L17_33, B17_33]
   rw [qL (by omega)]
   rfl)
  (fun N i _ hi => by
   have hd : g49 (op, (i : Int), ((i + 1 : Nat) : Int), ()) = some ((op.take i ++ op.drop (i + 1), ()), ()) := by
    show It.g49 _ = _
    unfold It.g49
    rw [if_pos (by show 0 ≤ (i : Int) ∧ (i : Int) < ((i + 1 : Nat) : Int) ∧ ((i + 1 : Nat) : Int) ≤ op.length; omega)]
    rfl
   have hins : ∀ m : List Int, m.length < 1000000 → g48 (m, 0, [-1], ()) = some ((-1 :: m, ()), ()) := fun m hm => by
    show It.g48 _ = _
    unfold It.g48
    rw [if_pos ⟨rfl, rfl, hm⟩]
    rfl
   simp only [L17_33, B17_33]
   rw [qM (by omega), cond_true, jU (by omega) (by omega), qv (by omega) (by omega), wI (x := (i : Int) + 1) (by omega) (by omega), show ((i : Int) + 1) = ((i + 1 : Nat) : Int) by omega, hd, qd, hins _ (by simp; omega), qd]
   cases gd op (i : Int) == (n : Int) <;> rfl)
 have e' : L17_33 N ((l, s, (n : Int), t1, t2, t3, (op.length : Int), 0, ()), (rows, trips, op, p, ()), ()) = _ := e
 rw [e']
 unfold fixO
 cases op.findIdx? (fun x => x == (n : Int)) <;> rfl
theorem L17_39_eq' {s : Sup} {n : Nat} (l : List Swi) (t t2 t3 : Int) (rows : List Int) (trips : List (Int × Int)) (p : Plant) (op : List Int) (ho : op.length ≤ 1000) (ht : trips.length ≤ 1000000) {N : Nat} (hN : 2000 ≤ N) :
  L17_39 N ((l, s, (n : Int), t, t2, t3, (op.length : Int), 0, ()), (rows, trips, op, p, ()), ()) = some ((l, s, (n : Int), t2, t3, ()), (rows, trips ++ op.map (fun b => (t, b)), p, ()), ()) := by
 have e := qee (L := L17_39) (fun i => ((l, s, (n : Int), t, t2, t3, (op.length : Int), (i : Int), ()), (rows, trips ++ (op.take i).map (fun b => (t, b)), op, p, ()), ())) ((l, s, (n : Int), t2, t3, ()), (rows, trips ++ op.map (fun b => (t, b)), p, ()), ()) 0 op.length (N := N) (by omega)
  (fun N => by
   simp only [L17_39, B17_39]
   rw [qL (by omega), List.take_length]
   rfl)
  (fun N i _ hi => by
   simp only [L17_39, B17_39]
   rw [qM (by omega), cond_true, jU (by omega) (by omega), qv (by omega) (by omega), qaq (by omega) (by simp; omega), wI (x := (i : Int) + 1) (by omega) (by omega), show ((i : Int) + 1) = ((i + 1 : Nat) : Int) by omega, List.append_assoc, qiK hi, List.map_append]
   rfl)
 have e0 : trips ++ (op.take 0).map (fun b => (t, b)) = trips := by simp
 rw [e0] at e
 exact e
def qbG (n : Nat) (l : List Swi) (t : Int) (st : Nat × List Bool) : Nat → Nat × List Bool
 | 0 => st
 | i + 1 => if (gd l (i : Int)).1 = t then trn n (qbG n l t st i) (gd l (i : Int)) else qbG n l t st i
theorem qce {s : Sup} (hl : s.1.length ≤ 10 ∧ s.2.1.length ≤ 16) {ticks : Int} {l : List Swi} (hx : l.all (okX s ticks) = true) (t : Int) {st : Nat × List Bool} (h : st.1 < 65536 ∧ st.2.length = s.1.length + 1) : ∀ i, i ≤ l.length → (qbG s.1.length l t st i).1 < 65536 ∧ (qbG s.1.length l t st i).2.length = s.1.length + 1
 | 0, _ => h
 | i + 1, hi => by
  have ih := qce hl hx t h i (by omega)
  unfold qbG
  split
  ·exact trn_ok hl (List.all_eq_true.1 hx _ (j6 (by omega) (by omega))) ih
  ·exact ih
theorem L17_14_eq' {s : Sup} (hl : s.1.length ≤ 10 ∧ s.2.1.length ≤ 16) {ticks : Int} {l : List Swi} (hx : l.all (okX s ticks) = true) (hll : l.length ≤ 1000) (t t2 t3 : Int) (rows : List Int) (trips : List (Int × Int)) {st : Nat × List Bool} (h : st.1 < 65536 ∧ st.2.length = s.1.length + 1) (ov : List Int) {N : Nat} (hN : 2000 ≤ N) :
  L17_14 N ((l, s, (s.1.length : Int), t, t2, t3, l, (l.length : Int), 0, ()), (rows, trips, (s, (st.1 : Int), st.2, ov), ()), ()) =
   some ((l, s, (s.1.length : Int), t, t2, t3, ()), (rows, trips, (s, ((qbG s.1.length l t st l.length).1 : Int), (qbG s.1.length l t st l.length).2, ov), ()), ()) := by
 exact qee (L := L17_14) (fun i => ((l, s, (s.1.length : Int), t, t2, t3, l, (l.length : Int), (i : Int), ()), (rows, trips, (s, ((qbG s.1.length l t st i).1 : Int), (qbG s.1.length l t st i).2, ov), ()), ()))
  ((l, s, (s.1.length : Int), t, t2, t3, ()), (rows, trips, (s, ((qbG s.1.length l t st l.length).1 : Int), (qbG s.1.length l t st l.length).2, ov), ()), ()) 0 l.length (N := N) (by omega)
  (fun N => by
   simp only [L17_14, B17_14]
   rw [qL (by omega)]
   rfl)
  (fun N i _ hi => by
   simp only [L17_14, B17_14]
   rw [qM (by omega), cond_true, qv (by omega) (by omega), wI (x := (i : Int) + 1) (by omega) (by omega), show ((i : Int) + 1) = ((i + 1 : Nat) : Int) by omega,
    g42_eq hl (List.all_eq_true.1 hx _ (j6 (by omega) (by omega))) (qce hl hx t h i (by omega)), qd]
   conv => rhs; unfold qbG
   by_cases ht : (gd l (i : Int)).1 = t
   ·have : ((gd l (i : Int)).1 == t) = true := by simp [ht]
    rw [this, if_pos ht]
    rfl
   ·have : ((gd l (i : Int)).1 == t) = false := beq_eq_false_iff_ne.2 ht
    rw [this, if_neg ht]
    rfl)
structure PSt where
 rows : List Int
 trips : List (Int × Int)
 on : Nat
 cl : List Bool
 ov : List Int
def qaf (s : Sup) (l : List Swi) (t : Int) (p : PSt) : Nat × List Bool := qbG s.1.length l t (p.on, p.cl) l.length
def jE (s : Sup) (l : List Swi) (t : Int) (p : PSt) : Nat := drw s (qaf s l t p).1 (qaf s l t p).2
def qcz (s : Sup) (l : List Swi) (t : Int) (p : PSt) : (List Bool) × ((List Int) × (List Int)) := qbS s (jE s l t p) ((qaf s l t p).2, p.ov, []) (s.1.length + 1)
def qei (s : Sup) (l : List Swi) (t : Int) (p : PSt) : PSt :=
 ⟨p.rows ++ [((jE s l t p : Nat) : Int)], p.trips ++ (fixO s.1.length (qcz s l t p).2.2).map (fun b => (t, b)), (qaf s l t p).1, (qcz s l t p).1, (qcz s l t p).2.1⟩
def ply0 (s : Sup) : PSt := ⟨[], [], 0, List.replicate (s.1.length + 1) true, List.replicate (s.1.length + 1) 0⟩
def ply (s : Sup) (l : List Swi) : Nat → PSt
 | 0 => ply0 s
 | t + 1 => qei s l (t : Int) (ply s l t)
structure POK (s : Sup) (t : Nat) (p : PSt) : Prop where
 rl : p.rows.length = t
 tl : p.trips.length ≤ 11 * t
 on : p.on < 65536
 cl : p.cl.length = s.1.length + 1
 ol : p.ov.length = s.1.length + 1
 bd : ∀ j : Nat, j ≤ s.1.length → 0 ≤ gd p.ov (j : Int) ∧ gd p.ov (j : Int) ≤ t
theorem POK.q {s : Sup} {l : List Swi} {t : Int} {n : Nat} {p : PSt} (h : POK s n p) (hst : (qaf s l t p).2.length = s.1.length + 1) : QOK s.1.length n ((qaf s l t p).2, p.ov, []) 0 :=
 ⟨hst, h.ol, fun j hj => by have := h.bd j hj; rw [if_neg (by omega)]; exact this, Nat.le_refl _⟩
theorem tick_ok {s : Sup} (hl : s.1.length ≤ 10 ∧ s.2.1.length ≤ 16) {ticks : Int} {l : List Swi} (hx : l.all (okX s ticks) = true) (t : Int) {n : Nat} {p : PSt} (h : POK s n p) : POK s (n + 1) (qei s l t p) := by
 have h1 := qce hl hx t (st := (p.on, p.cl)) ⟨h.on, h.cl⟩ l.length (Nat.le_refl _)
 have hq := qf3 (S := jE s l t p) (B := (n : Int)) (by omega) (h.q (l := l) (t := t) h1.2) (s.1.length + 1) (Nat.le_refl _)
 refine ⟨by show (p.rows ++ [_]).length = _; simp [h.rl], ?_, h1.1, hq.l1, hq.l2, fun j hj => ?_⟩
 ·show (p.trips ++ _).length ≤ _
  have := hq.op
  rw [List.length_append, List.length_map, qjj]
  have := h.tl
  show p.trips.length + (qbS s (jE s l t p) ((qaf s l t p).2, p.ov, []) (s.1.length + 1)).2.2.length ≤ _
  omega
 ·have := hq.bd j hj
  rw [if_pos (by omega)] at this
  exact ⟨this.1, by have := this.2; show _ ≤ ((n + 1 : Nat) : Int); exact Int.le_trans this (by omega)⟩
theorem ply0_ok (s : Sup) : POK s 0 (ply0 s) := ⟨rfl, Nat.zero_le _, by show 0 < 65536; omega, by simp [ply0], by simp [ply0], fun j hj => by
 show 0 ≤ gd (List.replicate (s.1.length + 1) (0 : Int)) (j : Int) ∧ gd (List.replicate (s.1.length + 1) (0 : Int)) (j : Int) ≤ 0
 rw [qaB (by omega) (by omega)]
 omega⟩
theorem qh7 {s : Sup} (hl : s.1.length ≤ 10 ∧ s.2.1.length ≤ 16) {ticks : Int} {l : List Swi} (hx : l.all (okX s ticks) = true) : ∀ t, POK s t (ply s l t)
 | 0 => ply0_ok s
 | t + 1 => tick_ok hl hx t (qh7 hl hx t)
theorem qgg {n : Int} (h0 : 0 ≤ n) (h : n ≤ 4294967295) : qbu .u64 n 32 = 0 := by
 show n.fdiv 4294967296 = 0
 rw [Int.fdiv_eq_ediv_of_nonneg _ (by omega)]
 exact Int.ediv_eq_zero_of_lt h0 (by omega)
theorem qeu {n : Int} (h0 : 0 ≤ n) (h : n ≤ 4294967295) : qai .and .u64 n 4294967295 = n := by
 show IntKind.wrap .u64 ((BitVec.ofInt 64 n &&& BitVec.ofInt 64 4294967295).toNat : Int) = n
 have e : (BitVec.ofInt 64 n).toNat = n.toNat := by
  rw [BitVec.toNat_ofInt]
  rw [Int.emod_eq_of_lt h0 (by show n < 18446744073709551616; omega)]
 have e2 : (BitVec.ofInt 64 4294967295).toNat = 4294967295 := by decide
 rw [BitVec.toNat_and, e, e2, show (4294967295 : Nat) = 2 ^ 32 - 1 by decide, Nat.and_two_pow_sub_one_eq_mod, Nat.mod_eq_of_lt (by show n.toNat < 4294967296; omega)]
 rw [show ((n.toNat : Nat) : Int) = n by omega]
 exact u64_in h0 h
theorem g74_one {n : Int} (h0 : 0 ≤ n) (h : n ≤ 1048576) : g74 (1, n, ()) = some ((0, n, ()), ()) := by
 show F74 qj 1 n = _
 unfold F74
 have b1 : qai .and .u64 1 4294967295 = 1 := qeu (by omega) (by omega)
 have b0 : qai .and .u64 0 4294967295 = 0 := qeu (by omega) (by omega)
 have s1 : qbu .u64 1 32 = 0 := qgg (by omega) (by omega)
 have s0 : qbu .u64 0 32 = 0 := qgg (by omega) (by omega)
 have u0 : IntKind.wrap .u64 0 = 0 := u64_in (by omega) (by omega)
 have un : IntKind.wrap .u64 n = n := u64_in h0 (by omega)
 simp only [negK_in (show (0 : Int) ≤ 32 by decide), jK, b1, qeu h0 (show n ≤ 4294967295 by omega), s1, qgg h0 (show n ≤ 4294967295 by omega), Int.one_mul, Int.zero_mul, Int.mul_zero, Int.zero_add, Int.add_zero, un, u0, s0, b0]
theorem qe2 {α : Type} (b c : α) {n k : Nat} (hk : k ≤ n) : qbc (List.replicate k b ++ List.replicate (n - k) c) ((List.replicate k b ++ List.replicate (n - k) c).take k) k = List.replicate (k + min k (n - k)) b ++ List.replicate (n - (k + min k (n - k))) c := by
 have h1 : (List.replicate k b ++ List.replicate (n - k) c).take k = List.replicate k b := List.take_left' (by simp)
 have h2 : (List.replicate k b ++ List.replicate (n - k) c).length = n := by simp; omega
 unfold qbc
 rw [h1, h2, List.take_replicate, List.length_replicate, List.replicate_append_replicate]
 rw [List.drop_append, List.drop_eq_nil_of_le (by simp), List.nil_append, List.length_replicate, List.drop_replicate]
 congr 2
 ·omega
 ·omega
theorem g41_one (b : Bool) (n : Nat) (hn : n ≤ 1048576) : g41 ([b], (n : Int), ()) = some ((List.replicate n b, ()), ()) := by
 show F41 qj [b] (n : Int) = _
 unfold F41
 have e1 : IntKind.wrap .u64 (([b] : List Bool).length : Int) = 1 := u64_in (by simp) (by simp)
 have e2 : IntKind.wrap .u64 (n : Int) = n := u64_in (by omega) (by omega)
 have e3 : g65 (1, (n : Int), ()) = some ((0, (n : Int), ()), ()) := by
  show F65 qj 1 (n : Int) = _
  unfold F65
  rw [g74_one (by omega) (by omega)]
  rfl
 rw [qL (p := (n : Int) < 0) (by omega), cond_false, e1, e2, e3, qd]
 simp only [jK]
 rw [qL (p := (0 : Int) > 0) (by omega), cond_false, qL (p := (n : Int) > 9223372036854775807) (by omega), cond_false, wI (by omega) (by omega), qaV (by omega), qaV (by omega), qaq (by omega) (by omega), Int.toNat_natCast]
 by_cases h0 : n = 0
 ·subst h0
  obtain ⟨m, hm⟩ : ∃ m, qj = m + 1 := ⟨qj - 1, by have := jP; omega⟩
  have : L41_8 qj ((0, ()), ([], ()), ()) = some ((), ([], ()), ()) := by
   rw [hm]
   simp [L41_8, B41_8]
  show qa (L41_8 qj ((0, ()), ([], ()), ())) _ = _
  rw [this]
  rfl
 have ei : qbc (List.replicate n false) [b] (0 : Int).toNat = List.replicate 1 b ++ List.replicate (n - 1) false := by
  show (List.replicate n false).take 0 ++ [b].take ((List.replicate n false).length - 0) ++ (List.replicate n false).drop (0 + min 1 ((List.replicate n false).length - 0)) = _
  rw [List.length_replicate, List.take_zero, List.nil_append, List.drop_replicate, show 0 + min 1 (n - 0) = 1 by omega, List.take_of_length_le (by simp; omega)]
  rfl
 have em : ((min ([b] : List Bool).length ((List.replicate n false).length - (0 : Int).toNat) : Nat) : Int) = ((1 : Nat) : Int) := by
  rw [List.length_replicate]
  show ((min 1 (n - 0) : Nat) : Int) = _
  omega
 rw [ei, em]
 obtain ⟨r, hr, hrr⟩ := loopM (L := L41_8) (fun k : Nat => (((k : Int), ()), (List.replicate k b ++ List.replicate (n - k) false, ()), ())) (fun k => 1 ≤ k ∧ k ≤ n) (fun r => r = ((), (List.replicate n b, ()), ())) 0 (fun k => n - k)
  (fun N k _ hk => by
   have hlen : (List.replicate k b ++ List.replicate (n - k) false).length = n := by simp; omega
   simp only [L41_8, B41_8]
   rw [hlen]
   by_cases hlt : k < n
   ·refine .inl ⟨k + min k (n - k), by omega, by omega, ?_⟩
    have hl2 : ((List.replicate k b ++ List.replicate (n - k) false).take ((k : Nat) : Int).toNat).length = k := by
     rw [Int.toNat_natCast, List.length_take, hlen]
     omega
    rw [qM (by omega), cond_true]
    simp only [qa8, qaV (show (0 : Int) ≤ (k : Int) by omega), qaV (show (k : Int) ≤ (n : Int) by omega), qaJ, qaK]
    rw [hl2, Int.toNat_natCast, qe2 b false (by omega), wI (by omega) (by omega), show (k : Int) + ((min k (n - k) : Nat) : Int) = ((k + min k (n - k) : Nat) : Int) by omega]
   ·obtain rfl : k = n := by omega
    refine .inr ⟨_, ?_, rfl⟩
    rw [qL (by omega), cond_false, Nat.sub_self, List.replicate_zero, List.append_nil])
  (n - 1) qj 1 (Nat.le_refl _) ⟨Nat.le_refl _, by omega⟩ (by have := jP; omega)
 have hr' : L41_8 qj ((((1 : Nat) : Int), ()), (List.replicate 1 b ++ List.replicate (n - 1) false, ()), ()) = some r := hr
 rw [hr', hrr]
 rfl
theorem g64_eq {l : List Swi} (hl : l.length ≤ 1000000) {f : Swi → Option Bool} {q : Swi → Bool} (hf : ∀ x ∈ l, f x = some (q x)) : g38 (l, f, ()) = some ((l.any q, ()), ()) := by
 have hfu := jP
 have e : g64 (l, f, ()) = some ((match l.findIdx? q with | some i => (i : Int) | none => -1, ()), ()) := by
  show F64 qj l f = _
  unfold F64
  have h := loopIdx (L := L64_2) (fun i => ((l, f, (l.length : Int), (i : Int), ()), (), ())) l q (fun i => .inl (((i : Int), ()), (), ())) (.inr ((), (), ())) 0 (N := qj) (by omega)
   (fun N => by simp [L64_2, B64_2])
   (fun N i _ hi => by
    simp only [L64_2, B64_2]
    rw [qM (by omega), cond_true, qv (by omega) (by omega), hf _ (j6 (by omega) (by omega)), qd, wI (by omega) (by omega)]
    cases q (gd l (i : Int)) <;> rfl)
  have h' : L64_2 qj ((l, f, (l.length : Int), 0, ()), (), ()) = _ := h
  rw [h', qd]
  cases l.findIdx? q <;> rfl
 show F38 qj l f = _
 unfold F38
 rw [e, qd]
 have hn : (l.findIdx? q).isNone = l.all (fun x => !q x) := by
  clear hf hl e
  induction l with
  | nil => rfl
  | cons x l _ =>
   rw [List.findIdx?_cons, List.all_cons]
   cases q x with
   | true => rfl
   | false => simp
 cases h : l.findIdx? q with
 | some i =>
  rw [h] at hn
  simp only [Option.isNone_some] at hn
  show some ((decide ((i : Int) ≥ 0), ()), ()) = _
  rw [qM (by omega)]
  rw [List.all_eq_not_any_not] at hn
  simp only [Bool.not_not] at hn
  cases hh : l.any q with
  | true => rfl
  | false => rw [hh] at hn; cases hn
 | none =>
  rw [h] at hn
  simp only [Option.isNone_none] at hn
  show some ((decide ((-1 : Int) ≥ 0), ()), ()) = _
  rw [qL (by omega)]
  rw [List.all_eq_not_any_not] at hn
  simp only [Bool.not_not] at hn
  cases hh : l.any q with
  | false => rfl
  | true => rw [hh] at hn; cases hn
def ckW (s : Sup) (ticks : Int) (l : List Swi) : Int := if okS s then (if rng ticks 0 500 then (if decide (l.length ≤ 100) && l.all (okX s ticks) then 0 else 51) else 1) else 50
theorem qiC {l : List Swi} {q : Swi → Bool} : (l.any fun x => !q x) = !l.all q := by
 rw [List.all_eq_not_any_not, Bool.not_not]
theorem L17_11_step {s : Sup} (hs : okS s = true) {ticks : Int} (ht : 0 ≤ ticks ∧ ticks ≤ 500) {l : List Swi} (hx : l.all (okX s ticks) = true) (hll : l.length ≤ 100) {N : Nat} (hN : 2000 ≤ N) {i : Nat} (hi : (i : Int) < ticks) {p : PSt} (hp : POK s i p) :
  L17_11 (N + 1) ((l, s, (s.1.length : Int), ticks, (i : Int), ()), (p.rows, p.trips, (s, (p.on : Int), p.cl, p.ov), ()), ()) =
   L17_11 N ((l, s, (s.1.length : Int), ticks, ((i + 1 : Nat) : Int), ()), ((qei s l (i : Int) p).rows, (qei s l (i : Int) p).trips, (s, ((qei s l (i : Int) p).on : Int), (qei s l (i : Int) p).cl, (qei s l (i : Int) p).ov), ()), ()) := by
 have hl := qdh hs
 have h1 := qce hl hx (i : Int) (st := (p.on, p.cl)) ⟨hp.on, hp.cl⟩ l.length (Nat.le_refl _)
 have hq0 := hp.q (l := l) (t := (i : Int)) h1.2
 have hq := qf3 (S := jE s l (i : Int) p) (B := (i : Int)) (by omega) hq0 (s.1.length + 1) (Nat.le_refl _)
 have hset : jE s l (i : Int) p < 65536 := by
  have := qir s (qaf s l (i : Int) p).1 (qaf s l (i : Int) p).2 s.2.1.length
  have := pow16 hl.2
  show qfk s _ _ s.2.1.length < 65536
  omega
 have hop : (qcz s l (i : Int) p).2.2.length ≤ 11 := by
  have := hq.op
  show (qbS s _ _ _).2.2.length ≤ 11
  omega
 have e1 := L17_14_eq' hl hx (by omega) (i : Int) ticks (i : Int) p.rows p.trips (st := (p.on, p.cl)) ⟨hp.on, hp.cl⟩ p.ov hN
 have e2 := g43_eq hs h1.1 h1.2 p.ov
 have e3 := g44_eq hs (S := jE s l (i : Int) p) (by omega)
 have e4 := L17_23_eq' (S := jE s l (i : Int) p) (B := (i : Int)) ⟨by omega, by omega⟩ hl.1 l (i : Int) ticks (i : Int) (p.rows ++ [((jE s l (i : Int) p : Nat) : Int)]) p.trips ((qaf s l (i : Int) p).1 : Int) hq0 hN
 have e5 := L17_33_eq' (s := s) (n := s.1.length) l (i : Int) ticks (i : Int) (p.rows ++ [((jE s l (i : Int) p : Nat) : Int)]) p.trips (s, ((qaf s l (i : Int) p).1 : Int), (qcz s l (i : Int) p).1, (qcz s l (i : Int) p).2.1) (qcz s l (i : Int) p).2.2 (by omega) hN
 have e6 := L17_39_eq' (s := s) (n := s.1.length) l (i : Int) ticks (i : Int) (p.rows ++ [((jE s l (i : Int) p : Nat) : Int)]) p.trips (s, ((qaf s l (i : Int) p).1 : Int), (qcz s l (i : Int) p).1, (qcz s l (i : Int) p).2.1) (fixO s.1.length (qcz s l (i : Int) p).2.2) (by rw [qjj]; omega) (by have := hp.tl; omega) hN
 simp only [L17_11, B17_11]
 rw [qM hi, cond_true, e1, qd]
 refine (qad e2 _).trans ?_
 rw [qaq (by simp only [hp.rl]; simp; omega) (by simp only [hp.rl]; simp; omega)]
 refine (qad e3 _).trans ?_
 refine (qad e4 _).trans ?_
 refine (qad e5 _).trans ?_
 refine (qad e6 _).trans ?_
 show L17_11 N ((l, s, (s.1.length : Int), ticks, IntKind.wrap .i64 ((i : Int) + 1), ()), _) = _
 rw [wI (x := (i : Int) + 1) (by omega) (by omega)]
 rfl
theorem g17_eq (s : Sup) (ticks : Int) (l : List Swi) : g17 (s, ticks, l, ()) = some ((if ckW s ticks l = 0 then (ply s l ticks.toNat).rows else [], if ckW s ticks l = 0 then (ply s l ticks.toNat).trips else [], ckW s ticks l, ()), ()) := by
 show F17 qj s ticks l = _
 unfold F17
 rw [g7_eq, qd]
 by_cases hs : okS s = true
 case neg =>
  have : ckW s ticks l = 50 := by unfold ckW; rw [if_neg hs]
  rw [if_neg hs, this]
  rfl
 rw [if_pos hs, g16_eq, qd]
 have hl := qdh hs
 show (bif !rng ticks 0 500 then _ else _) = _
 by_cases ht : rng ticks 0 500 = true
 case neg =>
  have : ckW s ticks l = 1 := by unfold ckW; rw [if_pos hs, if_neg ht]
  rw [Bool.not_eq_true] at ht
  rw [this, ht]
  rfl
 have ht' := jL.1 ht
 rw [ht]
 show (bif decide ((l.length : Int) > 100) then _ else _) = _
 by_cases h1 : l.length ≤ 100
 case neg =>
  have : ckW s ticks l = 51 := by unfold ckW; rw [if_pos hs, if_pos ht, qL h1]; rfl
  rw [this, qM (by omega)]
  rfl
 rw [qL (by omega), cond_false, g64_eq (by omega) (q := fun x => !okX s ticks x) (fun x _ => by
  have : g39 (x, s, ticks, ()) = some ((!okX s ticks x, ()), ()) := by
   show F39 qj x s ticks = _
   unfold F39
   rw [g40_eq hl ht', qd]
  rw [this, qd]), qd, qiC]
 by_cases hx : l.all (okX s ticks) = true
 case neg =>
  have : ckW s ticks l = 51 := by unfold ckW; rw [if_pos hs, if_pos ht, qM h1, Bool.true_and, if_neg hx]
  rw [Bool.not_eq_true] at hx
  rw [this, hx]
  rfl
 have h0 : ckW s ticks l = 0 := by unfold ckW; rw [if_pos hs, if_pos ht, qM h1, Bool.true_and, if_pos hx]
 rw [hx, h0]
 have hw : IntKind.wrap .i64 ((s.1.length : Int) + 1) = ((s.1.length + 1 : Nat) : Int) := by rw [wI (by omega) (by omega)]; omega
 rw [hw]
 have e86 := g41_one true (s.1.length + 1) (by omega)
 rw [Bool.not_true, cond_false]
 simp only [qa8, e86, qd, qaV (show (0 : Int) ≤ ((s.1.length + 1 : Nat) : Int) by omega), qaV (Int.le_refl ((s.1.length + 1 : Nat) : Int)), qaq (show (0 : Int) ≤ ((s.1.length + 1 : Nat) : Int) by omega) (show ((s.1.length + 1 : Nat) : Int) ≤ 274877906944 by omega), qaJ, qaK]
 have hf := jP
 obtain ⟨T, hT⟩ : ∃ T : Nat, ticks = (T : Int) := ⟨ticks.toNat, by omega⟩
 have e := qee (L := L17_11) (fun i => ((l, s, (s.1.length : Int), ticks, (i : Int), ()), ((ply s l i).rows, (ply s l i).trips, (s, ((ply s l i).on : Int), (ply s l i).cl, (ply s l i).ov), ()), ())) ((), ((ply s l T).rows, (ply s l T).trips, ()), ()) 2000 T (N := qj) (by omega)
  (fun N => by
   simp only [L17_11, B17_11]
   rw [qL (by omega)]
   rfl)
  (fun N i hc hi => L17_11_step hs ht' hx h1 hc (by omega) (qh7 hl hx i))
 have e' : L17_11 qj ((l, s, (s.1.length : Int), ticks, 0, ()), ([], [], (s, 0, List.replicate (s.1.length + 1) true, List.replicate ((s.1.length + 1 : Nat) : Int).toNat 0), ()), ()) = _ := e
 rw [e', qd, hT, Int.toNat_natCast]
 rfl
theorem g8_eq (s : Sup) (ticks : Int) (l : List Swi) : g8 (s, ticks, l, ()) = some ((if ckW s ticks l = 0 then (ply s l ticks.toNat).rows else [], ckW s ticks l, ()), ()) := by
 show F8 qj s ticks l = _
 unfold F8
 rw [g17_eq, qd]
theorem g9_eq (s : Sup) (ticks : Int) (l : List Swi) : g9 (s, ticks, l, ()) = some ((if ckW s ticks l = 0 then (ply s l ticks.toNat).trips else [], ckW s ticks l, ()), ()) := by
 show F9 qj s ticks l = _
 unfold F9
 rw [g17_eq, qd]
theorem okS_pw {s : Sup} (h : okS s = true) : 1 ≤ s.2.2.1 ∧ s.2.2.1 ≤ 1000 := by
 unfold okS at h
 simp only [Bool.and_eq_true, decide_eq_true_iff] at h
 exact jL.1 h.2.2.1
theorem okS_bd {s : Sup} (h : okS s = true) {b : Int} (h0 : 0 ≤ b) (h1 : b < s.1.length) : (-1 ≤ (gd s.1 b).1 ∧ (gd s.1 b).1 < b) ∧ (1 ≤ (gd s.1 b).2.1 ∧ (gd s.1 b).2.1 ≤ 1000) ∧ (0 ≤ (gd s.1 b).2.2.1 ∧ (gd s.1 b).2.2.1 ≤ 20) ∧ (1 ≤ (gd s.1 b).2.2.2 ∧ (gd s.1 b).2.2.2 ≤ 10000) := by
 unfold okS at h
 simp only [Bool.and_eq_true, decide_eq_true_iff, List.all_eq_true, List.mem_range] at h
 have := h.2.2.2.2.2.1 b.toNat (by omega)
 rw [show ((b.toNat : Nat) : Int) = b by omega] at this
 unfold okB at this
 simp only [Bool.and_eq_true, jL] at this
 omega
theorem brs_pos {s : Sup} (h : okS s = true) {b : Int} (h1 : b < s.1.length) : 1 ≤ brs s b ∧ brs s b ≤ 1000 := by
 unfold brs
 have := okS_pw h
 split
 ·exact this
 ·exact (okS_bd h (b := b) (by omega) h1).2.1
theorem qkq {s : Sup} {S : Nat} : fo s S = none ↔ ∀ i : Nat, i ≤ s.1.length → ovr s S ((i : Int) - 1) = false := by
 unfold fo
 rw [List.find?_eq_none]
 constructor
 ·intro h i hi
  have := h i (List.mem_range.2 (by omega))
  rwa [Bool.not_eq_true] at this
 ·intro h i hi
  rw [h i (by have := List.mem_range.1 hi; omega)]
  decide
def agn1 (t b : Int) (x : Swi) : Bool := x.1 == t && (if 0 ≤ b then x.2.1 == 3 && x.2.2 == b else x.2.1 == 4)
def agn (l : List Swi) (t b : Int) : Bool := l.any (agn1 t b)
def opn (s : Sup) (S : Nat) (ov : List Int) (k : Nat) : Bool := decide (ov1 s S ov k > dly s (bO s.1.length k))
theorem ov1_eq {s : Sup} {S : Nat} {ov ov' : List Int} {k : Nat} (h : gd ov (k : Int) = gd ov' (k : Int)) : ov1 s S ov k = ov1 s S ov' k := by
 unfold ov1
 rw [h]
theorem qf4 {s : Sup} {S : Nat} {q : (List Bool) × ((List Int) × (List Int))} (h1 : q.1.length = s.1.length + 1) (h2 : q.2.1.length = s.1.length + 1) : ∀ m, m ≤ s.1.length + 1 →
  (qbS s S q m).1.length = s.1.length + 1 ∧ (qbS s S q m).2.1.length = s.1.length + 1 ∧
  (∀ j : Nat, gd (qbS s S q m).1 (j : Int) = if j < m ∧ opn s S q.2.1 j = true then false else gd q.1 (j : Int)) ∧
  (∀ j : Nat, gd (qbS s S q m).2.1 (j : Int) = if j < m then (if opn s S q.2.1 j = true then 0 else ov1 s S q.2.1 j) else gd q.2.1 (j : Int)) ∧
  (qbS s S q m).2.2 = q.2.2 ++ ((List.range m).filter (opn s S q.2.1)).map (fun (k : Nat) => (k : Int))
 | 0, _ => ⟨h1, h2, fun j => by rw [if_neg (by omega)]; rfl, fun j => by rw [if_neg (by omega)]; rfl, by simp [qbS]⟩
 | m + 1, hm => by
  obtain ⟨i1, i2, i3, i4, i5⟩ := qf4 (S := S) h1 h2 m (by omega)
  have ho : ov1 s S (qbS s S q m).2.1 m = ov1 s S q.2.1 m := ov1_eq (by rw [i4, if_neg (by omega)])
  have hs : qbS s S q (m + 1) = brd s S (qbS s S q m) m := rfl
  rw [hs]
  unfold brd
  rw [ho, List.range_succ, List.filter_append]
  by_cases hop : ov1 s S q.2.1 m > dly s (bO s.1.length m)
  ·have hopn : opn s S q.2.1 m = true := qM hop
   rw [if_pos hop]
   refine ⟨by simp [i1], by simp [i2], fun j => ?_, fun j => ?_, ?_⟩
   ·show gd ((qbS s S q m).1.set m false) (j : Int) = _
    rw [gd_set_nat (by omega), i3]
    by_cases e : j = m
    ·rw [if_pos e, if_pos ⟨by omega, by rw [e]; exact hopn⟩]
    ·rw [if_neg e]
     by_cases h : j < m ∧ opn s S q.2.1 j = true
     ·rw [if_pos h, if_pos ⟨by omega, h.2⟩]
     ·rw [if_neg h, if_neg (fun hh => h ⟨by omega, hh.2⟩)]
   ·show gd ((qbS s S q m).2.1.set m 0) (j : Int) = _
    rw [gd_set_nat (by omega), i4]
    by_cases e : j = m
    ·rw [if_pos e, if_pos (show j < m + 1 by omega), e, if_pos hopn]
    ·rw [if_neg e]
     by_cases h : j < m
     ·rw [if_pos h, if_pos (show j < m + 1 by omega)]
     ·rw [if_neg h, if_neg (show ¬ j < m + 1 by omega)]
   ·show (qbS s S q m).2.2 ++ [(m : Int)] = _
    rw [i5]
    simp [hopn]
  ·have hopn : opn s S q.2.1 m = false := qL hop
   rw [if_neg hop]
   refine ⟨i1, by simp [i2], fun j => ?_, fun j => ?_, ?_⟩
   ·show gd (qbS s S q m).1 (j : Int) = _
    rw [i3]
    by_cases h : j < m ∧ opn s S q.2.1 j = true
    ·rw [if_pos h, if_pos ⟨by omega, h.2⟩]
    ·rw [if_neg h, if_neg]
     rintro ⟨a, b⟩
     refine h ⟨?_, b⟩
     by_cases e : j = m
     ·rw [e, hopn] at b; cases b
     ·omega
   ·show gd ((qbS s S q m).2.1.set m _) (j : Int) = _
    rw [gd_set_nat (by omega), i4]
    by_cases e : j = m
    ·rw [if_pos e, if_pos (show j < m + 1 by omega), e, if_neg (by rw [hopn]; decide)]
    ·rw [if_neg e]
     by_cases h : j < m
     ·rw [if_pos h, if_pos (show j < m + 1 by omega)]
     ·rw [if_neg h, if_neg (show ¬ j < m + 1 by omega)]
   ·show (qbS s S q m).2.2 = _
    rw [i5]
    simp [hopn]
theorem qf7 {s : Sup} (hl : s.1.length ≤ 10 ∧ s.2.1.length ≤ 16) {ticks : Int} {l : List Swi} (hx : l.all (okX s ticks) = true) (t : Int) {st : Nat × List Bool} (h : st.1 < 65536 ∧ st.2.length = s.1.length + 1) {k : Nat} (hk : k ≤ s.1.length) :
  ∀ i, i ≤ l.length → gd (qbG s.1.length l t st i).2 (k : Int) = true → gd st.2 (k : Int) = true ∨ agn l t (bO s.1.length k) = true
 | 0, _, hc => .inl hc
 | i + 1, hi, hc => by
  have hok := qce hl hx t h i (by omega)
  have ih := qf7 hl hx t h hk i (by omega)
  have hmem : gd l (i : Int) ∈ l := j6 (by omega) (by omega)
  have hxi := List.all_eq_true.1 hx _ hmem
  have hagn : agn1 t (bO s.1.length k) (gd l (i : Int)) = true → agn l t (bO s.1.length k) = true := fun ha => List.any_eq_true.2 ⟨_, hmem, ha⟩
  unfold qbG at hc
  split at hc
  case isFalse => exact ih hc
  rename_i ht
  unfold trn at hc
  split at hc
  ·exact ih hc
  split at hc
  ·exact ih hc
  rename_i hk1 hk2
  unfold okX at hxi
  rw [Bool.and_eq_true, if_neg (fun hh => hh.elim hk1 hk2)] at hxi
  have hxi := hxi.2
  split at hc
  ·rename_i h3
   rw [if_pos h3, jL] at hxi
   have hc : gd ((qbG s.1.length l t st i).2.set (gd l (i : Int)).2.2.toNat true) (k : Int) = true := hc
   rw [gd_set_nat (by omega)] at hc
   split at hc
   ·rename_i e
    right
    refine hagn ?_
    unfold agn1 bO
    rw [if_neg (show ¬ k = s.1.length by omega), if_pos (show (0 : Int) ≤ (k : Int) by omega)]
    simp only [Bool.and_eq_true, beq_iff_eq]
    exact ⟨ht, h3, by omega⟩
   ·exact ih hc
  ·have hc : gd ((qbG s.1.length l t st i).2.set s.1.length ((gd l (i : Int)).2.1 == 4)) (k : Int) = true := hc
   rw [gd_set_nat (by omega)] at hc
   split at hc
   ·rename_i e
    right
    refine hagn ?_
    unfold agn1 bO
    rw [if_pos e, if_neg (show ¬ (0 : Int) ≤ -1 by omega), hc]
    simp [ht]
   ·exact ih hc
theorem qdq {s : Sup} (hs : okS s = true) (on : Nat) {cl : List Bool} {k : Nat} (hk : k ≤ s.1.length) (hc : gd cl (k : Int) = false) (ph : Int) : ∀ i, i ≤ s.2.1.length → qdC s (drw s on cl) (bO s.1.length k) ph i = 0
 | 0, _ => rfl
 | i + 1, hi => by
  have hx := okL_1 (okS_ld hs (k := i) (by omega))
  unfold qdC
  rw [qdq hs on hk hc ph i (by omega), if_neg, Int.zero_add]
  rw [Bool.and_eq_true, Bool.and_eq_true]
  rintro ⟨h1, _, h2⟩
  unfold drw at h1
  rw [qiq, Bool.and_eq_true, Bool.and_eq_true] at h1
  have h3 := h1.2.2
  unfold live at h3
  rw [List.all_eq_true] at h3
  have hm := (qjT hs hx.1.1 hx.1.2 hk).2 h2
  obtain ⟨x, hx1, hx2⟩ := List.mem_map.1 hm
  have := h3 x hx1
  rw [hx2, hc] at this
  cases this
theorem qj3 {s : Sup} (hs : okS s = true) (on : Nat) {cl : List Bool} {k : Nat} (hk : k ≤ s.1.length) (hc : gd cl (k : Int) = false) : ovr s (drw s on cl) (bO s.1.length k) = false := by
 have hb : bO s.1.length k < s.1.length := by unfold bO; split <;> omega
 have := brs_pos hs hb
 unfold ovr mx3 cur
 rw [qdq hs on hk hc _ _ (Nat.le_refl _), qdq hs on hk hc _ _ (Nat.le_refl _), qdq hs on hk hc _ _ (Nat.le_refl _), qL]
 omega
theorem qis {s : Sup} (h : okS s = true) {b : Int} (hb : b < s.1.length) : 0 ≤ dly s b ∧ dly s b ≤ 20 := by
 unfold dly
 split
 ·unfold okS at h
  simp only [Bool.and_eq_true, decide_eq_true_iff] at h
  exact jL.1 h.2.2.2.1
 ·exact (okS_bd h (b := b) (by omega) hb).2.2.1
theorem qfR {s : Sup} (hl : s.1.length ≤ 10 ∧ s.2.1.length ≤ 16) {ticks : Int} {l : List Swi} (hx : l.all (okX s ticks) = true) (t : Int) {n : Nat} {p : PSt} (h : POK s n p) {k : Nat} (hk : k ≤ s.1.length) :
  gd (qei s l t p).cl (k : Int) = (if opn s (jE s l t p) p.ov k = true then false else gd (qaf s l t p).2 (k : Int)) ∧
  gd (qei s l t p).ov (k : Int) = (if opn s (jE s l t p) p.ov k = true then 0 else ov1 s (jE s l t p) p.ov k) := by
 have h1 := qce hl hx t (st := (p.on, p.cl)) ⟨h.on, h.cl⟩ l.length (Nat.le_refl _)
 obtain ⟨_, _, a3, a4, _⟩ := qf4 (s := s) (S := jE s l t p) (q := ((qaf s l t p).2, p.ov, [])) h1.2 h.ol (s.1.length + 1) (Nat.le_refl _)
 have b3 := a3 k
 have b4 := a4 k
 refine ⟨b3.trans ?_, b4.trans ?_⟩
 ·by_cases e : opn s (jE s l t p) p.ov k = true
  ·rw [if_pos e, if_pos ⟨by omega, e⟩]
  ·rw [if_neg e, if_neg (fun hh => e hh.2)]
 ·rw [if_pos (by omega)]
structure LInv (s : Sup) (k : Nat) (p : PSt) (row : Int) : Prop where
 nn : 0 ≤ row
 le : row ≤ dly s (bO s.1.length k) + 1
 ov : gd p.ov (k : Int) ≤ dly s (bO s.1.length k)
 cl : gd p.cl (k : Int) = true → row ≤ gd p.ov (k : Int)
def rowN (s : Sup) (l : List Swi) (t : Int) (S : Nat) (b row : Int) : Int := if ovr s S b = true then (if agn l t b = true then 1 else row + 1) else 0
theorem LInv.step {s : Sup} (hs : okS s = true) {ticks : Int} {l : List Swi} (hx : l.all (okX s ticks) = true) (t : Int) {n : Nat} {p : PSt} (h : POK s n p) {k : Nat} (hk : k ≤ s.1.length) {row : Int} (hi : LInv s k p row) :
  LInv s k (qei s l t p) (rowN s l t (jE s l t p) (bO s.1.length k) row) := by
 have hl := qdh hs
 obtain ⟨c1, c2⟩ := qfR hl hx t h hk
 have hb : bO s.1.length k < s.1.length := by unfold bO; split <;> omega
 have hd := qis hs hb
 have hov := h.bd k hk
 have hov2 := hi.ov
 have hnn := hi.nn
 unfold rowN
 by_cases ho : ovr s (jE s l t p) (bO s.1.length k) = true
 ·have ho1 : ov1 s (jE s l t p) p.ov k = gd p.ov (k : Int) + 1 := by
   unfold ovr at ho
   have := of_decide_eq_true ho
   unfold ov1
   rw [if_neg (by omega)]
  rw [if_pos ho]
  have hcl : gd (qaf s l t p).2 (k : Int) = true := by
   cases hc : gd (qaf s l t p).2 (k : Int) with
   | true => rfl
   | false =>
    have := qj3 hs (qaf s l t p).1 hk hc
    unfold jE at ho
    rw [this] at ho
    cases ho
  have hrow : 0 ≤ (if agn l t (bO s.1.length k) = true then 1 else row + 1) ∧ (if agn l t (bO s.1.length k) = true then 1 else row + 1) ≤ gd p.ov (k : Int) + 1 := by
   by_cases ha : agn l t (bO s.1.length k) = true
   ·rw [if_pos ha]; omega
   ·rw [if_neg ha]
    rcases qf7 hl hx t (st := (p.on, p.cl)) ⟨h.on, h.cl⟩ hk l.length (Nat.le_refl _) hcl with hc | hc
    ·have := hi.cl hc
     omega
    ·exact absurd hc ha
  refine ⟨hrow.1, by omega, ?_, fun hc => ?_⟩
  ·rw [c2]
   by_cases hop : opn s (jE s l t p) p.ov k = true
   ·rw [if_pos hop]; exact hd.1
   ·rw [if_neg hop]
    unfold opn at hop
    rw [decide_eq_true_iff] at hop
    omega
  ·rw [c2]
   by_cases hop : opn s (jE s l t p) p.ov k = true
   ·rw [c1, if_pos hop] at hc
    cases hc
   ·rw [if_neg hop, ho1]
    exact hrow.2
 ·rw [if_neg ho]
  have ho1 : ov1 s (jE s l t p) p.ov k = 0 := by
   unfold ovr at ho
   rw [decide_eq_true_iff] at ho
   unfold ov1
   rw [if_pos (by omega)]
  have : gd (qei s l t p).ov (k : Int) = 0 := by
   rw [c2, ho1]
   split <;> rfl
  exact ⟨Int.le_refl _, by omega, by omega, fun _ => by omega⟩
theorem LInv.zero {s : Sup} (hs : okS s = true) {k : Nat} (hk : k ≤ s.1.length) : LInv s k (ply0 s) 0 := by
 have hb : bO s.1.length k < s.1.length := by unfold bO; split <;> omega
 have hd := qis hs hb
 have : gd (ply0 s).ov (k : Int) = 0 := by
  show gd (List.replicate (s.1.length + 1) (0 : Int)) (k : Int) = 0
  rw [qaB (by omega) (by omega)]
 exact ⟨Int.le_refl _, by omega, by omega, fun _ => by omega⟩
def Sub (x S : Nat) : Prop := ∀ i, x.testBit i = true → S.testBit i = true
theorem qd9 {s : Sup} (hs : okS s = true) {x S : Nat} (h : Sub x S) (b ph : Int) : ∀ k, k ≤ s.2.1.length → qdC s x b ph k ≤ qdC s S b ph k
 | 0, _ => Int.le_refl _
 | k + 1, hk => by
  have ih := qd9 hs h b ph k (by omega)
  have ha := okL_1 (okS_ld hs (k := k) (by omega))
  unfold qdC
  by_cases hx : x.testBit k = true
  ·rw [hx, h k hx]
   split <;> omega
  ·rw [Bool.not_eq_true] at hx
   rw [hx, Bool.false_and, if_neg (by simp)]
   split <;> omega
theorem ovr_mono {s : Sup} (hs : okS s = true) {x S : Nat} (h : Sub x S) {b : Int} (ho : ovr s S b = false) : ovr s x b = false := by
 unfold ovr at *
 rw [decide_eq_false_iff_not] at *
 have m0 := qd9 hs h b 0 _ (Nat.le_refl _)
 have m1 := qd9 hs h b 1 _ (Nat.le_refl _)
 have m2 := qd9 hs h b 2 _ (Nat.le_refl _)
 unfold mx3 cur at *
 omega
theorem fo_bO {s : Sup} {S : Nat} (h : fo s S = none) {k : Nat} (hk : k ≤ s.1.length) : ovr s S (bO s.1.length k) = false := by
 unfold bO
 by_cases e : k = s.1.length
 ·rw [if_pos e]
  exact qkq.1 h 0 (Nat.zero_le _)
 ·rw [if_neg e]
  have := qkq.1 h (k + 1) (by omega)
  rwa [show (((k + 1 : Nat) : Int) - 1) = (k : Int) by omega] at this
def tsK (l : List Swi) : Nat → Nat
 | 0 => 0
 | i + 1 => if (gd l (i : Int)).2.1 = 1 then tsK l i ||| 2 ^ (gd l (i : Int)).2.2.toNat else tsK l i
theorem qka (l : List Swi) : ∀ (d i : Nat), Sub (tsK l i) (tsK l (i + d))
 | 0, _ => fun _ h => h
 | d + 1, i => fun b h => by
  have ih := qka l d i b h
  show (tsK l (i + d + 1)).testBit b = true
  unfold tsK
  split
  ·rw [Nat.testBit_or, ih]; rfl
  ·exact ih
theorem tsK_in (l : List Swi) {i n : Nat} (h : i < n) (hk : (gd l (i : Int)).2.1 = 1) : (tsK l n).testBit (gd l (i : Int)).2.2.toNat = true := by
 have := qka l (n - (i + 1)) (i + 1) (gd l (i : Int)).2.2.toNat (by
  unfold tsK
  rw [if_pos hk, Nat.testBit_or, Nat.testBit_two_pow_self, Bool.or_true])
 rwa [show i + 1 + (n - (i + 1)) = n by omega] at this
theorem okX_num {s : Sup} {ticks : Int} {x : Swi} (h : okX s ticks x = true) (hk : x.2.1 = 1 ∨ x.2.1 = 2) : 0 ≤ x.2.2 ∧ x.2.2 ≤ (s.2.1.length : Int) - 1 := by
 unfold okX at h
 rw [Bool.and_eq_true, if_pos hk] at h
 exact jL.1 h.2
theorem tsK_lt {s : Sup} {ticks : Int} {l : List Swi} (hx : l.all (okX s ticks) = true) : ∀ i, i ≤ l.length → tsK l i < 2 ^ s.2.1.length
 | 0, _ => Nat.two_pow_pos _
 | i + 1, hi => by
  have ih := tsK_lt hx i (by omega)
  unfold tsK
  split
  ·rename_i hk
   have := okX_num (List.all_eq_true.1 hx _ (j6 (l := l) (i := (i : Int)) (by omega) (by omega))) (.inl hk)
   exact Nat.or_lt_two_pow ih (Nat.pow_lt_pow_right (by omega) (by omega))
  ·exact ih
theorem qiI {n : Nat} {l : List Swi} (t : Int) {st : Nat × List Bool} (h : Sub st.1 (tsK l l.length)) : ∀ i, i ≤ l.length → Sub (qbG n l t st i).1 (tsK l l.length)
 | 0, _ => h
 | i + 1, hi => by
  have ih := qiI (n := n) t h i (by omega)
  unfold qbG
  split
  case isFalse => exact ih
  unfold trn
  split
  ·rename_i hk
   intro b hb
   have hb : ((qbG n l t st i).1 ||| 2 ^ (gd l (i : Int)).2.2.toNat).testBit b = true := hb
   rw [Nat.testBit_or, Bool.or_eq_true] at hb
   rcases hb with hb | hb
   ·exact ih b hb
   ·by_cases e : (gd l (i : Int)).2.2.toNat = b
    ·rw [← e]
     exact tsK_in l (by omega) hk
    ·rw [Nat.testBit_two_pow_of_ne e] at hb
     cases hb
  ·split
   ·intro b hb
    have hb : (dif (qbG n l t st i).1 (2 ^ (gd l (i : Int)).2.2.toNat)).testBit b = true := hb
    rw [qf0, Bool.and_eq_true] at hb
    exact ih b hb.1
   ·split <;> exact ih
theorem qkb {s : Sup} (hl : s.1.length ≤ 10 ∧ s.2.1.length ≤ 16) {ticks : Int} {l : List Swi} (hx : l.all (okX s ticks) = true) (t : Int) {st : Nat × List Bool} (h : st.1 < 65536 ∧ st.2.length = s.1.length + 1) {k : Nat} (hk : k < s.1.length) (hc : gd st.2 (k : Int) = true) :
  ∀ i, i ≤ l.length → gd (qbG s.1.length l t st i).2 (k : Int) = true
 | 0, _ => hc
 | i + 1, hi => by
  have hok := qce hl hx t h i (by omega)
  have ih := qkb hl hx t h hk hc i (by omega)
  unfold qbG
  split
  case isFalse => exact ih
  unfold trn
  split
  ·exact ih
  split
  ·exact ih
  split
  ·show gd ((qbG s.1.length l t st i).2.set _ true) (k : Int) = true
   by_cases hn : (gd l (i : Int)).2.2.toNat < (qbG s.1.length l t st i).2.length
   ·rw [gd_set_nat hn]
    split
    ·rfl
    ·exact ih
   ·rw [List.set_eq_of_length_le (by omega)]
    exact ih
  ·show gd ((qbG s.1.length l t st i).2.set _ _) (k : Int) = true
   rw [gd_set_nat (by omega), if_neg (by omega)]
   exact ih
theorem live_gen {s : Sup} (hs : okS s = true) {cl : List Bool} (hc : ∀ k : Nat, k < s.1.length → gd cl (k : Int) = true) {b : Int} (h0 : 0 ≤ b) (h1 : b < s.1.length) : live s cl b = gd cl (s.1.length : Int) := by
 have hm := qdr (qe5 hs) b (by omega) h1
 unfold live
 rw [List.all_append]
 have e1 : (chn s.1 b).all (fun x => gd cl ((ix s.1.length x : Nat) : Int)) = true := List.all_eq_true.2 fun x hx => by
  have := hm x hx
  have hi : ix s.1.length x = x.toNat := by unfold ix; rw [if_neg (by omega)]
  rw [hi]
  exact hc _ (by omega)
 have hi : ix s.1.length (-1) = s.1.length := by unfold ix; rw [if_pos rfl]
 rw [e1, Bool.true_and, List.all_cons, hi, List.all_nil, Bool.and_true]
theorem qks {s : Sup} (hs : okS s = true) {on : Nat} {cl : List Bool} (hc : ∀ k : Nat, k < s.1.length → gd cl (k : Int) = true) (hon : on < 2 ^ s.2.1.length) : drw s on cl = if gd cl (s.1.length : Int) = true then on else 0 := by
 refine Nat.eq_of_testBit_eq fun i => ?_
 unfold drw
 rw [qiq]
 by_cases hi : i < s.2.1.length
 ·have hx := okL_1 (okS_ld hs hi)
  rw [qM hi, Bool.true_and, live_gen hs hc hx.1.1 hx.1.2]
  cases gd cl (s.1.length : Int) with
  | true => rw [if_pos rfl, Bool.and_true]
  | false => rw [if_neg (by simp), Bool.and_false, Nat.zero_testBit]
 ·rw [qL hi, Bool.false_and]
  have h1 : on.testBit i = false := Nat.testBit_lt_two_pow (Nat.lt_of_lt_of_le hon (Nat.pow_le_pow_right (by omega) (by omega)))
  split
  ·exact h1.symm
  ·exact (Nat.zero_testBit i).symm
structure RInv (s : Sup) (l : List Swi) (p : PSt) : Prop where
 cl : ∀ k : Nat, k < s.1.length → gd p.cl (k : Int) = true
 tr : p.trips = []
 on : Sub p.on (tsK l l.length)
theorem sub_lt {x S n : Nat} (h : Sub x S) (hS : S < 2 ^ n) : x < 2 ^ n := by
 refine Nat.lt_pow_two_of_testBit x fun i hi => ?_
 cases hb : x.testBit i with
 | false => rfl
 | true =>
  have h1 := h i hb
  rw [Nat.testBit_lt_two_pow (Nat.lt_of_lt_of_le hS (Nat.pow_le_pow_right (by omega) hi))] at h1
  cases h1
theorem RInv.step {s : Sup} (hs : okS s = true) {ticks : Int} {l : List Swi} (hx : l.all (okX s ticks) = true) (hfit : fo s (tsK l l.length) = none) (t : Int) {n : Nat} {p : PSt} (h : POK s n p) (hi : RInv s l p) :
  RInv s l (qei s l t p) ∧ jE s l t p = (if gd (qaf s l t p).2 (s.1.length : Int) = true then (qaf s l t p).1 else 0) ∧ (qei s l t p).on = (qaf s l t p).1 ∧ gd (qei s l t p).cl (s.1.length : Int) = gd (qaf s l t p).2 (s.1.length : Int) := by
 have hl := qdh hs
 have hlt := tsK_lt hx l.length (Nat.le_refl _)
 have hsub : Sub (qaf s l t p).1 (tsK l l.length) := qiI t hi.on l.length (Nat.le_refl _)
 have hcl : ∀ k : Nat, k < s.1.length → gd (qaf s l t p).2 (k : Int) = true := fun k hk => qkb hl hx t (st := (p.on, p.cl)) ⟨h.on, h.cl⟩ hk (hi.cl k hk) l.length (Nat.le_refl _)
 have hset : jE s l t p = (if gd (qaf s l t p).2 (s.1.length : Int) = true then (qaf s l t p).1 else 0) := qks hs hcl (sub_lt hsub hlt)
 have hsub2 : Sub (jE s l t p) (tsK l l.length) := by
  rw [hset]
  split
  ·exact hsub
  ·intro i hh
   rw [Nat.zero_testBit] at hh
   cases hh
 have hop : ∀ k : Nat, k ≤ s.1.length → opn s (jE s l t p) p.ov k = false := fun k hk => by
  have ho := ovr_mono hs hsub2 (fo_bO hfit hk)
  have hb : bO s.1.length k < s.1.length := by unfold bO; split <;> omega
  have hd := qis hs hb
  unfold ovr at ho
  rw [decide_eq_false_iff_not] at ho
  unfold opn ov1
  rw [if_pos (by omega), qL]
  omega
 have hgen := (qfR hl hx t h (Nat.le_refl s.1.length)).1
 rw [if_neg (by rw [hop _ (Nat.le_refl _)]; decide)] at hgen
 refine ⟨⟨fun k hk => ?_, ?_, hsub⟩, hset, rfl, hgen⟩
 ·rw [(qfR hl hx t h (show k ≤ s.1.length by omega)).1, if_neg (by rw [hop k (by omega)]; decide)]
  exact hcl k hk
 ·have h1 := qce hl hx t (st := (p.on, p.cl)) ⟨h.on, h.cl⟩ l.length (Nat.le_refl _)
  have h5 := (qf4 (s := s) (S := jE s l t p) (q := ((qaf s l t p).2, p.ov, [])) h1.2 h.ol (s.1.length + 1) (Nat.le_refl _)).2.2.2.2
  have hnil : (List.range (s.1.length + 1)).filter (opn s (jE s l t p) p.ov) = [] := by
   rw [List.filter_eq_nil_iff]
   intro k hk
   rw [hop k (by have := List.mem_range.1 hk; omega)]
   decide
  have h6 : (qcz s l t p).2.2 = [] := h5.trans (by
   show [] ++ ((List.range (s.1.length + 1)).filter (opn s (jE s l t p) p.ov)).map (fun (k : Nat) => (k : Int)) = []
   rw [hnil]
   rfl)
  show p.trips ++ (fixO s.1.length (qcz s l t p).2.2).map (fun b => (t, b)) = []
  rw [h6, hi.tr]
  rfl
theorem RInv.zero (s : Sup) (l : List Swi) : RInv s l (ply0 s) :=
 ⟨fun k hk => by
  show gd (List.replicate (s.1.length + 1) true) (k : Int) = true
  rw [qaB (by omega) (by omega)], rfl, fun i h => by
  have h : (0 : Nat).testBit i = true := h
  rw [Nat.zero_testBit] at h
  cases h⟩
theorem RInv.all {s : Sup} (hs : okS s = true) {ticks : Int} {l : List Swi} (hx : l.all (okX s ticks) = true) (hfit : fo s (tsK l l.length) = none) : ∀ t, RInv s l (ply s l t)
 | 0 => RInv.zero s l
 | t + 1 => (RInv.step hs hx hfit (t : Int) (qh7 (qdh hs) hx t) (RInv.all hs hx hfit t)).1
def swf (n : Nat) (t : Int) (l : List Swi) (st : Nat × List Bool) : Nat × List Bool := l.foldl (fun st x => if x.1 = t then trn n st x else st) st
theorem qhX (n : Nat) (t : Int) (a b : List Swi) (st : Nat × List Bool) : swf n t (a ++ b) st = swf n t b (swf n t a st) := List.foldl_append
theorem qjB {n : Nat} {t : Int} : ∀ {l : List Swi} {st : Nat × List Bool}, (∀ x ∈ l, x.1 ≠ t) → swf n t l st = st
 | [], _, _ => rfl
 | x :: l, st, h => by
  show swf n t l (if x.1 = t then trn n st x else st) = st
  rw [if_neg (h x (List.mem_cons_self ..))]
  exact qjB fun y hy => h y (List.mem_cons_of_mem _ hy)
theorem qhj (n : Nat) (l : List Swi) (t : Int) (st : Nat × List Bool) : ∀ i, i ≤ l.length → qbG n l t st i = swf n t (l.take i) st
 | 0, _ => by rw [List.take_zero]; rfl
 | i + 1, hi => by
  have ih := qhj n l t st i (by omega)
  have e : l.take (i + 1) = l.take i ++ [gd l (i : Int)] := by
   rw [List.take_add_one, qep (by omega)]
   rfl
  have h : qbG n l t st (i + 1) = if (gd l (i : Int)).1 = t then trn n (qbG n l t st i) (gd l (i : Int)) else qbG n l t st i := rfl
  rw [e, qhX, ← ih, h]
  rfl
def swb (t : Int) (a b : Nat) (j : Nat) : List Swi := if b.testBit j && !a.testBit j then [(t, 1, (j : Int))] else if !b.testBit j && a.testBit j then [(t, 2, (j : Int))] else []
def swt (t : Int) (a b : Nat) : Nat → List Swi
 | 0 => []
 | n + 1 => swt t a b n ++ swb t a b n
def sws (W : Nat → Nat) (n : Nat) : Nat → List Swi
 | 0 => []
 | t + 1 => sws W n t ++ swt (t : Int) (W t) (W (t + 1)) n
theorem qjz (t : Int) (a b : Nat) : ∀ n, ∀ x ∈ swt t a b n, x.1 = t ∧ (x.2.1 = 1 ∨ x.2.1 = 2) ∧ 0 ≤ x.2.2 ∧ x.2.2 < n
 | 0, x, h => by cases h
 | n + 1, x, h => by
  rcases List.mem_append.1 h with h | h
  ·have := qjz t a b n x h
   omega
  ·unfold swb at h
   split at h
   ·rw [List.mem_singleton.1 h]
    exact ⟨rfl, .inl rfl, by show (0 : Int) ≤ (n : Int); omega, by show (n : Int) < ((n + 1 : Nat) : Int); omega⟩
   ·split at h
    ·rw [List.mem_singleton.1 h]
     exact ⟨rfl, .inr rfl, by show (0 : Int) ≤ (n : Int); omega, by show (n : Int) < ((n + 1 : Nat) : Int); omega⟩
    ·cases h
theorem qjA (W : Nat → Nat) (n : Nat) : ∀ T, ∀ x ∈ sws W n T, 0 ≤ x.1 ∧ x.1 < T ∧ (x.2.1 = 1 ∨ x.2.1 = 2) ∧ 0 ≤ x.2.2 ∧ x.2.2 < n
 | 0, x, h => by cases h
 | T + 1, x, h => by
  rcases List.mem_append.1 h with h | h
  ·have := qjA W n T x h
   omega
  ·have := qjz (T : Int) (W T) (W (T + 1)) n x h
   omega
theorem qiL (n : Nat) (t : Int) (a b : Nat) (cl : List Bool) : ∀ k, ∃ x, swf n t (swt t a b k) (a, cl) = (x, cl) ∧ ∀ j, x.testBit j = if j < k then b.testBit j else a.testBit j
 | 0 => ⟨a, rfl, fun j => by rw [if_neg (by omega)]⟩
 | k + 1 => by
  obtain ⟨x, e, h⟩ := qiL n t a b cl k
  unfold swt
  rw [qhX, e]
  have hk := h k
  rw [if_neg (by omega)] at hk
  have same : b.testBit k = a.testBit k → ∀ j, x.testBit j = if j < k + 1 then b.testBit j else a.testBit j := fun e j => by
   rw [h j]
   by_cases hj : j = k
   ·subst hj
    rw [if_neg (by omega), if_pos (by omega), e]
   ·by_cases hj' : j < k
    ·rw [if_pos hj', if_pos (by omega)]
    ·rw [if_neg hj', if_neg (by omega)]
  unfold swb
  cases hb : b.testBit k with
  | true =>
   cases ha : a.testBit k with
   | true =>
    exact ⟨x, rfl, same (by rw [ha, hb])⟩
   | false =>
    refine ⟨x ||| 2 ^ k, ?_, fun j => ?_⟩
    ·show swf n t [(t, 1, (k : Int))] (x, cl) = _
     simp [swf, trn]
    ·rw [Nat.testBit_or, h j]
     by_cases hj : j = k
     ·subst hj
      rw [Nat.testBit_two_pow_self, Bool.or_true, if_pos (by omega), hb]
     ·rw [Nat.testBit_two_pow_of_ne (by omega), Bool.or_false]
      by_cases hj' : j < k
      ·rw [if_pos hj', if_pos (by omega)]
      ·rw [if_neg hj', if_neg (by omega)]
  | false =>
   cases ha : a.testBit k with
   | false => exact ⟨x, rfl, same (by rw [ha, hb])⟩
   | true =>
    refine ⟨dif x (2 ^ k), ?_, fun j => ?_⟩
    ·show swf n t [(t, 2, (k : Int))] (x, cl) = _
     simp [swf, trn]
    ·rw [qf0, h j]
     by_cases hj : j = k
     ·subst hj
      rw [Nat.testBit_two_pow_self, Bool.not_true, Bool.and_false, if_pos (by omega), hb]
     ·rw [Nat.testBit_two_pow_of_ne (by omega), Bool.not_false, Bool.and_true]
      by_cases hj' : j < k
      ·rw [if_pos hj', if_pos (by omega)]
      ·rw [if_neg hj', if_neg (by omega)]
theorem swt_all {n m : Nat} {t : Int} {a b : Nat} {cl : List Bool} (ha : a < 2 ^ n) (hb : b < 2 ^ n) : swf m t (swt t a b n) (a, cl) = (b, cl) := by
 obtain ⟨x, e, h⟩ := qiL m t a b cl n
 rw [e]
 refine congrArg (·, cl) (Nat.eq_of_testBit_eq fun j => ?_)
 rw [h j]
 split
 ·rfl
 ·rename_i hj
  have hp : 2 ^ n ≤ 2 ^ j := Nat.pow_le_pow_right (by omega) (by omega)
  rw [Nat.testBit_lt_two_pow (Nat.lt_of_lt_of_le ha hp), Nat.testBit_lt_two_pow (Nat.lt_of_lt_of_le hb hp)]
theorem qiM {W : Nat → Nat} {n m : Nat} {cl : List Bool} (hW : ∀ t, W t < 2 ^ n) (t : Nat) : ∀ T, t < T → swf m (t : Int) (sws W n T) (W t, cl) = (W (t + 1), cl)
 | 0, h => by omega
 | T + 1, h => by
  unfold sws
  rw [qhX]
  by_cases e : t = T
  ·subst e
   rw [qjB (l := sws W n t) (fun x hx => by have := qjA W n t x hx; omega)]
   exact swt_all (hW t) (hW (t + 1))
  ·rw [qiM hW t T (by omega)]
   exact qjB fun x hx => by
    have := qjz _ _ _ _ x hx
    omega
structure MInv (s : Sup) (W : Nat → Nat) (t : Nat) (p : PSt) : Prop where
 cl : ∀ k : Nat, k ≤ s.1.length → gd p.cl (k : Int) = true
 tr : p.trips = []
 on : p.on = W t
 rows : p.rows = (List.range t).map fun i => ((W (i + 1) : Nat) : Int)
theorem MInv.step {s : Sup} (hs : okS s = true) {W : Nat → Nat} {T : Nat} (hW : ∀ t, W t < 2 ^ s.2.1.length) (hx : (sws W s.2.1.length T).all (okX s (T : Int)) = true) {t : Nat} (ht : t < T) (hO : ∀ k, k ≤ s.1.length → ovr s (W (t + 1)) (bO s.1.length k) = false) {p : PSt} (h : POK s t p) (hi : MInv s W t p) :
  MInv s W (t + 1) (qei s (sws W s.2.1.length T) (t : Int) p) := by
 have hl := qdh hs
 have hst : qaf s (sws W s.2.1.length T) (t : Int) p = (W (t + 1), p.cl) := by
  unfold qaf
  rw [qhj _ _ _ _ _ (Nat.le_refl _), List.take_length, hi.on]
  exact qiM hW t T ht
 have hset : jE s (sws W s.2.1.length T) (t : Int) p = W (t + 1) := by
  have h1 := qks hs (cl := p.cl) (fun k hk => hi.cl k (by omega)) (hW (t + 1))
  unfold jE
  rw [hst]
  show drw s (W (t + 1)) p.cl = _
  rw [h1, if_pos (hi.cl _ (Nat.le_refl _))]
 have hop : ∀ k : Nat, k ≤ s.1.length → opn s (jE s (sws W s.2.1.length T) (t : Int) p) p.ov k = false := fun k hk => by
  have ho := hO k hk
  rw [hset]
  have hb : bO s.1.length k < s.1.length := by unfold bO; split <;> omega
  have hd := qis hs hb
  unfold ovr at ho
  rw [decide_eq_false_iff_not] at ho
  unfold opn ov1
  rw [if_pos (by omega), qL]
  omega
 refine ⟨fun k hk => ?_, ?_, ?_, ?_⟩
 ·rw [(qfR hl hx (t : Int) h hk).1, if_neg (by rw [hop k hk]; decide), hst]
  exact hi.cl k hk
 ·have h1 := qce hl hx (t : Int) (st := (p.on, p.cl)) ⟨h.on, h.cl⟩ (sws W s.2.1.length T).length (Nat.le_refl _)
  have h5 := (qf4 (s := s) (S := jE s (sws W s.2.1.length T) (t : Int) p) (q := ((qaf s (sws W s.2.1.length T) (t : Int) p).2, p.ov, [])) h1.2 h.ol (s.1.length + 1) (Nat.le_refl _)).2.2.2.2
  have hnil : (List.range (s.1.length + 1)).filter (opn s (jE s (sws W s.2.1.length T) (t : Int) p) p.ov) = [] := by
   rw [List.filter_eq_nil_iff]
   intro k hk
   rw [hop k (by have := List.mem_range.1 hk; omega)]
   decide
  have h6 : (qcz s (sws W s.2.1.length T) (t : Int) p).2.2 = [] := h5.trans (by
   show [] ++ ((List.range (s.1.length + 1)).filter (opn s (jE s (sws W s.2.1.length T) (t : Int) p) p.ov)).map (fun (k : Nat) => (k : Int)) = []
   rw [hnil]
   rfl)
  show p.trips ++ (fixO s.1.length (qcz s (sws W s.2.1.length T) (t : Int) p).2.2).map (fun b => ((t : Int), b)) = []
  rw [h6, hi.tr]
  rfl
 ·show (qaf s (sws W s.2.1.length T) (t : Int) p).1 = _
  rw [hst]
 ·show p.rows ++ [((jE s (sws W s.2.1.length T) (t : Int) p : Nat) : Int)] = _
  rw [hset, hi.rows, List.range_succ, List.map_append]
  rfl
theorem qhW {s : Sup} {W : Nat → Nat} {T : Nat} : (sws W s.2.1.length T).all (okX s (T : Int)) = true := List.all_eq_true.2 fun x hx => by
 have := qjA W s.2.1.length T x hx
 unfold okX
 rw [Bool.and_eq_true, if_pos this.2.2.1]
 exact ⟨jL.2 (by omega), jL.2 (by omega)⟩
theorem qki {s : Sup} (hs : okS s = true) {W : Nat → Nat} {T : Nat} (h0 : W 0 = 0) (hW : ∀ t, W t < 2 ^ s.2.1.length) (hO : ∀ t, t < T → ∀ k, k ≤ s.1.length → ovr s (W (t + 1)) (bO s.1.length k) = false) : ∀ t, t ≤ T → MInv s W t (ply s (sws W s.2.1.length T) t)
 | 0, _ => ⟨fun k hk => by
   show gd (List.replicate (s.1.length + 1) true) (k : Int) = true
   rw [qaB (by omega) (by omega)], rfl, h0.symm, rfl⟩
 | t + 1, ht => MInv.step hs hW qhW (by omega) (hO t (by omega)) (qh7 (qdh hs) qhW t) (qki hs h0 hW hO t (by omega))
theorem mot05 {s : Sup} (hs : okS s = true) {W : Nat → Nat} {T : Nat} (hT : T ≤ 500) (h0 : W 0 = 0) (hW : ∀ t, W t < 2 ^ s.2.1.length) (hO : ∀ t, t < T → ∀ k, k ≤ s.1.length → ovr s (W (t + 1)) (bO s.1.length k) = false) (hn : (sws W s.2.1.length T).length ≤ 100) :
  g8 (s, (T : Int), sws W s.2.1.length T, ()) = some (((List.range T).map fun i => ((W (i + 1) : Nat) : Int), 0, ()), ()) ∧ g9 (s, (T : Int), sws W s.2.1.length T, ()) = some (([], 0, ()), ()) := by
 have hc : ckW s (T : Int) (sws W s.2.1.length T) = 0 := by
  unfold ckW
  rw [if_pos hs, if_pos (jL.2 ⟨by omega, by omega⟩), qhW, qM hn]
  rfl
 have hp := qki hs h0 hW hO T (Nat.le_refl _)
 rw [g8_eq, g9_eq, hc, if_pos rfl, if_pos rfl, Int.toNat_natCast, hp.rows, hp.tr]
 exact ⟨rfl, rfl⟩
def smK (a : List Int) (p : Nat → Bool) : Nat → Int
 | 0 => 0
 | k + 1 => smK a p k + if p k then gd a (k : Int) else 0
theorem qf1 {s : Sup} (hs : okS s = true) {a : List Int} (ha : ∀ k : Nat, k < s.2.1.length → (gd s.2.1 (k : Int)).2.2.1 = gd a (k : Int)) (S : Nat) (b ph : Int) : ∀ k, k ≤ s.2.1.length → qdC s S b ph k ≤ smK a S.testBit k
 | 0, _ => Int.le_refl _
 | k + 1, hk => by
  have ih := qf1 hs ha S b ph k (by omega)
  have h1 := okL_1 (okS_ld hs (k := k) (by omega))
  have h2 := ha k (by omega)
  unfold qdC smK
  by_cases hx : S.testBit k = true
  ·rw [hx, if_pos rfl]
   split <;> omega
  ·rw [Bool.not_eq_true] at hx
   rw [hx, Bool.false_and, if_neg (by simp), if_neg (by simp)]
   omega
theorem mot_ovr {s : Sup} (hs : okS s = true) {a : List Int} (ha : ∀ k : Nat, k < s.2.1.length → (gd s.2.1 (k : Int)).2.2.1 = gd a (k : Int)) {S : Nat} {b : Int} (h : smK a S.testBit s.2.1.length ≤ brs s b) : ovr s S b = false := by
 have c0 := qf1 hs ha S b 0 _ (Nat.le_refl _)
 have c1 := qf1 hs ha S b 1 _ (Nat.le_refl _)
 have c2 := qf1 hs ha S b 2 _ (Nat.le_refl _)
 unfold ovr
 rw [decide_eq_false_iff_not]
 unfold mx3 cur
 omega
theorem mot_check : ∀ s : Sup, g7 (s, ()) = some ((if okS s then 0 else 50, ()), ()) := g7_eq
end Go.Proofs.Try.V.L05
