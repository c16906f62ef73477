/- Plain laws of layer 10, fifth part: why a ride is not released, by the program and by the document. No condition beyond those typed in each theorem. -/
import Derived.Test.YtjkchkjdpcnmkaaLw4
namespace Go.Proofs.Try.V
open Go.Vi
set_option maxRecDepth 100000

/-! ## Defects -/
def cntL (l : List Ent) (ride : Int) (ol : List Int) (s : Int) : Int := ((ol.filter fun i => (gd l i).2.2.1 == ride && (gd l i).2.2.2.1 == s).length : Nat)
def manyL (l : List Ent) (ride : Int) (ol : List Int) : List Int := [cntL l ride ol 0, cntL l ride ol 1, cntL l ride ol 2, cntL l ride ol 3]
theorem cntL_snoc (l : List Ent) (ride : Int) (ol : List Int) (i s : Int) : cntL l ride (ol ++ [i]) s = cntL l ride ol s + if (gd l i).2.2.1 == ride && (gd l i).2.2.2.1 == s then 1 else 0 := by
  unfold cntL
  rw [List.filter_append]
  cases h : (gd l i).2.2.1 == ride && (gd l i).2.2.2.1 == s <;> simp [h]
theorem manyL_other (l : List Ent) (ride : Int) (ol : List Int) (i : Int) (h : ((gd l i).2.2.1 == ride) = false) : manyL l ride (ol ++ [i]) = manyL l ride ol := by
  unfold manyL
  simp only [cntL_snoc, h, Bool.false_and, Bool.false_eq_true, if_false, Int.add_zero]
theorem manyL_same (l : List Ent) (ride : Int) (ol : List Int) (i : Int) (h : ((gd l i).2.2.1 == ride) = true) (hB : 1 ≤ (gd l i).2.2.2.1 ∧ (gd l i).2.2.2.1 ≤ 3) :
    gd (manyL l ride ol) (gd l i).2.2.2.1 = cntL l ride ol (gd l i).2.2.2.1 ∧ manyL l ride (ol ++ [i]) = (manyL l ride ol).set (gd l i).2.2.2.1.toNat (cntL l ride ol (gd l i).2.2.2.1 + 1) := by
  have hc : (gd l i).2.2.2.1 = 1 ∨ (gd l i).2.2.2.1 = 2 ∨ (gd l i).2.2.2.1 = 3 := by omega
  unfold manyL
  simp only [cntL_snoc, h, Bool.true_and]
  rcases hc with e | e | e <;> rw [e] <;> exact ⟨rfl, by simp⟩
theorem cntL_le (l : List Ent) (ride : Int) (ol : List Int) (s : Int) : 0 ≤ cntL l ride ol s ∧ cntL l ride ol s ≤ ol.length := by
  unfold cntL
  have := List.length_filter_le (fun i => (gd l i).2.2.1 == ride && (gd l i).2.2.2.1 == s) ol
  omega
theorem manyL_len (l : List Ent) (ride : Int) (ol : List Int) : (manyL l ride ol).length = 4 := rfl
def soundB (l : List Ent) (ride : Int) : Bool := (cntL l ride (openL l) 3 == 0) && decide (cntL l ride (openL l) 2 ≤ 1)
theorem Fit.found {b : Book} {l : List Ent} (h : Fit b l) {i : Int} (ho : openB l i = true) : (0 ≤ i ∧ i < l.length) ∧ 1 ≤ (gd l i).2.2.2.1 ∧ (gd l i).2.2.2.1 ≤ 3 := by
  unfold openB at ho
  simp only [Bool.and_eq_true] at ho
  have h1 := rng_iff.1 ho.1.1
  refine ⟨by omega, ?_⟩
  have := h.sev i.toNat (by omega)
  rw [show ((i.toNat : Nat) : Int) = i by omega] at this
  exact this ho.1.2
theorem fil_mem {p : Nat → Bool} {n : Nat} {x : Int} (h : x ∈ fil p n) : ∃ i : Nat, i < n ∧ p i = true ∧ x = (i : Int) := by
  unfold fil at h
  obtain ⟨i, hi, rfl⟩ := List.mem_map.1 h
  rw [List.mem_filter] at hi
  exact ⟨i, by simpa using hi.1, hi.2, rfl⟩
theorem openL_len (l : List Ent) : (openL l).length ≤ l.length := fil_len _ _

theorem g54_eq (b : Book) (l : List Ent) (h : Fit b l) (ride : Int) : g54 ((b, l), ride, ()) = some ((soundB l ride, ()), ()) := by
  show F54 fuel (b, l) ride = _
  unfold F54 soundB
  have hl := h.len
  have hol := openL_len l
  rw [g56_eq b l (by omega), derefK_some]
  have e := loopF (L := L54_3) (fun i => ((ride, ((openL l).length : Int), (i : Int), ()), ((b, l), manyL l ride ((openL l).take i), openL l, ()), ())) ((), (manyL l ride (openL l), ()), ()) 0 (openL l).length (N := fuel) (by have := fuel_ge; omega)
    (fun N => by simp [L54_3, B54_3])
    (fun N i _ hi => by
      have hm := gd_mem (l := openL l) (i := (i : Int)) (by omega) (by omega)
      obtain ⟨j, hj, hp, hx⟩ := fil_mem hm
      have hf := h.found (i := gd (openL l) (i : Int)) (by rw [hx]; exact hp)
      simp only [L54_3, B54_3]
      rw [dec_t (by omega), cond_true, inR_in (by omega) (by omega), getI_gd (by omega) (by omega)]
      have g1 : ∀ {R : Type} (k : Ent → Option R), getI l (gd (openL l) (i : Int)) k = k (gd l (gd (openL l) (i : Int))) := fun k => getI_gd hf.1.1 hf.1.2 k
      rw [g1, wI (x := (i : Int) + 1) (by omega) (by omega), take_nat hi]
      cases hr : (gd l (gd (openL l) (i : Int))).2.2.1 == ride with
      | false =>
        rw [manyL_other _ _ _ _ hr]
        rfl
      | true =>
        obtain ⟨k1, k2⟩ := manyL_same l ride ((openL l).take i) _ hr hf.2
        have hc := cntL_le l ride ((openL l).take i) (gd l (gd (openL l) (i : Int))).2.2.2.1
        rw [List.length_take] at hc
        have hlen := manyL_len l ride ((openL l).take i)
        rw [cond_true, inR_in (by omega) (by omega), getI_gd (by omega) (by omega), inR_in (by omega) (by omega), getI_gd (by omega) (by omega), k2, k1, wI (by omega) (by omega)]
        rfl)
  have e' : L54_3 fuel ((ride, ((openL l).length : Int), 0, ()), ((b, l), List.replicate 4 0, openL l, ()), ()) = _ := e
  rw [e', derefK_some, inR_in (by decide) (by decide)]
  show getI (manyL l ride (openL l)) 3 _ = _
  rw [getI_gd (by decide) (by rw [manyL_len]; decide)]
  show cond (cntL l ride (openL l) 3 == 0) _ _ = _
  cases cntL l ride (openL l) 3 == 0 with
  | false => rfl
  | true =>
    rw [cond_true, inR_in (by decide) (by decide)]
    show getI (manyL l ride (openL l)) 2 _ = _
    rw [getI_gd (by decide) (by rw [manyL_len]; decide)]
    rfl

/-! ## Insurance -/
def insR (b : Book) (l : List Ent) (ride : Int) : Int := l.foldl (fun acc x => if x.2.1 == 5 && x.2.2.1 == ride then x.2.2.2.1 else acc) (gd b.2.2 ride)
def scanI (ride : Int) : List Ent → Option Int
  | [] => none
  | x :: r => if x.2.1 == 5 && x.2.2.1 == ride then some x.2.2.2.1 else scanI ride r
theorem insR_scan (b : Book) (l : List Ent) (ride : Int) : insR b l ride = (scanI ride l.reverse).getD (gd b.2.2 ride) := by
  unfold insR
  rw [List.foldl_eq_foldr_reverse]
  induction l.reverse with
  | nil => rfl
  | cons x r ih =>
    rw [List.foldr_cons, ih, scanI]
    split <;> rfl
theorem R53_eq (n : Nat) (ride v : Int) : ∀ r : List Ent, R53_2 n r (ride, v, ()) = some (match scanI ride r with | some d => (.ret, (d, ())) | none => (.norm, (v, ())))
  | [] => rfl
  | x :: r => by
    have ih := R53_eq n ride v r
    simp only [R53_2, Q53_2, scanI]
    rw [ih]
    cases x.2.1 == 5 with
    | false => rfl
    | true => cases x.2.2.1 == ride <;> rfl
theorem g53_eq (b : Book) (l : List Ent) (hl : l.length ≤ 1048576) (ride : Int) (hr : rideB b ride = true) : g53 ((b, l), ride, ()) = some ((insR b l ride, ()), ()) := by
  show F53 fuel (b, l) ride = _
  unfold F53
  have hr := rng_iff.1 hr
  show derefK (It.it84.g ((b, l), ())) _ = _
  rw [it84_at b l hl]
  show derefK (R53_2 fuel (l.reverse : List Ent) (ride, 0, ())) _ = _
  rw [R53_eq fuel ride, derefK_some, insR_scan]
  cases scanI ride l.reverse with
  | some d => rfl
  | none =>
    show getI b.2.2 ride _ = _
    rw [getI_gd (by omega) (by omega)]
    rfl

/-! ## All checks of a ride -/
def chkR (b : Book) (l : List Ent) (ride : Int) (n : Nat) : Int := (List.range n).foldl (fun (acc : Int) (i : Nat) => if (gd b.1 (i : Int)).1 == ride then min acc (untilR b l (i : Int)) else acc) 10000
theorem chkR_succ (b : Book) (l : List Ent) (ride : Int) (n : Nat) : chkR b l ride (n + 1) = if (gd b.1 (n : Int)).1 == ride then min (chkR b l ride n) (untilR b l (n : Int)) else chkR b l ride n := by
  unfold chkR
  rw [List.range_succ, List.foldl_append]
  rfl
theorem ruleB_of {b : Book} {i : Nat} (h : i < b.1.length) : ruleB b (i : Int) = true := rng_iff.2 ⟨by omega, by omega⟩
theorem g52_eq (b : Book) (l : List Ent) (h : Fit b l) (ride : Int) : g52 ((b, l), ride, ()) = some ((chkR b l ride b.1.length, ()), ()) := by
  show F52 fuel (b, l) ride = _
  unfold F52
  have hs := (sized_of h.book).rules
  have e := loopF (L := L52_3) (fun i => ((ride, chkR b l ride i, b.1, (b.1.length : Int), (i : Int), ()), ((b, l), ()), ())) ((chkR b l ride b.1.length, ()), (), ()) 0 b.1.length (N := fuel) (by have := fuel_ge; omega)
    (fun N => by simp [L52_3, B52_3])
    (fun N i _ hi => by
      simp only [L52_3, B52_3]
      rw [dec_t (by omega), cond_true, getI_gd (by omega) (by omega), wI (by omega) (by omega), chkR_succ, g55_eq b l h _ (ruleB_of hi), derefK_some]
      cases (gd b.1 (i : Int)).1 == ride <;> rfl)
  have e' : L52_3 fuel ((ride, 10000, b.1, (b.1.length : Int), 0, ()), ((b, l), ()), ()) = _ := e
  show derefK (L52_3 fuel ((ride, 10000, b.1, (b.1.length : Int), 0, ()), ((b, l), ()), ())) _ = _
  rw [e', derefK_some]
def chkB (b : Book) (l : List Ent) (ride day : Int) (n : Nat) : Bool := (List.range n).all fun i : Nat => (gd b.1 (i : Int)).1 != ride || forceB b l (i : Int) day
theorem chkB_succ (b : Book) (l : List Ent) (ride day : Int) (n : Nat) : chkB b l ride day (n + 1) = (chkB b l ride day n && ((gd b.1 (n : Int)).1 != ride || forceB b l (n : Int) day)) := by
  unfold chkB
  rw [List.range_succ, List.all_append]
  simp
theorem chk_lt {b : Book} {l : List Ent} {ride day : Int} (hd : 0 ≤ day ∧ day ≤ 10000) : ∀ n, decide (chkR b l ride n < day) = !chkB b l ride day n
  | 0 => by
    rw [show chkR b l ride 0 = 10000 from rfl, dec_f (by omega)]
    rfl
  | n + 1 => by
    have ih := chk_lt (b := b) (l := l) (ride := ride) hd n
    rw [chkR_succ, chkB_succ]
    cases hr : (gd b.1 (n : Int)).1 == ride with
    | false =>
      rw [show ((gd b.1 (n : Int)).1 != ride) = true by unfold bne; rw [hr]; rfl, Bool.true_or, Bool.and_true]
      exact ih
    | true =>
      rw [show ((gd b.1 (n : Int)).1 != ride) = false by unfold bne; rw [hr]; rfl, Bool.false_or, if_pos rfl, Bool.not_and, ← ih, ← until_lt hd.1]
      rw [Bool.eq_iff_iff]
      simp only [decide_eq_true_eq, Bool.or_eq_true]
      omega

/-! ## Why -/
theorem g69_eq (k : Int) (is : Bool) (out : List Int) (hl : out.length ≤ 1048576) : g69 (k, is, out, ()) = some ((), ((if is then out ++ [k] else out), ())) := by
  show F69 fuel k is out = _
  unfold F69
  cases is with
  | false => rfl
  | true => rw [cond_true, lenK_in (by simp; omega) (by simp; omega)]; rfl
def wantT (ride : Int) (x : Ent) : Bool := x.2.1 == 4 && x.2.2.1 == ride
def whyL (b : Book) (l : List Ent) (ride day : Int) : List Int :=
  (if chkB b l ride day b.1.length then [] else [1]) ++ (if soundB l ride then [] else [2]) ++ (if lastE (wantT ride) ride l == day then [] else [3]) ++ (if insR b l ride < day then [4] else [])
theorem g48_eq (b : Book) (l : List Ent) (h : Fit b l) (ride day : Int) (hd : 0 ≤ day ∧ day ≤ 10000) (hr : rideB b ride = true) : g48 ((b, l), ride, day, ()) = some ((whyL b l ride day, ()), ()) := by
  show F48 fuel (b, l) ride day = _
  unfold F48 whyL
  have hl := h.len
  rw [g52_eq b l h, derefK_some, g69_eq _ _ _ (by simp), derefK_some, g54_eq b l h, derefK_some]
  dsimp only
  rw [chk_lt hd, g69_eq _ _ _ (by split <;> simp), derefK_some, g70_eq b l (by omega) ride _ (wantT ride) (fun x => by
    show derefK (F71 fuel x ride) _ = _
    unfold F71 wantT
    cases x.2.1 == 4 <;> rfl), derefK_some]
  dsimp only
  rw [g69_eq _ _ _ (by split <;> split <;> simp), derefK_some, g53_eq b l (by omega) ride hr, derefK_some]
  dsimp only
  rw [g69_eq _ _ _ (by split <;> split <;> split <;> simp), derefK_some]
  unfold bne
  by_cases h4 : insR b l ride < day
  · rw [dec_t h4, if_pos h4]
    cases chkB b l ride day b.1.length <;> cases soundB l ride <;> cases lastE (wantT ride) ride l == day <;> rfl
  · rw [dec_f h4, if_neg h4]
    cases chkB b l ride day b.1.length <;> cases soundB l ride <;> cases lastE (wantT ride) ride l == day <;> rfl
end Go.Proofs.Try.V
