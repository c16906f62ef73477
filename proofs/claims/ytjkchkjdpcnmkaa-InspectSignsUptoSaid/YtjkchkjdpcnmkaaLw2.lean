/- Plain laws of layer 10, second part: which entries are right, by the program and by the document. No condition beyond those typed in each theorem. -/
import Derived.Test.YtjkchkjdpcnmkaaLw1
namespace Go.Proofs.Try.V
open Go.Vi
set_option maxRecDepth 100000

structure Sized (b : Book) : Prop where
  rules : b.1.length ≤ 1048576
  ranks : b.2.1.length ≤ 1048576
  rides : b.2.2.length ≤ 1048576
theorem sized_of {b : Book} (h : bookOK b = true) : Sized b := by
  simp only [bookOK, sizesOK, Bool.and_eq_true, decide_eq_true_eq] at h
  exact ⟨by omega, by omega, by omega⟩

def rideB (b : Book) (n : Int) : Bool := rng n 0 ((b.2.2.length : Int) - 1)
def personB (b : Book) (n : Int) : Bool := rng n 0 ((b.2.1.length : Int) - 1)
def ruleB (b : Book) (n : Int) : Bool := rng n 0 ((b.1.length : Int) - 1)
def mayB (b : Book) (rule n : Int) : Bool := personB b n && decide ((gd b.1 rule).2.2.1 ≤ gd b.2.1 n)
def signsB (b : Book) (rule a c : Int) : Bool := if (gd b.1 rule).2.2.2 then mayB b rule a && mayB b rule c && (a != c) else mayB b rule a && (c == -1)
def mendedB (l : List Ent) (n : Int) : Bool := l.any fun x => x.2.1 == 3 && x.2.2.1 == n
def openB (l : List Ent) (n : Int) : Bool := rng n 0 ((l.length : Int) - 1) && ((gd l n).2.1 == 2) && !mendedB l n
def lastDay (l : List Ent) : Int := if l.length = 0 then 0 else (gd l ((l.length : Int) - 1)).1
def kindB (b : Book) (l : List Ent) (x : Ent) : Bool :=
  if x.2.1 == 1 then ruleB b x.2.2.1 && signsB b x.2.2.1 x.2.2.2.1 x.2.2.2.2
  else if x.2.1 == 2 then rideB b x.2.2.1 && rng x.2.2.2.1 1 3 && (x.2.2.2.2 == 0)
  else if x.2.1 == 3 then openB l x.2.2.1 && personB b x.2.2.2.1 && (x.2.2.2.2 == 0)
  else if x.2.1 == 4 then rideB b x.2.2.1 && personB b x.2.2.2.1 && (x.2.2.2.2 == 0)
  else if x.2.1 == 5 then rideB b x.2.2.1 && rng x.2.2.2.1 0 10000 && (x.2.2.2.2 == 0)
  else if x.2.1 == 6 then rideB b x.2.2.1 && (x.2.2.2.1 == 0) && (x.2.2.2.2 == 0)
  else false
def rightB (b : Book) (l : List Ent) (x : Ent) : Bool := rng x.1 (lastDay l) 10000 && kindB b l x

theorem rng_iff {x lo hi : Int} : rng x lo hi = true ↔ lo ≤ x ∧ x ≤ hi := by simp [rng]

theorem g61_eq (b : Book) (l : List Ent) (n : Int) (hb : Sized b) : g61 ((b, l), n, ()) = some ((rideB b n, ()), ()) := by
  show F61 fuel (b, l) n = _
  unfold F61
  have := hb.rides
  simp only [g62_eq, derefK_some]
  rw [wI (by omega) (by omega)]
  rfl
theorem g81_eq (b : Book) (l : List Ent) (n : Int) (hb : Sized b) : g81 ((b, l), n, ()) = some ((personB b n, ()), ()) := by
  show F81 fuel (b, l) n = _
  unfold F81
  have := hb.ranks
  simp only [g62_eq, derefK_some]
  rw [wI (by omega) (by omega)]
  rfl
theorem g80_eq (b : Book) (l : List Ent) (rule n : Int) (hb : Sized b) (hr : ruleB b rule = true) : g80 ((b, l), rule, n, ()) = some ((mayB b rule n, ()), ()) := by
  show F80 fuel (b, l) rule n = _
  unfold F80 mayB
  rw [g81_eq b l n hb, derefK_some]
  cases h : personB b n with
  | false => rfl
  | true =>
    have h := rng_iff.1 h
    have hr := rng_iff.1 hr
    simp only [cond_true]
    rw [getI_gd (by omega) (by omega), getI_gd (by omega) (by omega)]
    rfl
theorem g64_eq (b : Book) (l : List Ent) (rule a c : Int) (hb : Sized b) (hr : ruleB b rule = true) : g64 ((b, l), rule, a, c, ()) = some ((signsB b rule a c, ()), ()) := by
  show F64 fuel (b, l) rule a c = _
  unfold F64 signsB
  have hr' := rng_iff.1 hr
  simp only [g80_eq b l rule _ hb hr, derefK_some]
  rw [getI_gd (by omega) (by omega)]
  cases (gd b.1 rule).2.2.2 with
  | false => cases mayB b rule a <;> rfl
  | true =>
    cases mayB b rule a with
    | false => rfl
    | true => cases mayB b rule c <;> rfl
theorem g65_eq (b : Book) (rule a c : Int) (hb : Sized b) (hr : ruleB b rule = true) : g65 (b, rule, a, c, ()) = some ((signsB b rule a c, ()), ()) := by
  show F65 fuel b rule a c = _
  unfold F65 signsB mayB
  have := hb.ranks
  have hr' := rng_iff.1 hr
  rw [getI_gd (by omega) (by omega), g63_eq, derefK_some, wI (by omega) (by omega)]
  show cond (!personB b a) _ _ = _
  cases h : personB b a with
  | false => cases (gd b.1 rule).2.2.2 <;> rfl
  | true =>
    have h := rng_iff.1 h
    simp only [Bool.not_true, cond_false]
    rw [getI_gd (by omega) (by omega)]
    by_cases h2 : (gd b.1 rule).2.2.1 ≤ gd b.2.1 a
    case neg =>
      rw [dec_t (by omega), dec_f h2]
      cases (gd b.1 rule).2.2.2 <;> rfl
    rw [dec_f (by omega), dec_t h2, cond_false]
    cases (gd b.1 rule).2.2.2 with
    | false => rfl
    | true =>
      simp only [Bool.not_true, cond_false, g63_eq, derefK_some]
      show cond (personB b c) _ _ = _
      cases h3 : personB b c with
      | false => rfl
      | true =>
        have h3 := rng_iff.1 h3
        simp only [cond_true]
        have e : (c != a) = (a != c) := by
          rw [Bool.eq_iff_iff]
          simp only [bne_iff_ne, ne_eq]
          exact not_congr ⟨Eq.symm, Eq.symm⟩
        rw [e, getI_gd (by omega) (by omega)]
        cases a != c with
        | false => simp
        | true => simp
theorem g74_eq (b : Book) (l : List Ent) (n : Int) (hl : l.length ≤ 1048576) : g74 ((b, l), n, ()) = some ((mendedB l n, ()), ()) := by
  show F74 fuel (b, l) n = _
  unfold F74
  rw [g86_eq l (by omega) _ (fun x => x.2.1 == 3 && x.2.2.1 == n) (fun x _ => by
    show derefK (F87 fuel x n) _ = _
    unfold F87
    cases x.2.1 == 3 <;> rfl)]
  rfl
theorem g59_eq (l : List Ent) (n : Int) (hl : l.length ≤ 1048576) : g59 (l, n, ()) = some ((openB l n, ()), ()) := by
  show F59 fuel l n = _
  unfold F59 openB
  rw [g63_eq, derefK_some, wI (by omega) (by omega)]
  cases h : rng n 0 ((l.length : Int) - 1) with
  | false => rfl
  | true =>
    have h := rng_iff.1 h
    simp only [Bool.not_true, cond_false]
    rw [getI_gd (by omega) (by omega)]
    cases h2 : (gd l n).2.1 == 2 with
    | false => rw [show ((gd l n).2.1 != 2) = true by unfold bne; rw [h2]; rfl]; rfl
    | true =>
      rw [show ((gd l n).2.1 != 2) = false by unfold bne; rw [h2]; rfl, cond_false]
      have e : L59_4 fuel ((l, n, 0, ()), (), ()) = _ := loopAll (L := L59_4) (fun i => ((l, n, (i : Int), ()), (), ())) l (fun x => !(x.2.1 == 3 && x.2.2.1 == n)) (.inl ((false, ()), (), ())) (.inr ((), (), ())) 0 (by have := fuel_ge; omega)
        (fun N => by simp [L59_4, B59_4])
        (fun N i _ hi => by
          simp only [L59_4, B59_4]
          rw [dec_t (by omega), cond_true, getI_gd (by omega) (by omega), getI_gd (by omega) (by omega), wI (by omega) (by omega)]
          cases (gd l (i : Int)).2.1 == 3 with
          | false => rfl
          | true => cases (gd l (i : Int)).2.2.1 == n <;> rfl)
      rw [e, derefK_some]
      have : mendedB l n = !l.all (fun x => !(x.2.1 == 3 && x.2.2.1 == n)) := by
        rw [← any_not]
        simp only [Bool.not_not]
        rfl
      rw [this]
      cases l.all (fun x => !(x.2.1 == 3 && x.2.2.1 == n)) <;> rfl

theorem bif_and {a b : Bool} : (cond a (some ((b, ()), ())) (some ((false, ()), ())) : Option ((Bool × Unit) × Unit)) = some ((a && b, ()), ()) := by cases a <;> rfl
theorem g67_eq (b : Book) (l : List Ent) (x : Ent) (hb : Sized b) (hl : l.length ≤ 1048576) : g67 ((b, l), x, ()) = some ((rightB b l x, ()), ()) := by
  show F67 fuel (b, l) x = _
  unfold F67 rightB lastDay
  have hr := hb.rules
  simp only [g62_eq, g61_eq b l _ hb, g81_eq b l _ hb, g74_eq b l _ hl, derefK_some]
  rw [wI (x := (b.1.length : Int) - 1) (by omega) (by omega), wI (x := (l.length : Int) - 1) (by omega) (by omega)]
  by_cases h0 : l.length = 0
  · rw [if_pos h0, dec_f (by omega), cond_false]
    cases rng x.1 0 10000 with
    | false => rfl
    | true =>
      unfold kindB
      simp only [Bool.not_true, cond_false, Bool.true_and]
      cases h1 : x.2.1 == 1 with
      | true =>
        simp only [cond_true, if_true]
        show cond (ruleB b x.2.2.1) _ _ = _
        cases h : ruleB b x.2.2.1 with
        | false => rfl
        | true => simp only [cond_true, g64_eq b l _ _ _ hb h, derefK_some, Bool.true_and]
      | false =>
      simp only [cond_false, Bool.false_eq_true, if_false]
      cases h2 : x.2.1 == 2 with
      | true => simp only [cond_true, if_true, bif_and, Bool.and_assoc]
      | false =>
      simp only [cond_false, Bool.false_eq_true, if_false]
      cases h3 : x.2.1 == 3 with
      | true =>
        simp only [cond_true, if_true]
        unfold openB
        cases h : rng x.2.2.1 0 ((l.length : Int) - 1) with
        | false => rfl
        | true =>
          have h := rng_iff.1 h
          simp only [cond_true]
          rw [getI_gd (by omega) (by omega)]
          cases (gd l x.2.2.1).2.1 == 2 with
          | false => rfl
          | true =>
            cases mendedB l x.2.2.1 with
            | true => rfl
            | false => simp only [cond_true, Bool.not_false, bif_and, Bool.true_and, Bool.and_assoc]
      | false =>
      simp only [cond_false, Bool.false_eq_true, if_false]
      cases h4 : x.2.1 == 4 with
      | true => simp only [cond_true, if_true, bif_and, Bool.and_assoc]
      | false =>
      simp only [cond_false, Bool.false_eq_true, if_false]
      cases h5 : x.2.1 == 5 with
      | true => simp only [cond_true, if_true, bif_and, Bool.and_assoc]
      | false =>
      simp only [cond_false, Bool.false_eq_true, if_false]
      cases h6 : x.2.1 == 6 with
      | true => simp only [cond_true, if_true, bif_and, Bool.and_assoc]
      | false => rfl
  · rw [if_neg h0, dec_t (by omega), cond_true, getI_gd (by omega) (by omega)]
    cases rng x.1 (gd l ((l.length : Int) - 1)).1 10000 with
    | false => rfl
    | true =>
      unfold kindB
      simp only [Bool.not_true, cond_false, Bool.true_and]
      cases h1 : x.2.1 == 1 with
      | true =>
        simp only [cond_true, if_true]
        show cond (ruleB b x.2.2.1) _ _ = _
        cases h : ruleB b x.2.2.1 with
        | false => rfl
        | true => simp only [cond_true, g64_eq b l _ _ _ hb h, derefK_some, Bool.true_and]
      | false =>
      simp only [cond_false, Bool.false_eq_true, if_false]
      cases h2 : x.2.1 == 2 with
      | true => simp only [cond_true, if_true, bif_and, Bool.and_assoc]
      | false =>
      simp only [cond_false, Bool.false_eq_true, if_false]
      cases h3 : x.2.1 == 3 with
      | true =>
        simp only [cond_true, if_true]
        unfold openB
        cases h : rng x.2.2.1 0 ((l.length : Int) - 1) with
        | false => rfl
        | true =>
          have h := rng_iff.1 h
          simp only [cond_true]
          rw [getI_gd (by omega) (by omega)]
          cases (gd l x.2.2.1).2.1 == 2 with
          | false => rfl
          | true =>
            cases mendedB l x.2.2.1 with
            | true => rfl
            | false => simp only [cond_true, Bool.not_false, bif_and, Bool.true_and, Bool.and_assoc]
      | false =>
      simp only [cond_false, Bool.false_eq_true, if_false]
      cases h4 : x.2.1 == 4 with
      | true => simp only [cond_true, if_true, bif_and, Bool.and_assoc]
      | false =>
      simp only [cond_false, Bool.false_eq_true, if_false]
      cases h5 : x.2.1 == 5 with
      | true => simp only [cond_true, if_true, bif_and, Bool.and_assoc]
      | false =>
      simp only [cond_false, Bool.false_eq_true, if_false]
      cases h6 : x.2.1 == 6 with
      | true => simp only [cond_true, if_true, bif_and, Bool.and_assoc]
      | false => rfl
theorem g46_eq (b : Book) (l : List Ent) (x : Ent) (hb : Sized b) (hl : l.length ≤ 1048576) : g46 (b, l, x, ()) = some ((rightB b l x, ()), ()) := by
  show F46 fuel b l x = _
  unfold F46 rightB lastDay
  have h1 := hb.rules
  have h2 := hb.ranks
  have h3 := hb.rides
  simp only [g63_eq, g59_eq l _ hl, derefK_some]
  rw [wI (x := (b.1.length : Int) - 1) (by omega) (by omega), wI (x := (l.length : Int) - 1) (by omega) (by omega), wI (x := (b.2.1.length : Int) - 1) (by omega) (by omega), wI (x := (b.2.2.length : Int) - 1) (by omega) (by omega)]
  by_cases h0 : l.length = 0
  · rw [if_pos h0, dec_f (by omega), cond_false]
    cases rng x.1 0 10000 with
    | false => rfl
    | true =>
      unfold kindB
      simp only [Bool.not_true, cond_false, Bool.true_and]
      cases h1 : x.2.1 == 1 with
      | true =>
        simp only [cond_true, if_true]
        show cond (ruleB b x.2.2.1) _ _ = _
        cases h : ruleB b x.2.2.1 with
        | false => rfl
        | true => simp only [cond_true, g65_eq b _ _ _ hb h, derefK_some, Bool.true_and]
      | false =>
      simp only [cond_false, Bool.false_eq_true, if_false]
      cases h2 : x.2.1 == 2 with
      | true => simp only [cond_true, if_true, bif_and, Bool.and_assoc]; rfl
      | false =>
      simp only [cond_false, Bool.false_eq_true, if_false]
      cases h3 : x.2.1 == 3 with
      | true => simp only [cond_true, if_true, bif_and, Bool.and_assoc]; rfl
      | false =>
      simp only [cond_false, Bool.false_eq_true, if_false]
      cases h4 : x.2.1 == 4 with
      | true => simp only [cond_true, if_true, bif_and, Bool.and_assoc]; rfl
      | false =>
      simp only [cond_false, Bool.false_eq_true, if_false]
      cases h5 : x.2.1 == 5 with
      | true => simp only [cond_true, if_true, bif_and, Bool.and_assoc]; rfl
      | false =>
      simp only [cond_false, Bool.false_eq_true, if_false]
      cases h6 : x.2.1 == 6 with
      | true => simp only [cond_true, if_true, bif_and, Bool.and_assoc]; rfl
      | false => rfl
  · rw [if_neg h0, dec_t (by omega), cond_true, getI_gd (by omega) (by omega)]
    cases rng x.1 (gd l ((l.length : Int) - 1)).1 10000 with
    | false => rfl
    | true =>
      unfold kindB
      simp only [Bool.not_true, cond_false, Bool.true_and]
      cases h1 : x.2.1 == 1 with
      | true =>
        simp only [cond_true, if_true]
        show cond (ruleB b x.2.2.1) _ _ = _
        cases h : ruleB b x.2.2.1 with
        | false => rfl
        | true => simp only [cond_true, g65_eq b _ _ _ hb h, derefK_some, Bool.true_and]
      | false =>
      simp only [cond_false, Bool.false_eq_true, if_false]
      cases h2 : x.2.1 == 2 with
      | true => simp only [cond_true, if_true, bif_and, Bool.and_assoc]; rfl
      | false =>
      simp only [cond_false, Bool.false_eq_true, if_false]
      cases h3 : x.2.1 == 3 with
      | true => simp only [cond_true, if_true, bif_and, Bool.and_assoc]; rfl
      | false =>
      simp only [cond_false, Bool.false_eq_true, if_false]
      cases h4 : x.2.1 == 4 with
      | true => simp only [cond_true, if_true, bif_and, Bool.and_assoc]; rfl
      | false =>
      simp only [cond_false, Bool.false_eq_true, if_false]
      cases h5 : x.2.1 == 5 with
      | true => simp only [cond_true, if_true, bif_and, Bool.and_assoc]; rfl
      | false =>
      simp only [cond_false, Bool.false_eq_true, if_false]
      cases h6 : x.2.1 == 6 with
      | true => simp only [cond_true, if_true, bif_and, Bool.and_assoc]; rfl
      | false => rfl
end Go.Proofs.Try.V
