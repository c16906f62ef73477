/- Plain laws: what the last text needs of the others, in one. No condition beyond those typed in each theorem. -/
import Derived.Test.YtinkjepanpicoaaFn4
namespace Go.Proofs.Try.V.L10
open Go.Vi
set_option maxRecDepth 100000
abbrev Rule := Int × (Int × (Int × Bool))
abbrev Book := (List Rule) × ((List Int) × (List Int))
abbrev Ent := Int × (Int × (Int × (Int × Int)))
abbrev Log := Book × (List Ent)
theorem loopIdx {α D R : Type} [Inhabited α] {L : Nat → D → Option R} (mk : Nat → D) (l : List α) (q : α → Bool) (hit : Nat → R) (e : R) (c : Nat) {N : Nat} (hN : l.length + c < N)
    (hend : ∀ N, L (N + 1) (mk l.length) = some e)
    (hstep : ∀ N i, c ≤ N → i < l.length → L (N + 1) (mk i) = if q (gd l (i : Int)) then some (hit i) else L N (mk (i + 1))) :
    L N (mk 0) = some (match l.findIdx? q with | some i => hit i | none => e) := by
  have key : ∀ (d i : Nat) (N : Nat), i + d = l.length → d + c < N → L N (mk i) = some (match (l.drop i).findIdx? q with | some j => hit (i + j) | none => e) := by
    intro d
    induction d with
    | zero =>
      intro i N hi hN
      obtain ⟨m, rfl⟩ : ∃ m, N = m + 1 := ⟨N - 1, by omega⟩
      obtain rfl : i = l.length := by omega
      rw [hend, List.drop_length]
      rfl
    | succ d ih =>
      intro i N hi hN
      obtain ⟨m, rfl⟩ : ∃ m, N = m + 1 := ⟨N - 1, by omega⟩
      rw [hstep m i (by omega) (by omega), drop_nat (by omega), List.findIdx?_cons]
      cases hq : q (gd l (i : Int)) with
      | true => rfl
      | false =>
        rw [if_neg (by simp), ih (i + 1) m (by omega) (by omega)]
        simp only [Bool.false_eq_true, if_false]
        cases (l.drop (i + 1)).findIdx? q with
        | none => rfl
        | some j =>
          simp only [Option.map_some]
          rw [show i + (j + 1) = i + 1 + j by omega]
  have := key l.length 0 N (by omega) hN
  simpa using this
theorem findIdx_none {α : Type} {l : List α} {q : α → Bool} : (l.findIdx? q).isNone = l.all (fun x => !q x) := by
  induction l with
  | nil => rfl
  | cons x l _ =>
    rw [List.findIdx?_cons, List.all_cons]
    cases q x with
    | true => rfl
    | false => simp
theorem loopAll {α D R : Type} [Inhabited α] {L : Nat → D → Option R} (mk : Nat → D) (l : List α) (p : α → Bool) (bad good : R) (c : Nat) {N : Nat} (hN : l.length + c < N)
    (hend : ∀ N, L (N + 1) (mk l.length) = some good)
    (hstep : ∀ N i, c ≤ N → i < l.length → L (N + 1) (mk i) = if p (gd l (i : Int)) then L N (mk (i + 1)) else some bad) :
    L N (mk 0) = some (if l.all p then good else bad) := by
  rw [loopIdx mk l (fun x => !p x) (fun _ => bad) good c hN hend (fun N i hc hi => by
    rw [hstep N i hc hi]
    cases p (gd l (i : Int)) <;> rfl)]
  have := findIdx_none (l := l) (q := fun x => !p x)
  simp only [Bool.not_not] at this
  cases h : l.findIdx? (fun x => !p x) with
  | none =>
    rw [h] at this
    simp only [Option.isNone_none] at this
    rw [← this]
    rfl
  | some i =>
    rw [h] at this
    simp only [Option.isNone_some] at this
    rw [← this]
    rfl
def rng (x lo hi : Int) : Bool := decide (lo ≤ x) && decide (x ≤ hi)
theorem g27_eq (x lo hi : Int) : g27 (x, lo, hi, ()) = some ((rng x lo hi, ()), ()) := by
  show F27 fuel x lo hi = _
  unfold F27 rng
  by_cases h : lo ≤ x
  · rw [dec_t (p := x ≥ lo) h]; rfl
  · rw [dec_f (p := x ≥ lo) h]; rfl
theorem g54_eq (x lo hi : Int) : g54 (x, lo, hi, ()) = some ((rng x lo hi, ()), ()) := by
  show F54 fuel x lo hi = _
  unfold F54 rng
  by_cases h : lo ≤ x
  · rw [dec_t (p := x ≥ lo) h]; rfl
  · rw [dec_f (p := x ≥ lo) h]; rfl
def idxI {α : Type} (l : List α) (q : α → Bool) : Int := match l.findIdx? q with | some i => (i : Int) | none => -1
theorem idxI_nn {α : Type} (l : List α) (q : α → Bool) : decide (idxI l q ≥ 0) = l.any q := by
  have h := findIdx_none (l := l) (q := q)
  unfold idxI
  cases hf : l.findIdx? q with
  | some i =>
    rw [hf] at h
    simp only [Option.isNone_some] at h
    show decide ((i : Int) ≥ 0) = _
    rw [dec_t (by omega)]
    rw [List.all_eq_not_any_not] at h
    simpa using h
  | none =>
    rw [hf] at h
    simp only [Option.isNone_none] at h
    show decide ((-1 : Int) ≥ 0) = _
    rw [dec_f (by omega)]
    rw [List.all_eq_not_any_not] at h
    simpa using h
theorem g72_eq (l : List Rule) (hl : l.length ≤ 1099511627776) (f : Rule → Option Bool) (q : Rule → Bool) (hf : ∀ x ∈ l, f x = some (q x)) : g72 (l, f, ()) = some ((idxI l q, ()), ()) := by
  show F72 fuel l f = _
  unfold F72
  have h := loopIdx (L := L72_2) (fun i => ((l, f, (l.length : Int), (i : Int), ()), (), ())) l q (fun i => .inl (((i : Int), ()), (), ())) (.inr ((), (), ())) 0 (N := fuel) (by have := fuel_ge; omega)
    (fun N => by simp [L72_2, B72_2])
    (fun N i _ hi => by
      simp only [L72_2, B72_2]
      rw [dec_t (by omega), cond_true, getI_gd (by omega) (by omega), hf _ (gd_mem (by omega) (by omega)), derefK_some, wI (by omega) (by omega)]
      cases q (gd l (i : Int)) <;> rfl)
  have h' : L72_2 fuel ((l, f, (l.length : Int), 0, ()), (), ()) = _ := h
  rw [h', derefK_some]
  unfold idxI
  cases l.findIdx? q <;> rfl
theorem g73_eq (l : List Int) (hl : l.length ≤ 1099511627776) (f : Int → Option Bool) (q : Int → Bool) (hf : ∀ x ∈ l, f x = some (q x)) : g73 (l, f, ()) = some ((idxI l q, ()), ()) := by
  show F73 fuel l f = _
  unfold F73
  have h := loopIdx (L := L73_2) (fun i => ((l, f, (l.length : Int), (i : Int), ()), (), ())) l q (fun i => .inl (((i : Int), ()), (), ())) (.inr ((), (), ())) 0 (N := fuel) (by have := fuel_ge; omega)
    (fun N => by simp [L73_2, B73_2])
    (fun N i _ hi => by
      simp only [L73_2, B73_2]
      rw [dec_t (by omega), cond_true, getI_gd (by omega) (by omega), hf _ (gd_mem (by omega) (by omega)), derefK_some, wI (by omega) (by omega)]
      cases q (gd l (i : Int)) <;> rfl)
  have h' : L73_2 fuel ((l, f, (l.length : Int), 0, ()), (), ()) = _ := h
  rw [h', derefK_some]
  unfold idxI
  cases l.findIdx? q <;> rfl
theorem g78_eq (l : List Ent) (hl : l.length ≤ 1099511627776) (f : Ent → Option Bool) (q : Ent → Bool) (hf : ∀ x ∈ l, f x = some (q x)) : g78 (l, f, ()) = some ((idxI l q, ()), ()) := by
  show F78 fuel l f = _
  unfold F78
  have h := loopIdx (L := L78_2) (fun i => ((l, f, (l.length : Int), (i : Int), ()), (), ())) l q (fun i => .inl (((i : Int), ()), (), ())) (.inr ((), (), ())) 0 (N := fuel) (by have := fuel_ge; omega)
    (fun N => by simp [L78_2, B78_2])
    (fun N i _ hi => by
      simp only [L78_2, B78_2]
      rw [dec_t (by omega), cond_true, getI_gd (by omega) (by omega), hf _ (gd_mem (by omega) (by omega)), derefK_some, wI (by omega) (by omega)]
      cases q (gd l (i : Int)) <;> rfl)
  have h' : L78_2 fuel ((l, f, (l.length : Int), 0, ()), (), ()) = _ := h
  rw [h', derefK_some]
  unfold idxI
  cases l.findIdx? q <;> rfl
theorem g43_eq (l : List Rule) (hl : l.length ≤ 1099511627776) (f : Rule → Option Bool) (q : Rule → Bool) (hf : ∀ x ∈ l, f x = some (q x)) : g43 (l, f, ()) = some ((l.any q, ()), ()) := by
  show F43 fuel l f = _
  unfold F43
  rw [g72_eq l hl f q hf, derefK_some, idxI_nn]
theorem g45_eq (l : List Int) (hl : l.length ≤ 1099511627776) (f : Int → Option Bool) (q : Int → Bool) (hf : ∀ x ∈ l, f x = some (q x)) : g45 (l, f, ()) = some ((l.any q, ()), ()) := by
  show F45 fuel l f = _
  unfold F45
  rw [g73_eq l hl f q hf, derefK_some, idxI_nn]
theorem g81_eq (l : List Ent) (hl : l.length ≤ 1099511627776) (f : Ent → Option Bool) (q : Ent → Bool) (hf : ∀ x ∈ l, f x = some (q x)) : g81 (l, f, ()) = some ((l.any q, ()), ()) := by
  show F81 fuel l f = _
  unfold F81
  rw [g78_eq l hl f q hf, derefK_some, idxI_nn]
def ruleOK (b : Book) (r : Rule) : Bool := rng r.1 0 ((b.2.2.length : Int) - 1) && rng r.2.1 1 10000 && rng r.2.2.1 0 9
def sizesOK (b : Book) : Bool := decide (b.1.length ≤ 20) && decide (b.2.1.length ≤ 8) && decide (b.2.2.length ≤ 10)
def bookOK (b : Book) : Bool := sizesOK b && b.1.all (ruleOK b) && b.2.1.all (fun n => rng n 0 9) && b.2.2.all (fun n => rng n 0 10000)
theorem any_not {α : Type} (l : List α) (p : α → Bool) : l.any (fun x => !p x) = !l.all p := by
  rw [List.any_eq_not_all_not]
  simp
theorem g25_eq (b : Book) : g25 (b, ()) = some ((if bookOK b then 0 else 100, ()), ()) := by
  show F25 fuel b = _
  unfold F25 bookOK sizesOK
  by_cases h1 : b.1.length ≤ 20
  case neg => rw [dec_t (by omega), dec_f h1]; rfl
  rw [dec_f (by omega), dec_t h1, cond_false]
  by_cases h2 : b.2.1.length ≤ 8
  case neg => rw [dec_t (by omega), dec_f h2]; rfl
  rw [dec_f (by omega), dec_t h2, cond_false]
  by_cases h3 : b.2.2.length ≤ 10
  case neg => rw [dec_t (by omega), dec_f h3]; rfl
  rw [dec_f (by omega), dec_t h3, cond_false]
  rw [g43_eq b.1 (by omega) _ (fun r => !ruleOK b r) (fun r _ => by
    show derefK (F44 fuel r b) _ = _
    unfold F44 ruleOK
    simp only [g27_eq, derefK_some]
    rw [wI (by omega) (by omega)]
    cases rng r.1 0 ((b.2.2.length : Int) - 1) with
    | false => rfl
    | true =>
      cases rng r.2.1 1 10000 with
      | false => rfl
      | true => rfl)]
  rw [derefK_some, any_not]
  cases b.1.all (ruleOK b) with
  | false => rfl
  | true =>
  rw [g45_eq b.2.1 (by omega) _ (fun n => !rng n 0 9) (fun n _ => by
    show derefK (F46 fuel n) _ = _
    unfold F46
    simp only [g27_eq, derefK_some])]
  rw [derefK_some, any_not]
  cases b.2.1.all (fun n => rng n 0 9) with
  | false => rfl
  | true =>
  rw [g45_eq b.2.2 (by omega) _ (fun n => !rng n 0 10000) (fun n _ => by
    show derefK (F47 fuel n) _ = _
    unfold F47
    simp only [g27_eq, derefK_some])]
  simp only [Bool.not_true, cond_false, derefK_some, any_not]
  cases b.2.2.all (fun n => rng n 0 10000) with
  | false => rfl
  | true => rfl
theorem g34_eq (b : Book) : g34 (b, ()) = some ((if bookOK b then 0 else 100, ()), ()) := by
  show F34 fuel b = _
  unfold F34 bookOK sizesOK
  by_cases h1 : b.1.length ≤ 20
  case neg => rw [dec_t (by omega), dec_f h1]; rfl
  rw [dec_f (by omega), dec_t h1, cond_false]
  by_cases h2 : b.2.1.length ≤ 8
  case neg => rw [dec_t (by omega), dec_f h2]; rfl
  rw [dec_f (by omega), dec_t h2, cond_false]
  by_cases h3 : b.2.2.length ≤ 10
  case neg => rw [dec_t (by omega), dec_f h3]; rfl
  rw [dec_f (by omega), dec_t h3, cond_false]
  have e1 : L34_4 fuel ((0, ()), (b, ()), ()) = _ := loopAll (L := L34_4) (fun i => (((i : Int), ()), (b, ()), ())) b.1 (ruleOK b) (.inl ((100, ()), (), ())) (.inr ((), (b, ()), ())) 0 (by have := fuel_ge; omega)
    (fun N => by simp [L34_4, B34_4])
    (fun N i _ hi => by
      simp only [L34_4, B34_4]
      rw [dec_t (by omega), cond_true, getI_gd (by omega) (by omega)]
      simp only [g54_eq, derefK_some]
      rw [wI (x := (b.2.2.length : Int) - 1) (by omega) (by omega), wI (by omega) (by omega)]
      unfold ruleOK
      cases rng (gd b.1 (i : Int)).1 0 ((b.2.2.length : Int) - 1) with
      | false => rfl
      | true =>
        cases rng (gd b.1 (i : Int)).2.1 1 10000 with
        | false => rfl
        | true => cases rng (gd b.1 (i : Int)).2.2.1 0 9 <;> rfl)
  rw [e1, derefK_some]
  cases b.1.all (ruleOK b) with
  | false => rfl
  | true =>
  simp only [if_true, sumK_inr]
  have e2 : L34_10 fuel ((0, ()), (b, ()), ()) = _ := loopAll (L := L34_10) (fun i => (((i : Int), ()), (b, ()), ())) b.2.1 (fun n => rng n 0 9) (.inl ((100, ()), (), ())) (.inr ((), (b, ()), ())) 0 (by have := fuel_ge; omega)
    (fun N => by simp [L34_10, B34_10])
    (fun N i _ hi => by
      simp only [L34_10, B34_10]
      rw [dec_t (by omega), cond_true, getI_gd (by omega) (by omega)]
      simp only [g54_eq, derefK_some]
      rw [wI (by omega) (by omega)]
      cases rng (gd b.2.1 (i : Int)) 0 9 <;> rfl)
  rw [e2, derefK_some]
  cases b.2.1.all (fun n => rng n 0 9) with
  | false => rfl
  | true =>
  simp only [if_true, sumK_inr]
  have e3 : L34_15 fuel ((0, ()), (b, ()), ()) = _ := loopAll (L := L34_15) (fun i => (((i : Int), ()), (b, ()), ())) b.2.2 (fun n => rng n 0 10000) (.inl ((100, ()), (), ())) (.inr ((), (), ())) 0 (by have := fuel_ge; omega)
    (fun N => by simp [L34_15, B34_15])
    (fun N i _ hi => by
      simp only [L34_15, B34_15]
      rw [dec_t (by omega), cond_true, getI_gd (by omega) (by omega)]
      simp only [g54_eq, derefK_some]
      rw [wI (by omega) (by omega)]
      cases rng (gd b.2.2 (i : Int)) 0 10000 <;> rfl)
  rw [e3, derefK_some]
  cases b.2.2.all (fun n => rng n 0 10000) with
  | false => rfl
  | true => rfl
structure Sized (b : Book) : Prop where
  rules : b.1.length ≤ 1048576
  ranks : b.2.1.length ≤ 1048576
  rides : b.2.2.length ≤ 1048576
theorem sized_of {b : Book} (h : bookOK b = true) : Sized b := by
  simp only [bookOK, sizesOK, Bool.and_eq_true, decide_eq_true_eq] at h
  exact ⟨by omega, by omega, by omega⟩
def rideB (b : Book) (n : Int) : Bool := rng n 0 ((b.2.2.length : Int) - 1)
def personB (b : Book) (n : Int) : Bool := rng n 0 ((b.2.1.length : Int) - 1)
def ruleB (b : Book) (n : Int) : Bool := rng n 0 ((b.1.length : Int) - 1)
def mayB (b : Book) (rule n : Int) : Bool := personB b n && decide ((gd b.1 rule).2.2.1 ≤ gd b.2.1 n)
def signsB (b : Book) (rule a c : Int) : Bool := if (gd b.1 rule).2.2.2 then mayB b rule a && mayB b rule c && (a != c) else mayB b rule a && (c == -1)
def mendedB (l : List Ent) (n : Int) : Bool := l.any fun x => x.2.1 == 3 && x.2.2.1 == n
def openB (l : List Ent) (n : Int) : Bool := rng n 0 ((l.length : Int) - 1) && ((gd l n).2.1 == 2) && !mendedB l n
def lastDay (l : List Ent) : Int := if l.length = 0 then 0 else (gd l ((l.length : Int) - 1)).1
def kindB (b : Book) (l : List Ent) (x : Ent) : Bool :=
  if x.2.1 == 1 then ruleB b x.2.2.1 && signsB b x.2.2.1 x.2.2.2.1 x.2.2.2.2
  else if x.2.1 == 2 then rideB b x.2.2.1 && rng x.2.2.2.1 1 3 && (x.2.2.2.2 == 0)
  else if x.2.1 == 3 then openB l x.2.2.1 && personB b x.2.2.2.1 && (x.2.2.2.2 == 0)
  else if x.2.1 == 4 then rideB b x.2.2.1 && personB b x.2.2.2.1 && (x.2.2.2.2 == 0)
  else if x.2.1 == 5 then rideB b x.2.2.1 && rng x.2.2.2.1 0 10000 && (x.2.2.2.2 == 0)
  else if x.2.1 == 6 then rideB b x.2.2.1 && (x.2.2.2.1 == 0) && (x.2.2.2.2 == 0)
  else false
def rightB (b : Book) (l : List Ent) (x : Ent) : Bool := rng x.1 (lastDay l) 10000 && kindB b l x
theorem rng_iff {x lo hi : Int} : rng x lo hi = true ↔ lo ≤ x ∧ x ≤ hi := by simp [rng]
theorem g26_eq (b : Book) (l : List Ent) (n : Int) (hb : Sized b) : g26 ((b, l), n, ()) = some ((rideB b n, ()), ()) := by
  show F26 fuel (b, l) n = _
  unfold F26
  have := hb.rides
  simp only [g27_eq, derefK_some]
  rw [wI (by omega) (by omega)]
  rfl
theorem g74_eq (b : Book) (l : List Ent) (n : Int) (hb : Sized b) : g74 ((b, l), n, ()) = some ((personB b n, ()), ()) := by
  show F74 fuel (b, l) n = _
  unfold F74
  have := hb.ranks
  simp only [g27_eq, derefK_some]
  rw [wI (by omega) (by omega)]
  rfl
theorem g48_eq (b : Book) (l : List Ent) (rule n : Int) (hb : Sized b) (hr : ruleB b rule = true) : g48 ((b, l), rule, n, ()) = some ((mayB b rule n, ()), ()) := by
  show F48 fuel (b, l) rule n = _
  unfold F48 mayB
  rw [g74_eq b l n hb, derefK_some]
  cases h : personB b n with
  | false => rfl
  | true =>
    have h := rng_iff.1 h
    have hr := rng_iff.1 hr
    simp only [cond_true]
    rw [getI_gd (by omega) (by omega), getI_gd (by omega) (by omega)]
    rfl
theorem g28_eq (b : Book) (l : List Ent) (rule a c : Int) (hb : Sized b) (hr : ruleB b rule = true) : g28 ((b, l), rule, a, c, ()) = some ((signsB b rule a c, ()), ()) := by
  show F28 fuel (b, l) rule a c = _
  unfold F28 signsB
  have hr' := rng_iff.1 hr
  simp only [g48_eq b l rule _ hb hr, derefK_some]
  rw [getI_gd (by omega) (by omega)]
  cases (gd b.1 rule).2.2.2 with
  | false => cases mayB b rule a <;> rfl
  | true =>
    cases mayB b rule a with
    | false => rfl
    | true => cases mayB b rule c <;> rfl
theorem g55_eq (b : Book) (rule a c : Int) (hb : Sized b) (hr : ruleB b rule = true) : g55 (b, rule, a, c, ()) = some ((signsB b rule a c, ()), ()) := by
  show F55 fuel b rule a c = _
  unfold F55 signsB mayB
  have := hb.ranks
  have hr' := rng_iff.1 hr
  rw [getI_gd (by omega) (by omega), g54_eq, derefK_some, wI (by omega) (by omega)]
  show cond (!personB b a) _ _ = _
  cases h : personB b a with
  | false => cases (gd b.1 rule).2.2.2 <;> rfl
  | true =>
    have h := rng_iff.1 h
    simp only [Bool.not_true, cond_false]
    rw [getI_gd (by omega) (by omega)]
    by_cases h2 : (gd b.1 rule).2.2.1 ≤ gd b.2.1 a
    case neg =>
      rw [dec_t (by omega), dec_f h2]
      cases (gd b.1 rule).2.2.2 <;> rfl
    rw [dec_f (by omega), dec_t h2, cond_false]
    cases (gd b.1 rule).2.2.2 with
    | false => rfl
    | true =>
      simp only [Bool.not_true, cond_false, g54_eq, derefK_some]
      show cond (personB b c) _ _ = _
      cases h3 : personB b c with
      | false => rfl
      | true =>
        have h3 := rng_iff.1 h3
        simp only [cond_true]
        have e : (c != a) = (a != c) := by
          rw [Bool.eq_iff_iff]
          simp only [bne_iff_ne, ne_eq]
          exact not_congr ⟨Eq.symm, Eq.symm⟩
        rw [e, getI_gd (by omega) (by omega)]
        cases a != c with
        | false => simp
        | true => simp
theorem g63_eq (b : Book) (l : List Ent) (n : Int) (hl : l.length ≤ 1048576) : g63 ((b, l), n, ()) = some ((mendedB l n, ()), ()) := by
  show F63 fuel (b, l) n = _
  unfold F63
  rw [g81_eq l (by omega) _ (fun x => x.2.1 == 3 && x.2.2.1 == n) (fun x _ => by
    show derefK (F82 fuel x n) _ = _
    unfold F82
    cases x.2.1 == 3 <;> rfl)]
  rfl
theorem g56_eq (l : List Ent) (n : Int) (hl : l.length ≤ 1048576) : g56 (l, n, ()) = some ((openB l n, ()), ()) := by
  show F56 fuel l n = _
  unfold F56 openB
  rw [g54_eq, derefK_some, wI (by omega) (by omega)]
  cases h : rng n 0 ((l.length : Int) - 1) with
  | false => rfl
  | true =>
    have h := rng_iff.1 h
    simp only [Bool.not_true, cond_false]
    rw [getI_gd (by omega) (by omega)]
    cases h2 : (gd l n).2.1 == 2 with
    | false => rw [show ((gd l n).2.1 != 2) = true by unfold bne; rw [h2]; rfl]; rfl
    | true =>
      rw [show ((gd l n).2.1 != 2) = false by unfold bne; rw [h2]; rfl, cond_false]
      have e : L56_4 fuel ((l, n, 0, ()), (), ()) = _ := loopAll (L := L56_4) (fun i => ((l, n, (i : Int), ()), (), ())) l (fun x => !(x.2.1 == 3 && x.2.2.1 == n)) (.inl ((false, ()), (), ())) (.inr ((), (), ())) 0 (by have := fuel_ge; omega)
        (fun N => by simp [L56_4, B56_4])
        (fun N i _ hi => by
          simp only [L56_4, B56_4]
          rw [dec_t (by omega), cond_true, getI_gd (by omega) (by omega), getI_gd (by omega) (by omega), wI (by omega) (by omega)]
          cases (gd l (i : Int)).2.1 == 3 with
          | false => rfl
          | true => cases (gd l (i : Int)).2.2.1 == n <;> rfl)
      rw [e, derefK_some]
      have : mendedB l n = !l.all (fun x => !(x.2.1 == 3 && x.2.2.1 == n)) := by
        rw [← any_not]
        simp only [Bool.not_not]
        rfl
      rw [this]
      cases l.all (fun x => !(x.2.1 == 3 && x.2.2.1 == n)) <;> rfl
theorem bif_and {a b : Bool} : (cond a (some ((b, ()), ())) (some ((false, ()), ())) : Option ((Bool × Unit) × Unit)) = some ((a && b, ()), ()) := by cases a <;> rfl
theorem g77_eq (b : Book) (l : List Ent) (x : Ent) (hb : Sized b) (hl : l.length ≤ 1048576) : g77 ((b, l), x, ()) = some ((rightB b l x, ()), ()) := by
  show F77 fuel (b, l) x = _
  unfold F77 rightB lastDay
  have hr := hb.rules
  simp only [g27_eq, g26_eq b l _ hb, g74_eq b l _ hb, g63_eq b l _ hl, derefK_some]
  rw [wI (x := (b.1.length : Int) - 1) (by omega) (by omega), wI (x := (l.length : Int) - 1) (by omega) (by omega)]
  by_cases h0 : l.length = 0
  · rw [if_pos h0, dec_f (by omega), cond_false]
    cases rng x.1 0 10000 with
    | false => rfl
    | true =>
      unfold kindB
      simp only [Bool.not_true, cond_false, Bool.true_and]
      cases h1 : x.2.1 == 1 with
      | true =>
        simp only [cond_true, if_true]
        show cond (ruleB b x.2.2.1) _ _ = _
        cases h : ruleB b x.2.2.1 with
        | false => rfl
        | true => simp only [cond_true, g28_eq b l _ _ _ hb h, derefK_some, Bool.true_and]
      | false =>
      simp only [cond_false, Bool.false_eq_true, if_false]
      cases h2 : x.2.1 == 2 with
      | true => simp only [cond_true, if_true, bif_and, Bool.and_assoc]
      | false =>
      simp only [cond_false, Bool.false_eq_true, if_false]
      cases h3 : x.2.1 == 3 with
      | true =>
        simp only [cond_true, if_true]
        unfold openB
        cases h : rng x.2.2.1 0 ((l.length : Int) - 1) with
        | false => rfl
        | true =>
          have h := rng_iff.1 h
          simp only [cond_true]
          rw [getI_gd (by omega) (by omega)]
          cases (gd l x.2.2.1).2.1 == 2 with
          | false => rfl
          | true =>
            cases mendedB l x.2.2.1 with
            | true => rfl
            | false => simp only [cond_true, Bool.not_false, bif_and, Bool.true_and, Bool.and_assoc]
      | false =>
      simp only [cond_false, Bool.false_eq_true, if_false]
      cases h4 : x.2.1 == 4 with
      | true => simp only [cond_true, if_true, bif_and, Bool.and_assoc]
      | false =>
      simp only [cond_false, Bool.false_eq_true, if_false]
      cases h5 : x.2.1 == 5 with
      | true => simp only [cond_true, if_true, bif_and, Bool.and_assoc]
      | false =>
      simp only [cond_false, Bool.false_eq_true, if_false]
      cases h6 : x.2.1 == 6 with
      | true => simp only [cond_true, if_true, bif_and, Bool.and_assoc]
      | false => rfl
  · rw [if_neg h0, dec_t (by omega), cond_true, getI_gd (by omega) (by omega)]
    cases rng x.1 (gd l ((l.length : Int) - 1)).1 10000 with
    | false => rfl
    | true =>
      unfold kindB
      simp only [Bool.not_true, cond_false, Bool.true_and]
      cases h1 : x.2.1 == 1 with
      | true =>
        simp only [cond_true, if_true]
        show cond (ruleB b x.2.2.1) _ _ = _
        cases h : ruleB b x.2.2.1 with
        | false => rfl
        | true => simp only [cond_true, g28_eq b l _ _ _ hb h, derefK_some, Bool.true_and]
      | false =>
      simp only [cond_false, Bool.false_eq_true, if_false]
      cases h2 : x.2.1 == 2 with
      | true => simp only [cond_true, if_true, bif_and, Bool.and_assoc]
      | false =>
      simp only [cond_false, Bool.false_eq_true, if_false]
      cases h3 : x.2.1 == 3 with
      | true =>
        simp only [cond_true, if_true]
        unfold openB
        cases h : rng x.2.2.1 0 ((l.length : Int) - 1) with
        | false => rfl
        | true =>
          have h := rng_iff.1 h
          simp only [cond_true]
          rw [getI_gd (by omega) (by omega)]
          cases (gd l x.2.2.1).2.1 == 2 with
          | false => rfl
          | true =>
            cases mendedB l x.2.2.1 with
            | true => rfl
            | false => simp only [cond_true, Bool.not_false, bif_and, Bool.true_and, Bool.and_assoc]
      | false =>
      simp only [cond_false, Bool.false_eq_true, if_false]
      cases h4 : x.2.1 == 4 with
      | true => simp only [cond_true, if_true, bif_and, Bool.and_assoc]
      | false =>
      simp only [cond_false, Bool.false_eq_true, if_false]
      cases h5 : x.2.1 == 5 with
      | true => simp only [cond_true, if_true, bif_and, Bool.and_assoc]
      | false =>
      simp only [cond_false, Bool.false_eq_true, if_false]
      cases h6 : x.2.1 == 6 with
      | true => simp only [cond_true, if_true, bif_and, Bool.and_assoc]
      | false => rfl
theorem g35_eq (b : Book) (l : List Ent) (x : Ent) (hb : Sized b) (hl : l.length ≤ 1048576) : g35 (b, l, x, ()) = some ((rightB b l x, ()), ()) := by
  show F35 fuel b l x = _
  unfold F35 rightB lastDay
  have h1 := hb.rules
  have h2 := hb.ranks
  have h3 := hb.rides
  simp only [g54_eq, g56_eq l _ hl, derefK_some]
  rw [wI (x := (b.1.length : Int) - 1) (by omega) (by omega), wI (x := (l.length : Int) - 1) (by omega) (by omega), wI (x := (b.2.1.length : Int) - 1) (by omega) (by omega), wI (x := (b.2.2.length : Int) - 1) (by omega) (by omega)]
  by_cases h0 : l.length = 0
  · rw [if_pos h0, dec_f (by omega), cond_false]
    cases rng x.1 0 10000 with
    | false => rfl
    | true =>
      unfold kindB
      simp only [Bool.not_true, cond_false, Bool.true_and]
      cases h1 : x.2.1 == 1 with
      | true =>
        simp only [cond_true, if_true]
        show cond (ruleB b x.2.2.1) _ _ = _
        cases h : ruleB b x.2.2.1 with
        | false => rfl
        | true => simp only [cond_true, g55_eq b _ _ _ hb h, derefK_some, Bool.true_and]
      | false =>
      simp only [cond_false, Bool.false_eq_true, if_false]
      cases h2 : x.2.1 == 2 with
      | true => simp only [cond_true, if_true, bif_and, Bool.and_assoc]; rfl
      | false =>
      simp only [cond_false, Bool.false_eq_true, if_false]
      cases h3 : x.2.1 == 3 with
      | true => simp only [cond_true, if_true, bif_and, Bool.and_assoc]; rfl
      | false =>
      simp only [cond_false, Bool.false_eq_true, if_false]
      cases h4 : x.2.1 == 4 with
      | true => simp only [cond_true, if_true, bif_and, Bool.and_assoc]; rfl
      | false =>
      simp only [cond_false, Bool.false_eq_true, if_false]
      cases h5 : x.2.1 == 5 with
      | true => simp only [cond_true, if_true, bif_and, Bool.and_assoc]; rfl
      | false =>
      simp only [cond_false, Bool.false_eq_true, if_false]
      cases h6 : x.2.1 == 6 with
      | true => simp only [cond_true, if_true, bif_and, Bool.and_assoc]; rfl
      | false => rfl
  · rw [if_neg h0, dec_t (by omega), cond_true, getI_gd (by omega) (by omega)]
    cases rng x.1 (gd l ((l.length : Int) - 1)).1 10000 with
    | false => rfl
    | true =>
      unfold kindB
      simp only [Bool.not_true, cond_false, Bool.true_and]
      cases h1 : x.2.1 == 1 with
      | true =>
        simp only [cond_true, if_true]
        show cond (ruleB b x.2.2.1) _ _ = _
        cases h : ruleB b x.2.2.1 with
        | false => rfl
        | true => simp only [cond_true, g55_eq b _ _ _ hb h, derefK_some, Bool.true_and]
      | false =>
      simp only [cond_false, Bool.false_eq_true, if_false]
      cases h2 : x.2.1 == 2 with
      | true => simp only [cond_true, if_true, bif_and, Bool.and_assoc]; rfl
      | false =>
      simp only [cond_false, Bool.false_eq_true, if_false]
      cases h3 : x.2.1 == 3 with
      | true => simp only [cond_true, if_true, bif_and, Bool.and_assoc]; rfl
      | false =>
      simp only [cond_false, Bool.false_eq_true, if_false]
      cases h4 : x.2.1 == 4 with
      | true => simp only [cond_true, if_true, bif_and, Bool.and_assoc]; rfl
      | false =>
      simp only [cond_false, Bool.false_eq_true, if_false]
      cases h5 : x.2.1 == 5 with
      | true => simp only [cond_true, if_true, bif_and, Bool.and_assoc]; rfl
      | false =>
      simp only [cond_false, Bool.false_eq_true, if_false]
      cases h6 : x.2.1 == 6 with
      | true => simp only [cond_true, if_true, bif_and, Bool.and_assoc]; rfl
      | false => rfl
theorem gd_range {n i : Nat} (h : i < n) : gd (List.range n) (i : Int) = i := gd_of (by simp [h])
def badAt (b : Book) (l : List Ent) : Option Nat := (List.range l.length).findIdx? fun i => !rightB b (l.take i) (gd l (i : Int))
def badB (b : Book) (l : List Ent) (i : Nat) : Bool := !rightB b (l.take i) (gd l (i : Int))
theorem g57_bad (b : Book) (l : List Ent) (h : bookOK b = false) : ∃ z, g57 (b, l, ()) = some ((z, 0, 100, ()), ()) := by
  refine ⟨(([], ([], [])), []), ?_⟩
  show F57 fuel b l = _
  unfold F57
  rw [g25_eq, derefK_some, h]
  rfl
theorem g57_many (b : Book) (l : List Ent) (h : bookOK b = true) (hl : 100 < l.length) : ∃ z, g57 (b, l, ()) = some ((z, 0, 2, ()), ()) := by
  refine ⟨(([], ([], [])), []), ?_⟩
  show F57 fuel b l = _
  unfold F57
  rw [g25_eq, derefK_some, h]
  show cond (decide ((l.length : Int) > 100)) _ _ = _
  rw [dec_t (by omega)]
  rfl
theorem g57_eq (b : Book) (l : List Ent) (h : bookOK b = true) (hl : l.length ≤ 100) :
    g57 (b, l, ()) = some ((match badAt b l with | some i => ((b, l.take i), (i : Int), 101, ()) | none => ((b, l), 0, 0, ())), ()) := by
  have hb := sized_of h
  show F57 fuel b l = _
  unfold F57
  rw [g25_eq, derefK_some, h]
  show cond (decide ((l.length : Int) > 100)) _ _ = _
  rw [dec_f (by omega), cond_false]
  have e := loopIdx (L := L57_8) (fun i => ((l, (l.length : Int), (i : Int), ()), ((b, l.take i), ()), ())) (List.range l.length) (badB b l) (fun i => .inl (((i : Int), 101, ()), ((b, l.take i), ()), ())) (.inr ((), ((b, l), ()), ())) 0 (N := fuel) (by have := fuel_ge; simp; omega)
    (fun N => by simp [L57_8, B57_8])
    (fun N i _ hi => by
      rw [List.length_range] at hi
      simp only [L57_8, B57_8]
      rw [gd_range hi, dec_t (by omega), cond_true, getI_gd (by omega) (by omega), g77_eq b _ _ hb (by simp; omega), derefK_some, lenK_in (by simp; omega) (by simp; omega), wI (by omega) (by omega), ← take_nat hi]
      unfold badB
      cases rightB b (l.take i) (gd l (i : Int)) <;> rfl)
  have e' : L57_8 fuel ((l, (l.length : Int), 0, ()), ((b, []), ()), ()) = _ := e
  rw [e', derefK_some]
  have : badAt b l = (List.range l.length).findIdx? (badB b l) := rfl
  rw [this]
  cases (List.range l.length).findIdx? (badB b l) <;> rfl
def checkR (b : Book) (l : List Ent) : Int × Int :=
  if bookOK b then (if l.length ≤ 100 then (match badAt b l with | some i => ((i : Int), 101) | none => (0, 0)) else (0, 2)) else (0, 100)
theorem g65_eq (b : Book) (l : List Ent) : g65 (b, l, ()) = some (((checkR b l).1, (checkR b l).2, ()), ()) := by
  show F65 fuel b l = _
  unfold F65 checkR
  cases h : bookOK b with
  | false =>
    obtain ⟨z, e⟩ := g57_bad b l h
    rw [e]
    rfl
  | true =>
    by_cases hl : l.length ≤ 100
    · rw [g57_eq b l h hl, derefK_some, if_pos hl]
      cases badAt b l <;> rfl
    · obtain ⟨z, e⟩ := g57_many b l h (by omega)
      rw [e, if_neg hl]
      rfl
theorem g17_eq (b : Book) (l : List Ent) : g17 (b, l, ()) = some (((checkR b l).1, (checkR b l).2, ()), ()) := by
  show F17 fuel b l = _
  unfold F17 checkR
  rw [g34_eq, derefK_some]
  cases h : bookOK b with
  | false => rfl
  | true =>
  have hb := sized_of h
  show cond (decide ((l.length : Int) > 100)) _ _ = _
  by_cases hl : l.length ≤ 100
  case neg =>
    rw [dec_t (by omega), if_neg hl]
    rfl
  rw [dec_f (by omega), cond_false, if_pos hl]
  have e := loopIdx (L := L17_7) (fun i => ((l, (i : Int), ()), (b, ()), ())) (List.range l.length) (badB b l) (fun i => .inl (((i : Int), 101, ()), (), ())) (.inr ((), (), ())) 0 (N := fuel) (by have := fuel_ge; simp; omega)
    (fun N => by simp [L17_7, B17_7])
    (fun N i _ hi => by
      rw [List.length_range] at hi
      simp only [L17_7, B17_7]
      rw [gd_range hi, dec_t (by omega), cond_true, leK_in (by omega), leK_in (by omega), getI_gd (by omega) (by omega), g35_eq b _ _ hb (by simp; omega), derefK_some, wI (by omega) (by omega), Int.toNat_natCast]
      unfold badB
      cases rightB b (l.take i) (gd l (i : Int)) <;> rfl)
  have e' : L17_7 fuel ((l, 0, ()), (b, ()), ()) = _ := e
  rw [e', derefK_some]
  have : badAt b l = (List.range l.length).findIdx? (badB b l) := rfl
  rw [this]
  cases (List.range l.length).findIdx? (badB b l) <;> rfl
def upto (l : List Ent) (day : Int) : List Ent := l.takeWhile fun x => decide (x.1 ≤ day)
theorem take_idx {α : Type} (q : α → Bool) : ∀ (l : List α), l.take (match l.findIdx? q with | some i => i | none => l.length) = l.takeWhile fun x => !q x
  | [] => rfl
  | x :: l => by
    have ih := take_idx q l
    rw [List.findIdx?_cons, List.takeWhile_cons]
    cases q x with
    | true => rfl
    | false =>
      simp only [Bool.false_eq_true, if_false, Bool.not_false, if_true]
      cases h : l.findIdx? q with
      | none =>
        rw [h] at ih
        simp only [Option.map_none, List.length_cons, List.take_succ_cons]
        rw [ih]
      | some i =>
        rw [h] at ih
        simp only [Option.map_some, List.take_succ_cons]
        rw [ih]
theorem idx_le {α : Type} {q : α → Bool} {l : List α} {i : Nat} (h : l.findIdx? q = some i) : i < l.length := (List.findIdx?_eq_some_iff_findIdx_eq.1 h).1
theorem upto_eq (l : List Ent) (day : Int) : l.takeWhile (fun x => !decide (x.1 > day)) = upto l day := by
  unfold upto
  congr 1
  funext x
  by_cases h : x.1 ≤ day
  · rw [dec_f (by omega), dec_t h]; rfl
  · rw [dec_t (by omega), dec_f h]; rfl
theorem upto_len (l : List Ent) (day : Int) : (upto l day).length ≤ l.length := (List.takeWhile_sublist _).length_le
theorem g58_eq (b : Book) (l : List Ent) (day : Int) (hl : l.length ≤ 1048576) : g58 ((b, l), day, ()) = some (((b, upto l day), ()), ()) := by
  show F58 fuel (b, l) day = _
  unfold F58
  rw [g78_eq l (by omega) _ (fun x => decide (x.1 > day)) (fun x _ => by rfl), derefK_some, ← upto_eq, ← take_idx]
  unfold idxI
  cases h : l.findIdx? fun x => decide (x.1 > day) with
  | none =>
    show some (((b, l), ()), ()) = _
    simp
  | some i =>
    have := idx_le h
    show cond (decide ((i : Int) ≥ 0)) _ _ = _
    rw [dec_t (by omega), cond_true]
    show leK 0 (i : Int) (leK (i : Int) (l.length : Int) _) = _
    rw [leK_in (by omega), leK_in (by omega)]
    simp
def dayErr (b : Book) (l : List Ent) (day : Int) : Int := if (checkR b l).2 = 0 then (if rng day 0 10000 then 0 else 1) else (checkR b l).2
theorem check_ok {b : Book} {l : List Ent} (h : (checkR b l).2 = 0) : bookOK b = true ∧ l.length ≤ 100 ∧ badAt b l = none := by
  unfold checkR at h
  split at h
  · rename_i hb
    split at h
    · rename_i hl
      split at h
      · simp at h
      · rename_i hn
        exact ⟨hb, hl, hn⟩
    · simp at h
  · simp at h
theorem g57_ok {b : Book} {l : List Ent} (h : (checkR b l).2 = 0) : g57 (b, l, ()) = some (((b, l), 0, 0, ()), ()) := by
  obtain ⟨h1, h2, h3⟩ := check_ok h
  rw [g57_eq b l h1 h2, h3]
theorem g57_err {b : Book} {l : List Ent} (h : (checkR b l).2 ≠ 0) : ∃ z at_, g57 (b, l, ()) = some ((z, at_, (checkR b l).2, ()), ()) := by
  cases hb : bookOK b with
  | false =>
    obtain ⟨z, e⟩ := g57_bad b l hb
    refine ⟨z, 0, ?_⟩
    rw [e]
    simp [checkR, hb]
  | true =>
    by_cases hl : l.length ≤ 100
    · rw [g57_eq b l hb hl]
      cases hbd : badAt b l with
      | none =>
        exfalso
        apply h
        simp [checkR, hb, hl, hbd]
      | some i =>
        exact ⟨(b, l.take i), (i : Int), by simp [checkR, hb, hl, hbd]⟩
    · obtain ⟨z, e⟩ := g57_many b l hb (by omega)
      refine ⟨z, 0, ?_⟩
      rw [e]
      simp [checkR, hb, hl]
theorem neq_t {a b : Int} (h : a ≠ b) : (a != b) = true := by simpa using h
theorem g37_ok {b : Book} {l : List Ent} {day : Int} (h : dayErr b l day = 0) : g37 (b, l, day, ()) = some (((b, upto l day), 0, ()), ()) := by
  show F37 fuel b l day = _
  unfold F37
  unfold dayErr at h
  split at h
  case isFalse hc => exact absurd h hc
  rename_i hc
  have hl := (check_ok hc).2.1
  split at h
  case isFalse => cases h
  rename_i hd
  rw [g57_ok hc, derefK_some]
  show derefK (g27 (day, 0, 10000, ())) _ = _
  rw [g27_eq, derefK_some, hd]
  show derefK (g58 ((b, l), day, ())) _ = _
  rw [g58_eq b l day (by omega)]
  rfl
theorem g37_err {b : Book} {l : List Ent} {day : Int} (h : dayErr b l day ≠ 0) : ∃ z, g37 (b, l, day, ()) = some ((z, dayErr b l day, ()), ()) := by
  show ∃ z, F37 fuel b l day = _
  unfold F37
  unfold dayErr at h ⊢
  split at h
  case isFalse hc =>
    obtain ⟨z, a, e⟩ := g57_err hc
    refine ⟨z, ?_⟩
    rw [e, derefK_some, if_neg hc]
    show cond ((checkR b l).2 != 0) _ _ = _
    rw [neq_t hc]
    rfl
  rename_i hc
  split at h
  case isTrue => exact absurd rfl h
  rename_i hd
  rw [g57_ok hc, derefK_some, if_pos hc]
  refine ⟨(b, l), ?_⟩
  show derefK (g27 (day, 0, 10000, ())) _ = _
  rw [g27_eq, derefK_some, if_neg hd, (Bool.not_eq_true _).mp hd]
  rfl
structure Good (b : Book) (l : List Ent) : Prop where
  book : bookOK b = true
  len : l.length ≤ 100
  right : ∀ i, i < l.length → rightB b (l.take i) (gd l (i : Int)) = true
theorem good_of {b : Book} {l : List Ent} (h : (checkR b l).2 = 0) : Good b l := by
  obtain ⟨h1, h2, h3⟩ := check_ok h
  refine ⟨h1, h2, fun i hi => ?_⟩
  have := findIdx_none (l := List.range l.length) (q := fun i => !rightB b (l.take i) (gd l (i : Int)))
  have h3' : ((List.range l.length).findIdx? fun i => !rightB b (l.take i) (gd l (i : Int))) = none := h3
  rw [h3'] at this
  have := List.all_eq_true.1 this.symm i (by simpa using hi)
  simpa using this
theorem good_iff {b : Book} {l : List Ent} (h : Good b l) : checkR b l = (0, 0) := by
  have : badAt b l = none := by
    have e := findIdx_none (l := List.range l.length) (q := fun i => !rightB b (l.take i) (gd l (i : Int)))
    have hall : ((List.range l.length).all fun x => !(fun i => !rightB b (l.take i) (gd l (i : Int))) x) = true := by
      rw [List.all_eq_true]
      intro i hi
      simp only [List.mem_range] at hi
      simp [h.right i hi]
    rw [hall] at e
    exact Option.isNone_iff_eq_none.1 e
  unfold checkR
  rw [if_pos h.book, if_pos h.len, this]
theorem gd_take {α : Type} [Inhabited α] {l : List α} {k i : Nat} (h : i < k) (_hl : i < l.length) : gd (l.take k) (i : Int) = gd l (i : Int) := by
  unfold gd
  rw [List.getD_eq_getElem?_getD, List.getD_eq_getElem?_getD, Int.toNat_natCast, List.getElem?_take_of_lt h]
theorem Good.take {b : Book} {l : List Ent} (h : Good b l) (k : Nat) : Good b (l.take k) := by
  refine ⟨h.book, by have := h.len; simp; omega, fun i hi => ?_⟩
  rw [List.length_take] at hi
  rw [List.take_take, gd_take (by omega) (by omega), show min i k = i by omega]
  exact h.right i (by omega)
theorem upto_take (l : List Ent) (day : Int) : ∃ k, upto l day = l.take k := by
  refine ⟨match l.findIdx? (fun x => decide (x.1 > day)) with | some i => i | none => l.length, ?_⟩
  rw [← upto_eq, ← take_idx]
  first | done | rfl
theorem Good.upto {b : Book} {l : List Ent} (h : Good b l) (day : Int) : Good b (upto l day) := by
  obtain ⟨k, e⟩ := upto_take l day
  rw [e]
  exact h.take k
structure Fit (b : Book) (l : List Ent) : Prop where
  book : bookOK b = true
  len : l.length ≤ 1000
  day : ∀ i, i < l.length → lastDay (l.take i) ≤ (gd l (i : Int)).1 ∧ (gd l (i : Int)).1 ≤ 10000
  sev : ∀ i, i < l.length → ((gd l (i : Int)).2.1 == 2) = true → 1 ≤ (gd l (i : Int)).2.2.2.1 ∧ (gd l (i : Int)).2.2.2.1 ≤ 3
theorem Good.fit {b : Book} {l : List Ent} (h : Good b l) : Fit b l := by
  refine ⟨h.book, by have := h.len; omega, fun i hi => ?_, fun i hi h2 => ?_⟩
  · have := h.right i hi
    unfold rightB at this
    rw [Bool.and_eq_true] at this
    exact rng_iff.1 this.1
  · have := h.right i hi
    unfold rightB kindB at this
    have h2 := eq_of_beq h2
    rw [h2] at this
    simp only [Bool.and_eq_true] at this
    have h3 := this.2
    rw [if_neg (by decide), if_pos (by decide)] at h3
    simp only [Bool.and_eq_true] at h3
    exact rng_iff.1 h3.1.2
theorem lastDay_take {l : List Ent} {i : Nat} (hi : i < l.length) : lastDay (l.take (i + 1)) = (gd l (i : Int)).1 := by
  unfold lastDay
  have e : (l.take (i + 1)).length = i + 1 := by simp; omega
  rw [if_neg (by omega), e, show (((i + 1 : Nat) : Int) - 1) = (i : Int) by omega, gd_take (by omega) hi]
theorem Fit.sorted {b : Book} {l : List Ent} (h : Fit b l) : ∀ i j, i ≤ j → j < l.length → (gd l (i : Int)).1 ≤ (gd l (j : Int)).1 := by
  intro i j hij hj
  induction j with
  | zero => obtain rfl : i = 0 := by omega
            exact Int.le_refl _
  | succ j ih =>
    rcases Nat.lt_or_ge i (j + 1) with h1 | h1
    · have h2 := ih (by omega) (by omega)
      have h3 := (h.day (j + 1) hj).1
      rw [lastDay_take (by omega)] at h3
      omega
    · obtain rfl : i = j + 1 := by omega
      exact Int.le_refl _
theorem Fit.day0 {b : Book} {l : List Ent} (h : Fit b l) (i : Nat) (hi : i < l.length) : 0 ≤ (gd l (i : Int)).1 ∧ (gd l (i : Int)).1 ≤ 10000 := by
  have h0 := h.day 0 (by omega)
  have e : lastDay (l.take 0) = 0 := rfl
  rw [e] at h0
  have := h.sorted 0 i (by omega) hi
  have := (h.day i hi).2
  have e0 : gd l ((0 : Nat) : Int) = gd l 0 := rfl
  rw [e0] at *
  omega
theorem Fit.mem {b : Book} {l : List Ent} (h : Fit b l) {x : Ent} (hx : x ∈ l) : 0 ≤ x.1 ∧ x.1 ≤ 10000 := by
  obtain ⟨i, hi, rfl⟩ := List.mem_iff_getElem.1 hx
  have := h.day0 i hi
  rwa [gd_of (List.getElem?_eq_getElem hi)] at this
def fil (p : Nat → Bool) (n : Nat) : List Int := ((List.range n).filter p).map fun i : Nat => (i : Int)
theorem fil_succ (p : Nat → Bool) (n : Nat) : fil p (n + 1) = if p n then fil p n ++ [(n : Int)] else fil p n := by
  unfold fil
  rw [List.range_succ, List.filter_append]
  cases h : p n <;> simp [h]
theorem fil_len (p : Nat → Bool) (n : Nat) : (fil p n).length ≤ n := by
  unfold fil
  rw [List.length_map]
  have := List.length_filter_le p (List.range n)
  simpa using this
theorem fil_congr {p q : Nat → Bool} {n : Nat} (h : ∀ i, i < n → p i = q i) : fil p n = fil q n := by
  unfold fil
  congr 1
  exact List.filter_congr fun x hx => h x (by simpa using hx)
theorem loopFil {D R : Type} {L : Nat → D → Option R} (mk : Nat → List Int → D) (p : Nat → Bool) (n c : Nat) (res : List Int → R) {N : Nat} (hN : n + c < N) (hend : ∀ N s, s.length ≤ n → L (N + 1) (mk n s) = some (res s))
    (hstep : ∀ N i s, c ≤ N → i < n → s.length ≤ i → L (N + 1) (mk i s) = L N (mk (i + 1) (if p i then s ++ [(i : Int)] else s))) : L N (mk 0 []) = some (res (fil p n)) :=
  loopF (L := L) (fun i => mk i (fil p i)) (res (fil p n)) c n hN (fun N => hend N _ (fil_len p n)) (fun N i hc hi => by rw [hstep N i _ hc hi (fil_len p i), fil_succ])
def openL (l : List Ent) : List Int := fil (fun i => openB l (i : Int)) l.length
theorem g40_eq (b : Book) (l : List Ent) (hl : l.length ≤ 1048576) : g40 ((b, l), ()) = some ((openL l, ()), ()) := by
  show F40 fuel (b, l) = _
  unfold F40
  have e := loopFil (L := L40_2) (fun i s => ((l, (l.length : Int), (i : Int), ()), ((b, l), s, ()), ())) (fun i => openB l (i : Int)) l.length 0 (fun s => ((), (s, ()), ())) (N := fuel) (by have := fuel_ge; omega)
    (fun N s _ => by simp [L40_2, B40_2])
    (fun N i s _ hi hs => by
      simp only [L40_2, B40_2]
      rw [dec_t (by omega), cond_true, getI_gd (by omega) (by omega), g63_eq b l _ hl, derefK_some, lenK_in (by simp; omega) (by simp; omega), wI (by omega) (by omega)]
      unfold openB
      have hr : rng (i : Int) 0 ((l.length : Int) - 1) = true := rng_iff.2 ⟨by omega, by omega⟩
      rw [hr]
      cases (gd l (i : Int)).2.1 == 2 with
      | false => rfl
      | true => cases mendedB l (i : Int) <;> rfl)
  have e' : L40_2 fuel ((l, (l.length : Int), 0, ()), ((b, l), [], ()), ()) = _ := e
  rw [show ((b, l) : Log).2 = l from rfl]
  rw [e', derefK_some]
  rfl
def lastE (want : Ent → Bool) (ride : Int) (l : List Ent) : Int := l.foldl (fun acc x => if want x then x.1 else if x.2.1 == 6 && x.2.2.1 == ride then -1 else acc) (-1)
def scanE (want : Ent → Bool) (ride : Int) : List Ent → Option Int
  | [] => none
  | x :: r => if want x then some x.1 else if x.2.1 == 6 && x.2.2.1 == ride then some (-1) else scanE want ride r
theorem lastE_scan (want : Ent → Bool) (ride : Int) (l : List Ent) : lastE want ride l = (scanE want ride l.reverse).getD (-1) := by
  unfold lastE
  rw [List.foldl_eq_foldr_reverse]
  induction l.reverse with
  | nil => rfl
  | cons x r ih =>
    rw [List.foldr_cons, ih, scanE]
    split
    · rfl
    · split
      · rfl
      · rfl
theorem R59_eq (n : Nat) (ride : Int) (f : Ent → Option Bool) (want : Ent → Bool) (hf : ∀ x, f x = some (want x)) (v : Int) : ∀ r : List Ent, R59_2 n r (ride, f, v, ()) = some (match scanE want ride r with | some d => (.ret, (d, ())) | none => (.norm, (v, ())))
  | [] => rfl
  | x :: r => by
    have ih := R59_eq n ride f want hf v r
    simp only [R59_2, Q59_2, hf, derefK_some, scanE]
    rw [ih]
    cases want x with
    | true => rfl
    | false =>
      cases x.2.1 == 6 with
      | false => rfl
      | true => cases x.2.2.1 == ride <;> rfl
theorem it61_at (b : Book) (l : List Ent) (hl : l.length ≤ 1048576) : Ib.it61.g ((b, l), ()) = some (l.reverse : List Ent) := by
  show lenK (l.length : Int) (some (l.reverse : List Ent)) = _
  rw [lenK_in (by omega) (by omega)]
theorem g59_eq (b : Book) (l : List Ent) (hl : l.length ≤ 1048576) (ride : Int) (f : Ent → Option Bool) (want : Ent → Bool) (hf : ∀ x, f x = some (want x)) : g59 ((b, l), ride, f, ()) = some ((lastE want ride l, ()), ()) := by
  show F59 fuel (b, l) ride f = _
  unfold F59
  show derefK (Ib.it61.g ((b, l), ())) _ = _
  rw [it61_at b l hl]
  show derefK (R59_2 fuel (l.reverse : List Ent) (ride, f, 0, ())) _ = _
  rw [R59_eq fuel ride f want hf, derefK_some, lastE_scan]
  cases scanE want ride l.reverse <;> rfl
theorem lastE_in {want : Ent → Bool} {ride : Int} {b : Book} {l : List Ent} (h : Fit b l) : -1 ≤ lastE want ride l ∧ lastE want ride l ≤ 10000 := by
  rw [lastE_scan]
  have key : ∀ r : List Ent, (∀ x ∈ r, 0 ≤ x.1 ∧ x.1 ≤ 10000) → -1 ≤ (scanE want ride r).getD (-1) ∧ (scanE want ride r).getD (-1) ≤ 10000 := by
    intro r
    induction r with
    | nil => intro _; exact ⟨Int.le_refl _, by show (-1 : Int) ≤ 10000; decide⟩
    | cons x r ih =>
      intro hx
      have h1 := hx x List.mem_cons_self
      have h2 := ih fun y hy => hx y (List.mem_cons_of_mem _ hy)
      unfold scanE
      split
      · show -1 ≤ x.1 ∧ x.1 ≤ 10000
        omega
      · split
        · exact ⟨Int.le_refl _, by show (-1 : Int) ≤ 10000; decide⟩
        · exact h2
  exact key _ fun x hx => h.mem (List.mem_reverse.1 hx)
def wantC (rule : Int) (x : Ent) : Bool := x.2.1 == 1 && x.2.2.1 == rule
def lastC (b : Book) (l : List Ent) (rule : Int) : Int := lastE (wantC rule) (gd b.1 rule).1 l
def untilR (b : Book) (l : List Ent) (rule : Int) : Int := if lastC b l rule < 0 then -1 else lastC b l rule + (gd b.1 rule).2.1 - 1
def forceB (b : Book) (l : List Ent) (rule day : Int) : Bool := decide (0 ≤ lastC b l rule) && decide (day - lastC b l rule < (gd b.1 rule).2.1)
theorem rule_in {b : Book} (hb : bookOK b = true) {rule : Int} (hr : ruleB b rule = true) : rideB b (gd b.1 rule).1 = true ∧ 1 ≤ (gd b.1 rule).2.1 ∧ (gd b.1 rule).2.1 ≤ 10000 := by
  have hr := rng_iff.1 hr
  simp only [bookOK, Bool.and_eq_true] at hb
  have h2 := List.all_eq_true.1 hb.1.1.2 _ (gd_mem (l := b.1) hr.1 (by omega))
  unfold ruleOK at h2
  simp only [Bool.and_eq_true] at h2
  exact ⟨h2.1.1, rng_iff.1 h2.1.2⟩
theorem g38_eq (b : Book) (l : List Ent) (h : Fit b l) (rule : Int) (hr : ruleB b rule = true) : g38 ((b, l), rule, ()) = some ((untilR b l rule, ()), ()) := by
  show F38 fuel (b, l) rule = _
  unfold F38 untilR
  have hr' := rng_iff.1 hr
  have hl := h.len
  obtain ⟨_, h1, h2⟩ := rule_in h.book hr
  rw [getI_gd (by omega) (by show rule < (b.1.length : Int); omega), g59_eq b l (by omega) _ _ (wantC rule) (fun x => by
    show derefK (F60 fuel x rule) _ = _
    unfold F60 wantC
    cases x.2.1 == 1 <;> rfl), derefK_some]
  have h3 := lastE_in (want := wantC rule) (ride := (gd b.1 rule).1) h
  show cond (decide (lastC b l rule < 0)) _ _ = _
  have h3 : -1 ≤ lastC b l rule ∧ lastC b l rule ≤ 10000 := h3
  by_cases h4 : lastC b l rule < 0
  · rw [dec_t h4, if_pos h4]
    rfl
  · rw [dec_f h4, if_neg h4, cond_false, getI_gd (by omega) (by show rule < (b.1.length : Int); omega)]
    show some ((IntKind.wrap .i64 (IntKind.wrap .i64 (lastC b l rule + (gd b.1 rule).2.1) - 1), ()), ()) = _
    rw [wI (x := lastC b l rule + (gd b.1 rule).2.1) (by omega) (by omega), wI (by omega) (by omega)]
theorem until_lt {b : Book} {l : List Ent} {rule day : Int} (hd : 0 ≤ day) : decide (untilR b l rule < day) = !forceB b l rule day := by
  unfold untilR forceB
  by_cases h : lastC b l rule < 0
  · rw [if_pos h, dec_f (p := 0 ≤ lastC b l rule) (by omega), dec_t (by omega)]
    rfl
  · rw [if_neg h, dec_t (p := 0 ≤ lastC b l rule) (by omega), Bool.true_and]
    by_cases h2 : day - lastC b l rule < (gd b.1 rule).2.1
    · rw [dec_t h2, dec_f (by omega)]; rfl
    · rw [dec_f h2, dec_t (by omega)]; rfl
def cntL (l : List Ent) (ride : Int) (ol : List Int) (s : Int) : Int := ((ol.filter fun i => (gd l i).2.2.1 == ride && (gd l i).2.2.2.1 == s).length : Nat)
def manyL (l : List Ent) (ride : Int) (ol : List Int) : List Int := [cntL l ride ol 0, cntL l ride ol 1, cntL l ride ol 2, cntL l ride ol 3]
theorem cntL_snoc (l : List Ent) (ride : Int) (ol : List Int) (i s : Int) : cntL l ride (ol ++ [i]) s = cntL l ride ol s + if (gd l i).2.2.1 == ride && (gd l i).2.2.2.1 == s then 1 else 0 := by
  unfold cntL
  rw [List.filter_append]
  cases h : (gd l i).2.2.1 == ride && (gd l i).2.2.2.1 == s <;> simp [h]
theorem manyL_other (l : List Ent) (ride : Int) (ol : List Int) (i : Int) (h : ((gd l i).2.2.1 == ride) = false) : manyL l ride (ol ++ [i]) = manyL l ride ol := by
  unfold manyL
  simp only [cntL_snoc, h, Bool.false_and, Bool.false_eq_true, if_false, Int.add_zero]
theorem manyL_same (l : List Ent) (ride : Int) (ol : List Int) (i : Int) (h : ((gd l i).2.2.1 == ride) = true) (hB : 1 ≤ (gd l i).2.2.2.1 ∧ (gd l i).2.2.2.1 ≤ 3) :
    gd (manyL l ride ol) (gd l i).2.2.2.1 = cntL l ride ol (gd l i).2.2.2.1 ∧ manyL l ride (ol ++ [i]) = (manyL l ride ol).set (gd l i).2.2.2.1.toNat (cntL l ride ol (gd l i).2.2.2.1 + 1) := by
  have hc : (gd l i).2.2.2.1 = 1 ∨ (gd l i).2.2.2.1 = 2 ∨ (gd l i).2.2.2.1 = 3 := by omega
  unfold manyL
  simp only [cntL_snoc, h, Bool.true_and]
  rcases hc with e | e | e <;> rw [e] <;> exact ⟨rfl, by simp⟩
theorem cntL_le (l : List Ent) (ride : Int) (ol : List Int) (s : Int) : 0 ≤ cntL l ride ol s ∧ cntL l ride ol s ≤ ol.length := by
  unfold cntL
  have := List.length_filter_le (fun i => (gd l i).2.2.1 == ride && (gd l i).2.2.2.1 == s) ol
  omega
theorem manyL_len (l : List Ent) (ride : Int) (ol : List Int) : (manyL l ride ol).length = 4 := rfl
def soundB (l : List Ent) (ride : Int) : Bool := (cntL l ride (openL l) 3 == 0) && decide (cntL l ride (openL l) 2 ≤ 1)
theorem Fit.found {b : Book} {l : List Ent} (h : Fit b l) {i : Int} (ho : openB l i = true) : (0 ≤ i ∧ i < l.length) ∧ 1 ≤ (gd l i).2.2.2.1 ∧ (gd l i).2.2.2.1 ≤ 3 := by
  unfold openB at ho
  simp only [Bool.and_eq_true] at ho
  have h1 := rng_iff.1 ho.1.1
  refine ⟨by omega, ?_⟩
  have := h.sev i.toNat (by omega)
  rw [show ((i.toNat : Nat) : Int) = i by omega] at this
  exact this ho.1.2
theorem fil_mem {p : Nat → Bool} {n : Nat} {x : Int} (h : x ∈ fil p n) : ∃ i : Nat, i < n ∧ p i = true ∧ x = (i : Int) := by
  unfold fil at h
  obtain ⟨i, hi, rfl⟩ := List.mem_map.1 h
  rw [List.mem_filter] at hi
  exact ⟨i, by simpa using hi.1, hi.2, rfl⟩
theorem openL_len (l : List Ent) : (openL l).length ≤ l.length := fil_len _ _
theorem g23_eq (b : Book) (l : List Ent) (h : Fit b l) (ride : Int) : g23 ((b, l), ride, ()) = some ((soundB l ride, ()), ()) := by
  show F23 fuel (b, l) ride = _
  unfold F23 soundB
  have hl := h.len
  have hol := openL_len l
  rw [g40_eq b l (by omega), derefK_some]
  have e := loopF (L := L23_3) (fun i => ((ride, ((openL l).length : Int), (i : Int), ()), ((b, l), manyL l ride ((openL l).take i), openL l, ()), ())) ((), (manyL l ride (openL l), ()), ()) 0 (openL l).length (N := fuel) (by have := fuel_ge; omega)
    (fun N => by simp [L23_3, B23_3])
    (fun N i _ hi => by
      have hm := gd_mem (l := openL l) (i := (i : Int)) (by omega) (by omega)
      obtain ⟨j, hj, hp, hx⟩ := fil_mem hm
      have hf := h.found (i := gd (openL l) (i : Int)) (by rw [hx]; exact hp)
      simp only [L23_3, B23_3]
      rw [dec_t (by omega), cond_true, inR_in (by omega) (by omega), getI_gd (by omega) (by omega)]
      have g1 : ∀ {R : Type} (k : Ent → Option R), getI l (gd (openL l) (i : Int)) k = k (gd l (gd (openL l) (i : Int))) := fun k => getI_gd hf.1.1 hf.1.2 k
      rw [g1, wI (x := (i : Int) + 1) (by omega) (by omega), take_nat hi]
      cases hr : (gd l (gd (openL l) (i : Int))).2.2.1 == ride with
      | false =>
        rw [manyL_other _ _ _ _ hr]
        rfl
      | true =>
        obtain ⟨k1, k2⟩ := manyL_same l ride ((openL l).take i) _ hr hf.2
        have hc := cntL_le l ride ((openL l).take i) (gd l (gd (openL l) (i : Int))).2.2.2.1
        rw [List.length_take] at hc
        have hlen := manyL_len l ride ((openL l).take i)
        rw [cond_true, inR_in (by omega) (by omega), getI_gd (by omega) (by omega), inR_in (by omega) (by omega), getI_gd (by omega) (by omega), k2, k1, wI (by omega) (by omega)]
        rfl)
  have e' : L23_3 fuel ((ride, ((openL l).length : Int), 0, ()), ((b, l), List.replicate 4 0, openL l, ()), ()) = _ := e
  rw [e', derefK_some, inR_in (by decide) (by decide)]
  show getI (manyL l ride (openL l)) 3 _ = _
  rw [getI_gd (by decide) (by rw [manyL_len]; decide)]
  show cond (cntL l ride (openL l) 3 == 0) _ _ = _
  cases cntL l ride (openL l) 3 == 0 with
  | false => rfl
  | true =>
    rw [cond_true, inR_in (by decide) (by decide)]
    show getI (manyL l ride (openL l)) 2 _ = _
    rw [getI_gd (by decide) (by rw [manyL_len]; decide)]
    rfl
def insR (b : Book) (l : List Ent) (ride : Int) : Int := l.foldl (fun acc x => if x.2.1 == 5 && x.2.2.1 == ride then x.2.2.2.1 else acc) (gd b.2.2 ride)
def scanI (ride : Int) : List Ent → Option Int
  | [] => none
  | x :: r => if x.2.1 == 5 && x.2.2.1 == ride then some x.2.2.2.1 else scanI ride r
theorem insR_scan (b : Book) (l : List Ent) (ride : Int) : insR b l ride = (scanI ride l.reverse).getD (gd b.2.2 ride) := by
  unfold insR
  rw [List.foldl_eq_foldr_reverse]
  induction l.reverse with
  | nil => rfl
  | cons x r ih =>
    rw [List.foldr_cons, ih, scanI]
    split <;> rfl
theorem R22_eq (n : Nat) (ride v : Int) : ∀ r : List Ent, R22_2 n r (ride, v, ()) = some (match scanI ride r with | some d => (.ret, (d, ())) | none => (.norm, (v, ())))
  | [] => rfl
  | x :: r => by
    have ih := R22_eq n ride v r
    simp only [R22_2, Q22_2, scanI]
    rw [ih]
    cases x.2.1 == 5 with
    | false => rfl
    | true => cases x.2.2.1 == ride <;> rfl
theorem g22_eq (b : Book) (l : List Ent) (hl : l.length ≤ 1048576) (ride : Int) (hr : rideB b ride = true) : g22 ((b, l), ride, ()) = some ((insR b l ride, ()), ()) := by
  show F22 fuel (b, l) ride = _
  unfold F22
  have hr := rng_iff.1 hr
  show derefK (Ib.it61.g ((b, l), ())) _ = _
  rw [it61_at b l hl]
  show derefK (R22_2 fuel (l.reverse : List Ent) (ride, 0, ())) _ = _
  rw [R22_eq fuel ride, derefK_some, insR_scan]
  cases scanI ride l.reverse with
  | some d => rfl
  | none =>
    show getI b.2.2 ride _ = _
    rw [getI_gd (by omega) (by omega)]
    rfl
def chkR (b : Book) (l : List Ent) (ride : Int) (n : Nat) : Int := (List.range n).foldl (fun (acc : Int) (i : Nat) => if (gd b.1 (i : Int)).1 == ride then min acc (untilR b l (i : Int)) else acc) 10000
theorem chkR_succ (b : Book) (l : List Ent) (ride : Int) (n : Nat) : chkR b l ride (n + 1) = if (gd b.1 (n : Int)).1 == ride then min (chkR b l ride n) (untilR b l (n : Int)) else chkR b l ride n := by
  unfold chkR
  rw [List.range_succ, List.foldl_append]
  rfl
theorem ruleB_of {b : Book} {i : Nat} (h : i < b.1.length) : ruleB b (i : Int) = true := rng_iff.2 ⟨by omega, by omega⟩
theorem g21_eq (b : Book) (l : List Ent) (h : Fit b l) (ride : Int) : g21 ((b, l), ride, ()) = some ((chkR b l ride b.1.length, ()), ()) := by
  show F21 fuel (b, l) ride = _
  unfold F21
  have hs := (sized_of h.book).rules
  have e := loopF (L := L21_3) (fun i => ((ride, chkR b l ride i, b.1, (b.1.length : Int), (i : Int), ()), ((b, l), ()), ())) ((chkR b l ride b.1.length, ()), (), ()) 0 b.1.length (N := fuel) (by have := fuel_ge; omega)
    (fun N => by simp [L21_3, B21_3])
    (fun N i _ hi => by
      simp only [L21_3, B21_3]
      rw [dec_t (by omega), cond_true, getI_gd (by omega) (by omega), wI (by omega) (by omega), chkR_succ, g38_eq b l h _ (ruleB_of hi), derefK_some]
      cases (gd b.1 (i : Int)).1 == ride <;> rfl)
  have e' : L21_3 fuel ((ride, 10000, b.1, (b.1.length : Int), 0, ()), ((b, l), ()), ()) = _ := e
  show derefK (L21_3 fuel ((ride, 10000, b.1, (b.1.length : Int), 0, ()), ((b, l), ()), ())) _ = _
  rw [e', derefK_some]
def chkB (b : Book) (l : List Ent) (ride day : Int) (n : Nat) : Bool := (List.range n).all fun i : Nat => (gd b.1 (i : Int)).1 != ride || forceB b l (i : Int) day
theorem chkB_succ (b : Book) (l : List Ent) (ride day : Int) (n : Nat) : chkB b l ride day (n + 1) = (chkB b l ride day n && ((gd b.1 (n : Int)).1 != ride || forceB b l (n : Int) day)) := by
  unfold chkB
  rw [List.range_succ, List.all_append]
  simp
theorem chk_lt {b : Book} {l : List Ent} {ride day : Int} (hd : 0 ≤ day ∧ day ≤ 10000) : ∀ n, decide (chkR b l ride n < day) = !chkB b l ride day n
  | 0 => by
    rw [show chkR b l ride 0 = 10000 from rfl, dec_f (by omega)]
    rfl
  | n + 1 => by
    have ih := chk_lt (b := b) (l := l) (ride := ride) hd n
    rw [chkR_succ, chkB_succ]
    cases hr : (gd b.1 (n : Int)).1 == ride with
    | false =>
      rw [show ((gd b.1 (n : Int)).1 != ride) = true by unfold bne; rw [hr]; rfl, Bool.true_or, Bool.and_true]
      exact ih
    | true =>
      rw [show ((gd b.1 (n : Int)).1 != ride) = false by unfold bne; rw [hr]; rfl, Bool.false_or, if_pos rfl, Bool.not_and, ← ih, ← until_lt hd.1]
      rw [Bool.eq_iff_iff]
      simp only [decide_eq_true_eq, Bool.or_eq_true]
      omega
theorem g96_eq (k : Int) (is : Bool) (out : List Int) (hl : out.length ≤ 1048576) : g96 (k, is, out, ()) = some ((), ((if is then out ++ [k] else out), ())) := by
  show F96 fuel k is out = _
  unfold F96
  cases is with
  | false => rfl
  | true => rw [cond_true, lenK_in (by simp; omega) (by simp; omega)]; rfl
def wantT (ride : Int) (x : Ent) : Bool := x.2.1 == 4 && x.2.2.1 == ride
def whyL (b : Book) (l : List Ent) (ride day : Int) : List Int :=
  (if chkB b l ride day b.1.length then [] else [1]) ++ (if soundB l ride then [] else [2]) ++ (if lastE (wantT ride) ride l == day then [] else [3]) ++ (if insR b l ride < day then [4] else [])
theorem g89_eq (b : Book) (l : List Ent) (h : Fit b l) (ride day : Int) (hd : 0 ≤ day ∧ day ≤ 10000) (hr : rideB b ride = true) : g89 ((b, l), ride, day, ()) = some ((whyL b l ride day, ()), ()) := by
  show F89 fuel (b, l) ride day = _
  unfold F89 whyL
  have hl := h.len
  rw [g21_eq b l h, derefK_some, g96_eq _ _ _ (by simp), derefK_some, g23_eq b l h, derefK_some]
  dsimp only
  rw [chk_lt hd, g96_eq _ _ _ (by split <;> simp), derefK_some, g59_eq b l (by omega) ride _ (wantT ride) (fun x => by
    show derefK (F97 fuel x ride) _ = _
    unfold F97 wantT
    cases x.2.1 == 4 <;> rfl), derefK_some]
  dsimp only
  rw [g96_eq _ _ _ (by split <;> split <;> simp), derefK_some, g22_eq b l (by omega) ride hr, derefK_some]
  dsimp only
  rw [g96_eq _ _ _ (by split <;> split <;> split <;> simp), derefK_some]
  unfold bne
  by_cases h4 : insR b l ride < day
  · rw [dec_t h4, if_pos h4]
    cases chkB b l ride day b.1.length <;> cases soundB l ride <;> cases lastE (wantT ride) ride l == day <;> rfl
  · rw [dec_f h4, if_neg h4]
    cases chkB b l ride day b.1.length <;> cases soundB l ride <;> cases lastE (wantT ride) ride l == day <;> rfl
theorem dayErr_ok {b : Book} {l : List Ent} {day : Int} (h : dayErr b l day = 0) : Good b l ∧ 0 ≤ day ∧ day ≤ 10000 := by
  unfold dayErr at h
  split at h
  · rename_i hc
    split at h
    · rename_i hr
      exact ⟨good_of hc, rng_iff.1 hr⟩
    · cases h
  · rename_i hc
    exact absurd h hc
theorem upto_day (l : List Ent) (day : Int) (i : Nat) (hi : i < (upto l day).length) : (gd (upto l day) (i : Int)).1 ≤ day := by
  have hm := gd_mem (l := upto l day) (i := (i : Int)) (by omega) (by omega)
  have key : ∀ {r : List Ent} {x : Ent}, x ∈ upto r day → x.1 ≤ day := by
    intro r
    induction r with
    | nil => intro x hx; cases hx
    | cons y r ih =>
      intro x hx
      unfold upto at hx ih
      rw [List.takeWhile_cons] at hx
      split at hx
      · rename_i hy
        rcases List.mem_cons.1 hx with rfl | hx
        · exact of_decide_eq_true hy
        · exact ih hx
      · cases hx
  exact key hm
def relB (b : Book) (l : List Ent) (day : Int) (i : Nat) : Bool := ((whyL b l (i : Int) day).length : Int) == 0
def relL (b : Book) (l : List Ent) (day : Int) : List Int := fil (relB b l day) b.2.2.length
theorem rideB_of {b : Book} {i : Nat} (h : i < b.2.2.length) : rideB b (i : Int) = true := rng_iff.2 ⟨by omega, by omega⟩
theorem g70_eq (b : Book) (l : List Ent) (day : Int) : g70 (b, l, day, ()) = some ((if dayErr b l day = 0 then relL b (upto l day) day else [], dayErr b l day, ()), ()) := by
  show F70 fuel b l day = _
  unfold F70
  by_cases h : dayErr b l day = 0
  · obtain ⟨hg, hd⟩ := dayErr_ok h
    have hs := (sized_of hg.book).rides
    have hu := (hg.upto day).fit
    rw [g37_ok h, derefK_some, if_pos h, h]
    have e := loopFil (L := L70_5) (fun i s => ((day, (b.2.2.length : Int), (i : Int), ()), (s, (b, upto l day), ()), ())) (relB b (upto l day) day) b.2.2.length 0 (fun s => ((), (s, ()), ())) (N := fuel) (by have := fuel_ge; omega)
      (fun N s _ => by simp [L70_5, B70_5])
      (fun N i s _ hi hl => by
        simp only [L70_5, B70_5]
        rw [dec_t (by omega), cond_true, g89_eq b _ hu _ day hd (rideB_of hi), derefK_some, lenK_in (by simp; omega) (by simp; omega), wI (by omega) (by omega)]
        unfold relB
        cases ((whyL b (upto l day) (i : Int) day).length : Int) == 0 <;> rfl)
    have e' : L70_5 fuel ((day, (b.2.2.length : Int), 0, ()), ([], (b, upto l day), ()), ()) = _ := e
    show derefK (L70_5 fuel ((day, (b.2.2.length : Int), 0, ()), ([], (b, upto l day), ()), ())) _ = _
    rw [e']
    rfl
  · obtain ⟨z, e⟩ := g37_err h
    rw [e, derefK_some, if_neg h]
    show cond (dayErr b l day != 0) _ _ = _
    rw [neq_t h]
    rfl
theorem gd_snoc {α : Type} [Inhabited α] {l : List α} {x : α} {i : Nat} (hi : i < l.length) : gd (l ++ [x]) (i : Int) = gd l (i : Int) := gd_app_l (by omega) (by omega)
theorem gd_last {α : Type} [Inhabited α] {l : List α} {x : α} : gd (l ++ [x]) (l.length : Int) = x := gd_app_end rfl
theorem lastE_app (want : Ent → Bool) (ride : Int) (l : List Ent) (x : Ent) : lastE want ride (l ++ [x]) = if want x then x.1 else if x.2.1 == 6 && x.2.2.1 == ride then -1 else lastE want ride l := by
  unfold lastE
  rw [List.foldl_append]
  rfl
theorem insR_app (b : Book) (l : List Ent) (x : Ent) (ride : Int) : insR b (l ++ [x]) ride = if x.2.1 == 5 && x.2.2.1 == ride then x.2.2.2.1 else insR b l ride := by
  unfold insR
  rw [List.foldl_append]
  rfl
theorem openL_tested {l : List Ent} {x : Ent} (h2 : (x.2.1 == 2) = false) (h3 : (x.2.1 == 3) = false) : openL (l ++ [x]) = openL l := by
  have hm : ∀ n, mendedB (l ++ [x]) n = mendedB l n := fun n => by
    unfold mendedB
    rw [List.any_append]
    simp [h3]
  unfold openL
  rw [List.length_append, List.length_singleton, fil_succ]
  have e : openB (l ++ [x]) (l.length : Int) = false := by
    unfold openB
    rw [gd_last, h2, Bool.and_false]
    rfl
  rw [e, if_neg (by simp)]
  refine fil_congr fun i hi => ?_
  unfold openB
  rw [gd_snoc hi, hm]
  congr 2
  rw [Bool.eq_iff_iff, rng_iff, rng_iff]
  simp
  omega
theorem soundB_tested {l : List Ent} {x : Ent} (h2 : (x.2.1 == 2) = false) (h3 : (x.2.1 == 3) = false) (ride : Int) : soundB (l ++ [x]) ride = soundB l ride := by
  unfold soundB
  have e : ∀ s, cntL (l ++ [x]) ride (openL l) s = cntL l ride (openL l) s := fun s => by
    unfold cntL
    congr 2
    refine List.filter_congr fun i hi => ?_
    obtain ⟨j, hj, _, rfl⟩ := fil_mem hi
    rw [gd_snoc hj]
  rw [openL_tested h2 h3, e, e]
def testE (d ride : Int) : Ent := (d, 4, ride, 0, 0)
theorem why_tested (b : Book) (l : List Ent) (ride d : Int) (hd : 0 ≤ d ∧ d ≤ 10000) : decide (((whyL b (l ++ [testE d ride]) ride d).length : Int) > 0) = !(decide (d ≤ min (chkR b l ride b.1.length) (insR b l ride)) && soundB l ride) := by
  have e1 : chkB b (l ++ [testE d ride]) ride d b.1.length = chkB b l ride d b.1.length := by
    unfold chkB
    refine List.all_congr rfl fun i => ?_
    unfold forceB lastC
    rw [lastE_app]
    rfl
  have e2 : lastE (wantT ride) ride (l ++ [testE d ride]) = d := by
    rw [lastE_app]
    have : wantT ride (testE d ride) = true := by simp [wantT, testE]
    rw [if_pos this]
    rfl
  have e3 : insR b (l ++ [testE d ride]) ride = insR b l ride := by
    rw [insR_app]
    rfl
  have e4 := chk_lt (b := b) (l := l) (ride := ride) hd b.1.length
  unfold whyL
  rw [e1, soundB_tested rfl rfl, e2, e3, if_pos (show (d == d) = true by simp)]
  by_cases h1 : chkR b l ride b.1.length < d
  · rw [dec_t h1] at e4
    have : chkB b l ride d b.1.length = false := by
      cases h : chkB b l ride d b.1.length with
      | false => rfl
      | true => rw [h] at e4; cases e4
    rw [this, dec_f (p := d ≤ min _ _) (by omega), if_neg (by simp), dec_t (by simp <;> omega)]
    rfl
  · rw [dec_f h1] at e4
    have : chkB b l ride d b.1.length = true := by
      cases h : chkB b l ride d b.1.length with
      | true => rfl
      | false => rw [h] at e4; cases e4
    rw [this, if_pos rfl]
    by_cases h2 : insR b l ride < d
    · rw [dec_f (p := d ≤ min _ _) (by omega), if_pos h2, dec_t (by simp <;> omega)]
      rfl
    · rw [dec_t (p := d ≤ min _ _) (by omega), if_neg h2]
      cases soundB l ride <;> rfl
theorem lastDay_le {l : List Ent} {day : Int} (h0 : 0 ≤ day) (h : ∀ i : Nat, i < l.length → (gd l (i : Int)).1 ≤ day) : lastDay l ≤ day := by
  unfold lastDay
  split
  · exact h0
  · rename_i hl
    have := h (l.length - 1) (by omega)
    rwa [show ((l.length - 1 : Nat) : Int) = (l.length : Int) - 1 by omega] at this
def everyF (b : Book) (ride : Int) (n : Nat) : Int := (List.range n).foldl (fun (acc : Int) (i : Nat) => if (gd b.1 (i : Int)).1 == ride && (acc == 0 || decide ((gd b.1 (i : Int)).2.1 < acc)) then (gd b.1 (i : Int)).2.1 else acc) 0
theorem everyF_succ (b : Book) (ride : Int) (n : Nat) : everyF b ride (n + 1) = if (gd b.1 (n : Int)).1 == ride && (everyF b ride n == 0 || decide ((gd b.1 (n : Int)).2.1 < everyF b ride n)) then (gd b.1 (n : Int)).2.1 else everyF b ride n := by
  unfold everyF
  rw [List.range_succ, List.foldl_append]
  rfl
theorem everyF_in {b : Book} (hb : bookOK b = true) (ride : Int) : ∀ n, n ≤ b.1.length → 0 ≤ everyF b ride n ∧ everyF b ride n ≤ 10000
  | 0, _ => by show (0 : Int) ≤ 0 ∧ (0 : Int) ≤ 10000; omega
  | n + 1, hn => by
    have ih := everyF_in hb ride n (by omega)
    have := rule_in hb (ruleB_of (b := b) (i := n) (by omega))
    rw [everyF_succ]
    split <;> omega
def vis (a every : Int) (n : Nat) : List Int := (List.range n).map fun i : Nat => a + every * (i : Int)
theorem vis_succ (a every : Int) (n : Nat) : vis a every (n + 1) = vis a every n ++ [a + every * (n : Int)] := by
  unfold vis
  rw [List.range_succ, List.map_append]
  rfl
theorem vis_len (a every : Int) (n : Nat) : (vis a every n).length = n := by simp [vis]
def many (a to every : Int) : Nat := if 0 < every then ((to - a) / every).toNat + 1 else 0
theorem many_iff {a to every : Int} (h : a ≤ to) (he : 0 < every) (i : Nat) : a + every * (i : Int) ≤ to ↔ i < many a to every := by
  unfold many
  rw [if_pos he]
  have h0 : 0 ≤ (to - a) / every := Int.ediv_nonneg (by omega) (by omega)
  have h1 := Int.le_ediv_iff_mul_le (a := (i : Int)) (b := to - a) he
  rw [Int.mul_comm] at h1
  constructor
  · intro h2
    have := h1.2 (by omega)
    omega
  · intro h2
    have := h1.1 (by omega)
    omega
theorem many_le {a to every : Int} (h0 : 0 ≤ a) (h : a ≤ to) (ht : to ≤ 10000) : many a to every ≤ 10001 := by
  unfold many
  split
  · rename_i he
    have := Int.ediv_le_self every (show 0 ≤ to - a by omega)
    have : (to - a) / every ≤ to - a := Int.ediv_le_self every (by omega)
    omega
  · omega
theorem day_in {a to every : Int} {i : Nat} (h0 : 0 ≤ a) (ht : to ≤ 10000) (he : 0 ≤ every) (h : a + every * (i : Int) ≤ to) : 0 ≤ a + every * (i : Int) ∧ a + every * (i : Int) ≤ 10000 := by
  have : 0 ≤ every * (i : Int) := Int.mul_nonneg he (by omega)
  omega
theorem mul_succ_i (a every : Int) (i : Nat) : a + every * ((i + 1 : Nat) : Int) = a + every * (i : Int) + every := by
  rw [Int.natCast_succ, Int.mul_add, Int.mul_one]
  omega
def visitsR (b : Book) (ride a to : Int) : List Int × Int :=
  if bookOK b then
    (if rideB b ride && rng to 0 10000 && rng a 0 to then
      (if many a to (everyF b ride b.1.length) ≤ 1000 then (vis a (everyF b ride b.1.length) (many a to (everyF b ride b.1.length)), 0) else ([], 2))
    else ([], 1))
  else ([], 100)
theorem g11_eq (b : Book) (ride a to : Int) : g11 (b, ride, a, to, ()) = some (((visitsR b ride a to).1, (visitsR b ride a to).2, ()), ()) := by
  show F11 fuel b ride a to = _
  unfold F11 visitsR
  rw [g25_eq, derefK_some]
  cases hb : bookOK b with
  | false => rfl
  | true =>
  have hs := sized_of hb
  have hr := hs.rules
  show derefK (g26 ((b, []), ride, ())) _ = _
  rw [g26_eq b _ _ hs, derefK_some]
  cases rideB b ride with
  | false => rfl
  | true =>
  simp only [Bool.not_true, cond_false, g27_eq, derefK_some, if_true, Bool.true_and]
  cases ht : rng to 0 10000 with
  | false => rfl
  | true =>
  cases ha : rng a 0 to with
  | false => rfl
  | true =>
  have ht := rng_iff.1 ht
  have ha := rng_iff.1 ha
  simp only [Bool.not_true, cond_false, Bool.and_self, if_true]
  have e1 := loopF (L := L11_8) (fun i => ((ride, a, to, everyF b ride i, b.1, (b.1.length : Int), (i : Int), ()), (([] : List Int), ()), ())) ((a, to, everyF b ride b.1.length, ()), ([], ()), ()) 0 b.1.length (N := fuel) (by have := fuel_ge; omega)
    (fun N => by simp [L11_8, B11_8])
    (fun N i _ hi => by
      simp only [L11_8, B11_8]
      rw [dec_t (by omega), cond_true, getI_gd (by omega) (by omega), wI (by omega) (by omega), everyF_succ]
      cases (gd b.1 (i : Int)).1 == ride with
      | false => rfl
      | true =>
        cases everyF b ride i == 0 with
        | true => rfl
        | false => cases decide ((gd b.1 (i : Int)).2.1 < everyF b ride i) <;> rfl)
  have e1' : L11_8 fuel ((ride, a, to, 0, b.1, (b.1.length : Int), 0, ()), ([], ()), ()) = _ := e1
  rw [e1', derefK_some]
  obtain ⟨ev, hev⟩ : ∃ ev, everyF b ride b.1.length = ev := ⟨_, rfl⟩
  have hin := everyF_in hb ride b.1.length (Nat.le_refl _)
  rw [hev] at hin ⊢
  have hmany := many_le (every := ev) ha.1 ha.2 ht.2
  have e2 : L11_14 fuel ((to, ev, a, ()), ([], ()), ()) = some ((), (vis a ev (many a to ev), ()), ()) := by
    by_cases h0 : 0 < ev
    · have e := loopF (L := L11_14) (fun i => ((to, ev, a + ev * (i : Int), ()), (vis a ev i, ()), ())) ((), (vis a ev (many a to ev), ()), ()) 0 (many a to ev) (N := fuel) (by have := fuel_ge; omega)
        (fun N => by
          simp only [L11_14, B11_14]
          rw [dec_t (p := ev > 0) h0, cond_true, dec_f (fun h => Nat.lt_irrefl _ ((many_iff ha.2 h0 _).1 h))]
          rfl)
        (fun N i _ hi => by
          have h1 := (many_iff ha.2 h0 i).2 hi
          have h2 := day_in ha.1 ht.2 hin.1 h1
          have h3 := vis_len a ev i
          simp only [L11_14, B11_14]
          rw [dec_t (p := ev > 0) h0, cond_true, dec_t h1, cond_true, lenK_in (by simp; omega) (by simp; omega), wI (by omega) (by omega), vis_succ, mul_succ_i])
      have e' : L11_14 fuel ((to, ev, a + ev * ((0 : Nat) : Int), ()), ([], ()), ()) = _ := e
      rwa [show a + ev * ((0 : Nat) : Int) = a by simp] at e'
    · obtain ⟨k, hk⟩ : ∃ k, fuel = k + 1 := ⟨fuel - 1, by have := fuel_ge; omega⟩
      have : many a to ev = 0 := by unfold many; rw [if_neg h0]
      rw [hk, this]
      simp only [L11_14, B11_14]
      rw [dec_f (p := ev > 0) h0]
      rfl
  have e2' : L11_14 fuel ((to, ev, a, ()), ([], ()), ()) = _ := e2
  show derefK (L11_14 fuel ((to, ev, a, ()), ([], ()), ())) _ = _
  rw [e2', derefK_some]
  show cond (decide (((vis a ev (many a to ev)).length : Int) > 1000)) _ _ = _
  rw [vis_len]
  by_cases hm : many a to ev ≤ 1000
  · rw [dec_f (by omega), if_pos hm]
    rfl
  · rw [dec_t (by omega), if_neg hm]
    rfl
theorem everyF_min {b : Book} (hb : bookOK b = true) (ride : Int) : ∀ n, n ≤ b.1.length → ∀ r : Nat, r < n → (gd b.1 (r : Int)).1 = ride → 0 < everyF b ride n ∧ everyF b ride n ≤ (gd b.1 (r : Int)).2.1
  | 0, _, r, h, _ => absurd h (Nat.not_lt_zero _)
  | n + 1, hn, r, h, he => by
    have hr := rule_in hb (ruleB_of (b := b) (i := n) (by omega))
    have hin := everyF_in hb ride n (by omega)
    rw [everyF_succ]
    by_cases hrn : r = n
    · rw [hrn] at he ⊢
      have he' : ((gd b.1 (n : Int)).1 == ride) = true := by rw [he]; simp
      rw [he']
      cases h0 : everyF b ride n == 0 with
      | true =>
        rw [if_pos (by simp)]
        omega
      | false =>
        by_cases hlt : (gd b.1 (n : Int)).2.1 < everyF b ride n
        · rw [dec_t hlt, if_pos (by simp)]
          omega
        · rw [dec_f hlt, if_neg (by simp)]
          have : ¬ everyF b ride n = 0 := fun h => by rw [h] at h0; cases h0
          omega
    · have ih := everyF_min hb ride n (by omega) r (by omega) he
      cases h1 : (gd b.1 (n : Int)).1 == ride with
      | false =>
        rw [if_neg (by simp)]
        exact ih
      | true =>
        have h0 : (everyF b ride n == 0) = false := by simp; omega
        rw [h0]
        by_cases hlt : (gd b.1 (n : Int)).2.1 < everyF b ride n
        · rw [dec_t hlt, if_pos (by simp)]
          omega
        · rw [dec_f hlt, if_neg (by simp)]
          exact ih
def innS (b : Book) (rule f : Int) (out : List (List Int)) : Nat → List (List Int)
  | 0 => out
  | j + 1 => if signsB b rule f ((j : Int) - 1) then innS b rule f out j ++ [[f, (j : Int) - 1]] else innS b rule f out j
theorem innS_succ (b : Book) (rule f : Int) (out : List (List Int)) (j : Nat) : innS b rule f out (j + 1) = if signsB b rule f ((j : Int) - 1) then innS b rule f out j ++ [[f, (j : Int) - 1]] else innS b rule f out j := rfl
theorem innS_len (b : Book) (rule f : Int) (out : List (List Int)) : ∀ j, (innS b rule f out j).length ≤ out.length + j
  | 0 => Nat.le_refl _
  | j + 1 => by
    have := innS_len b rule f out j
    rw [innS_succ]
    split
    · simp
      omega
    · omega
def outS (b : Book) (rule : Int) : Nat → List (List Int)
  | 0 => []
  | n + 1 => innS b rule (n : Int) (outS b rule n) (b.2.1.length + 1)
theorem ranks8 {b : Book} (h : bookOK b = true) : b.2.1.length ≤ 8 := by
  simp only [bookOK, sizesOK, Bool.and_eq_true, decide_eq_true_eq] at h
  omega
theorem outS_len {b : Book} (h : bookOK b = true) (rule : Int) : ∀ n, (outS b rule n).length ≤ 9 * n
  | 0 => Nat.le_refl _
  | n + 1 => by
    have h1 := outS_len h rule n
    have h2 := innS_len b rule (n : Int) (outS b rule n) (b.2.1.length + 1)
    have h3 := ranks8 h
    show (innS b rule (n : Int) (outS b rule n) (b.2.1.length + 1)).length ≤ _
    omega
def signsR (b : Book) (rule : Int) : List (List Int) × Int := if bookOK b then (if ruleB b rule then (outS b rule b.2.1.length, 0) else ([], 1)) else ([], 100)
theorem L12_11_at (b : Book) (hb : bookOK b = true) (rule : Int) (hr : ruleB b rule = true) (f t u : Int) (out : List (List Int)) (ho : out.length ≤ 1000) (N : Nat) (hN : 10 < N) :
    L12_11 N ((rule, f, -1, t, u, ()), (b, out, (b, []), ()), ()) = some ((rule, t, u, ()), (b, innS b rule f out (b.2.1.length + 1), (b, []), ()), ()) := by
  have h8 := ranks8 hb
  have e := loopF (L := L12_11) (fun j => ((rule, f, (j : Int) - 1, t, u, ()), (b, innS b rule f out j, (b, []), ()), ())) ((rule, t, u, ()), (b, innS b rule f out (b.2.1.length + 1), (b, []), ()), ()) 0 (b.2.1.length + 1) (N := N) (by omega)
    (fun N => by
      simp only [L12_11, B12_11]
      rw [dec_f (by omega)]
      rfl)
    (fun N j _ hj => by
      have hl := innS_len b rule f out j
      simp only [L12_11, B12_11]
      rw [dec_t (by omega), cond_true, g28_eq b _ _ _ _ (sized_of hb) hr, derefK_some, lenK_in (by simp; omega) (by simp; omega), wI (by omega) (by omega), innS_succ, show (j : Int) - 1 + 1 = ((j + 1 : Nat) : Int) - 1 by omega]
      cases signsB b rule f ((j : Int) - 1) <;> rfl)
  exact e
theorem g12_eq (b : Book) (rule : Int) : g12 (b, rule, ()) = some (((signsR b rule).1, (signsR b rule).2, ()), ()) := by
  show F12 fuel b rule = _
  unfold F12 signsR
  rw [g25_eq, derefK_some]
  cases hb : bookOK b with
  | false => rfl
  | true =>
  have hs := sized_of hb
  have h1 := hs.rules
  have h8 := ranks8 hb
  simp only [if_true]
  rw [wI (by omega) (by omega), g27_eq, derefK_some]
  show cond (!ruleB b rule) _ _ = _
  cases hr : ruleB b rule with
  | false => rfl
  | true =>
  have e := loopF (L := L12_8) (fun i => ((rule, (b.2.1.length : Int), (i : Int), ()), (b, outS b rule i, (b, []), ()), ())) ((), (outS b rule b.2.1.length, ()), ()) 11 b.2.1.length (N := fuel) (by have := fuel_ge; omega)
    (fun N => by simp [L12_8, B12_8])
    (fun N i hN hi => by
      have hl := outS_len hb rule i
      simp only [L12_8, B12_8]
      rw [dec_t (by omega), cond_true, L12_11_at b hb rule hr _ _ _ _ (by omega) N (by omega), derefK_some]
      dsimp only
      rw [wI (by omega) (by omega)]
      rfl)
  have e' : L12_8 fuel ((rule, (b.2.1.length : Int), 0, ()), (b, [], (b, []), ()), ()) = _ := e
  show derefK (L12_8 fuel ((rule, (b.2.1.length : Int), 0, ()), (b, [], (b, []), ()), ())) _ = _
  rw [e']
  rfl
theorem rel_in {b : Book} {l : List Ent} {day n : Int} (h : n ∈ relL b l day) : 0 ≤ n ∧ n < b.2.2.length := by
  unfold relL fil at h
  rw [List.mem_map] at h
  obtain ⟨i, hi, rfl⟩ := h
  have := List.mem_range.1 (List.mem_filter.1 hi).1
  omega
theorem rel_lenT (b : Book) (l : List Ent) (day : Int) : (relL b l day).length ≤ b.2.2.length := fil_len _ _
theorem Good.snoc' {b : Book} {l : List Ent} (h : Good b l) {x : Ent} (hl : l.length < 100) (hx : rightB b l x = true) : Good b (l ++ [x]) := by
  refine ⟨h.book, by simp; omega, fun i hi => ?_⟩
  rw [List.length_append, List.length_singleton] at hi
  by_cases hil : i < l.length
  · rw [gd_snoc hil, List.take_append_of_le_length (by omega)]
    exact h.right i hil
  · obtain rfl : i = l.length := by omega
    rw [gd_last, List.take_left]
    exact hx
theorem lastDay_snoc (l : List Ent) (x : Ent) : lastDay (l ++ [x]) = x.1 := by
  unfold lastDay
  rw [if_neg (by simp), List.length_append, List.length_singleton, show ((l.length + 1 : Nat) : Int) - 1 = (l.length : Int) by omega, gd_last]
theorem day_err {b : Book} {l : List Ent} {day : Int} (h : (checkR b l).2 = 0) (hd : 0 ≤ day ∧ day ≤ 10000) : dayErr b l day = 0 := by
  unfold dayErr
  rw [if_pos h, if_pos (rng_iff.2 hd)]
theorem root10 : (∀ b l, g65 (b, l, ()) = some (((checkR b l).1, (checkR b l).2, ()), ())) ∧ (∀ b l, g17 (b, l, ()) = some (((checkR b l).1, (checkR b l).2, ()), ())) ∧ (∀ b l day, g70 (b, l, day, ()) = some ((if dayErr b l day = 0 then relL b (upto l day) day else [], dayErr b l day, ()), ())) := ⟨g65_eq, g17_eq, g70_eq⟩
theorem upto_allT {l : List Ent} {day : Int} (h : ∀ x, x ∈ l → x.1 ≤ day) : upto l day = l := by
  unfold upto
  induction l with
  | nil => rfl
  | cons x l ih =>
    rw [List.takeWhile_cons, dec_t (h x List.mem_cons_self), if_pos rfl, ih (fun y hy => h y (List.mem_cons_of_mem _ hy))]
theorem upto_le {l : List Ent} {day : Int} {x : Ent} (h : x ∈ upto l day) : x.1 ≤ day := by
  obtain ⟨i, hi, rfl⟩ := List.mem_iff_getElem.1 h
  have := upto_day l day i hi
  rwa [gd_of (List.getElem?_eq_getElem hi)] at this
theorem test_good {b : Book} {l : List Ent} {ride day d : Int} (h : Good b l) (hl : l.length < 100) (hr : rideB b ride = true) (hk : 0 < b.2.1.length) (h0 : 0 ≤ d) (hd : ∀ x, x ∈ l → x.1 ≤ d) (hdd : d ≤ day) (ht : day ≤ 10000) : Good b (l ++ [testE day ride]) := by
  refine h.snoc' hl ?_
  have h1 : lastDay l ≤ d := lastDay_le h0 (fun i hi => hd _ (gd_mem (by omega) (by omega)))
  unfold rightB
  rw [Bool.and_eq_true]
  refine ⟨rng_iff.2 ⟨by unfold testE; dsimp only; omega, ht⟩, ?_⟩
  show (rideB b ride && personB b 0 && ((0 : Int) == 0)) = true
  rw [hr, show personB b 0 = true from rng_iff.2 ⟨by omega, by omega⟩]
  rfl
theorem rel_ride {b : Book} {l : List Ent} {ride d : Int} (hd : 0 ≤ d ∧ d ≤ 10000) (hr : rideB b ride = true) (hall : ∀ x, x ∈ l → x.1 ≤ d) : ride ∈ relL b (upto (l ++ [testE d ride]) d) d ↔ (d ≤ min (chkR b l ride b.1.length) (insR b l ride) ∧ soundB l ride = true) := by
  have hu : upto (l ++ [testE d ride]) d = l ++ [testE d ride] := upto_allT fun x hx => by
    rcases List.mem_append.1 hx with hx | hx
    · exact hall x hx
    · rw [List.mem_singleton.1 hx]
      exact Int.le_refl _
  have hw := why_tested b l ride d hd
  have hri := rng_iff.1 hr
  rw [hu]
  have key : relB b (l ++ [testE d ride]) d ride.toNat = (decide (d ≤ min (chkR b l ride b.1.length) (insR b l ride)) && soundB l ride) := by
    unfold relB
    rw [show ((ride.toNat : Nat) : Int) = ride by omega]
    rw [show ((((whyL b (l ++ [testE d ride]) ride d).length : Int)) == 0) = !decide (((whyL b (l ++ [testE d ride]) ride d).length : Int) > 0) by
      cases h : whyL b (l ++ [testE d ride]) ride d with
      | nil => rfl
      | cons x r => rw [dec_t (by simp <;> omega), Bool.not_true, beq_eq_false_iff_ne]; simp <;> omega, hw, Bool.not_not]
  have hm : ride ∈ relL b (l ++ [testE d ride]) d ↔ relB b (l ++ [testE d ride]) d ride.toNat = true := by
    constructor
    · intro h
      obtain ⟨i, _, h2, h3⟩ := fil_mem h
      rw [show ride.toNat = i by omega]
      exact h2
    · intro h
      unfold relL fil
      exact List.mem_map.2 ⟨ride.toNat, List.mem_filter.2 ⟨List.mem_range.2 (by omega), h⟩, by omega⟩
  rw [hm, key, Bool.and_eq_true, decide_eq_true_eq]
theorem check_of {b : Book} {l : List Ent} (h : Good b l) : (checkR b l).2 = 0 := by rw [good_iff h]
theorem keep10d : (∀ (l : List Ent) (day : Int), (upto l day).length ≤ l.length) ∧ (∀ {a b : Int}, a ≠ b → (a != b) = true) ∧ (∀ {α : Type} (l : List α) (q : α → Bool), decide (idxI l q ≥ 0) = l.any q) ∧ (∀ (l : List Int) (_hl : l.length ≤ 1099511627776) (f : Int → Option Bool) (q : Int → Bool) (_hf : ∀ x ∈ l, f x = some (q x)), g45 (l, f, ()) = some ((l.any q, ()), ())) := ⟨upto_len, neq_t, idxI_nn, fun l hl f q hf => g45_eq l hl f q hf⟩
theorem innS_in {b : Book} {rule f : Int} {out : List (List Int)} (h : ∀ p, p ∈ out → ∃ x c, p = [x, c] ∧ signsB b rule x c = true) : ∀ j, ∀ p, p ∈ innS b rule f out j → ∃ x c, p = [x, c] ∧ signsB b rule x c = true
  | 0 => h
  | j + 1 => fun p hp => by
    rw [innS_succ] at hp
    split at hp
    · rename_i hs
      rcases List.mem_append.1 hp with hp | hp
      · exact innS_in h j p hp
      · exact ⟨f, (j : Int) - 1, List.mem_singleton.1 hp, hs⟩
    · exact innS_in h j p hp
theorem outS_in (b : Book) (rule : Int) : ∀ n, ∀ p, p ∈ outS b rule n → ∃ x c, p = [x, c] ∧ signsB b rule x c = true
  | 0 => fun p hp => by cases hp
  | n + 1 => innS_in (outS_in b rule n) _
structure VIn (b : Book) (ride a to every day : Int) (i r : Nat) (E : List Ent) : Prop where
  good : Good b E
  len : E.length ≤ 80
  cur : ∀ x, x ∈ E → x.1 ≤ a + every * (i : Int)
  day : ∀ x, x ∈ E → x.1 ≤ day
  ins : insR b E ride = to
  kind : ∀ x, x ∈ E → x.2.1 = 1 ∨ x.2.1 = 5
  last : ∀ k : Nat, k < r → (gd b.1 (k : Int)).1 = ride → lastC b E (k : Int) = a + every * (i : Int)
structure VInv (b : Book) (ride a to every day : Int) (i : Nat) (E : List Ent) : Prop where
  good : Good b E
  len : E.length ≤ 80
  cur : ∀ x, x ∈ E → x.1 ≤ a + every * (i : Int)
  day : ∀ x, x ∈ E → x.1 ≤ day
  ins : insR b E ride = to
  kind : ∀ x, x ∈ E → x.2.1 = 1 ∨ x.2.1 = 5
  last : ∀ j : Nat, i = j + 1 → ∀ k : Nat, k < b.1.length → (gd b.1 (k : Int)).1 = ride → lastC b E (k : Int) = a + every * (j : Int)
theorem VInv.start {b : Book} {ride a to every day : Int} (hb : bookOK b = true) (hr : rideB b ride = true) (ha : 0 ≤ a) (hat : a ≤ to) (ht : to ≤ 10000) (hd : a ≤ day) : VInv b ride a to every day 0 [(a, 5, ride, to, 0)] := by
  have hg : Good b [] := ⟨hb, by simp, fun i hi => absurd hi (by simp)⟩
  have hx : rightB b [] (a, 5, ride, to, 0) = true := by
    unfold rightB
    rw [Bool.and_eq_true]
    refine ⟨rng_iff.2 ⟨ha, by dsimp only; omega⟩, ?_⟩
    show (rideB b ride && rng to 0 10000 && ((0 : Int) == 0)) = true
    rw [hr, rng_iff.2 ⟨by omega, ht⟩]
    rfl
  refine ⟨hg.snoc' (x := (a, 5, ride, to, 0)) (by simp) hx, by simp, ?_, ?_, ?_, ?_, fun j h => absurd h (by omega)⟩
  · intro x hx
    rw [List.mem_singleton.1 hx]
    dsimp only
    omega
  · intro x hx
    rw [List.mem_singleton.1 hx]
    exact hd
  · show (if ((5 : Int) == 5 && ride == ride) = true then to else _) = to
    rw [if_pos (by simp)]
  · intro x hx
    rw [List.mem_singleton.1 hx]
    exact .inr rfl
theorem VInv.inner {b : Book} {ride a to every day : Int} {i : Nat} {E : List Ent} (h : VInv b ride a to every day i E) : VIn b ride a to every day i 0 E := ⟨h.good, h.len, h.cur, h.day, h.ins, h.kind, fun k hk => absurd hk (by omega)⟩
theorem VIn.skip {b : Book} {ride a to every day : Int} {i r : Nat} {E : List Ent} (h : VIn b ride a to every day i r E) (hn : (gd b.1 (r : Int)).1 ≠ ride) : VIn b ride a to every day i (r + 1) E :=
  ⟨h.good, h.len, h.cur, h.day, h.ins, h.kind, fun k hk e => by
    rcases Nat.lt_succ_iff_lt_or_eq.1 hk with hk | rfl
    · exact h.last k hk e
    · exact absurd e hn⟩
theorem VIn.add {b : Book} {ride a to every day : Int} {i r : Nat} {E : List Ent} (h : VIn b ride a to every day i r E) (hr : r < b.1.length) (hl : E.length < 80) {f c : Int} (hs : signsB b (r : Int) f c = true) (h0 : 0 ≤ a + every * (i : Int)) (hd : a + every * (i : Int) ≤ day) (hd2 : day ≤ 10000) :
    VIn b ride a to every day i (r + 1) (E ++ [(a + every * (i : Int), 1, (r : Int), f, c)]) := by
  have hx : rightB b E (a + every * (i : Int), 1, (r : Int), f, c) = true := by
    unfold rightB
    rw [Bool.and_eq_true]
    refine ⟨rng_iff.2 ⟨lastDay_le h0 (fun j hj => h.cur _ (gd_mem (by omega) (by omega))), by dsimp only; omega⟩, ?_⟩
    show (ruleB b (r : Int) && signsB b (r : Int) f c) = true
    rw [hs, ruleB_of hr]
    rfl
  have hl' : ∀ k : Int, lastC b (E ++ [(a + every * (i : Int), 1, (r : Int), f, c)]) k = if (r : Int) = k then a + every * (i : Int) else lastC b E k := by
    intro k
    unfold lastC
    rw [lastE_app]
    have e1 : wantC k (a + every * (i : Int), 1, (r : Int), f, c) = ((r : Int) == k) := by
      unfold wantC
      simp
    rw [e1]
    by_cases hk : (r : Int) = k
    · rw [if_pos hk, if_pos (by simpa using hk)]
    · rw [if_neg hk, if_neg (by simpa using hk)]
      rfl
  refine ⟨h.good.snoc' (by omega) hx, by simp; omega, ?_, ?_, ?_, ?_, ?_⟩
  · intro x hx
    rcases List.mem_append.1 hx with hx | hx
    · exact h.cur x hx
    · rw [List.mem_singleton.1 hx]
      exact Int.le_refl _
  · intro x hx
    rcases List.mem_append.1 hx with hx | hx
    · exact h.day x hx
    · rw [List.mem_singleton.1 hx]
      exact hd
  · rw [insR_app]
    exact h.ins
  · intro x hx
    rcases List.mem_append.1 hx with hx | hx
    · exact h.kind x hx
    · rw [List.mem_singleton.1 hx]
      exact .inl rfl
  · intro k hk e
    rw [hl']
    by_cases hkr : (r : Int) = (k : Int)
    · rw [if_pos hkr]
    · rw [if_neg hkr]
      exact h.last k (by omega) e
theorem VIn.done {b : Book} {ride a to every day : Int} {i : Nat} {E : List Ent} (h : VIn b ride a to every day i b.1.length E) (h0 : 0 ≤ every) : VInv b ride a to every day (i + 1) E :=
  ⟨h.good, h.len, fun x hx => by have := h.cur x hx; rw [mul_succ_i]; omega, h.day, h.ins, h.kind, fun j e k hk er => by
    obtain rfl : i = j := by omega
    exact h.last k hk er⟩
theorem VInv.fin {b : Book} {ride a to day : Int} {i : Nat} {E : List Ent} (h : VInv b ride a to (everyF b ride b.1.length) day i E) (h00 : 0 ≤ a) (ha : a ≤ day) (hd : day ≤ to) (ht : to ≤ 10000)
    (hx : i = many a to (everyF b ride b.1.length) ∨ day < a + everyF b ride b.1.length * (i : Int)) : day ≤ min (chkR b E ride b.1.length) (insR b E ride) ∧ soundB E ride = true := by
  have hb := h.good.book
  have hch : ∀ n, n ≤ b.1.length → day ≤ chkR b E ride n := by
    intro n
    induction n with
    | zero => intro _; show day ≤ 10000; omega
    | succ n ih =>
      intro hn
      have ih := ih (by omega)
      rw [chkR_succ]
      cases er : (gd b.1 (n : Int)).1 == ride with
      | false => exact ih
      | true =>
        have er' := eq_of_beq er
        obtain ⟨e0, e1⟩ := everyF_min hb ride b.1.length (Nat.le_refl _) n (by omega) er'
        have hi : 0 < i := by
          rcases hx with rfl | hx
          · exact (many_iff (a := a) (to := to) (by omega) e0 0).1 (by simp; omega)
          · cases i with
            | zero => simp at hx; omega
            | succ i => omega
        obtain ⟨j, rfl⟩ : ∃ j, i = j + 1 := ⟨i - 1, by omega⟩
        have hl := h.last j rfl n (by omega) er'
        have hn' : day < a + everyF b ride b.1.length * ((j + 1 : Nat) : Int) := by
          rcases hx with hx | hx
          · have hm := many_iff (a := a) (to := to) (by omega) e0 (j + 1)
            rw [hx] at hm
            have : ¬ (a + everyF b ride b.1.length * ((many a to (everyF b ride b.1.length) : Nat) : Int) ≤ to) := fun hh => absurd (hm.1 hh) (Nat.lt_irrefl _)
            rw [hx]
            omega
          · exact hx
        rw [mul_succ_i] at hn'
        have h0 : 0 ≤ everyF b ride b.1.length * (j : Int) := Int.mul_nonneg (by omega) (by omega)
        rw [if_pos rfl]
        have hu : day ≤ untilR b E (n : Int) := by
          unfold untilR
          rw [hl, if_neg (by omega)]
          omega
        omega
  have hins := h.ins
  refine ⟨by have := hch b.1.length (Nat.le_refl _); omega, ?_⟩
  have ho : openL E = [] := by
    unfold openL fil
    rw [List.map_eq_nil_iff, List.filter_eq_nil_iff]
    intro k hk
    have hk' := List.mem_range.1 hk
    have := h.kind _ (gd_mem (l := E) (i := (k : Int)) (by omega) (by omega))
    unfold openB
    rcases this with e | e <;> rw [e] <;> simp
  unfold soundB
  rw [ho]
  rfl
theorem visits_ok {b : Book} {ride a to : Int} (h : (visitsR b ride a to).2 = 0) : bookOK b = true ∧ rideB b ride = true ∧ (0 ≤ to ∧ to ≤ 10000) ∧ (0 ≤ a ∧ a ≤ to) ∧ many a to (everyF b ride b.1.length) ≤ 1000 ∧ (visitsR b ride a to).1 = vis a (everyF b ride b.1.length) (many a to (everyF b ride b.1.length)) := by
  unfold visitsR at h ⊢
  cases hb : bookOK b with
  | false => rw [hb] at h; exact absurd (show (100 : Int) = 0 from h) (by decide)
  | true =>
  rw [hb, if_pos rfl] at h
  rw [if_pos rfl]
  cases hc : (rideB b ride && rng to 0 10000 && rng a 0 to) with
  | false => rw [hc] at h; exact absurd (show (1 : Int) = 0 from h) (by decide)
  | true =>
  rw [hc, if_pos rfl] at h
  rw [if_pos rfl]
  simp only [Bool.and_eq_true, rng_iff] at hc
  by_cases hm : many a to (everyF b ride b.1.length) ≤ 1000
  · rw [if_pos hm]
    exact ⟨rfl, hc.1.1, hc.1.2, hc.2, hm, rfl⟩
  · rw [if_neg hm] at h
    exact absurd (show (2 : Int) = 0 from h) (by decide)
theorem sized20 {b : Book} (h : bookOK b = true) : b.1.length ≤ 20 := by
  simp only [bookOK, sizesOK, Bool.and_eq_true, decide_eq_true_eq] at h
  exact h.1.1.1.1.1
theorem nzK_in {R : Type} {a : Int} (h : a ≠ 0) (k : Option R) : nzK a k = k := by
  unfold nzK
  rw [if_neg h]
theorem root10v : (∀ b ride a to, g11 (b, ride, a, to, ()) = some (((visitsR b ride a to).1, (visitsR b ride a to).2, ()), ())) ∧ (∀ b rule, g12 (b, rule, ()) = some (((signsR b rule).1, (signsR b rule).2, ()), ())) := ⟨g11_eq, g12_eq⟩
end Go.Proofs.Try.V.L10
