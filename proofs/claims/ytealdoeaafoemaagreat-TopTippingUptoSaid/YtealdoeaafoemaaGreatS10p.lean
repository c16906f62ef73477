/- Plain laws: what the last text needs of the others, in one. No condition beyond those typed in each theorem. -/
import Derived.Test.YtealdoeaafoemaaGreatFn1
namespace Go.Proofs.Tryz.V.L10
open Go.Vi
set_option maxRecDepth 100000
abbrev Rule := Int × (Int × (Int × Bool))
abbrev Book := (List Rule) × ((List Int) × (List Int))
abbrev Ent := Int × (Int × (Int × (Int × Int)))
abbrev Log := Book × (List Ent)
theorem loopIdx {α D R : Type} [Inhabited α] {L : Nat → D → Option R} (mk : Nat → D) (l : List α) (q : α → Bool) (hit : Nat → R) (e : R) (c : Nat) {N : Nat} (hN : l.length + c < N)
  (hend : ∀ N, L (N + 1) (mk l.length) = some e)
  (hstep : ∀ N i, c ≤ N → i < l.length → L (N + 1) (mk i) = if q (gd l (i : Int)) then some (hit i) else L N (mk (i + 1))) :
  L N (mk 0) = some (match l.findIdx? q with | some i => hit i | none => e) := by
 have key : ∀ (d i : Nat) (N : Nat), i + d = l.length → d + c < N → L N (mk i) = some (match (l.drop i).findIdx? q with | some j => hit (i + j) | none => e) := by
  intro d
  induction d with
  | zero =>
   intro i N hi hN
   obtain ⟨m, rfl⟩ : ∃ m, N = m + 1 := ⟨N - 1, by omega⟩
   obtain rfl : i = l.length := by omega
   rw [hend, List.drop_length]
   rfl
  | succ d ih =>
   intro i N hi hN
   obtain ⟨m, rfl⟩ : ∃ m, N = m + 1 := ⟨N - 1, by omega⟩
   rw [hstep m i (by omega) (by omega), qd8 (by omega), List.findIdx?_cons]
   cases hq : q (gd l (i : Int)) with
   | true => rfl
   | false =>
    rw [if_neg (by simp), ih (i + 1) m (by omega) (by omega)]
    simp only [Bool.false_eq_true, if_false]
    cases (l.drop (i + 1)).findIdx? q with
    | none => rfl
    | some j =>
     simp only [Option.map_some]
     rw [show i + (j + 1) = i + 1 + j by omega]
 have := key l.length 0 N (by omega) hN
 simpa using this
theorem qbu {α : Type} {l : List α} {q : α → Bool} : (l.findIdx? q).isNone = l.all (fun x => !q x) := by
 induction l with
 | nil => rfl
 | cons x l _ =>
  rw [List.findIdx?_cons, List.all_cons]
  cases q x with
  | true => rfl
  | false => simp
theorem loopAll {α D R : Type} [Inhabited α] {L : Nat → D → Option R} (mk : Nat → D) (l : List α) (p : α → Bool) (bad good : R) (c : Nat) {N : Nat} (hN : l.length + c < N)
  (hend : ∀ N, L (N + 1) (mk l.length) = some good)
  (hstep : ∀ N i, c ≤ N → i < l.length → L (N + 1) (mk i) = if p (gd l (i : Int)) then L N (mk (i + 1)) else some bad) :
  L N (mk 0) = some (if l.all p then good else bad) := by
 rw [loopIdx mk l (fun x => !p x) (fun _ => bad) good c hN hend (fun N i hc hi => by
  rw [hstep N i hc hi]
  cases p (gd l (i : Int)) <;> rfl)]
 have := qbu (l := l) (q := fun x => !p x)
 simp only [Bool.not_not] at this
 cases h : l.findIdx? (fun x => !p x) with
 | none =>
  rw [h] at this
  simp only [Option.isNone_none] at this
  rw [← this]
  rfl
 | some i =>
  rw [h] at this
  simp only [Option.isNone_some] at this
  rw [← this]
  rfl
def jD (x lo hi : Int) : Bool := decide (lo ≤ x) && decide (x ≤ hi)
theorem g94_eq (x lo hi : Int) : g94 (x, lo, hi, ()) = some ((jD x lo hi, ()), ()) := by
 show F94 qc x lo hi = _
 unfold F94 jD
 by_cases h : lo ≤ x
 ·rw [qu (p := x ≥ lo) h]; rfl
 ·rw [qD (p := x ≥ lo) h]; rfl
theorem g59_eq (x lo hi : Int) : g59 (x, lo, hi, ()) = some ((jD x lo hi, ()), ()) := by
 show F59 qc x lo hi = _
 unfold F59 jD
 by_cases h : lo ≤ x
 ·rw [qu (p := x ≥ lo) h]; rfl
 ·rw [qD (p := x ≥ lo) h]; rfl
def idxI {α : Type} (l : List α) (q : α → Bool) : Int := match l.findIdx? q with | some i => (i : Int) | none => -1
theorem idxI_nn {α : Type} (l : List α) (q : α → Bool) : decide (idxI l q ≥ 0) = l.any q := by
 have h := qbu (l := l) (q := q)
 unfold idxI
 cases hf : l.findIdx? q with
 | some i =>
  rw [hf] at h
  simp only [Option.isNone_some] at h
  show decide ((i : Int) ≥ 0) = _
  rw [qu (by omega)]
  rw [List.all_eq_not_any_not] at h
  simpa using h
 | none =>
  rw [hf] at h
  simp only [Option.isNone_none] at h
  show decide ((-1 : Int) ≥ 0) = _
  rw [qD (by omega)]
  rw [List.all_eq_not_any_not] at h
  simpa using h
theorem g124_eq (l : List Rule) (hl : l.length ≤ 1099511627776) (f : Rule → Option Bool) (q : Rule → Bool) (hf : ∀ x ∈ l, f x = some (q x)) : g124 (l, f, ()) = some ((idxI l q, ()), ()) := by
 show F124 qc l f = _
 unfold F124
 have h := loopIdx (L := L124_2) (fun i => ((l, f, (l.length : Int), (i : Int), ()), (), ())) l q (fun i => .inl (((i : Int), ()), (), ())) (.inr ((), (), ())) 0 (N := qc) (by have := qP; omega)
  (fun N => by simp [L124_2, B124_2])
  (fun N i _ hi => by
   simp only [L124_2, B124_2]
   rw [qu (by omega), cond_true, qk (by omega) (by omega), hf _ (qau (by omega) (by omega)), qb, wI (by omega) (by omega)]
   cases q (gd l (i : Int)) <;> rfl)
 have h' : L124_2 qc ((l, f, (l.length : Int), 0, ()), (), ()) = _ := h
 rw [h', qb]
 unfold idxI
 cases l.findIdx? q <;> rfl
theorem g70_eq (l : List Int) (hl : l.length ≤ 1099511627776) (f : Int → Option Bool) (q : Int → Bool) (hf : ∀ x ∈ l, f x = some (q x)) : g70 (l, f, ()) = some ((idxI l q, ()), ()) := by
 show F70 qc l f = _
 unfold F70
 have h := loopIdx (L := L70_2) (fun i => ((l, f, (l.length : Int), (i : Int), ()), (), ())) l q (fun i => .inl (((i : Int), ()), (), ())) (.inr ((), (), ())) 0 (N := qc) (by have := qP; omega)
  (fun N => by simp [L70_2, B70_2])
  (fun N i _ hi => by
   simp only [L70_2, B70_2]
   rw [qu (by omega), cond_true, qk (by omega) (by omega), hf _ (qau (by omega) (by omega)), qb, wI (by omega) (by omega)]
   cases q (gd l (i : Int)) <;> rfl)
 have h' : L70_2 qc ((l, f, (l.length : Int), 0, ()), (), ()) = _ := h
 rw [h', qb]
 unfold idxI
 cases l.findIdx? q <;> rfl
theorem g118_eq (l : List Ent) (hl : l.length ≤ 1099511627776) (f : Ent → Option Bool) (q : Ent → Bool) (hf : ∀ x ∈ l, f x = some (q x)) : g118 (l, f, ()) = some ((idxI l q, ()), ()) := by
 show F118 qc l f = _
 unfold F118
 have h := loopIdx (L := L118_2) (fun i => ((l, f, (l.length : Int), (i : Int), ()), (), ())) l q (fun i => .inl (((i : Int), ()), (), ())) (.inr ((), (), ())) 0 (N := qc) (by have := qP; omega)
  (fun N => by simp [L118_2, B118_2])
  (fun N i _ hi => by
   simp only [L118_2, B118_2]
   rw [qu (by omega), cond_true, qk (by omega) (by omega), hf _ (qau (by omega) (by omega)), qb, wI (by omega) (by omega)]
   cases q (gd l (i : Int)) <;> rfl)
 have h' : L118_2 qc ((l, f, (l.length : Int), 0, ()), (), ()) = _ := h
 rw [h', qb]
 unfold idxI
 cases l.findIdx? q <;> rfl
theorem g110_eq (l : List Rule) (hl : l.length ≤ 1099511627776) (f : Rule → Option Bool) (q : Rule → Bool) (hf : ∀ x ∈ l, f x = some (q x)) : g110 (l, f, ()) = some ((l.any q, ()), ()) := by
 show F110 qc l f = _
 unfold F110
 rw [g124_eq l hl f q hf, qb, idxI_nn]
theorem g51_eq (l : List Int) (hl : l.length ≤ 1099511627776) (f : Int → Option Bool) (q : Int → Bool) (hf : ∀ x ∈ l, f x = some (q x)) : g51 (l, f, ()) = some ((l.any q, ()), ()) := by
 show F51 qc l f = _
 unfold F51
 rw [g70_eq l hl f q hf, qb, idxI_nn]
theorem g126_eq (l : List Ent) (hl : l.length ≤ 1099511627776) (f : Ent → Option Bool) (q : Ent → Bool) (hf : ∀ x ∈ l, f x = some (q x)) : g126 (l, f, ()) = some ((l.any q, ()), ()) := by
 show F126 qc l f = _
 unfold F126
 rw [g118_eq l hl f q hf, qb, idxI_nn]
def qdY (b : Book) (r : Rule) : Bool := jD r.1 0 ((b.2.2.length : Int) - 1) && jD r.2.1 1 10000 && jD r.2.2.1 0 9
def qgo (b : Book) : Bool := decide (b.1.length ≤ 20) && decide (b.2.1.length ≤ 8) && decide (b.2.2.length ≤ 10)
def qa9 (b : Book) : Bool := qgo b && b.1.all (qdY b) && b.2.1.all (fun n => jD n 0 9) && b.2.2.all (fun n => jD n 0 10000)
theorem any_not {α : Type} (l : List α) (p : α → Bool) : l.any (fun x => !p x) = !l.all p := by
 rw [List.any_eq_not_all_not]
 simp
theorem g92_eq (b : Book) : g92 (b, ()) = some ((if qa9 b then 0 else 100, ()), ()) := by
 show F92 qc b = _
 unfold F92 qa9 qgo
 by_cases h1 : b.1.length ≤ 20
 case neg => rw [qu (by omega), qD h1]; rfl
 rw [qD (by omega), qu h1, cond_false]
 by_cases h2 : b.2.1.length ≤ 8
 case neg => rw [qu (by omega), qD h2]; rfl
 rw [qD (by omega), qu h2, cond_false]
 by_cases h3 : b.2.2.length ≤ 10
 case neg => rw [qu (by omega), qD h3]; rfl
 rw [qD (by omega), qu h3, cond_false]
 rw [g110_eq b.1 (by omega) _ (fun r => !qdY b r) (fun r _ => by
  show qa (F111 qc r b) _ = _
  unfold F111 qdY
  simp only [g94_eq, qb]
  rw [wI (by omega) (by omega)]
  cases jD r.1 0 ((b.2.2.length : Int) - 1) with
  | false => rfl
  | true =>
   cases jD r.2.1 1 10000 with
   | false => rfl
   | true => rfl)]
 rw [qb, any_not]
 cases b.1.all (qdY b) with
 | false => rfl
 | true =>
 rw [g51_eq b.2.1 (by omega) _ (fun n => !jD n 0 9) (fun n _ => by
  show qa (F112 qc n) _ = _
  unfold F112
  simp only [g94_eq, qb])]
 rw [qb, any_not]
 cases b.2.1.all (fun n => jD n 0 9) with
 | false => rfl
 | true =>
 rw [g51_eq b.2.2 (by omega) _ (fun n => !jD n 0 10000) (fun n _ => by
  show qa (F113 qc n) _ = _
  unfold F113
  simp only [g94_eq, qb])]
 simp only [Bool.not_true, cond_false, qb, any_not]
 cases b.2.2.all (fun n => jD n 0 10000) with
 | false => rfl
 | true => rfl
theorem g43_eq (b : Book) : g43 (b, ()) = some ((if qa9 b then 0 else 100, ()), ()) := by
 show F43 qc b = _
 unfold F43 qa9 qgo
 by_cases h1 : b.1.length ≤ 20
 case neg => rw [qu (by omega), qD h1]; rfl
 rw [qD (by omega), qu h1, cond_false]
 by_cases h2 : b.2.1.length ≤ 8
 case neg => rw [qu (by omega), qD h2]; rfl
 rw [qD (by omega), qu h2, cond_false]
 by_cases h3 : b.2.2.length ≤ 10
 case neg => rw [qu (by omega), qD h3]; rfl
 rw [qD (by omega), qu h3, cond_false]
 have e1 : L43_4 qc ((0, ()), (b, ()), ()) = _ := loopAll (L := L43_4) (fun i => (((i : Int), ()), (b, ()), ())) b.1 (qdY b) (.inl ((100, ()), (), ())) (.inr ((), (b, ()), ())) 0 (by have := qP; omega)
  (fun N => by simp [L43_4, B43_4])
  (fun N i _ hi => by
   simp only [L43_4, B43_4]
   rw [qu (by omega), cond_true, qk (by omega) (by omega)]
   simp only [g59_eq, qb]
   rw [wI (x := (b.2.2.length : Int) - 1) (by omega) (by omega), wI (by omega) (by omega)]
   unfold qdY
   cases jD (gd b.1 (i : Int)).1 0 ((b.2.2.length : Int) - 1) with
   | false => rfl
   | true =>
    cases jD (gd b.1 (i : Int)).2.1 1 10000 with
    | false => rfl
    | true => cases jD (gd b.1 (i : Int)).2.2.1 0 9 <;> rfl)
 rw [e1, qb]
 cases b.1.all (qdY b) with
 | false => rfl
 | true =>
 simp only [if_true, qcG]
 have e2 : L43_10 qc ((0, ()), (b, ()), ()) = _ := loopAll (L := L43_10) (fun i => (((i : Int), ()), (b, ()), ())) b.2.1 (fun n => jD n 0 9) (.inl ((100, ()), (), ())) (.inr ((), (b, ()), ())) 0 (by have := qP; omega)
  (fun N => by simp [L43_10, B43_10])
  (fun N i _ hi => by
   simp only [L43_10, B43_10]
   rw [qu (by omega), cond_true, qk (by omega) (by omega)]
   simp only [g59_eq, qb]
   rw [wI (by omega) (by omega)]
   cases jD (gd b.2.1 (i : Int)) 0 9 <;> rfl)
 rw [e2, qb]
 cases b.2.1.all (fun n => jD n 0 9) with
 | false => rfl
 | true =>
 simp only [if_true, qcG]
 have e3 : L43_15 qc ((0, ()), (b, ()), ()) = _ := loopAll (L := L43_15) (fun i => (((i : Int), ()), (b, ()), ())) b.2.2 (fun n => jD n 0 10000) (.inl ((100, ()), (), ())) (.inr ((), (), ())) 0 (by have := qP; omega)
  (fun N => by simp [L43_15, B43_15])
  (fun N i _ hi => by
   simp only [L43_15, B43_15]
   rw [qu (by omega), cond_true, qk (by omega) (by omega)]
   simp only [g59_eq, qb]
   rw [wI (by omega) (by omega)]
   cases jD (gd b.2.2 (i : Int)) 0 10000 <;> rfl)
 rw [e3, qb]
 cases b.2.2.all (fun n => jD n 0 10000) with
 | false => rfl
 | true => rfl
structure qdl (b : Book) : Prop where
 rules : b.1.length ≤ 1048576
 ranks : b.2.1.length ≤ 1048576
 rides : b.2.2.length ≤ 1048576
theorem qe0 {b : Book} (h : qa9 b = true) : qdl b := by
 simp only [qa9, qgo, Bool.and_eq_true, decide_eq_true_eq] at h
 exact ⟨by omega, by omega, by omega⟩
def rideB (b : Book) (n : Int) : Bool := jD n 0 ((b.2.2.length : Int) - 1)
def qcr (b : Book) (n : Int) : Bool := jD n 0 ((b.2.1.length : Int) - 1)
def qcI (b : Book) (n : Int) : Bool := jD n 0 ((b.1.length : Int) - 1)
def mayB (b : Book) (rule n : Int) : Bool := qcr b n && decide ((gd b.1 rule).2.2.1 ≤ gd b.2.1 n)
def qgG (b : Book) (rule a c : Int) : Bool := if (gd b.1 rule).2.2.2 then mayB b rule a && mayB b rule c && (a != c) else mayB b rule a && (c == -1)
def qcU (l : List Ent) (n : Int) : Bool := l.any fun x => x.2.1 == 3 && x.2.2.1 == n
def qdK (l : List Ent) (n : Int) : Bool := jD n 0 ((l.length : Int) - 1) && ((gd l n).2.1 == 2) && !qcU l n
def lastDay (l : List Ent) : Int := if l.length = 0 then 0 else (gd l ((l.length : Int) - 1)).1
def qg4 (b : Book) (l : List Ent) (x : Ent) : Bool :=
 if x.2.1 == 1 then qcI b x.2.2.1 && qgG b x.2.2.1 x.2.2.2.1 x.2.2.2.2
 else if x.2.1 == 2 then rideB b x.2.2.1 && jD x.2.2.2.1 1 3 && (x.2.2.2.2 == 0)
 else if x.2.1 == 3 then qdK l x.2.2.1 && qcr b x.2.2.2.1 && (x.2.2.2.2 == 0)
 else if x.2.1 == 4 then rideB b x.2.2.1 && qcr b x.2.2.2.1 && (x.2.2.2.2 == 0)
 else if x.2.1 == 5 then rideB b x.2.2.1 && jD x.2.2.2.1 0 10000 && (x.2.2.2.2 == 0)
 else if x.2.1 == 6 then rideB b x.2.2.1 && (x.2.2.2.1 == 0) && (x.2.2.2.2 == 0)
 else false
def qa7 (b : Book) (l : List Ent) (x : Ent) : Bool := jD x.1 (lastDay l) 10000 && qg4 b l x
theorem qG {x lo hi : Int} : jD x lo hi = true ↔ lo ≤ x ∧ x ≤ hi := by simp [jD]
theorem g115_eq (b : Book) (l : List Ent) (n : Int) (hb : qdl b) : g115 ((b, l), n, ()) = some ((rideB b n, ()), ()) := by
 show F115 qc (b, l) n = _
 unfold F115
 have := hb.rides
 simp only [g94_eq, qb]
 rw [wI (by omega) (by omega)]
 rfl
theorem g117_eq (b : Book) (l : List Ent) (n : Int) (hb : qdl b) : g117 ((b, l), n, ()) = some ((qcr b n, ()), ()) := by
 show F117 qc (b, l) n = _
 unfold F117
 have := hb.ranks
 simp only [g94_eq, qb]
 rw [wI (by omega) (by omega)]
 rfl
theorem g125_eq (b : Book) (l : List Ent) (rule n : Int) (hb : qdl b) (hr : qcI b rule = true) : g125 ((b, l), rule, n, ()) = some ((mayB b rule n, ()), ()) := by
 show F125 qc (b, l) rule n = _
 unfold F125 mayB
 rw [g117_eq b l n hb, qb]
 cases h : qcr b n with
 | false => rfl
 | true =>
  have h := qG.1 h
  have hr := qG.1 hr
  simp only [cond_true]
  rw [qk (by omega) (by omega), qk (by omega) (by omega)]
  rfl
theorem g114_eq (b : Book) (l : List Ent) (rule a c : Int) (hb : qdl b) (hr : qcI b rule = true) : g114 ((b, l), rule, a, c, ()) = some ((qgG b rule a c, ()), ()) := by
 show F114 qc (b, l) rule a c = _
 unfold F114 qgG
 have hr' := qG.1 hr
 simp only [g125_eq b l rule _ hb hr, qb]
 rw [qk (by omega) (by omega)]
 cases (gd b.1 rule).2.2.2 with
 | false => cases mayB b rule a <;> rfl
 | true =>
  cases mayB b rule a with
  | false => rfl
  | true => cases mayB b rule c <;> rfl
theorem g60_eq (b : Book) (rule a c : Int) (hb : qdl b) (hr : qcI b rule = true) : g60 (b, rule, a, c, ()) = some ((qgG b rule a c, ()), ()) := by
 show F60 qc b rule a c = _
 unfold F60 qgG mayB
 have := hb.ranks
 have hr' := qG.1 hr
 rw [qk (by omega) (by omega), g59_eq, qb, wI (by omega) (by omega)]
 show cond (!qcr b a) _ _ = _
 cases h : qcr b a with
 | false => cases (gd b.1 rule).2.2.2 <;> rfl
 | true =>
  have h := qG.1 h
  simp only [Bool.not_true, cond_false]
  rw [qk (by omega) (by omega)]
  by_cases h2 : (gd b.1 rule).2.2.1 ≤ gd b.2.1 a
  case neg =>
   rw [qu (by omega), qD h2]
   cases (gd b.1 rule).2.2.2 <;> rfl
  rw [qD (by omega), qu h2, cond_false]
  cases (gd b.1 rule).2.2.2 with
  | false => rfl
  | true =>
   simp only [Bool.not_true, cond_false, g59_eq, qb]
   show cond (qcr b c) _ _ = _
   cases h3 : qcr b c with
   | false => rfl
   | true =>
    have h3 := qG.1 h3
    simp only [cond_true]
    have e : (c != a) = (a != c) := by
     rw [Bool.eq_iff_iff]
     simp only [bne_iff_ne, ne_eq]
     exact not_congr ⟨Eq.symm, Eq.symm⟩
    rw [e, qk (by omega) (by omega)]
    cases a != c with
    | false => simp
    | true => simp
theorem g116_eq (b : Book) (l : List Ent) (n : Int) (hl : l.length ≤ 1048576) : g116 ((b, l), n, ()) = some ((qcU l n, ()), ()) := by
 show F116 qc (b, l) n = _
 unfold F116
 rw [g126_eq l (by omega) _ (fun x => x.2.1 == 3 && x.2.2.1 == n) (fun x _ => by
  show qa (F127 qc x n) _ = _
  unfold F127
  cases x.2.1 == 3 <;> rfl)]
 rfl
theorem g61_eq (l : List Ent) (n : Int) (hl : l.length ≤ 1048576) : g61 (l, n, ()) = some ((qdK l n, ()), ()) := by
 show F61 qc l n = _
 unfold F61 qdK
 rw [g59_eq, qb, wI (by omega) (by omega)]
 cases h : jD n 0 ((l.length : Int) - 1) with
 | false => rfl
 | true =>
  have h := qG.1 h
  simp only [Bool.not_true, cond_false]
  rw [qk (by omega) (by omega)]
  cases h2 : (gd l n).2.1 == 2 with
  | false => rw [show ((gd l n).2.1 != 2) = true by unfold bne; rw [h2]; rfl]; rfl
  | true =>
   rw [show ((gd l n).2.1 != 2) = false by unfold bne; rw [h2]; rfl, cond_false]
   have e : L61_4 qc ((l, n, 0, ()), (), ()) = _ := loopAll (L := L61_4) (fun i => ((l, n, (i : Int), ()), (), ())) l (fun x => !(x.2.1 == 3 && x.2.2.1 == n)) (.inl ((false, ()), (), ())) (.inr ((), (), ())) 0 (by have := qP; omega)
    (fun N => by simp [L61_4, B61_4])
    (fun N i _ hi => by
     simp only [L61_4, B61_4]
     rw [qu (by omega), cond_true, qk (by omega) (by omega), qk (by omega) (by omega), wI (by omega) (by omega)]
     cases (gd l (i : Int)).2.1 == 3 with
     | false => rfl
     | true => cases (gd l (i : Int)).2.2.1 == n <;> rfl)
   rw [e, qb]
   have : qcU l n = !l.all (fun x => !(x.2.1 == 3 && x.2.2.1 == n)) := by
    rw [← any_not]
    simp only [Bool.not_not]
    rfl
   rw [this]
   cases l.all (fun x => !(x.2.1 == 3 && x.2.2.1 == n)) <;> rfl
theorem qap {a b : Bool} : (cond a (some ((b, ()), ())) (some ((false, ()), ())) : Option ((Bool × Unit) × Unit)) = some ((a && b, ()), ()) := by cases a <;> rfl
theorem g93_eq (b : Book) (l : List Ent) (x : Ent) (hb : qdl b) (hl : l.length ≤ 1048576) : g93 ((b, l), x, ()) = some ((qa7 b l x, ()), ()) := by
 show F93 qc (b, l) x = _
 unfold F93 qa7 lastDay
 have hr := hb.rules
 simp only [g94_eq, g115_eq b l _ hb, g117_eq b l _ hb, g116_eq b l _ hl, qb]
 rw [wI (x := (b.1.length : Int) - 1) (by omega) (by omega), wI (x := (l.length : Int) - 1) (by omega) (by omega)]
 by_cases h0 : l.length = 0
 ·rw [if_pos h0, qD (by omega), cond_false]
  cases jD x.1 0 10000 with
  | false => rfl
  | true =>
   unfold qg4
   simp only [Bool.not_true, cond_false, Bool.true_and]
   cases h1 : x.2.1 == 1 with
   | true =>
    simp only [cond_true, if_true]
    show cond (qcI b x.2.2.1) _ _ = _
    cases h : qcI b x.2.2.1 with
    | false => rfl
    | true => simp only [cond_true, g114_eq b l _ _ _ hb h, qb, Bool.true_and]
   | false =>
   simp only [cond_false, Bool.false_eq_true, if_false]
   cases h2 : x.2.1 == 2 with
   | true => simp only [cond_true, if_true, qap, Bool.and_assoc]
   | false =>
   simp only [cond_false, Bool.false_eq_true, if_false]
   cases h3 : x.2.1 == 3 with
   | true =>
    simp only [cond_true, if_true]
    unfold qdK
    cases h : jD x.2.2.1 0 ((l.length : Int) - 1) with
    | false => rfl
    | true =>
     have h := qG.1 h
     simp only [cond_true]
     rw [qk (by omega) (by omega)]
     cases (gd l x.2.2.1).2.1 == 2 with
     | false => rfl
     | true =>
      cases qcU l x.2.2.1 with
      | true => rfl
      | false => simp only [cond_true, Bool.not_false, qap, Bool.true_and, Bool.and_assoc]
   | false =>
   simp only [cond_false, Bool.false_eq_true, if_false]
   cases h4 : x.2.1 == 4 with
   | true => simp only [cond_true, if_true, qap, Bool.and_assoc]
   | false =>
   simp only [cond_false, Bool.false_eq_true, if_false]
   cases h5 : x.2.1 == 5 with
   | true => simp only [cond_true, if_true, qap, Bool.and_assoc]
   | false =>
   simp only [cond_false, Bool.false_eq_true, if_false]
   cases h6 : x.2.1 == 6 with
   | true => simp only [cond_true, if_true, qap, Bool.and_assoc]
   | false => rfl
 ·rw [if_neg h0, qu (by omega), cond_true, qk (by omega) (by omega)]
  cases jD x.1 (gd l ((l.length : Int) - 1)).1 10000 with
  | false => rfl
  | true =>
   unfold qg4
   simp only [Bool.not_true, cond_false, Bool.true_and]
   cases h1 : x.2.1 == 1 with
   | true =>
    simp only [cond_true, if_true]
    show cond (qcI b x.2.2.1) _ _ = _
    cases h : qcI b x.2.2.1 with
    | false => rfl
    | true => simp only [cond_true, g114_eq b l _ _ _ hb h, qb, Bool.true_and]
   | false =>
   simp only [cond_false, Bool.false_eq_true, if_false]
   cases h2 : x.2.1 == 2 with
   | true => simp only [cond_true, if_true, qap, Bool.and_assoc]
   | false =>
   simp only [cond_false, Bool.false_eq_true, if_false]
   cases h3 : x.2.1 == 3 with
   | true =>
    simp only [cond_true, if_true]
    unfold qdK
    cases h : jD x.2.2.1 0 ((l.length : Int) - 1) with
    | false => rfl
    | true =>
     have h := qG.1 h
     simp only [cond_true]
     rw [qk (by omega) (by omega)]
     cases (gd l x.2.2.1).2.1 == 2 with
     | false => rfl
     | true =>
      cases qcU l x.2.2.1 with
      | true => rfl
      | false => simp only [cond_true, Bool.not_false, qap, Bool.true_and, Bool.and_assoc]
   | false =>
   simp only [cond_false, Bool.false_eq_true, if_false]
   cases h4 : x.2.1 == 4 with
   | true => simp only [cond_true, if_true, qap, Bool.and_assoc]
   | false =>
   simp only [cond_false, Bool.false_eq_true, if_false]
   cases h5 : x.2.1 == 5 with
   | true => simp only [cond_true, if_true, qap, Bool.and_assoc]
   | false =>
   simp only [cond_false, Bool.false_eq_true, if_false]
   cases h6 : x.2.1 == 6 with
   | true => simp only [cond_true, if_true, qap, Bool.and_assoc]
   | false => rfl
theorem g44_eq (b : Book) (l : List Ent) (x : Ent) (hb : qdl b) (hl : l.length ≤ 1048576) : g44 (b, l, x, ()) = some ((qa7 b l x, ()), ()) := by
 show F44 qc b l x = _
 unfold F44 qa7 lastDay
 have h1 := hb.rules
 have h2 := hb.ranks
 have h3 := hb.rides
 simp only [g59_eq, g61_eq l _ hl, qb]
 rw [wI (x := (b.1.length : Int) - 1) (by omega) (by omega), wI (x := (l.length : Int) - 1) (by omega) (by omega), wI (x := (b.2.1.length : Int) - 1) (by omega) (by omega), wI (x := (b.2.2.length : Int) - 1) (by omega) (by omega)]
 by_cases h0 : l.length = 0
 ·rw [if_pos h0, qD (by omega), cond_false]
  cases jD x.1 0 10000 with
  | false => rfl
  | true =>
   unfold qg4
   simp only [Bool.not_true, cond_false, Bool.true_and]
   cases h1 : x.2.1 == 1 with
   | true =>
    simp only [cond_true, if_true]
    show cond (qcI b x.2.2.1) _ _ = _
    cases h : qcI b x.2.2.1 with
    | false => rfl
    | true => simp only [cond_true, g60_eq b _ _ _ hb h, qb, Bool.true_and]
   | false =>
   simp only [cond_false, Bool.false_eq_true, if_false]
   cases h2 : x.2.1 == 2 with
   | true => simp only [cond_true, if_true, qap, Bool.and_assoc]; rfl
   | false =>
   simp only [cond_false, Bool.false_eq_true, if_false]
   cases h3 : x.2.1 == 3 with
   | true => simp only [cond_true, if_true, qap, Bool.and_assoc]; rfl
   | false =>
   simp only [cond_false, Bool.false_eq_true, if_false]
   cases h4 : x.2.1 == 4 with
   | true => simp only [cond_true, if_true, qap, Bool.and_assoc]; rfl
   | false =>
   simp only [cond_false, Bool.false_eq_true, if_false]
   cases h5 : x.2.1 == 5 with
   | true => simp only [cond_true, if_true, qap, Bool.and_assoc]; rfl
   | false =>
   simp only [cond_false, Bool.false_eq_true, if_false]
   cases h6 : x.2.1 == 6 with
   | true => simp only [cond_true, if_true, qap, Bool.and_assoc]; rfl
   | false => rfl
 ·rw [if_neg h0, qu (by omega), cond_true, qk (by omega) (by omega)]
  cases jD x.1 (gd l ((l.length : Int) - 1)).1 10000 with
  | false => rfl
  | true =>
   unfold qg4
   simp only [Bool.not_true, cond_false, Bool.true_and]
   cases h1 : x.2.1 == 1 with
   | true =>
    simp only [cond_true, if_true]
    show cond (qcI b x.2.2.1) _ _ = _
    cases h : qcI b x.2.2.1 with
    | false => rfl
    | true => simp only [cond_true, g60_eq b _ _ _ hb h, qb, Bool.true_and]
   | false =>
   simp only [cond_false, Bool.false_eq_true, if_false]
   cases h2 : x.2.1 == 2 with
   | true => simp only [cond_true, if_true, qap, Bool.and_assoc]; rfl
   | false =>
   simp only [cond_false, Bool.false_eq_true, if_false]
   cases h3 : x.2.1 == 3 with
   | true => simp only [cond_true, if_true, qap, Bool.and_assoc]; rfl
   | false =>
   simp only [cond_false, Bool.false_eq_true, if_false]
   cases h4 : x.2.1 == 4 with
   | true => simp only [cond_true, if_true, qap, Bool.and_assoc]; rfl
   | false =>
   simp only [cond_false, Bool.false_eq_true, if_false]
   cases h5 : x.2.1 == 5 with
   | true => simp only [cond_true, if_true, qap, Bool.and_assoc]; rfl
   | false =>
   simp only [cond_false, Bool.false_eq_true, if_false]
   cases h6 : x.2.1 == 6 with
   | true => simp only [cond_true, if_true, qap, Bool.and_assoc]; rfl
   | false => rfl
theorem gd_range {n i : Nat} (h : i < n) : gd (List.range n) (i : Int) = i := qdM (by simp [h])
def qgb (b : Book) (l : List Ent) : Option Nat := (List.range l.length).findIdx? fun i => !qa7 b (l.take i) (gd l (i : Int))
def badB (b : Book) (l : List Ent) (i : Nat) : Bool := !qa7 b (l.take i) (gd l (i : Int))
theorem g81_bad (b : Book) (l : List Ent) (h : qa9 b = false) : ∃ z, g81 (b, l, ()) = some ((z, 0, 100, ()), ()) := by
 refine ⟨(([], ([], [])), []), ?_⟩
 show F81 qc b l = _
 unfold F81
 rw [g92_eq, qb, h]
 rfl
theorem g81_many (b : Book) (l : List Ent) (h : qa9 b = true) (hl : 100 < l.length) : ∃ z, g81 (b, l, ()) = some ((z, 0, 2, ()), ()) := by
 refine ⟨(([], ([], [])), []), ?_⟩
 show F81 qc b l = _
 unfold F81
 rw [g92_eq, qb, h]
 show cond (decide ((l.length : Int) > 100)) _ _ = _
 rw [qu (by omega)]
 rfl
theorem g81_eq (b : Book) (l : List Ent) (h : qa9 b = true) (hl : l.length ≤ 100) :
  g81 (b, l, ()) = some ((match qgb b l with | some i => ((b, l.take i), (i : Int), 101, ()) | none => ((b, l), 0, 0, ())), ()) := by
 have hb := qe0 h
 show F81 qc b l = _
 unfold F81
 rw [g92_eq, qb, h]
 show cond (decide ((l.length : Int) > 100)) _ _ = _
 rw [qD (by omega), cond_false]
 have e := loopIdx (L := L81_8) (fun i => ((l, (l.length : Int), (i : Int), ()), ((b, l.take i), ()), ())) (List.range l.length) (badB b l) (fun i => .inl (((i : Int), 101, ()), ((b, l.take i), ()), ())) (.inr ((), ((b, l), ()), ())) 0 (N := qc) (by have := qP; simp; omega)
  (fun N => by simp [L81_8, B81_8])
  (fun N i _ hi => by
   rw [List.length_range] at hi
   simp only [L81_8, B81_8]
   rw [gd_range hi, qu (by omega), cond_true, qk (by omega) (by omega), g93_eq b _ _ hb (by simp; omega), qb, jT (by simp; omega) (by simp; omega), wI (by omega) (by omega), ← qgy hi]
   unfold badB
   cases qa7 b (l.take i) (gd l (i : Int)) <;> rfl)
 have e' : L81_8 qc ((l, (l.length : Int), 0, ()), ((b, []), ()), ()) = _ := e
 rw [e', qb]
 have : qgb b l = (List.range l.length).findIdx? (badB b l) := rfl
 rw [this]
 cases (List.range l.length).findIdx? (badB b l) <;> rfl
def checkR (b : Book) (l : List Ent) : Int × Int :=
 if qa9 b then (if l.length ≤ 100 then (match qgb b l with | some i => ((i : Int), 101) | none => (0, 0)) else (0, 2)) else (0, 100)
theorem g63_eq (b : Book) (l : List Ent) : g63 (b, l, ()) = some (((checkR b l).1, (checkR b l).2, ()), ()) := by
 show F63 qc b l = _
 unfold F63 checkR
 cases h : qa9 b with
 | false =>
  obtain ⟨z, e⟩ := g81_bad b l h
  rw [e]
  rfl
 | true =>
  by_cases hl : l.length ≤ 100
  ·rw [g81_eq b l h hl, qb, if_pos hl]
   cases qgb b l <;> rfl
  ·obtain ⟨z, e⟩ := g81_many b l h (by omega)
   rw [e, if_neg hl]
   rfl
theorem g18_eq (b : Book) (l : List Ent) : g18 (b, l, ()) = some (((checkR b l).1, (checkR b l).2, ()), ()) := by
 show F18 qc b l = _
 unfold F18 checkR
 rw [g43_eq, qb]
 cases h : qa9 b with
 | false => rfl
 | true =>
 have hb := qe0 h
 show cond (decide ((l.length : Int) > 100)) _ _ = _
 by_cases hl : l.length ≤ 100
 case neg =>
  rw [qu (by omega), if_neg hl]
  rfl
 rw [qD (by omega), cond_false, if_pos hl]
 have e := loopIdx (L := L18_7) (fun i => ((l, (i : Int), ()), (b, ()), ())) (List.range l.length) (badB b l) (fun i => .inl (((i : Int), 101, ()), (), ())) (.inr ((), (), ())) 0 (N := qc) (by have := qP; simp; omega)
  (fun N => by simp [L18_7, B18_7])
  (fun N i _ hi => by
   rw [List.length_range] at hi
   simp only [L18_7, B18_7]
   rw [gd_range hi, qu (by omega), cond_true, qaG (by omega), qaG (by omega), qk (by omega) (by omega), g44_eq b _ _ hb (by simp; omega), qb, wI (by omega) (by omega), Int.toNat_natCast]
   unfold badB
   cases qa7 b (l.take i) (gd l (i : Int)) <;> rfl)
 have e' : L18_7 qc ((l, 0, ()), (b, ()), ()) = _ := e
 rw [e', qb]
 have : qgb b l = (List.range l.length).findIdx? (badB b l) := rfl
 rw [this]
 cases (List.range l.length).findIdx? (badB b l) <;> rfl
def upto (l : List Ent) (day : Int) : List Ent := l.takeWhile fun x => decide (x.1 ≤ day)
theorem qgz {α : Type} (q : α → Bool) : ∀ (l : List α), l.take (match l.findIdx? q with | some i => i | none => l.length) = l.takeWhile fun x => !q x
 | [] => rfl
 | x :: l => by
  have ih := qgz q l
  rw [List.findIdx?_cons, List.takeWhile_cons]
  cases q x with
  | true => rfl
  | false =>
   simp only [Bool.false_eq_true, if_false, Bool.not_false, if_true]
   cases h : l.findIdx? q with
   | none =>
    rw [h] at ih
    simp only [Option.map_none, List.length_cons, List.take_succ_cons]
    rw [ih]
   | some i =>
    rw [h] at ih
    simp only [Option.map_some, List.take_succ_cons]
    rw [ih]
theorem idx_le {α : Type} {q : α → Bool} {l : List α} {i : Nat} (h : l.findIdx? q = some i) : i < l.length := (List.findIdx?_eq_some_iff_findIdx_eq.1 h).1
theorem qkQ (l : List Ent) (day : Int) : l.takeWhile (fun x => !decide (x.1 > day)) = upto l day := by
 unfold upto
 congr 1
 funext x
 by_cases h : x.1 ≤ day
 ·rw [qD (by omega), qu h]; rfl
 ·rw [qu (by omega), qD h]; rfl
theorem g95_eq (b : Book) (l : List Ent) (day : Int) (hl : l.length ≤ 1048576) : g95 ((b, l), day, ()) = some (((b, upto l day), ()), ()) := by
 show F95 qc (b, l) day = _
 unfold F95
 rw [g118_eq l (by omega) _ (fun x => decide (x.1 > day)) (fun x _ => by rfl), qb, ← qkQ, ← qgz]
 unfold idxI
 cases h : l.findIdx? fun x => decide (x.1 > day) with
 | none =>
  show some (((b, l), ()), ()) = _
  simp
 | some i =>
  have := idx_le h
  show cond (decide ((i : Int) ≥ 0)) _ _ = _
  rw [qu (by omega), cond_true]
  show leK 0 (i : Int) (leK (i : Int) (l.length : Int) _) = _
  rw [qaG (by omega), qaG (by omega)]
  simp
def dayErr (b : Book) (l : List Ent) (day : Int) : Int := if (checkR b l).2 = 0 then (if jD day 0 10000 then 0 else 1) else (checkR b l).2
theorem qhu {b : Book} {l : List Ent} (h : (checkR b l).2 = 0) : qa9 b = true ∧ l.length ≤ 100 ∧ qgb b l = none := by
 unfold checkR at h
 split at h
 ·rename_i hb
  split at h
  ·rename_i hl
   split at h
   ·simp at h
   ·rename_i hn
    exact ⟨hb, hl, hn⟩
  ·simp at h
 ·simp at h
theorem g81_ok {b : Book} {l : List Ent} (h : (checkR b l).2 = 0) : g81 (b, l, ()) = some (((b, l), 0, 0, ()), ()) := by
 obtain ⟨h1, h2, h3⟩ := qhu h
 rw [g81_eq b l h1 h2, h3]
theorem g81_err {b : Book} {l : List Ent} (h : (checkR b l).2 ≠ 0) : ∃ z at_, g81 (b, l, ()) = some ((z, at_, (checkR b l).2, ()), ()) := by
 cases hb : qa9 b with
 | false =>
  obtain ⟨z, e⟩ := g81_bad b l hb
  refine ⟨z, 0, ?_⟩
  rw [e]
  simp [checkR, hb]
 | true =>
  by_cases hl : l.length ≤ 100
  ·rw [g81_eq b l hb hl]
   cases hbd : qgb b l with
   | none =>
    exfalso
    apply h
    simp [checkR, hb, hl, hbd]
   | some i =>
    exact ⟨(b, l.take i), (i : Int), by simp [checkR, hb, hl, hbd]⟩
  ·obtain ⟨z, e⟩ := g81_many b l hb (by omega)
   refine ⟨z, 0, ?_⟩
   rw [e]
   simp [checkR, hb, hl]
theorem neq_t {a b : Int} (h : a ≠ b) : (a != b) = true := by simpa using h
theorem g83_ok {b : Book} {l : List Ent} {day : Int} (h : dayErr b l day = 0) : g83 (b, l, day, ()) = some (((b, upto l day), 0, ()), ()) := by
 show F83 qc b l day = _
 unfold F83
 unfold dayErr at h
 split at h
 case isFalse hc => exact absurd h hc
 rename_i hc
 have hl := (qhu hc).2.1
 split at h
 case isFalse => cases h
 rename_i hd
 rw [g81_ok hc, qb]
 show qa (g94 (day, 0, 10000, ())) _ = _
 rw [g94_eq, qb, hd]
 show qa (g95 ((b, l), day, ())) _ = _
 rw [g95_eq b l day (by omega)]
 rfl
theorem g83_err {b : Book} {l : List Ent} {day : Int} (h : dayErr b l day ≠ 0) : ∃ z, g83 (b, l, day, ()) = some ((z, dayErr b l day, ()), ()) := by
 show ∃ z, F83 qc b l day = _
 unfold F83
 unfold dayErr at h ⊢
 split at h
 case isFalse hc =>
  obtain ⟨z, a, e⟩ := g81_err hc
  refine ⟨z, ?_⟩
  rw [e, qb, if_neg hc]
  show cond ((checkR b l).2 != 0) _ _ = _
  rw [neq_t hc]
  rfl
 rename_i hc
 split at h
 case isTrue => exact absurd rfl h
 rename_i hd
 rw [g81_ok hc, qb, if_pos hc]
 refine ⟨(b, l), ?_⟩
 show qa (g94 (day, 0, 10000, ())) _ = _
 rw [g94_eq, qb, if_neg hd, (Bool.not_eq_true _).mp hd]
 rfl
structure qej (b : Book) (l : List Ent) : Prop where
 book : qa9 b = true
 len : l.length ≤ 100
 right : ∀ i, i < l.length → qa7 b (l.take i) (gd l (i : Int)) = true
theorem qiP {b : Book} {l : List Ent} (h : (checkR b l).2 = 0) : qej b l := by
 obtain ⟨h1, h2, h3⟩ := qhu h
 refine ⟨h1, h2, fun i hi => ?_⟩
 have := qbu (l := List.range l.length) (q := fun i => !qa7 b (l.take i) (gd l (i : Int)))
 have h3' : ((List.range l.length).findIdx? fun i => !qa7 b (l.take i) (gd l (i : Int))) = none := h3
 rw [h3'] at this
 have := List.all_eq_true.1 this.symm i (by simpa using hi)
 simpa using this
theorem good_iff {b : Book} {l : List Ent} (h : qej b l) : checkR b l = (0, 0) := by
 have : qgb b l = none := by
  have e := qbu (l := List.range l.length) (q := fun i => !qa7 b (l.take i) (gd l (i : Int)))
  have hall : ((List.range l.length).all fun x => !(fun i => !qa7 b (l.take i) (gd l (i : Int))) x) = true := by
   rw [List.all_eq_true]
   intro i hi
   simp only [List.mem_range] at hi
   simp [h.right i hi]
  rw [hall] at e
  exact Option.isNone_iff_eq_none.1 e
 unfold checkR
 rw [if_pos h.book, if_pos h.len, this]
theorem qk1 {α : Type} [Inhabited α] {l : List α} {k i : Nat} (h : i < k) (_hl : i < l.length) : gd (l.take k) (i : Int) = gd l (i : Int) := by
 unfold gd
 rw [List.getD_eq_getElem?_getD, List.getD_eq_getElem?_getD, Int.toNat_natCast, List.getElem?_take_of_lt h]
theorem qej.take {b : Book} {l : List Ent} (h : qej b l) (k : Nat) : qej b (l.take k) := by
 refine ⟨h.book, by have := h.len; simp; omega, fun i hi => ?_⟩
 rw [List.length_take] at hi
 rw [List.take_take, qk1 (by omega) (by omega), show min i k = i by omega]
 exact h.right i (by omega)
theorem qlc (l : List Ent) (day : Int) : ∃ k, upto l day = l.take k := by
 refine ⟨match l.findIdx? (fun x => decide (x.1 > day)) with | some i => i | none => l.length, ?_⟩
 rw [← qkQ, ← qgz]
 first | done | rfl
theorem qej.upto {b : Book} {l : List Ent} (h : qej b l) (day : Int) : qej b (upto l day) := by
 obtain ⟨k, e⟩ := qlc l day
 rw [e]
 exact h.take k
structure Fit (b : Book) (l : List Ent) : Prop where
 book : qa9 b = true
 len : l.length ≤ 1000
 day : ∀ i, i < l.length → lastDay (l.take i) ≤ (gd l (i : Int)).1 ∧ (gd l (i : Int)).1 ≤ 10000
 sev : ∀ i, i < l.length → ((gd l (i : Int)).2.1 == 2) = true → 1 ≤ (gd l (i : Int)).2.2.2.1 ∧ (gd l (i : Int)).2.2.2.1 ≤ 3
theorem qej.fit {b : Book} {l : List Ent} (h : qej b l) : Fit b l := by
 refine ⟨h.book, by have := h.len; omega, fun i hi => ?_, fun i hi h2 => ?_⟩
 ·have := h.right i hi
  unfold qa7 at this
  rw [Bool.and_eq_true] at this
  exact qG.1 this.1
 ·have := h.right i hi
  unfold qa7 qg4 at this
  have h2 := eq_of_beq h2
  rw [h2] at this
  simp only [Bool.and_eq_true] at this
  have h3 := this.2
  rw [if_neg (by decide), if_pos (by decide)] at h3
  simp only [Bool.and_eq_true] at h3
  exact qG.1 h3.1.2
theorem qiL {l : List Ent} {i : Nat} (hi : i < l.length) : lastDay (l.take (i + 1)) = (gd l (i : Int)).1 := by
 unfold lastDay
 have e : (l.take (i + 1)).length = i + 1 := by simp; omega
 rw [if_neg (by omega), e, show (((i + 1 : Nat) : Int) - 1) = (i : Int) by omega, qk1 (by omega) hi]
theorem Fit.sorted {b : Book} {l : List Ent} (h : Fit b l) : ∀ i j, i ≤ j → j < l.length → (gd l (i : Int)).1 ≤ (gd l (j : Int)).1 := by
 intro i j hij hj
 induction j with
 | zero =>
  obtain rfl : i = 0 := by omega
  exact Int.le_refl _
 | succ j ih =>
  rcases Nat.lt_or_ge i (j + 1) with h1 | h1
  ·have h2 := ih (by omega) (by omega)
   have h3 := (h.day (j + 1) hj).1
   rw [qiL (by omega)] at h3
   omega
  ·obtain rfl : i = j + 1 := by omega
   exact Int.le_refl _
theorem Fit.day0 {b : Book} {l : List Ent} (h : Fit b l) (i : Nat) (hi : i < l.length) : 0 ≤ (gd l (i : Int)).1 ∧ (gd l (i : Int)).1 ≤ 10000 := by
 have h0 := h.day 0 (by omega)
 have e : lastDay (l.take 0) = 0 := rfl
 rw [e] at h0
 have := h.sorted 0 i (by omega) hi
 have := (h.day i hi).2
 have e0 : gd l ((0 : Nat) : Int) = gd l 0 := rfl
 rw [e0] at *
 omega
theorem Fit.mem {b : Book} {l : List Ent} (h : Fit b l) {x : Ent} (hx : x ∈ l) : 0 ≤ x.1 ∧ x.1 ≤ 10000 := by
 obtain ⟨i, hi, rfl⟩ := List.mem_iff_getElem.1 hx
 have := h.day0 i hi
 rwa [qdM (List.getElem?_eq_getElem hi)] at this
def fil (p : Nat → Bool) (n : Nat) : List Int := ((List.range n).filter p).map fun i : Nat => (i : Int)
theorem fil_succ (p : Nat → Bool) (n : Nat) : fil p (n + 1) = if p n then fil p n ++ [(n : Int)] else fil p n := by
 unfold fil
 rw [List.range_succ, List.filter_append]
 cases h : p n <;> simp [h]
theorem qgs (p : Nat → Bool) (n : Nat) : (fil p n).length ≤ n := by
 unfold fil
 rw [List.length_map]
 have := List.length_filter_le p (List.range n)
 simpa using this
theorem qkY {D R : Type} {L : Nat → D → Option R} (mk : Nat → List Int → D) (p : Nat → Bool) (n c : Nat) (res : List Int → R) {N : Nat} (hN : n + c < N) (hend : ∀ N s, s.length ≤ n → L (N + 1) (mk n s) = some (res s))
  (hstep : ∀ N i s, c ≤ N → i < n → s.length ≤ i → L (N + 1) (mk i s) = L N (mk (i + 1) (if p i then s ++ [(i : Int)] else s))) : L N (mk 0 []) = some (res (fil p n)) :=
 qd2 (L := L) (fun i => mk i (fil p i)) (res (fil p n)) c n hN (fun N => hend N _ (qgs p n)) (fun N i hc hi => by rw [hstep N i _ hc hi (qgs p i), fil_succ])
def qaV (l : List Ent) : List Int := fil (fun i => qdK l (i : Int)) l.length
theorem g121_eq (b : Book) (l : List Ent) (hl : l.length ≤ 1048576) : g121 ((b, l), ()) = some ((qaV l, ()), ()) := by
 show F121 qc (b, l) = _
 unfold F121
 have e := qkY (L := L121_2) (fun i s => ((l, (l.length : Int), (i : Int), ()), ((b, l), s, ()), ())) (fun i => qdK l (i : Int)) l.length 0 (fun s => ((), (s, ()), ())) (N := qc) (by have := qP; omega)
  (fun N s _ => by simp [L121_2, B121_2])
  (fun N i s _ hi hs => by
   simp only [L121_2, B121_2]
   rw [qu (by omega), cond_true, qk (by omega) (by omega), g116_eq b l _ hl, qb, jT (by simp; omega) (by simp; omega), wI (by omega) (by omega)]
   unfold qdK
   have hr : jD (i : Int) 0 ((l.length : Int) - 1) = true := qG.2 ⟨by omega, by omega⟩
   rw [hr]
   cases (gd l (i : Int)).2.1 == 2 with
   | false => rfl
   | true => cases qcU l (i : Int) <;> rfl)
 have e' : L121_2 qc ((l, (l.length : Int), 0, ()), ((b, l), [], ()), ()) = _ := e
 rw [show ((b, l) : Log).2 = l from rfl]
 rw [e', qb]
 rfl
def qfb (want : Ent → Bool) (ride : Int) (l : List Ent) : Int := l.foldl (fun acc x => if want x then x.1 else if x.2.1 == 6 && x.2.2.1 == ride then -1 else acc) (-1)
def qe3 (want : Ent → Bool) (ride : Int) : List Ent → Option Int
 | [] => none
 | x :: r => if want x then some x.1 else if x.2.1 == 6 && x.2.2.1 == ride then some (-1) else qe3 want ride r
theorem qg3 (want : Ent → Bool) (ride : Int) (l : List Ent) : qfb want ride l = (qe3 want ride l.reverse).getD (-1) := by
 unfold qfb
 rw [List.foldl_eq_foldr_reverse]
 induction l.reverse with
 | nil => rfl
 | cons x r ih =>
  rw [List.foldr_cons, ih, qe3]
  split
  ·rfl
  ·split
   ·rfl
   ·rfl
theorem R99_eq (n : Nat) (ride : Int) (f : Ent → Option Bool) (want : Ent → Bool) (hf : ∀ x, f x = some (want x)) (v : Int) : ∀ r : List Ent, R99_2 n r (ride, f, v, ()) = some (match qe3 want ride r with | some d => (.ret, (d, ())) | none => (.norm, (v, ())))
 | [] => rfl
 | x :: r => by
  have ih := R99_eq n ride f want hf v r
  simp only [R99_2, Q99_2, hf, qb, qe3]
  rw [ih]
  cases want x with
  | true => rfl
  | false =>
   cases x.2.1 == 6 with
   | false => rfl
   | true => cases x.2.2.1 == ride <;> rfl
theorem qjQ (b : Book) (l : List Ent) (hl : l.length ≤ 1048576) : Ib.it129.g ((b, l), ()) = some (l.reverse : List Ent) := by
 show jE (l.length : Int) (some (l.reverse : List Ent)) = _
 rw [jT (by omega) (by omega)]
theorem g99_eq (b : Book) (l : List Ent) (hl : l.length ≤ 1048576) (ride : Int) (f : Ent → Option Bool) (want : Ent → Bool) (hf : ∀ x, f x = some (want x)) : g99 ((b, l), ride, f, ()) = some ((qfb want ride l, ()), ()) := by
 show F99 qc (b, l) ride f = _
 unfold F99
 show qa (Ib.it129.g ((b, l), ())) _ = _
 rw [qjQ b l hl]
 show qa (R99_2 qc (l.reverse : List Ent) (ride, f, 0, ())) _ = _
 rw [R99_eq qc ride f want hf, qb, qg3]
 cases qe3 want ride l.reverse <;> rfl
theorem lastE_in {want : Ent → Bool} {ride : Int} {b : Book} {l : List Ent} (h : Fit b l) : -1 ≤ qfb want ride l ∧ qfb want ride l ≤ 10000 := by
 rw [qg3]
 have key : ∀ r : List Ent, (∀ x ∈ r, 0 ≤ x.1 ∧ x.1 ≤ 10000) → -1 ≤ (qe3 want ride r).getD (-1) ∧ (qe3 want ride r).getD (-1) ≤ 10000 := by
  intro r
  induction r with
  | nil => intro _; exact ⟨Int.le_refl _, by show (-1 : Int) ≤ 10000; decide⟩
  | cons x r ih =>
   intro hx
   have h1 := hx x List.mem_cons_self
   have h2 := ih fun y hy => hx y (List.mem_cons_of_mem _ hy)
   unfold qe3
   split
   ·show -1 ≤ x.1 ∧ x.1 ≤ 10000
    omega
   ·split
    ·exact ⟨Int.le_refl _, by show (-1 : Int) ≤ 10000; decide⟩
    ·exact h2
 exact key _ fun x hx => h.mem (List.mem_reverse.1 hx)
def wantC (rule : Int) (x : Ent) : Bool := x.2.1 == 1 && x.2.2.1 == rule
def qcV (b : Book) (l : List Ent) (rule : Int) : Int := qfb (wantC rule) (gd b.1 rule).1 l
def qfq (b : Book) (l : List Ent) (rule : Int) : Int := if qcV b l rule < 0 then -1 else qcV b l rule + (gd b.1 rule).2.1 - 1
def qiV (b : Book) (l : List Ent) (rule day : Int) : Bool := decide (0 ≤ qcV b l rule) && decide (day - qcV b l rule < (gd b.1 rule).2.1)
theorem rule_in {b : Book} (hb : qa9 b = true) {rule : Int} (hr : qcI b rule = true) : rideB b (gd b.1 rule).1 = true ∧ 1 ≤ (gd b.1 rule).2.1 ∧ (gd b.1 rule).2.1 ≤ 10000 := by
 have hr := qG.1 hr
 simp only [qa9, Bool.and_eq_true] at hb
 have h2 := List.all_eq_true.1 hb.1.1.2 _ (qau (l := b.1) hr.1 (by omega))
 unfold qdY at h2
 simp only [Bool.and_eq_true] at h2
 exact ⟨h2.1.1, qG.1 h2.1.2⟩
theorem g120_eq (b : Book) (l : List Ent) (h : Fit b l) (rule : Int) (hr : qcI b rule = true) : g120 ((b, l), rule, ()) = some ((qfq b l rule, ()), ()) := by
 show F120 qc (b, l) rule = _
 unfold F120 qfq
 have hr' := qG.1 hr
 have hl := h.len
 obtain ⟨_, h1, h2⟩ := rule_in h.book hr
 rw [qk (by omega) (by show rule < (b.1.length : Int); omega), g99_eq b l (by omega) _ _ (wantC rule) (fun x => by
  show qa (F128 qc x rule) _ = _
  unfold F128 wantC
  cases x.2.1 == 1 <;> rfl), qb]
 have h3 := lastE_in (want := wantC rule) (ride := (gd b.1 rule).1) h
 show cond (decide (qcV b l rule < 0)) _ _ = _
 have h3 : -1 ≤ qcV b l rule ∧ qcV b l rule ≤ 10000 := h3
 by_cases h4 : qcV b l rule < 0
 ·rw [qu h4, if_pos h4]
  rfl
 ·rw [qD h4, if_neg h4, cond_false, qk (by omega) (by show rule < (b.1.length : Int); omega)]
  show some ((IntKind.wrap .i64 (IntKind.wrap .i64 (qcV b l rule + (gd b.1 rule).2.1) - 1), ()), ()) = _
  rw [wI (x := qcV b l rule + (gd b.1 rule).2.1) (by omega) (by omega), wI (by omega) (by omega)]
theorem until_lt {b : Book} {l : List Ent} {rule day : Int} (hd : 0 ≤ day) : decide (qfq b l rule < day) = !qiV b l rule day := by
 unfold qfq qiV
 by_cases h : qcV b l rule < 0
 ·rw [if_pos h, qD (p := 0 ≤ qcV b l rule) (by omega), qu (by omega)]
  rfl
 ·rw [if_neg h, qu (p := 0 ≤ qcV b l rule) (by omega), Bool.true_and]
  by_cases h2 : day - qcV b l rule < (gd b.1 rule).2.1
  ·rw [qu h2, qD (by omega)]; rfl
  ·rw [qD h2, qu (by omega)]; rfl
def qea (l : List Ent) (ride : Int) (ol : List Int) (s : Int) : Int := ((ol.filter fun i => (gd l i).2.2.1 == ride && (gd l i).2.2.2.1 == s).length : Nat)
def qdL (l : List Ent) (ride : Int) (ol : List Int) : List Int := [qea l ride ol 0, qea l ride ol 1, qea l ride ol 2, qea l ride ol 3]
theorem qih (l : List Ent) (ride : Int) (ol : List Int) (i s : Int) : qea l ride (ol ++ [i]) s = qea l ride ol s + if (gd l i).2.2.1 == ride && (gd l i).2.2.2.1 == s then 1 else 0 := by
 unfold qea
 rw [List.filter_append]
 cases h : (gd l i).2.2.1 == ride && (gd l i).2.2.2.1 == s <;> simp [h]
theorem qjJ (l : List Ent) (ride : Int) (ol : List Int) (i : Int) (h : ((gd l i).2.2.1 == ride) = false) : qdL l ride (ol ++ [i]) = qdL l ride ol := by
 unfold qdL
 simp only [qih, h, Bool.false_and, Bool.false_eq_true, if_false, Int.add_zero]
theorem qkq (l : List Ent) (ride : Int) (ol : List Int) (i : Int) (h : ((gd l i).2.2.1 == ride) = true) (hB : 1 ≤ (gd l i).2.2.2.1 ∧ (gd l i).2.2.2.1 ≤ 3) :
  gd (qdL l ride ol) (gd l i).2.2.2.1 = qea l ride ol (gd l i).2.2.2.1 ∧ qdL l ride (ol ++ [i]) = (qdL l ride ol).set (gd l i).2.2.2.1.toNat (qea l ride ol (gd l i).2.2.2.1 + 1) := by
 have hc : (gd l i).2.2.2.1 = 1 ∨ (gd l i).2.2.2.1 = 2 ∨ (gd l i).2.2.2.1 = 3 := by omega
 unfold qdL
 simp only [qih, h, Bool.true_and]
 rcases hc with e | e | e <;> rw [e] <;> exact ⟨rfl, by simp⟩
theorem cntL_le (l : List Ent) (ride : Int) (ol : List Int) (s : Int) : 0 ≤ qea l ride ol s ∧ qea l ride ol s ≤ ol.length := by
 unfold qea
 have := List.length_filter_le (fun i => (gd l i).2.2.1 == ride && (gd l i).2.2.2.1 == s) ol
 omega
theorem qfC (l : List Ent) (ride : Int) (ol : List Int) : (qdL l ride ol).length = 4 := rfl
def qdS (l : List Ent) (ride : Int) : Bool := (qea l ride (qaV l) 3 == 0) && decide (qea l ride (qaV l) 2 ≤ 1)
theorem Fit.found {b : Book} {l : List Ent} (h : Fit b l) {i : Int} (ho : qdK l i = true) : (0 ≤ i ∧ i < l.length) ∧ 1 ≤ (gd l i).2.2.2.1 ∧ (gd l i).2.2.2.1 ≤ 3 := by
 unfold qdK at ho
 simp only [Bool.and_eq_true] at ho
 have h1 := qG.1 ho.1.1
 refine ⟨by omega, ?_⟩
 have := h.sev i.toNat (by omega)
 rw [show ((i.toNat : Nat) : Int) = i by omega] at this
 exact this ho.1.2
theorem qk5 {p : Nat → Bool} {n : Nat} {x : Int} (h : x ∈ fil p n) : ∃ i : Nat, i < n ∧ p i = true ∧ x = (i : Int) := by
 unfold fil at h
 obtain ⟨i, hi, rfl⟩ := List.mem_map.1 h
 rw [List.mem_filter] at hi
 exact ⟨i, by simpa using hi.1, hi.2, rfl⟩
theorem qlo (l : List Ent) : (qaV l).length ≤ l.length := qgs _ _
theorem g98_eq (b : Book) (l : List Ent) (h : Fit b l) (ride : Int) : g98 ((b, l), ride, ()) = some ((qdS l ride, ()), ()) := by
 show F98 qc (b, l) ride = _
 unfold F98 qdS
 have hl := h.len
 have hol := qlo l
 rw [g121_eq b l (by omega), qb]
 have e := qd2 (L := L98_3) (fun i => ((ride, ((qaV l).length : Int), (i : Int), ()), ((b, l), qdL l ride ((qaV l).take i), qaV l, ()), ())) ((), (qdL l ride (qaV l), ()), ()) 0 (qaV l).length (N := qc) (by have := qP; omega)
  (fun N => by simp [L98_3, B98_3])
  (fun N i _ hi => by
   have hm := qau (l := qaV l) (i := (i : Int)) (by omega) (by omega)
   obtain ⟨j, hj, hp, hx⟩ := qk5 hm
   have hf := h.found (i := gd (qaV l) (i : Int)) (by rw [hx]; exact hp)
   simp only [L98_3, B98_3]
   rw [qu (by omega), cond_true, jM (by omega) (by omega), qk (by omega) (by omega)]
   have g1 : ∀ {R : Type} (k : Ent → Option R), qi l (gd (qaV l) (i : Int)) k = k (gd l (gd (qaV l) (i : Int))) := fun k => qk hf.1.1 hf.1.2 k
   rw [g1, wI (x := (i : Int) + 1) (by omega) (by omega), qgy hi]
   cases hr : (gd l (gd (qaV l) (i : Int))).2.2.1 == ride with
   | false =>
    rw [qjJ _ _ _ _ hr]
    rfl
   | true =>
    obtain ⟨k1, k2⟩ := qkq l ride ((qaV l).take i) _ hr hf.2
    have hc := cntL_le l ride ((qaV l).take i) (gd l (gd (qaV l) (i : Int))).2.2.2.1
    rw [List.length_take] at hc
    have hlen := qfC l ride ((qaV l).take i)
    rw [cond_true, jM (by omega) (by omega), qk (by omega) (by omega), jM (by omega) (by omega), qk (by omega) (by omega), k2, k1, wI (by omega) (by omega)]
    rfl)
 have e' : L98_3 qc ((ride, ((qaV l).length : Int), 0, ()), ((b, l), List.replicate 4 0, qaV l, ()), ()) = _ := e
 rw [e', qb, jM (by decide) (by decide)]
 show qi (qdL l ride (qaV l)) 3 _ = _
 rw [qk (by decide) (by rw [qfC]; decide)]
 show cond (qea l ride (qaV l) 3 == 0) _ _ = _
 cases qea l ride (qaV l) 3 == 0 with
 | false => rfl
 | true =>
  rw [cond_true, jM (by decide) (by decide)]
  show qi (qdL l ride (qaV l)) 2 _ = _
  rw [qk (by decide) (by rw [qfC]; decide)]
  rfl
def insR (b : Book) (l : List Ent) (ride : Int) : Int := l.foldl (fun acc x => if x.2.1 == 5 && x.2.2.1 == ride then x.2.2.2.1 else acc) (gd b.2.2 ride)
def qhW (ride : Int) : List Ent → Option Int
 | [] => none
 | x :: r => if x.2.1 == 5 && x.2.2.1 == ride then some x.2.2.2.1 else qhW ride r
theorem qlz (b : Book) (l : List Ent) (ride : Int) : insR b l ride = (qhW ride l.reverse).getD (gd b.2.2 ride) := by
 unfold insR
 rw [List.foldl_eq_foldr_reverse]
 induction l.reverse with
 | nil => rfl
 | cons x r ih =>
  rw [List.foldr_cons, ih, qhW]
  split <;> rfl
theorem R101_eq (n : Nat) (ride v : Int) : ∀ r : List Ent, R101_2 n r (ride, v, ()) = some (match qhW ride r with | some d => (.ret, (d, ())) | none => (.norm, (v, ())))
 | [] => rfl
 | x :: r => by
  have ih := R101_eq n ride v r
  simp only [R101_2, Q101_2, qhW]
  rw [ih]
  cases x.2.1 == 5 with
  | false => rfl
  | true => cases x.2.2.1 == ride <;> rfl
theorem g101_eq (b : Book) (l : List Ent) (hl : l.length ≤ 1048576) (ride : Int) (hr : rideB b ride = true) : g101 ((b, l), ride, ()) = some ((insR b l ride, ()), ()) := by
 show F101 qc (b, l) ride = _
 unfold F101
 have hr := qG.1 hr
 show qa (Ib.it129.g ((b, l), ())) _ = _
 rw [qjQ b l hl]
 show qa (R101_2 qc (l.reverse : List Ent) (ride, 0, ())) _ = _
 rw [R101_eq qc ride, qb, qlz]
 cases qhW ride l.reverse with
 | some d => rfl
 | none =>
  show qi b.2.2 ride _ = _
  rw [qk (by omega) (by omega)]
  rfl
def chkR (b : Book) (l : List Ent) (ride : Int) (n : Nat) : Int := (List.range n).foldl (fun (acc : Int) (i : Nat) => if (gd b.1 (i : Int)).1 == ride then min acc (qfq b l (i : Int)) else acc) 10000
theorem qij (b : Book) (l : List Ent) (ride : Int) (n : Nat) : chkR b l ride (n + 1) = if (gd b.1 (n : Int)).1 == ride then min (chkR b l ride n) (qfq b l (n : Int)) else chkR b l ride n := by
 unfold chkR
 rw [List.range_succ, List.foldl_append]
 rfl
theorem ruleB_of {b : Book} {i : Nat} (h : i < b.1.length) : qcI b (i : Int) = true := qG.2 ⟨by omega, by omega⟩
theorem g97_eq (b : Book) (l : List Ent) (h : Fit b l) (ride : Int) : g97 ((b, l), ride, ()) = some ((chkR b l ride b.1.length, ()), ()) := by
 show F97 qc (b, l) ride = _
 unfold F97
 have hs := (qe0 h.book).rules
 have e := qd2 (L := L97_3) (fun i => ((ride, chkR b l ride i, b.1, (b.1.length : Int), (i : Int), ()), ((b, l), ()), ())) ((chkR b l ride b.1.length, ()), (), ()) 0 b.1.length (N := qc) (by have := qP; omega)
  (fun N => by simp [L97_3, B97_3])
  (fun N i _ hi => by
   simp only [L97_3, B97_3]
   rw [qu (by omega), cond_true, qk (by omega) (by omega), wI (by omega) (by omega), qij, g120_eq b l h _ (ruleB_of hi), qb]
   cases (gd b.1 (i : Int)).1 == ride <;> rfl)
 have e' : L97_3 qc ((ride, 10000, b.1, (b.1.length : Int), 0, ()), ((b, l), ()), ()) = _ := e
 show qa (L97_3 qc ((ride, 10000, b.1, (b.1.length : Int), 0, ()), ((b, l), ()), ())) _ = _
 rw [e', qb]
def chkB (b : Book) (l : List Ent) (ride day : Int) (n : Nat) : Bool := (List.range n).all fun i : Nat => (gd b.1 (i : Int)).1 != ride || qiV b l (i : Int) day
theorem qlJ (b : Book) (l : List Ent) (ride day : Int) (n : Nat) : chkB b l ride day (n + 1) = (chkB b l ride day n && ((gd b.1 (n : Int)).1 != ride || qiV b l (n : Int) day)) := by
 unfold chkB
 rw [List.range_succ, List.all_append]
 simp
theorem chk_lt {b : Book} {l : List Ent} {ride day : Int} (hd : 0 ≤ day ∧ day ≤ 10000) : ∀ n, decide (chkR b l ride n < day) = !chkB b l ride day n
 | 0 => by
  rw [show chkR b l ride 0 = 10000 from rfl, qD (by omega)]
  rfl
 | n + 1 => by
  have ih := chk_lt (b := b) (l := l) (ride := ride) hd n
  rw [qij, qlJ]
  cases hr : (gd b.1 (n : Int)).1 == ride with
  | false =>
   rw [show ((gd b.1 (n : Int)).1 != ride) = true by unfold bne; rw [hr]; rfl, Bool.true_or, Bool.and_true]
   exact ih
  | true =>
   rw [show ((gd b.1 (n : Int)).1 != ride) = false by unfold bne; rw [hr]; rfl, Bool.false_or, if_pos rfl, Bool.not_and, ← ih, ← until_lt hd.1]
   rw [Bool.eq_iff_iff]
   simp only [decide_eq_true_eq, Bool.or_eq_true]
   omega
theorem g96_eq (k : Int) (is : Bool) (out : List Int) (hl : out.length ≤ 1048576) : g96 (k, is, out, ()) = some ((), ((if is then out ++ [k] else out), ())) := by
 show F96 qc k is out = _
 unfold F96
 cases is with
 | false => rfl
 | true => rw [cond_true, jT (by simp; omega) (by simp; omega)]; rfl
def qjc (ride : Int) (x : Ent) : Bool := x.2.1 == 4 && x.2.2.1 == ride
def whyL (b : Book) (l : List Ent) (ride day : Int) : List Int :=
 (if chkB b l ride day b.1.length then [] else [1]) ++ (if qdS l ride then [] else [2]) ++ (if qfb (qjc ride) ride l == day then [] else [3]) ++ (if insR b l ride < day then [4] else [])
theorem g84_eq (b : Book) (l : List Ent) (h : Fit b l) (ride day : Int) (hd : 0 ≤ day ∧ day ≤ 10000) (hr : rideB b ride = true) : g84 ((b, l), ride, day, ()) = some ((whyL b l ride day, ()), ()) := by
 show F84 qc (b, l) ride day = _
 unfold F84 whyL
 have hl := h.len
 rw [g97_eq b l h, qb, g96_eq _ _ _ (by simp), qb, g98_eq b l h, qb]
 dsimp only
 rw [chk_lt hd, g96_eq _ _ _ (by split <;> simp), qb, g99_eq b l (by omega) ride _ (qjc ride) (fun x => by
  show qa (F100 qc x ride) _ = _
  unfold F100 qjc
  cases x.2.1 == 4 <;> rfl), qb]
 dsimp only
 rw [g96_eq _ _ _ (by split <;> split <;> simp), qb, g101_eq b l (by omega) ride hr, qb]
 dsimp only
 rw [g96_eq _ _ _ (by split <;> split <;> split <;> simp), qb]
 unfold bne
 by_cases h4 : insR b l ride < day
 ·rw [qu h4, if_pos h4]
  cases chkB b l ride day b.1.length <;> cases qdS l ride <;> cases qfb (qjc ride) ride l == day <;> rfl
 ·rw [qD h4, if_neg h4]
  cases chkB b l ride day b.1.length <;> cases qdS l ride <;> cases qfb (qjc ride) ride l == day <;> rfl
theorem qlF {b : Book} {l : List Ent} {day : Int} (h : dayErr b l day = 0) : qej b l ∧ 0 ≤ day ∧ day ≤ 10000 := by
 unfold dayErr at h
 split at h
 ·rename_i hc
  split at h
  ·rename_i hr
   exact ⟨qiP hc, qG.1 hr⟩
  ·cases h
 ·rename_i hc
  exact absurd h hc
def relB (b : Book) (l : List Ent) (day : Int) (i : Nat) : Bool := ((whyL b l (i : Int) day).length : Int) == 0
def relL (b : Book) (l : List Ent) (day : Int) : List Int := fil (relB b l day) b.2.2.length
theorem rideB_of {b : Book} {i : Nat} (h : i < b.2.2.length) : rideB b (i : Int) = true := qG.2 ⟨by omega, by omega⟩
theorem g68_eq (b : Book) (l : List Ent) (day : Int) : g68 (b, l, day, ()) = some ((if dayErr b l day = 0 then relL b (upto l day) day else [], dayErr b l day, ()), ()) := by
 show F68 qc b l day = _
 unfold F68
 by_cases h : dayErr b l day = 0
 ·obtain ⟨hg, hd⟩ := qlF h
  have hs := (qe0 hg.book).rides
  have hu := (hg.upto day).fit
  rw [g83_ok h, qb, if_pos h, h]
  have e := qkY (L := L68_5) (fun i s => ((day, (b.2.2.length : Int), (i : Int), ()), (s, (b, upto l day), ()), ())) (relB b (upto l day) day) b.2.2.length 0 (fun s => ((), (s, ()), ())) (N := qc) (by have := qP; omega)
   (fun N s _ => by simp [L68_5, B68_5])
   (fun N i s _ hi hl => by
    simp only [L68_5, B68_5]
    rw [qu (by omega), cond_true, g84_eq b _ hu _ day hd (rideB_of hi), qb, jT (by simp; omega) (by simp; omega), wI (by omega) (by omega)]
    unfold relB
    cases ((whyL b (upto l day) (i : Int) day).length : Int) == 0 <;> rfl)
  have e' : L68_5 qc ((day, (b.2.2.length : Int), 0, ()), ([], (b, upto l day), ()), ()) = _ := e
  show qa (L68_5 qc ((day, (b.2.2.length : Int), 0, ()), ([], (b, upto l day), ()), ())) _ = _
  rw [e']
  rfl
 ·obtain ⟨z, e⟩ := g83_err h
  rw [e, qb, if_neg h]
  show cond (dayErr b l day != 0) _ _ = _
  rw [neq_t h]
  rfl
theorem gd_snoc {α : Type} [Inhabited α] {l : List α} {x : α} {i : Nat} (hi : i < l.length) : gd (l ++ [x]) (i : Int) = gd l (i : Int) := gd_app_l (by omega) (by omega)
theorem qk2 {α : Type} [Inhabited α] {l : List α} {x : α} : gd (l ++ [x]) (l.length : Int) = x := qkz rfl
theorem rel_in {b : Book} {l : List Ent} {day n : Int} (h : n ∈ relL b l day) : 0 ≤ n ∧ n < b.2.2.length := by
 unfold relL fil at h
 rw [List.mem_map] at h
 obtain ⟨i, hi, rfl⟩ := h
 have := List.mem_range.1 (List.mem_filter.1 hi).1
 omega
theorem rel_lenT (b : Book) (l : List Ent) (day : Int) : (relL b l day).length ≤ b.2.2.length := qgs _ _
theorem qej.snoc' {b : Book} {l : List Ent} (h : qej b l) {x : Ent} (hl : l.length < 100) (hx : qa7 b l x = true) : qej b (l ++ [x]) := by
 refine ⟨h.book, by simp; omega, fun i hi => ?_⟩
 rw [List.length_append, List.length_singleton] at hi
 by_cases hil : i < l.length
 ·rw [gd_snoc hil, List.take_append_of_le_length (by omega)]
  exact h.right i hil
 ·obtain rfl : i = l.length := by omega
  rw [qk2, List.take_left]
  exact hx
theorem day_err {b : Book} {l : List Ent} {day : Int} (h : (checkR b l).2 = 0) (hd : 0 ≤ day ∧ day ≤ 10000) : dayErr b l day = 0 := by
 unfold dayErr
 rw [if_pos h, if_pos (qG.2 hd)]
theorem root10 : (∀ b l, g63 (b, l, ()) = some (((checkR b l).1, (checkR b l).2, ()), ())) ∧ (∀ b l, g18 (b, l, ()) = some (((checkR b l).1, (checkR b l).2, ()), ())) ∧ (∀ b l day, g68 (b, l, day, ()) = some ((if dayErr b l day = 0 then relL b (upto l day) day else [], dayErr b l day, ()), ())) := ⟨g63_eq, g18_eq, g68_eq⟩
def foundE (d n : Int) : Ent := (d, 2, n, 3, 0)
theorem qld {l : List Ent} {day : Int} (h : ∀ x, x ∈ l → x.1 ≤ day) : upto l day = l := by
 unfold upto
 induction l with
 | nil => rfl
 | cons x l ih =>
  rw [List.takeWhile_cons, qu (h x List.mem_cons_self), if_pos rfl, ih (fun y hy => h y (List.mem_cons_of_mem _ hy))]
theorem last_all {b : Book} {l : List Ent} (h : qej b l) {d : Int} (hd : lastDay l ≤ d) : ∀ x, x ∈ l → x.1 ≤ d := by
 intro x hx
 obtain ⟨i, hi, rfl⟩ := List.mem_iff_getElem.1 hx
 have hs := h.fit.sorted i (l.length - 1) (by omega) (by omega)
 unfold lastDay at hd
 rw [if_neg (by omega)] at hd
 rw [qdM (List.getElem?_eq_getElem hi), show ((l.length - 1 : Nat) : Int) = (l.length : Int) - 1 by omega] at hs
 omega
theorem qkC {b : Book} {l : List Ent} {n d : Int} (h : qej b l) (hl : l.length < 100) (hr : rideB b n = true) (h1 : lastDay l ≤ d) (h2 : d ≤ 10000) : qej b (l ++ [foundE d n]) := by
 refine h.snoc' hl ?_
 unfold qa7
 rw [Bool.and_eq_true]
 refine ⟨qG.2 ⟨h1, h2⟩, ?_⟩
 show (rideB b n && jD 3 1 3 && ((0 : Int) == 0)) = true
 rw [hr]
 rfl
theorem found_check {b : Book} {l : List Ent} {n d : Int} (h : (checkR b l).2 = 0) (hl : l.length < 100) (hr : rideB b n = true) (h1 : lastDay l ≤ d) (h2 : d ≤ 10000) : (checkR b (l ++ [foundE d n])).2 = 0 := by
 rw [good_iff (qkC (qiP h) hl hr h1 h2)]
theorem found_not {b : Book} {l : List Ent} {n d : Int} (h0 : (checkR b l).2 = 0) (h1 : lastDay l ≤ d) : ¬ n ∈ relL b (upto (l ++ [foundE d n]) d) d := by
 have h := qiP h0
 have hall := last_all h h1
 have hu : upto (l ++ [foundE d n]) d = l ++ [foundE d n] := qld fun x hx => by
  rcases List.mem_append.1 hx with hx | hx
  ·exact hall x hx
  ·rw [List.mem_singleton.1 hx]
   exact Int.le_refl _
 rw [hu]
 intro hm
 obtain ⟨i, hi, hp, rfl⟩ := qk5 hm
 have hs : qdS (l ++ [foundE d (i : Int)]) (i : Int) = true := by
  cases hs : qdS (l ++ [foundE d (i : Int)]) (i : Int) with
  | true => rfl
  | false =>
   unfold relB whyL at hp
   rw [hs] at hp
   have := eq_of_beq hp
   simp at this
   omega
 unfold qdS at hs
 rw [Bool.and_eq_true, beq_iff_eq] at hs
 have hc := hs.1
 unfold qea at hc
 have hz : ((qaV (l ++ [foundE d (i : Int)])).filter fun j => (gd (l ++ [foundE d (i : Int)]) j).2.2.1 == (i : Int) && (gd (l ++ [foundE d (i : Int)]) j).2.2.2.1 == 3) = [] := List.eq_nil_of_length_eq_zero (by omega)
 have hgd : gd (l ++ [foundE d (i : Int)]) (l.length : Int) = foundE d (i : Int) := qk2
 have hmend : qcU (l ++ [foundE d (i : Int)]) (l.length : Int) = false := by
  unfold qcU
  rw [List.any_append, Bool.or_eq_false_iff]
  refine ⟨?_, rfl⟩
  rw [List.any_eq_false]
  intro y hy hq
  rw [Bool.and_eq_true, beq_iff_eq, beq_iff_eq] at hq
  obtain ⟨k, hk, rfl⟩ := List.mem_iff_getElem.1 hy
  have hr := h.right k hk
  rw [qdM (List.getElem?_eq_getElem hk)] at hr
  unfold qa7 qg4 at hr
  rw [hq.1] at hr
  rw [Bool.and_eq_true] at hr
  have h3 := hr.2
  have e1 : ((3 : Int) == 1) = false := rfl
  have e2 : ((3 : Int) == 2) = false := rfl
  have e3 : ((3 : Int) == 3) = true := rfl
  rw [e1, e2, e3] at h3
  simp only [Bool.false_eq_true, if_false, if_true, Bool.and_eq_true] at h3
  have ho := h3.1.1
  unfold qdK at ho
  simp only [Bool.and_eq_true] at ho
  have hrg := qG.1 ho.1.1
  have := List.length_take_le k l
  omega
 have ho : (l.length : Int) ∈ qaV (l ++ [foundE d (i : Int)]) := by
  unfold qaV fil
  refine List.mem_map.2 ⟨l.length, List.mem_filter.2 ⟨List.mem_range.2 (by simp), ?_⟩, rfl⟩
  unfold qdK
  rw [hgd, hmend]
  have hr : jD (l.length : Int) 0 (((l ++ [foundE d (i : Int)]).length : Int) - 1) = true := qG.2 ⟨by omega, by simp⟩
  rw [hr]
  rfl
 have hbad := List.filter_eq_nil_iff.1 hz _ ho
 rw [hgd] at hbad
 exact hbad (by simp [foundE])
end Go.Proofs.Tryz.V.L10
