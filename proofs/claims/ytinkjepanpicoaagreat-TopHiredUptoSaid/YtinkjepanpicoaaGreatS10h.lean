/- Plain laws: what the last text needs of the others, in one. No condition beyond those typed in each theorem. -/
import Derived.Test.YtinkjepanpicoaaGreatFn4
namespace Go.Proofs.Tryz.V.L10
open Go.Vi
set_option maxRecDepth 100000
abbrev Rule := Int × (Int × (Int × Bool))
abbrev Book := (List Rule) × ((List Int) × (List Int))
abbrev Ent := Int × (Int × (Int × (Int × Int)))
abbrev Log := Book × (List Ent)
theorem loopIdx {α D R : Type} [Inhabited α] {L : Nat → D → Option R} (mk : Nat → D) (l : List α) (q : α → Bool) (hit : Nat → R) (e : R) (c : Nat) {N : Nat} (hN : l.length + c < N)
    (hend : ∀ N, L (N + 1) (mk l.length) = some e)
    (hstep : ∀ N i, c ≤ N → i < l.length → L (N + 1) (mk i) = if q (gd l (i : Int)) then some (hit i) else L N (mk (i + 1))) :
    L N (mk 0) = some (match l.findIdx? q with | some i => hit i | none => e) := by
  have key : ∀ (d i : Nat) (N : Nat), i + d = l.length → d + c < N → L N (mk i) = some (match (l.drop i).findIdx? q with | some j => hit (i + j) | none => e) := by
    intro d
    induction d with
    | zero =>
      intro i N hi hN
      obtain ⟨m, rfl⟩ : ∃ m, N = m + 1 := ⟨N - 1, by omega⟩
      obtain rfl : i = l.length := by omega
      rw [hend, List.drop_length]
      rfl
    | succ d ih =>
      intro i N hi hN
      obtain ⟨m, rfl⟩ : ∃ m, N = m + 1 := ⟨N - 1, by omega⟩
      rw [hstep m i (by omega) (by omega), qbC (by omega), List.findIdx?_cons]
      cases hq : q (gd l (i : Int)) with
      | true => rfl
      | false =>
        rw [if_neg (by simp), ih (i + 1) m (by omega) (by omega)]
        simp only [Bool.false_eq_true, if_false]
        cases (l.drop (i + 1)).findIdx? q with
        | none => rfl
        | some j =>
          simp only [Option.map_some]
          rw [show i + (j + 1) = i + 1 + j by omega]
  have := key l.length 0 N (by omega) hN
  simpa using this
theorem qbB {α : Type} {l : List α} {q : α → Bool} : (l.findIdx? q).isNone = l.all (fun x => !q x) := by
  induction l with
  | nil => rfl
  | cons x l _ =>
    rw [List.findIdx?_cons, List.all_cons]
    cases q x with
    | true => rfl
    | false => simp
theorem loopAll {α D R : Type} [Inhabited α] {L : Nat → D → Option R} (mk : Nat → D) (l : List α) (p : α → Bool) (bad good : R) (c : Nat) {N : Nat} (hN : l.length + c < N)
    (hend : ∀ N, L (N + 1) (mk l.length) = some good)
    (hstep : ∀ N i, c ≤ N → i < l.length → L (N + 1) (mk i) = if p (gd l (i : Int)) then L N (mk (i + 1)) else some bad) :
    L N (mk 0) = some (if l.all p then good else bad) := by
  rw [loopIdx mk l (fun x => !p x) (fun _ => bad) good c hN hend (fun N i hc hi => by
    rw [hstep N i hc hi]
    cases p (gd l (i : Int)) <;> rfl)]
  have := qbB (l := l) (q := fun x => !p x)
  simp only [Bool.not_not] at this
  cases h : l.findIdx? (fun x => !p x) with
  | none =>
    rw [h] at this
    simp only [Option.isNone_none] at this
    rw [← this]
    rfl
  | some i =>
    rw [h] at this
    simp only [Option.isNone_some] at this
    rw [← this]
    rfl
def jA (x lo hi : Int) : Bool := decide (lo ≤ x) && decide (x ≤ hi)
theorem g64_eq (x lo hi : Int) : g64 (x, lo, hi, ()) = some ((jA x lo hi, ()), ()) := by
  show F64 fuel x lo hi = _
  unfold F64 jA
  by_cases h : lo ≤ x
  · rw [qs (p := x ≥ lo) h]; rfl
  · rw [qy (p := x ≥ lo) h]; rfl
theorem g87_eq (x lo hi : Int) : g87 (x, lo, hi, ()) = some ((jA x lo hi, ()), ()) := by
  show F87 fuel x lo hi = _
  unfold F87 jA
  by_cases h : lo ≤ x
  · rw [qs (p := x ≥ lo) h]; rfl
  · rw [qy (p := x ≥ lo) h]; rfl
def idxI {α : Type} (l : List α) (q : α → Bool) : Int := match l.findIdx? q with | some i => (i : Int) | none => -1
theorem idxI_nn {α : Type} (l : List α) (q : α → Bool) : decide (idxI l q ≥ 0) = l.any q := by
  have h := qbB (l := l) (q := q)
  unfold idxI
  cases hf : l.findIdx? q with
  | some i =>
    rw [hf] at h
    simp only [Option.isNone_some] at h
    show decide ((i : Int) ≥ 0) = _
    rw [qs (by omega)]
    rw [List.all_eq_not_any_not] at h
    simpa using h
  | none =>
    rw [hf] at h
    simp only [Option.isNone_none] at h
    show decide ((-1 : Int) ≥ 0) = _
    rw [qy (by omega)]
    rw [List.all_eq_not_any_not] at h
    simpa using h
theorem g120_eq (l : List Rule) (hl : l.length ≤ 1099511627776) (f : Rule → Option Bool) (q : Rule → Bool) (hf : ∀ x ∈ l, f x = some (q x)) : g120 (l, f, ()) = some ((idxI l q, ()), ()) := by
  show F120 fuel l f = _
  unfold F120
  have h := loopIdx (L := L120_2) (fun i => ((l, f, (l.length : Int), (i : Int), ()), (), ())) l q (fun i => .inl (((i : Int), ()), (), ())) (.inr ((), (), ())) 0 (N := fuel) (by have := qY; omega)
    (fun N => by simp [L120_2, B120_2])
    (fun N i _ hi => by
      simp only [L120_2, B120_2]
      rw [qs (by omega), cond_true, ql (by omega) (by omega), hf _ (qay (by omega) (by omega)), qb, wI (by omega) (by omega)]
      cases q (gd l (i : Int)) <;> rfl)
  have h' : L120_2 fuel ((l, f, (l.length : Int), 0, ()), (), ()) = _ := h
  rw [h', qb]
  unfold idxI
  cases l.findIdx? q <;> rfl
theorem g54_eq (l : List Int) (hl : l.length ≤ 1099511627776) (f : Int → Option Bool) (q : Int → Bool) (hf : ∀ x ∈ l, f x = some (q x)) : g54 (l, f, ()) = some ((idxI l q, ()), ()) := by
  show F54 fuel l f = _
  unfold F54
  have h := loopIdx (L := L54_2) (fun i => ((l, f, (l.length : Int), (i : Int), ()), (), ())) l q (fun i => .inl (((i : Int), ()), (), ())) (.inr ((), (), ())) 0 (N := fuel) (by have := qY; omega)
    (fun N => by simp [L54_2, B54_2])
    (fun N i _ hi => by
      simp only [L54_2, B54_2]
      rw [qs (by omega), cond_true, ql (by omega) (by omega), hf _ (qay (by omega) (by omega)), qb, wI (by omega) (by omega)]
      cases q (gd l (i : Int)) <;> rfl)
  have h' : L54_2 fuel ((l, f, (l.length : Int), 0, ()), (), ()) = _ := h
  rw [h', qb]
  unfold idxI
  cases l.findIdx? q <;> rfl
theorem g93_eq (l : List Ent) (hl : l.length ≤ 1099511627776) (f : Ent → Option Bool) (q : Ent → Bool) (hf : ∀ x ∈ l, f x = some (q x)) : g93 (l, f, ()) = some ((idxI l q, ()), ()) := by
  show F93 fuel l f = _
  unfold F93
  have h := loopIdx (L := L93_2) (fun i => ((l, f, (l.length : Int), (i : Int), ()), (), ())) l q (fun i => .inl (((i : Int), ()), (), ())) (.inr ((), (), ())) 0 (N := fuel) (by have := qY; omega)
    (fun N => by simp [L93_2, B93_2])
    (fun N i _ hi => by
      simp only [L93_2, B93_2]
      rw [qs (by omega), cond_true, ql (by omega) (by omega), hf _ (qay (by omega) (by omega)), qb, wI (by omega) (by omega)]
      cases q (gd l (i : Int)) <;> rfl)
  have h' : L93_2 fuel ((l, f, (l.length : Int), 0, ()), (), ()) = _ := h
  rw [h', qb]
  unfold idxI
  cases l.findIdx? q <;> rfl
theorem g103_eq (l : List Rule) (hl : l.length ≤ 1099511627776) (f : Rule → Option Bool) (q : Rule → Bool) (hf : ∀ x ∈ l, f x = some (q x)) : g103 (l, f, ()) = some ((l.any q, ()), ()) := by
  show F103 fuel l f = _
  unfold F103
  rw [g120_eq l hl f q hf, qb, idxI_nn]
theorem g26_eq (l : List Int) (hl : l.length ≤ 1099511627776) (f : Int → Option Bool) (q : Int → Bool) (hf : ∀ x ∈ l, f x = some (q x)) : g26 (l, f, ()) = some ((l.any q, ()), ()) := by
  show F26 fuel l f = _
  unfold F26
  rw [g54_eq l hl f q hf, qb, idxI_nn]
theorem g122_eq (l : List Ent) (hl : l.length ≤ 1099511627776) (f : Ent → Option Bool) (q : Ent → Bool) (hf : ∀ x ∈ l, f x = some (q x)) : g122 (l, f, ()) = some ((l.any q, ()), ()) := by
  show F122 fuel l f = _
  unfold F122
  rw [g93_eq l hl f q hf, qb, idxI_nn]
def qdC (b : Book) (r : Rule) : Bool := jA r.1 0 ((b.2.2.length : Int) - 1) && jA r.2.1 1 10000 && jA r.2.2.1 0 9
def qfZ (b : Book) : Bool := decide (b.1.length ≤ 20) && decide (b.2.1.length ≤ 8) && decide (b.2.2.length ≤ 10)
def qa0 (b : Book) : Bool := qfZ b && b.1.all (qdC b) && b.2.1.all (fun n => jA n 0 9) && b.2.2.all (fun n => jA n 0 10000)
theorem any_not {α : Type} (l : List α) (p : α → Bool) : l.any (fun x => !p x) = !l.all p := by
  rw [List.any_eq_not_all_not]
  simp
theorem g85_eq (b : Book) : g85 (b, ()) = some ((if qa0 b then 0 else 100, ()), ()) := by
  show F85 fuel b = _
  unfold F85 qa0 qfZ
  by_cases h1 : b.1.length ≤ 20
  case neg => rw [qs (by omega), qy h1]; rfl
  rw [qy (by omega), qs h1, cond_false]
  by_cases h2 : b.2.1.length ≤ 8
  case neg => rw [qs (by omega), qy h2]; rfl
  rw [qy (by omega), qs h2, cond_false]
  by_cases h3 : b.2.2.length ≤ 10
  case neg => rw [qs (by omega), qy h3]; rfl
  rw [qy (by omega), qs h3, cond_false]
  rw [g103_eq b.1 (by omega) _ (fun r => !qdC b r) (fun r _ => by
    show qa (F104 fuel r b) _ = _
    unfold F104 qdC
    simp only [g64_eq, qb]
    rw [wI (by omega) (by omega)]
    cases jA r.1 0 ((b.2.2.length : Int) - 1) with
    | false => rfl
    | true =>
      cases jA r.2.1 1 10000 with
      | false => rfl
      | true => rfl)]
  rw [qb, any_not]
  cases b.1.all (qdC b) with
  | false => rfl
  | true =>
  rw [g26_eq b.2.1 (by omega) _ (fun n => !jA n 0 9) (fun n _ => by
    show qa (F105 fuel n) _ = _
    unfold F105
    simp only [g64_eq, qb])]
  rw [qb, any_not]
  cases b.2.1.all (fun n => jA n 0 9) with
  | false => rfl
  | true =>
  rw [g26_eq b.2.2 (by omega) _ (fun n => !jA n 0 10000) (fun n _ => by
    show qa (F106 fuel n) _ = _
    unfold F106
    simp only [g64_eq, qb])]
  simp only [Bool.not_true, cond_false, qb, any_not]
  cases b.2.2.all (fun n => jA n 0 10000) with
  | false => rfl
  | true => rfl
theorem g57_eq (b : Book) : g57 (b, ()) = some ((if qa0 b then 0 else 100, ()), ()) := by
  show F57 fuel b = _
  unfold F57 qa0 qfZ
  by_cases h1 : b.1.length ≤ 20
  case neg => rw [qs (by omega), qy h1]; rfl
  rw [qy (by omega), qs h1, cond_false]
  by_cases h2 : b.2.1.length ≤ 8
  case neg => rw [qs (by omega), qy h2]; rfl
  rw [qy (by omega), qs h2, cond_false]
  by_cases h3 : b.2.2.length ≤ 10
  case neg => rw [qs (by omega), qy h3]; rfl
  rw [qy (by omega), qs h3, cond_false]
  have e1 : L57_4 fuel ((0, ()), (b, ()), ()) = _ := loopAll (L := L57_4) (fun i => (((i : Int), ()), (b, ()), ())) b.1 (qdC b) (.inl ((100, ()), (), ())) (.inr ((), (b, ()), ())) 0 (by have := qY; omega)
    (fun N => by simp [L57_4, B57_4])
    (fun N i _ hi => by
      simp only [L57_4, B57_4]
      rw [qs (by omega), cond_true, ql (by omega) (by omega)]
      simp only [g87_eq, qb]
      rw [wI (x := (b.2.2.length : Int) - 1) (by omega) (by omega), wI (by omega) (by omega)]
      unfold qdC
      cases jA (gd b.1 (i : Int)).1 0 ((b.2.2.length : Int) - 1) with
      | false => rfl
      | true =>
        cases jA (gd b.1 (i : Int)).2.1 1 10000 with
        | false => rfl
        | true => cases jA (gd b.1 (i : Int)).2.2.1 0 9 <;> rfl)
  rw [e1, qb]
  cases b.1.all (qdC b) with
  | false => rfl
  | true =>
  simp only [if_true, qcH]
  have e2 : L57_10 fuel ((0, ()), (b, ()), ()) = _ := loopAll (L := L57_10) (fun i => (((i : Int), ()), (b, ()), ())) b.2.1 (fun n => jA n 0 9) (.inl ((100, ()), (), ())) (.inr ((), (b, ()), ())) 0 (by have := qY; omega)
    (fun N => by simp [L57_10, B57_10])
    (fun N i _ hi => by
      simp only [L57_10, B57_10]
      rw [qs (by omega), cond_true, ql (by omega) (by omega)]
      simp only [g87_eq, qb]
      rw [wI (by omega) (by omega)]
      cases jA (gd b.2.1 (i : Int)) 0 9 <;> rfl)
  rw [e2, qb]
  cases b.2.1.all (fun n => jA n 0 9) with
  | false => rfl
  | true =>
  simp only [if_true, qcH]
  have e3 : L57_15 fuel ((0, ()), (b, ()), ()) = _ := loopAll (L := L57_15) (fun i => (((i : Int), ()), (b, ()), ())) b.2.2 (fun n => jA n 0 10000) (.inl ((100, ()), (), ())) (.inr ((), (), ())) 0 (by have := qY; omega)
    (fun N => by simp [L57_15, B57_15])
    (fun N i _ hi => by
      simp only [L57_15, B57_15]
      rw [qs (by omega), cond_true, ql (by omega) (by omega)]
      simp only [g87_eq, qb]
      rw [wI (by omega) (by omega)]
      cases jA (gd b.2.2 (i : Int)) 0 10000 <;> rfl)
  rw [e3, qb]
  cases b.2.2.all (fun n => jA n 0 10000) with
  | false => rfl
  | true => rfl
structure qcT (b : Book) : Prop where
  rules : b.1.length ≤ 1048576
  ranks : b.2.1.length ≤ 1048576
  rides : b.2.2.length ≤ 1048576
theorem qex {b : Book} (h : qa0 b = true) : qcT b := by
  simp only [qa0, qfZ, Bool.and_eq_true, decide_eq_true_eq] at h
  exact ⟨by omega, by omega, by omega⟩
def qeC (b : Book) (n : Int) : Bool := jA n 0 ((b.2.2.length : Int) - 1)
def qb5 (b : Book) (n : Int) : Bool := jA n 0 ((b.2.1.length : Int) - 1)
def qck (b : Book) (n : Int) : Bool := jA n 0 ((b.1.length : Int) - 1)
def mayB (b : Book) (rule n : Int) : Bool := qb5 b n && decide ((gd b.1 rule).2.2.1 ≤ gd b.2.1 n)
def qgj (b : Book) (rule a c : Int) : Bool := if (gd b.1 rule).2.2.2 then mayB b rule a && mayB b rule c && (a != c) else mayB b rule a && (c == -1)
def qdW (l : List Ent) (n : Int) : Bool := l.any fun x => x.2.1 == 3 && x.2.2.1 == n
def qd9 (l : List Ent) (n : Int) : Bool := jA n 0 ((l.length : Int) - 1) && ((gd l n).2.1 == 2) && !qdW l n
def qdb (l : List Ent) : Int := if l.length = 0 then 0 else (gd l ((l.length : Int) - 1)).1
def qhL (b : Book) (l : List Ent) (x : Ent) : Bool :=
  if x.2.1 == 1 then qck b x.2.2.1 && qgj b x.2.2.1 x.2.2.2.1 x.2.2.2.2
  else if x.2.1 == 2 then qeC b x.2.2.1 && jA x.2.2.2.1 1 3 && (x.2.2.2.2 == 0)
  else if x.2.1 == 3 then qd9 l x.2.2.1 && qb5 b x.2.2.2.1 && (x.2.2.2.2 == 0)
  else if x.2.1 == 4 then qeC b x.2.2.1 && qb5 b x.2.2.2.1 && (x.2.2.2.2 == 0)
  else if x.2.1 == 5 then qeC b x.2.2.1 && jA x.2.2.2.1 0 10000 && (x.2.2.2.2 == 0)
  else if x.2.1 == 6 then qeC b x.2.2.1 && (x.2.2.2.1 == 0) && (x.2.2.2.2 == 0)
  else false
def qbK (b : Book) (l : List Ent) (x : Ent) : Bool := jA x.1 (qdb l) 10000 && qhL b l x
theorem qN {x lo hi : Int} : jA x lo hi = true ↔ lo ≤ x ∧ x ≤ hi := by simp [jA]
theorem g108_eq (b : Book) (l : List Ent) (n : Int) (hb : qcT b) : g108 ((b, l), n, ()) = some ((qeC b n, ()), ()) := by
  show F108 fuel (b, l) n = _
  unfold F108
  have := hb.rides
  simp only [g64_eq, qb]
  rw [wI (by omega) (by omega)]
  rfl
theorem g110_eq (b : Book) (l : List Ent) (n : Int) (hb : qcT b) : g110 ((b, l), n, ()) = some ((qb5 b n, ()), ()) := by
  show F110 fuel (b, l) n = _
  unfold F110
  have := hb.ranks
  simp only [g64_eq, qb]
  rw [wI (by omega) (by omega)]
  rfl
theorem g121_eq (b : Book) (l : List Ent) (rule n : Int) (hb : qcT b) (hr : qck b rule = true) : g121 ((b, l), rule, n, ()) = some ((mayB b rule n, ()), ()) := by
  show F121 fuel (b, l) rule n = _
  unfold F121 mayB
  rw [g110_eq b l n hb, qb]
  cases h : qb5 b n with
  | false => rfl
  | true =>
    have h := qN.1 h
    have hr := qN.1 hr
    simp only [cond_true]
    rw [ql (by omega) (by omega), ql (by omega) (by omega)]
    rfl
theorem g107_eq (b : Book) (l : List Ent) (rule a c : Int) (hb : qcT b) (hr : qck b rule = true) : g107 ((b, l), rule, a, c, ()) = some ((qgj b rule a c, ()), ()) := by
  show F107 fuel (b, l) rule a c = _
  unfold F107 qgj
  have hr' := qN.1 hr
  simp only [g121_eq b l rule _ hb hr, qb]
  rw [ql (by omega) (by omega)]
  cases (gd b.1 rule).2.2.2 with
  | false => cases mayB b rule a <;> rfl
  | true =>
    cases mayB b rule a with
    | false => rfl
    | true => cases mayB b rule c <;> rfl
theorem g88_eq (b : Book) (rule a c : Int) (hb : qcT b) (hr : qck b rule = true) : g88 (b, rule, a, c, ()) = some ((qgj b rule a c, ()), ()) := by
  show F88 fuel b rule a c = _
  unfold F88 qgj mayB
  have := hb.ranks
  have hr' := qN.1 hr
  rw [ql (by omega) (by omega), g87_eq, qb, wI (by omega) (by omega)]
  show cond (!qb5 b a) _ _ = _
  cases h : qb5 b a with
  | false => cases (gd b.1 rule).2.2.2 <;> rfl
  | true =>
    have h := qN.1 h
    simp only [Bool.not_true, cond_false]
    rw [ql (by omega) (by omega)]
    by_cases h2 : (gd b.1 rule).2.2.1 ≤ gd b.2.1 a
    case neg =>
      rw [qs (by omega), qy h2]
      cases (gd b.1 rule).2.2.2 <;> rfl
    rw [qy (by omega), qs h2, cond_false]
    cases (gd b.1 rule).2.2.2 with
    | false => rfl
    | true =>
      simp only [Bool.not_true, cond_false, g87_eq, qb]
      show cond (qb5 b c) _ _ = _
      cases h3 : qb5 b c with
      | false => rfl
      | true =>
        have h3 := qN.1 h3
        simp only [cond_true]
        have e : (c != a) = (a != c) := by
          rw [Bool.eq_iff_iff]
          simp only [bne_iff_ne, ne_eq]
          exact not_congr ⟨Eq.symm, Eq.symm⟩
        rw [e, ql (by omega) (by omega)]
        cases a != c with
        | false => simp
        | true => simp
theorem g109_eq (b : Book) (l : List Ent) (n : Int) (hl : l.length ≤ 1048576) : g109 ((b, l), n, ()) = some ((qdW l n, ()), ()) := by
  show F109 fuel (b, l) n = _
  unfold F109
  rw [g122_eq l (by omega) _ (fun x => x.2.1 == 3 && x.2.2.1 == n) (fun x _ => by
    show qa (F123 fuel x n) _ = _
    unfold F123
    cases x.2.1 == 3 <;> rfl)]
  rfl
theorem g89_eq (l : List Ent) (n : Int) (hl : l.length ≤ 1048576) : g89 (l, n, ()) = some ((qd9 l n, ()), ()) := by
  show F89 fuel l n = _
  unfold F89 qd9
  rw [g87_eq, qb, wI (by omega) (by omega)]
  cases h : jA n 0 ((l.length : Int) - 1) with
  | false => rfl
  | true =>
    have h := qN.1 h
    simp only [Bool.not_true, cond_false]
    rw [ql (by omega) (by omega)]
    cases h2 : (gd l n).2.1 == 2 with
    | false => rw [show ((gd l n).2.1 != 2) = true by unfold bne; rw [h2]; rfl]; rfl
    | true =>
      rw [show ((gd l n).2.1 != 2) = false by unfold bne; rw [h2]; rfl, cond_false]
      have e : L89_4 fuel ((l, n, 0, ()), (), ()) = _ := loopAll (L := L89_4) (fun i => ((l, n, (i : Int), ()), (), ())) l (fun x => !(x.2.1 == 3 && x.2.2.1 == n)) (.inl ((false, ()), (), ())) (.inr ((), (), ())) 0 (by have := qY; omega)
        (fun N => by simp [L89_4, B89_4])
        (fun N i _ hi => by
          simp only [L89_4, B89_4]
          rw [qs (by omega), cond_true, ql (by omega) (by omega), ql (by omega) (by omega), wI (by omega) (by omega)]
          cases (gd l (i : Int)).2.1 == 3 with
          | false => rfl
          | true => cases (gd l (i : Int)).2.2.1 == n <;> rfl)
      rw [e, qb]
      have : qdW l n = !l.all (fun x => !(x.2.1 == 3 && x.2.2.1 == n)) := by
        rw [← any_not]
        simp only [Bool.not_not]
        rfl
      rw [this]
      cases l.all (fun x => !(x.2.1 == 3 && x.2.2.1 == n)) <;> rfl
theorem qad {a b : Bool} : (cond a (some ((b, ()), ())) (some ((false, ()), ())) : Option ((Bool × Unit) × Unit)) = some ((a && b, ()), ()) := by cases a <;> rfl
theorem g86_eq (b : Book) (l : List Ent) (x : Ent) (hb : qcT b) (hl : l.length ≤ 1048576) : g86 ((b, l), x, ()) = some ((qbK b l x, ()), ()) := by
  show F86 fuel (b, l) x = _
  unfold F86 qbK qdb
  have hr := hb.rules
  simp only [g64_eq, g108_eq b l _ hb, g110_eq b l _ hb, g109_eq b l _ hl, qb]
  rw [wI (x := (b.1.length : Int) - 1) (by omega) (by omega), wI (x := (l.length : Int) - 1) (by omega) (by omega)]
  by_cases h0 : l.length = 0
  · rw [if_pos h0, qy (by omega), cond_false]
    cases jA x.1 0 10000 with
    | false => rfl
    | true =>
      unfold qhL
      simp only [Bool.not_true, cond_false, Bool.true_and]
      cases h1 : x.2.1 == 1 with
      | true =>
        simp only [cond_true, if_true]
        show cond (qck b x.2.2.1) _ _ = _
        cases h : qck b x.2.2.1 with
        | false => rfl
        | true => simp only [cond_true, g107_eq b l _ _ _ hb h, qb, Bool.true_and]
      | false =>
      simp only [cond_false, Bool.false_eq_true, if_false]
      cases h2 : x.2.1 == 2 with
      | true => simp only [cond_true, if_true, qad, Bool.and_assoc]
      | false =>
      simp only [cond_false, Bool.false_eq_true, if_false]
      cases h3 : x.2.1 == 3 with
      | true =>
        simp only [cond_true, if_true]
        unfold qd9
        cases h : jA x.2.2.1 0 ((l.length : Int) - 1) with
        | false => rfl
        | true =>
          have h := qN.1 h
          simp only [cond_true]
          rw [ql (by omega) (by omega)]
          cases (gd l x.2.2.1).2.1 == 2 with
          | false => rfl
          | true =>
            cases qdW l x.2.2.1 with
            | true => rfl
            | false => simp only [cond_true, Bool.not_false, qad, Bool.true_and, Bool.and_assoc]
      | false =>
      simp only [cond_false, Bool.false_eq_true, if_false]
      cases h4 : x.2.1 == 4 with
      | true => simp only [cond_true, if_true, qad, Bool.and_assoc]
      | false =>
      simp only [cond_false, Bool.false_eq_true, if_false]
      cases h5 : x.2.1 == 5 with
      | true => simp only [cond_true, if_true, qad, Bool.and_assoc]
      | false =>
      simp only [cond_false, Bool.false_eq_true, if_false]
      cases h6 : x.2.1 == 6 with
      | true => simp only [cond_true, if_true, qad, Bool.and_assoc]
      | false => rfl
  · rw [if_neg h0, qs (by omega), cond_true, ql (by omega) (by omega)]
    cases jA x.1 (gd l ((l.length : Int) - 1)).1 10000 with
    | false => rfl
    | true =>
      unfold qhL
      simp only [Bool.not_true, cond_false, Bool.true_and]
      cases h1 : x.2.1 == 1 with
      | true =>
        simp only [cond_true, if_true]
        show cond (qck b x.2.2.1) _ _ = _
        cases h : qck b x.2.2.1 with
        | false => rfl
        | true => simp only [cond_true, g107_eq b l _ _ _ hb h, qb, Bool.true_and]
      | false =>
      simp only [cond_false, Bool.false_eq_true, if_false]
      cases h2 : x.2.1 == 2 with
      | true => simp only [cond_true, if_true, qad, Bool.and_assoc]
      | false =>
      simp only [cond_false, Bool.false_eq_true, if_false]
      cases h3 : x.2.1 == 3 with
      | true =>
        simp only [cond_true, if_true]
        unfold qd9
        cases h : jA x.2.2.1 0 ((l.length : Int) - 1) with
        | false => rfl
        | true =>
          have h := qN.1 h
          simp only [cond_true]
          rw [ql (by omega) (by omega)]
          cases (gd l x.2.2.1).2.1 == 2 with
          | false => rfl
          | true =>
            cases qdW l x.2.2.1 with
            | true => rfl
            | false => simp only [cond_true, Bool.not_false, qad, Bool.true_and, Bool.and_assoc]
      | false =>
      simp only [cond_false, Bool.false_eq_true, if_false]
      cases h4 : x.2.1 == 4 with
      | true => simp only [cond_true, if_true, qad, Bool.and_assoc]
      | false =>
      simp only [cond_false, Bool.false_eq_true, if_false]
      cases h5 : x.2.1 == 5 with
      | true => simp only [cond_true, if_true, qad, Bool.and_assoc]
      | false =>
      simp only [cond_false, Bool.false_eq_true, if_false]
      cases h6 : x.2.1 == 6 with
      | true => simp only [cond_true, if_true, qad, Bool.and_assoc]
      | false => rfl
theorem g58_eq (b : Book) (l : List Ent) (x : Ent) (hb : qcT b) (hl : l.length ≤ 1048576) : g58 (b, l, x, ()) = some ((qbK b l x, ()), ()) := by
  show F58 fuel b l x = _
  unfold F58 qbK qdb
  have h1 := hb.rules
  have h2 := hb.ranks
  have h3 := hb.rides
  simp only [g87_eq, g89_eq l _ hl, qb]
  rw [wI (x := (b.1.length : Int) - 1) (by omega) (by omega), wI (x := (l.length : Int) - 1) (by omega) (by omega), wI (x := (b.2.1.length : Int) - 1) (by omega) (by omega), wI (x := (b.2.2.length : Int) - 1) (by omega) (by omega)]
  by_cases h0 : l.length = 0
  · rw [if_pos h0, qy (by omega), cond_false]
    cases jA x.1 0 10000 with
    | false => rfl
    | true =>
      unfold qhL
      simp only [Bool.not_true, cond_false, Bool.true_and]
      cases h1 : x.2.1 == 1 with
      | true =>
        simp only [cond_true, if_true]
        show cond (qck b x.2.2.1) _ _ = _
        cases h : qck b x.2.2.1 with
        | false => rfl
        | true => simp only [cond_true, g88_eq b _ _ _ hb h, qb, Bool.true_and]
      | false =>
      simp only [cond_false, Bool.false_eq_true, if_false]
      cases h2 : x.2.1 == 2 with
      | true => simp only [cond_true, if_true, qad, Bool.and_assoc]; rfl
      | false =>
      simp only [cond_false, Bool.false_eq_true, if_false]
      cases h3 : x.2.1 == 3 with
      | true => simp only [cond_true, if_true, qad, Bool.and_assoc]; rfl
      | false =>
      simp only [cond_false, Bool.false_eq_true, if_false]
      cases h4 : x.2.1 == 4 with
      | true => simp only [cond_true, if_true, qad, Bool.and_assoc]; rfl
      | false =>
      simp only [cond_false, Bool.false_eq_true, if_false]
      cases h5 : x.2.1 == 5 with
      | true => simp only [cond_true, if_true, qad, Bool.and_assoc]; rfl
      | false =>
      simp only [cond_false, Bool.false_eq_true, if_false]
      cases h6 : x.2.1 == 6 with
      | true => simp only [cond_true, if_true, qad, Bool.and_assoc]; rfl
      | false => rfl
  · rw [if_neg h0, qs (by omega), cond_true, ql (by omega) (by omega)]
    cases jA x.1 (gd l ((l.length : Int) - 1)).1 10000 with
    | false => rfl
    | true =>
      unfold qhL
      simp only [Bool.not_true, cond_false, Bool.true_and]
      cases h1 : x.2.1 == 1 with
      | true =>
        simp only [cond_true, if_true]
        show cond (qck b x.2.2.1) _ _ = _
        cases h : qck b x.2.2.1 with
        | false => rfl
        | true => simp only [cond_true, g88_eq b _ _ _ hb h, qb, Bool.true_and]
      | false =>
      simp only [cond_false, Bool.false_eq_true, if_false]
      cases h2 : x.2.1 == 2 with
      | true => simp only [cond_true, if_true, qad, Bool.and_assoc]; rfl
      | false =>
      simp only [cond_false, Bool.false_eq_true, if_false]
      cases h3 : x.2.1 == 3 with
      | true => simp only [cond_true, if_true, qad, Bool.and_assoc]; rfl
      | false =>
      simp only [cond_false, Bool.false_eq_true, if_false]
      cases h4 : x.2.1 == 4 with
      | true => simp only [cond_true, if_true, qad, Bool.and_assoc]; rfl
      | false =>
      simp only [cond_false, Bool.false_eq_true, if_false]
      cases h5 : x.2.1 == 5 with
      | true => simp only [cond_true, if_true, qad, Bool.and_assoc]; rfl
      | false =>
      simp only [cond_false, Bool.false_eq_true, if_false]
      cases h6 : x.2.1 == 6 with
      | true => simp only [cond_true, if_true, qad, Bool.and_assoc]; rfl
      | false => rfl
theorem gd_range {n i : Nat} (h : i < n) : gd (List.range n) (i : Int) = i := qgM (by simp [h])
def qg6 (b : Book) (l : List Ent) : Option Nat := (List.range l.length).findIdx? fun i => !qbK b (l.take i) (gd l (i : Int))
def badB (b : Book) (l : List Ent) (i : Nat) : Bool := !qbK b (l.take i) (gd l (i : Int))
theorem g53_bad (b : Book) (l : List Ent) (h : qa0 b = false) : ∃ z, g53 (b, l, ()) = some ((z, 0, 100, ()), ()) := by
  refine ⟨(([], ([], [])), []), ?_⟩
  show F53 fuel b l = _
  unfold F53
  rw [g85_eq, qb, h]
  rfl
theorem g53_many (b : Book) (l : List Ent) (h : qa0 b = true) (hl : 100 < l.length) : ∃ z, g53 (b, l, ()) = some ((z, 0, 2, ()), ()) := by
  refine ⟨(([], ([], [])), []), ?_⟩
  show F53 fuel b l = _
  unfold F53
  rw [g85_eq, qb, h]
  show cond (decide ((l.length : Int) > 100)) _ _ = _
  rw [qs (by omega)]
  rfl
theorem g53_eq (b : Book) (l : List Ent) (h : qa0 b = true) (hl : l.length ≤ 100) :
    g53 (b, l, ()) = some ((match qg6 b l with | some i => ((b, l.take i), (i : Int), 101, ()) | none => ((b, l), 0, 0, ())), ()) := by
  have hb := qex h
  show F53 fuel b l = _
  unfold F53
  rw [g85_eq, qb, h]
  show cond (decide ((l.length : Int) > 100)) _ _ = _
  rw [qy (by omega), cond_false]
  have e := loopIdx (L := L53_8) (fun i => ((l, (l.length : Int), (i : Int), ()), ((b, l.take i), ()), ())) (List.range l.length) (badB b l) (fun i => .inl (((i : Int), 101, ()), ((b, l.take i), ()), ())) (.inr ((), ((b, l), ()), ())) 0 (N := fuel) (by have := qY; simp; omega)
    (fun N => by simp [L53_8, B53_8])
    (fun N i _ hi => by
      rw [List.length_range] at hi
      simp only [L53_8, B53_8]
      rw [gd_range hi, qs (by omega), cond_true, ql (by omega) (by omega), g86_eq b _ _ hb (by simp; omega), qb, jS (by simp; omega) (by simp; omega), wI (by omega) (by omega), ← qbR hi]
      unfold badB
      cases qbK b (l.take i) (gd l (i : Int)) <;> rfl)
  have e' : L53_8 fuel ((l, (l.length : Int), 0, ()), ((b, []), ()), ()) = _ := e
  rw [e', qb]
  have : qg6 b l = (List.range l.length).findIdx? (badB b l) := rfl
  rw [this]
  cases (List.range l.length).findIdx? (badB b l) <;> rfl
def checkR (b : Book) (l : List Ent) : Int × Int :=
  if qa0 b then (if l.length ≤ 100 then (match qg6 b l with | some i => ((i : Int), 101) | none => (0, 0)) else (0, 2)) else (0, 100)
theorem g21_eq (b : Book) (l : List Ent) : g21 (b, l, ()) = some (((checkR b l).1, (checkR b l).2, ()), ()) := by
  show F21 fuel b l = _
  unfold F21 checkR
  cases h : qa0 b with
  | false =>
    obtain ⟨z, e⟩ := g53_bad b l h
    rw [e]
    rfl
  | true =>
    by_cases hl : l.length ≤ 100
    · rw [g53_eq b l h hl, qb, if_pos hl]
      cases qg6 b l <;> rfl
    · obtain ⟨z, e⟩ := g53_many b l h (by omega)
      rw [e, if_neg hl]
      rfl
theorem g28_eq (b : Book) (l : List Ent) : g28 (b, l, ()) = some (((checkR b l).1, (checkR b l).2, ()), ()) := by
  show F28 fuel b l = _
  unfold F28 checkR
  rw [g57_eq, qb]
  cases h : qa0 b with
  | false => rfl
  | true =>
  have hb := qex h
  show cond (decide ((l.length : Int) > 100)) _ _ = _
  by_cases hl : l.length ≤ 100
  case neg =>
    rw [qs (by omega), if_neg hl]
    rfl
  rw [qy (by omega), cond_false, if_pos hl]
  have e := loopIdx (L := L28_7) (fun i => ((l, (i : Int), ()), (b, ()), ())) (List.range l.length) (badB b l) (fun i => .inl (((i : Int), 101, ()), (), ())) (.inr ((), (), ())) 0 (N := fuel) (by have := qY; simp; omega)
    (fun N => by simp [L28_7, B28_7])
    (fun N i _ hi => by
      rw [List.length_range] at hi
      simp only [L28_7, B28_7]
      rw [gd_range hi, qs (by omega), cond_true, qaZ (by omega), qaZ (by omega), ql (by omega) (by omega), g58_eq b _ _ hb (by simp; omega), qb, wI (by omega) (by omega), Int.toNat_natCast]
      unfold badB
      cases qbK b (l.take i) (gd l (i : Int)) <;> rfl)
  have e' : L28_7 fuel ((l, 0, ()), (b, ()), ()) = _ := e
  rw [e', qb]
  have : qg6 b l = (List.range l.length).findIdx? (badB b l) := rfl
  rw [this]
  cases (List.range l.length).findIdx? (badB b l) <;> rfl
def upto (l : List Ent) (day : Int) : List Ent := l.takeWhile fun x => decide (x.1 ≤ day)
theorem qgc {α : Type} (q : α → Bool) : ∀ (l : List α), l.take (match l.findIdx? q with | some i => i | none => l.length) = l.takeWhile fun x => !q x
  | [] => rfl
  | x :: l => by
    have ih := qgc q l
    rw [List.findIdx?_cons, List.takeWhile_cons]
    cases q x with
    | true => rfl
    | false =>
      simp only [Bool.false_eq_true, if_false, Bool.not_false, if_true]
      cases h : l.findIdx? q with
      | none =>
        rw [h] at ih
        simp only [Option.map_none, List.length_cons, List.take_succ_cons]
        rw [ih]
      | some i =>
        rw [h] at ih
        simp only [Option.map_some, List.take_succ_cons]
        rw [ih]
theorem idx_le {α : Type} {q : α → Bool} {l : List α} {i : Nat} (h : l.findIdx? q = some i) : i < l.length := (List.findIdx?_eq_some_iff_findIdx_eq.1 h).1
theorem qka (l : List Ent) (day : Int) : l.takeWhile (fun x => !decide (x.1 > day)) = upto l day := by
  unfold upto
  congr 1
  funext x
  by_cases h : x.1 ≤ day
  · rw [qy (by omega), qs h]; rfl
  · rw [qs (by omega), qy h]; rfl
theorem g65_eq (b : Book) (l : List Ent) (day : Int) (hl : l.length ≤ 1048576) : g65 ((b, l), day, ()) = some (((b, upto l day), ()), ()) := by
  show F65 fuel (b, l) day = _
  unfold F65
  rw [g93_eq l (by omega) _ (fun x => decide (x.1 > day)) (fun x _ => by rfl), qb, ← qka, ← qgc]
  unfold idxI
  cases h : l.findIdx? fun x => decide (x.1 > day) with
  | none =>
    show some (((b, l), ()), ()) = _
    simp
  | some i =>
    have := idx_le h
    show cond (decide ((i : Int) ≥ 0)) _ _ = _
    rw [qs (by omega), cond_true]
    show leK 0 (i : Int) (leK (i : Int) (l.length : Int) _) = _
    rw [qaZ (by omega), qaZ (by omega)]
    simp
def dayErr (b : Book) (l : List Ent) (day : Int) : Int := if (checkR b l).2 = 0 then (if jA day 0 10000 then 0 else 1) else (checkR b l).2
theorem qg2 {b : Book} {l : List Ent} (h : (checkR b l).2 = 0) : qa0 b = true ∧ l.length ≤ 100 ∧ qg6 b l = none := by
  unfold checkR at h
  split at h
  · rename_i hb
    split at h
    · rename_i hl
      split at h
      · simp at h
      · rename_i hn
        exact ⟨hb, hl, hn⟩
    · simp at h
  · simp at h
theorem g53_ok {b : Book} {l : List Ent} (h : (checkR b l).2 = 0) : g53 (b, l, ()) = some (((b, l), 0, 0, ()), ()) := by
  obtain ⟨h1, h2, h3⟩ := qg2 h
  rw [g53_eq b l h1 h2, h3]
theorem g53_err {b : Book} {l : List Ent} (h : (checkR b l).2 ≠ 0) : ∃ z at_, g53 (b, l, ()) = some ((z, at_, (checkR b l).2, ()), ()) := by
  cases hb : qa0 b with
  | false =>
    obtain ⟨z, e⟩ := g53_bad b l hb
    refine ⟨z, 0, ?_⟩
    rw [e]
    simp [checkR, hb]
  | true =>
    by_cases hl : l.length ≤ 100
    · rw [g53_eq b l hb hl]
      cases hbd : qg6 b l with
      | none =>
        exfalso
        apply h
        simp [checkR, hb, hl, hbd]
      | some i =>
        exact ⟨(b, l.take i), (i : Int), by simp [checkR, hb, hl, hbd]⟩
    · obtain ⟨z, e⟩ := g53_many b l hb (by omega)
      refine ⟨z, 0, ?_⟩
      rw [e]
      simp [checkR, hb, hl]
theorem neq_t {a b : Int} (h : a ≠ b) : (a != b) = true := by simpa using h
theorem g39_ok {b : Book} {l : List Ent} {day : Int} (h : dayErr b l day = 0) : g39 (b, l, day, ()) = some (((b, upto l day), 0, ()), ()) := by
  show F39 fuel b l day = _
  unfold F39
  unfold dayErr at h
  split at h
  case isFalse hc => exact absurd h hc
  rename_i hc
  have hl := (qg2 hc).2.1
  split at h
  case isFalse => cases h
  rename_i hd
  rw [g53_ok hc, qb]
  show qa (g64 (day, 0, 10000, ())) _ = _
  rw [g64_eq, qb, hd]
  show qa (g65 ((b, l), day, ())) _ = _
  rw [g65_eq b l day (by omega)]
  rfl
theorem g39_err {b : Book} {l : List Ent} {day : Int} (h : dayErr b l day ≠ 0) : ∃ z, g39 (b, l, day, ()) = some ((z, dayErr b l day, ()), ()) := by
  show ∃ z, F39 fuel b l day = _
  unfold F39
  unfold dayErr at h ⊢
  split at h
  case isFalse hc =>
    obtain ⟨z, a, e⟩ := g53_err hc
    refine ⟨z, ?_⟩
    rw [e, qb, if_neg hc]
    show cond ((checkR b l).2 != 0) _ _ = _
    rw [neq_t hc]
    rfl
  rename_i hc
  split at h
  case isTrue => exact absurd rfl h
  rename_i hd
  rw [g53_ok hc, qb, if_pos hc]
  refine ⟨(b, l), ?_⟩
  show qa (g64 (day, 0, 10000, ())) _ = _
  rw [g64_eq, qb, if_neg hd, (Bool.not_eq_true _).mp hd]
  rfl
structure Good (b : Book) (l : List Ent) : Prop where
  book : qa0 b = true
  len : l.length ≤ 100
  right : ∀ i, i < l.length → qbK b (l.take i) (gd l (i : Int)) = true
theorem good_of {b : Book} {l : List Ent} (h : (checkR b l).2 = 0) : Good b l := by
  obtain ⟨h1, h2, h3⟩ := qg2 h
  refine ⟨h1, h2, fun i hi => ?_⟩
  have := qbB (l := List.range l.length) (q := fun i => !qbK b (l.take i) (gd l (i : Int)))
  have h3' : ((List.range l.length).findIdx? fun i => !qbK b (l.take i) (gd l (i : Int))) = none := h3
  rw [h3'] at this
  have := List.all_eq_true.1 this.symm i (by simpa using hi)
  simpa using this
theorem qkn {α : Type} [Inhabited α] {l : List α} {k i : Nat} (h : i < k) (_hl : i < l.length) : gd (l.take k) (i : Int) = gd l (i : Int) := by
  unfold gd
  rw [List.getD_eq_getElem?_getD, List.getD_eq_getElem?_getD, Int.toNat_natCast, List.getElem?_take_of_lt h]
theorem Good.take {b : Book} {l : List Ent} (h : Good b l) (k : Nat) : Good b (l.take k) := by
  refine ⟨h.book, by have := h.len; simp; omega, fun i hi => ?_⟩
  rw [List.length_take] at hi
  rw [List.take_take, qkn (by omega) (by omega), show min i k = i by omega]
  exact h.right i (by omega)
theorem qkB (l : List Ent) (day : Int) : ∃ k, upto l day = l.take k := by
  refine ⟨match l.findIdx? (fun x => decide (x.1 > day)) with | some i => i | none => l.length, ?_⟩
  rw [← qka, ← qgc]
  first | done | rfl
theorem Good.upto {b : Book} {l : List Ent} (h : Good b l) (day : Int) : Good b (upto l day) := by
  obtain ⟨k, e⟩ := qkB l day
  rw [e]
  exact h.take k
structure Fit (b : Book) (l : List Ent) : Prop where
  book : qa0 b = true
  len : l.length ≤ 1000
  day : ∀ i, i < l.length → qdb (l.take i) ≤ (gd l (i : Int)).1 ∧ (gd l (i : Int)).1 ≤ 10000
  sev : ∀ i, i < l.length → ((gd l (i : Int)).2.1 == 2) = true → 1 ≤ (gd l (i : Int)).2.2.2.1 ∧ (gd l (i : Int)).2.2.2.1 ≤ 3
theorem Good.fit {b : Book} {l : List Ent} (h : Good b l) : Fit b l := by
  refine ⟨h.book, by have := h.len; omega, fun i hi => ?_, fun i hi h2 => ?_⟩
  · have := h.right i hi
    unfold qbK at this
    rw [Bool.and_eq_true] at this
    exact qN.1 this.1
  · have := h.right i hi
    unfold qbK qhL at this
    have h2 := eq_of_beq h2
    rw [h2] at this
    simp only [Bool.and_eq_true] at this
    have h3 := this.2
    rw [if_neg (by decide), if_pos (by decide)] at h3
    simp only [Bool.and_eq_true] at h3
    exact qN.1 h3.1.2
theorem qil {l : List Ent} {i : Nat} (hi : i < l.length) : qdb (l.take (i + 1)) = (gd l (i : Int)).1 := by
  unfold qdb
  have e : (l.take (i + 1)).length = i + 1 := by simp; omega
  rw [if_neg (by omega), e, show (((i + 1 : Nat) : Int) - 1) = (i : Int) by omega, qkn (by omega) hi]
theorem Fit.sorted {b : Book} {l : List Ent} (h : Fit b l) : ∀ i j, i ≤ j → j < l.length → (gd l (i : Int)).1 ≤ (gd l (j : Int)).1 := by
  intro i j hij hj
  induction j with
  | zero => obtain rfl : i = 0 := by omega
            exact Int.le_refl _
  | succ j ih =>
    rcases Nat.lt_or_ge i (j + 1) with h1 | h1
    · have h2 := ih (by omega) (by omega)
      have h3 := (h.day (j + 1) hj).1
      rw [qil (by omega)] at h3
      omega
    · obtain rfl : i = j + 1 := by omega
      exact Int.le_refl _
theorem Fit.day0 {b : Book} {l : List Ent} (h : Fit b l) (i : Nat) (hi : i < l.length) : 0 ≤ (gd l (i : Int)).1 ∧ (gd l (i : Int)).1 ≤ 10000 := by
  have h0 := h.day 0 (by omega)
  have e : qdb (l.take 0) = 0 := rfl
  rw [e] at h0
  have := h.sorted 0 i (by omega) hi
  have := (h.day i hi).2
  have e0 : gd l ((0 : Nat) : Int) = gd l 0 := rfl
  rw [e0] at *
  omega
theorem Fit.mem {b : Book} {l : List Ent} (h : Fit b l) {x : Ent} (hx : x ∈ l) : 0 ≤ x.1 ∧ x.1 ≤ 10000 := by
  obtain ⟨i, hi, rfl⟩ := List.mem_iff_getElem.1 hx
  have := h.day0 i hi
  rwa [qgM (List.getElem?_eq_getElem hi)] at this
def fil (p : Nat → Bool) (n : Nat) : List Int := ((List.range n).filter p).map fun i : Nat => (i : Int)
theorem fil_succ (p : Nat → Bool) (n : Nat) : fil p (n + 1) = if p n then fil p n ++ [(n : Int)] else fil p n := by
  unfold fil
  rw [List.range_succ, List.filter_append]
  cases h : p n <;> simp [h]
theorem qbQ (p : Nat → Bool) (n : Nat) : (fil p n).length ≤ n := by
  unfold fil
  rw [List.length_map]
  have := List.length_filter_le p (List.range n)
  simpa using this
theorem qkj {D R : Type} {L : Nat → D → Option R} (mk : Nat → List Int → D) (p : Nat → Bool) (n c : Nat) (res : List Int → R) {N : Nat} (hN : n + c < N) (hend : ∀ N s, s.length ≤ n → L (N + 1) (mk n s) = some (res s))
    (hstep : ∀ N i s, c ≤ N → i < n → s.length ≤ i → L (N + 1) (mk i s) = L N (mk (i + 1) (if p i then s ++ [(i : Int)] else s))) : L N (mk 0 []) = some (res (fil p n)) :=
  qea (L := L) (fun i => mk i (fil p i)) (res (fil p n)) c n hN (fun N => hend N _ (qbQ p n)) (fun N i hc hi => by rw [hstep N i _ hc hi (qbQ p i), fil_succ])
def qa1 (l : List Ent) : List Int := fil (fun i => qd9 l (i : Int)) l.length
theorem g96_eq (b : Book) (l : List Ent) (hl : l.length ≤ 1048576) : g96 ((b, l), ()) = some ((qa1 l, ()), ()) := by
  show F96 fuel (b, l) = _
  unfold F96
  have e := qkj (L := L96_2) (fun i s => ((l, (l.length : Int), (i : Int), ()), ((b, l), s, ()), ())) (fun i => qd9 l (i : Int)) l.length 0 (fun s => ((), (s, ()), ())) (N := fuel) (by have := qY; omega)
    (fun N s _ => by simp [L96_2, B96_2])
    (fun N i s _ hi hs => by
      simp only [L96_2, B96_2]
      rw [qs (by omega), cond_true, ql (by omega) (by omega), g109_eq b l _ hl, qb, jS (by simp; omega) (by simp; omega), wI (by omega) (by omega)]
      unfold qd9
      have hr : jA (i : Int) 0 ((l.length : Int) - 1) = true := qN.2 ⟨by omega, by omega⟩
      rw [hr]
      cases (gd l (i : Int)).2.1 == 2 with
      | false => rfl
      | true => cases qdW l (i : Int) <;> rfl)
  have e' : L96_2 fuel ((l, (l.length : Int), 0, ()), ((b, l), [], ()), ()) = _ := e
  rw [show ((b, l) : Log).2 = l from rfl]
  rw [e', qb]
  rfl
def qeI (want : Ent → Bool) (ride : Int) (l : List Ent) : Int := l.foldl (fun acc x => if want x then x.1 else if x.2.1 == 6 && x.2.2.1 == ride then -1 else acc) (-1)
def qeB (want : Ent → Bool) (ride : Int) : List Ent → Option Int
  | [] => none
  | x :: r => if want x then some x.1 else if x.2.1 == 6 && x.2.2.1 == ride then some (-1) else qeB want ride r
theorem qgD (want : Ent → Bool) (ride : Int) (l : List Ent) : qeI want ride l = (qeB want ride l.reverse).getD (-1) := by
  unfold qeI
  rw [List.foldl_eq_foldr_reverse]
  induction l.reverse with
  | nil => rfl
  | cons x r ih =>
    rw [List.foldr_cons, ih, qeB]
    split
    · rfl
    · split
      · rfl
      · rfl
theorem R69_eq (n : Nat) (ride : Int) (f : Ent → Option Bool) (want : Ent → Bool) (hf : ∀ x, f x = some (want x)) (v : Int) : ∀ r : List Ent, R69_2 n r (ride, f, v, ()) = some (match qeB want ride r with | some d => (.ret, (d, ())) | none => (.norm, (v, ())))
  | [] => rfl
  | x :: r => by
    have ih := R69_eq n ride f want hf v r
    simp only [R69_2, Q69_2, hf, qb, qeB]
    rw [ih]
    cases want x with
    | true => rfl
    | false =>
      cases x.2.1 == 6 with
      | false => rfl
      | true => cases x.2.2.1 == ride <;> rfl
theorem qje (b : Book) (l : List Ent) (hl : l.length ≤ 1048576) : Ib.it114.g ((b, l), ()) = some (l.reverse : List Ent) := by
  show jF (l.length : Int) (some (l.reverse : List Ent)) = _
  rw [jS (by omega) (by omega)]
theorem g69_eq (b : Book) (l : List Ent) (hl : l.length ≤ 1048576) (ride : Int) (f : Ent → Option Bool) (want : Ent → Bool) (hf : ∀ x, f x = some (want x)) : g69 ((b, l), ride, f, ()) = some ((qeI want ride l, ()), ()) := by
  show F69 fuel (b, l) ride f = _
  unfold F69
  show qa (Ib.it114.g ((b, l), ())) _ = _
  rw [qje b l hl]
  show qa (R69_2 fuel (l.reverse : List Ent) (ride, f, 0, ())) _ = _
  rw [R69_eq fuel ride f want hf, qb, qgD]
  cases qeB want ride l.reverse <;> rfl
theorem lastE_in {want : Ent → Bool} {ride : Int} {b : Book} {l : List Ent} (h : Fit b l) : -1 ≤ qeI want ride l ∧ qeI want ride l ≤ 10000 := by
  rw [qgD]
  have key : ∀ r : List Ent, (∀ x ∈ r, 0 ≤ x.1 ∧ x.1 ≤ 10000) → -1 ≤ (qeB want ride r).getD (-1) ∧ (qeB want ride r).getD (-1) ≤ 10000 := by
    intro r
    induction r with
    | nil => intro _; exact ⟨Int.le_refl _, by show (-1 : Int) ≤ 10000; decide⟩
    | cons x r ih =>
      intro hx
      have h1 := hx x List.mem_cons_self
      have h2 := ih fun y hy => hx y (List.mem_cons_of_mem _ hy)
      unfold qeB
      split
      · show -1 ≤ x.1 ∧ x.1 ≤ 10000
        omega
      · split
        · exact ⟨Int.le_refl _, by show (-1 : Int) ≤ 10000; decide⟩
        · exact h2
  exact key _ fun x hx => h.mem (List.mem_reverse.1 hx)
def wantC (rule : Int) (x : Ent) : Bool := x.2.1 == 1 && x.2.2.1 == rule
def qcs (b : Book) (l : List Ent) (rule : Int) : Int := qeI (wantC rule) (gd b.1 rule).1 l
def qeZ (b : Book) (l : List Ent) (rule : Int) : Int := if qcs b l rule < 0 then -1 else qcs b l rule + (gd b.1 rule).2.1 - 1
def qis (b : Book) (l : List Ent) (rule day : Int) : Bool := decide (0 ≤ qcs b l rule) && decide (day - qcs b l rule < (gd b.1 rule).2.1)
theorem rule_in {b : Book} (hb : qa0 b = true) {rule : Int} (hr : qck b rule = true) : qeC b (gd b.1 rule).1 = true ∧ 1 ≤ (gd b.1 rule).2.1 ∧ (gd b.1 rule).2.1 ≤ 10000 := by
  have hr := qN.1 hr
  simp only [qa0, Bool.and_eq_true] at hb
  have h2 := List.all_eq_true.1 hb.1.1.2 _ (qay (l := b.1) hr.1 (by omega))
  unfold qdC at h2
  simp only [Bool.and_eq_true] at h2
  exact ⟨h2.1.1, qN.1 h2.1.2⟩
theorem g95_eq (b : Book) (l : List Ent) (h : Fit b l) (rule : Int) (hr : qck b rule = true) : g95 ((b, l), rule, ()) = some ((qeZ b l rule, ()), ()) := by
  show F95 fuel (b, l) rule = _
  unfold F95 qeZ
  have hr' := qN.1 hr
  have hl := h.len
  obtain ⟨_, h1, h2⟩ := rule_in h.book hr
  rw [ql (by omega) (by show rule < (b.1.length : Int); omega), g69_eq b l (by omega) _ _ (wantC rule) (fun x => by
    show qa (F113 fuel x rule) _ = _
    unfold F113 wantC
    cases x.2.1 == 1 <;> rfl), qb]
  have h3 := lastE_in (want := wantC rule) (ride := (gd b.1 rule).1) h
  show cond (decide (qcs b l rule < 0)) _ _ = _
  have h3 : -1 ≤ qcs b l rule ∧ qcs b l rule ≤ 10000 := h3
  by_cases h4 : qcs b l rule < 0
  · rw [qs h4, if_pos h4]
    rfl
  · rw [qy h4, if_neg h4, cond_false, ql (by omega) (by show rule < (b.1.length : Int); omega)]
    show some ((IntKind.wrap .i64 (IntKind.wrap .i64 (qcs b l rule + (gd b.1 rule).2.1) - 1), ()), ()) = _
    rw [wI (x := qcs b l rule + (gd b.1 rule).2.1) (by omega) (by omega), wI (by omega) (by omega)]
theorem until_lt {b : Book} {l : List Ent} {rule day : Int} (hd : 0 ≤ day) : decide (qeZ b l rule < day) = !qis b l rule day := by
  unfold qeZ qis
  by_cases h : qcs b l rule < 0
  · rw [if_pos h, qy (p := 0 ≤ qcs b l rule) (by omega), qs (by omega)]
    rfl
  · rw [if_neg h, qs (p := 0 ≤ qcs b l rule) (by omega), Bool.true_and]
    by_cases h2 : day - qcs b l rule < (gd b.1 rule).2.1
    · rw [qs h2, qy (by omega)]; rfl
    · rw [qy h2, qs (by omega)]; rfl
def qd5 (l : List Ent) (ride : Int) (ol : List Int) (s : Int) : Int := ((ol.filter fun i => (gd l i).2.2.1 == ride && (gd l i).2.2.2.1 == s).length : Nat)
def qdp (l : List Ent) (ride : Int) (ol : List Int) : List Int := [qd5 l ride ol 0, qd5 l ride ol 1, qd5 l ride ol 2, qd5 l ride ol 3]
theorem qhS (l : List Ent) (ride : Int) (ol : List Int) (i s : Int) : qd5 l ride (ol ++ [i]) s = qd5 l ride ol s + if (gd l i).2.2.1 == ride && (gd l i).2.2.2.1 == s then 1 else 0 := by
  unfold qd5
  rw [List.filter_append]
  cases h : (gd l i).2.2.1 == ride && (gd l i).2.2.2.1 == s <;> simp [h]
theorem qja (l : List Ent) (ride : Int) (ol : List Int) (i : Int) (h : ((gd l i).2.2.1 == ride) = false) : qdp l ride (ol ++ [i]) = qdp l ride ol := by
  unfold qdp
  simp only [qhS, h, Bool.false_and, Bool.false_eq_true, if_false, Int.add_zero]
theorem qjM (l : List Ent) (ride : Int) (ol : List Int) (i : Int) (h : ((gd l i).2.2.1 == ride) = true) (hB : 1 ≤ (gd l i).2.2.2.1 ∧ (gd l i).2.2.2.1 ≤ 3) :
    gd (qdp l ride ol) (gd l i).2.2.2.1 = qd5 l ride ol (gd l i).2.2.2.1 ∧ qdp l ride (ol ++ [i]) = (qdp l ride ol).set (gd l i).2.2.2.1.toNat (qd5 l ride ol (gd l i).2.2.2.1 + 1) := by
  have hc : (gd l i).2.2.2.1 = 1 ∨ (gd l i).2.2.2.1 = 2 ∨ (gd l i).2.2.2.1 = 3 := by omega
  unfold qdp
  simp only [qhS, h, Bool.true_and]
  rcases hc with e | e | e <;> rw [e] <;> exact ⟨rfl, by simp⟩
theorem cntL_le (l : List Ent) (ride : Int) (ol : List Int) (s : Int) : 0 ≤ qd5 l ride ol s ∧ qd5 l ride ol s ≤ ol.length := by
  unfold qd5
  have := List.length_filter_le (fun i => (gd l i).2.2.1 == ride && (gd l i).2.2.2.1 == s) ol
  omega
theorem qfc (l : List Ent) (ride : Int) (ol : List Int) : (qdp l ride ol).length = 4 := rfl
def qgg (l : List Ent) (ride : Int) : Bool := (qd5 l ride (qa1 l) 3 == 0) && decide (qd5 l ride (qa1 l) 2 ≤ 1)
theorem Fit.found {b : Book} {l : List Ent} (h : Fit b l) {i : Int} (ho : qd9 l i = true) : (0 ≤ i ∧ i < l.length) ∧ 1 ≤ (gd l i).2.2.2.1 ∧ (gd l i).2.2.2.1 ≤ 3 := by
  unfold qd9 at ho
  simp only [Bool.and_eq_true] at ho
  have h1 := qN.1 ho.1.1
  refine ⟨by omega, ?_⟩
  have := h.sev i.toNat (by omega)
  rw [show ((i.toNat : Nat) : Int) = i by omega] at this
  exact this ho.1.2
theorem qeO {p : Nat → Bool} {n : Nat} {x : Int} (h : x ∈ fil p n) : ∃ i : Nat, i < n ∧ p i = true ∧ x = (i : Int) := by
  unfold fil at h
  obtain ⟨i, hi, rfl⟩ := List.mem_map.1 h
  rw [List.mem_filter] at hi
  exact ⟨i, by simpa using hi.1, hi.2, rfl⟩
theorem qkM (l : List Ent) : (qa1 l).length ≤ l.length := qbQ _ _
theorem g68_eq (b : Book) (l : List Ent) (h : Fit b l) (ride : Int) : g68 ((b, l), ride, ()) = some ((qgg l ride, ()), ()) := by
  show F68 fuel (b, l) ride = _
  unfold F68 qgg
  have hl := h.len
  have hol := qkM l
  rw [g96_eq b l (by omega), qb]
  have e := qea (L := L68_3) (fun i => ((ride, ((qa1 l).length : Int), (i : Int), ()), ((b, l), qdp l ride ((qa1 l).take i), qa1 l, ()), ())) ((), (qdp l ride (qa1 l), ()), ()) 0 (qa1 l).length (N := fuel) (by have := qY; omega)
    (fun N => by simp [L68_3, B68_3])
    (fun N i _ hi => by
      have hm := qay (l := qa1 l) (i := (i : Int)) (by omega) (by omega)
      obtain ⟨j, hj, hp, hx⟩ := qeO hm
      have hf := h.found (i := gd (qa1 l) (i : Int)) (by rw [hx]; exact hp)
      simp only [L68_3, B68_3]
      rw [qs (by omega), cond_true, jG (by omega) (by omega), ql (by omega) (by omega)]
      have g1 : ∀ {R : Type} (k : Ent → Option R), qi l (gd (qa1 l) (i : Int)) k = k (gd l (gd (qa1 l) (i : Int))) := fun k => ql hf.1.1 hf.1.2 k
      rw [g1, wI (x := (i : Int) + 1) (by omega) (by omega), qbR hi]
      cases hr : (gd l (gd (qa1 l) (i : Int))).2.2.1 == ride with
      | false =>
        rw [qja _ _ _ _ hr]
        rfl
      | true =>
        obtain ⟨k1, k2⟩ := qjM l ride ((qa1 l).take i) _ hr hf.2
        have hc := cntL_le l ride ((qa1 l).take i) (gd l (gd (qa1 l) (i : Int))).2.2.2.1
        rw [List.length_take] at hc
        have hlen := qfc l ride ((qa1 l).take i)
        rw [cond_true, jG (by omega) (by omega), ql (by omega) (by omega), jG (by omega) (by omega), ql (by omega) (by omega), k2, k1, wI (by omega) (by omega)]
        rfl)
  have e' : L68_3 fuel ((ride, ((qa1 l).length : Int), 0, ()), ((b, l), List.replicate 4 0, qa1 l, ()), ()) = _ := e
  rw [e', qb, jG (by decide) (by decide)]
  show qi (qdp l ride (qa1 l)) 3 _ = _
  rw [ql (by decide) (by rw [qfc]; decide)]
  show cond (qd5 l ride (qa1 l) 3 == 0) _ _ = _
  cases qd5 l ride (qa1 l) 3 == 0 with
  | false => rfl
  | true =>
    rw [cond_true, jG (by decide) (by decide)]
    show qi (qdp l ride (qa1 l)) 2 _ = _
    rw [ql (by decide) (by rw [qfc]; decide)]
    rfl
def insR (b : Book) (l : List Ent) (ride : Int) : Int := l.foldl (fun acc x => if x.2.1 == 5 && x.2.2.1 == ride then x.2.2.2.1 else acc) (gd b.2.2 ride)
def qhu (ride : Int) : List Ent → Option Int
  | [] => none
  | x :: r => if x.2.1 == 5 && x.2.2.1 == ride then some x.2.2.2.1 else qhu ride r
theorem qkX (b : Book) (l : List Ent) (ride : Int) : insR b l ride = (qhu ride l.reverse).getD (gd b.2.2 ride) := by
  unfold insR
  rw [List.foldl_eq_foldr_reverse]
  induction l.reverse with
  | nil => rfl
  | cons x r ih =>
    rw [List.foldr_cons, ih, qhu]
    split <;> rfl
theorem R71_eq (n : Nat) (ride v : Int) : ∀ r : List Ent, R71_2 n r (ride, v, ()) = some (match qhu ride r with | some d => (.ret, (d, ())) | none => (.norm, (v, ())))
  | [] => rfl
  | x :: r => by
    have ih := R71_eq n ride v r
    simp only [R71_2, Q71_2, qhu]
    rw [ih]
    cases x.2.1 == 5 with
    | false => rfl
    | true => cases x.2.2.1 == ride <;> rfl
theorem g71_eq (b : Book) (l : List Ent) (hl : l.length ≤ 1048576) (ride : Int) (hr : qeC b ride = true) : g71 ((b, l), ride, ()) = some ((insR b l ride, ()), ()) := by
  show F71 fuel (b, l) ride = _
  unfold F71
  have hr := qN.1 hr
  show qa (Ib.it114.g ((b, l), ())) _ = _
  rw [qje b l hl]
  show qa (R71_2 fuel (l.reverse : List Ent) (ride, 0, ())) _ = _
  rw [R71_eq fuel ride, qb, qkX]
  cases qhu ride l.reverse with
  | some d => rfl
  | none =>
    show qi b.2.2 ride _ = _
    rw [ql (by omega) (by omega)]
    rfl
def chkR (b : Book) (l : List Ent) (ride : Int) (n : Nat) : Int := (List.range n).foldl (fun (acc : Int) (i : Nat) => if (gd b.1 (i : Int)).1 == ride then min acc (qeZ b l (i : Int)) else acc) 10000
theorem qhU (b : Book) (l : List Ent) (ride : Int) (n : Nat) : chkR b l ride (n + 1) = if (gd b.1 (n : Int)).1 == ride then min (chkR b l ride n) (qeZ b l (n : Int)) else chkR b l ride n := by
  unfold chkR
  rw [List.range_succ, List.foldl_append]
  rfl
theorem ruleB_of {b : Book} {i : Nat} (h : i < b.1.length) : qck b (i : Int) = true := qN.2 ⟨by omega, by omega⟩
theorem g67_eq (b : Book) (l : List Ent) (h : Fit b l) (ride : Int) : g67 ((b, l), ride, ()) = some ((chkR b l ride b.1.length, ()), ()) := by
  show F67 fuel (b, l) ride = _
  unfold F67
  have hs := (qex h.book).rules
  have e := qea (L := L67_3) (fun i => ((ride, chkR b l ride i, b.1, (b.1.length : Int), (i : Int), ()), ((b, l), ()), ())) ((chkR b l ride b.1.length, ()), (), ()) 0 b.1.length (N := fuel) (by have := qY; omega)
    (fun N => by simp [L67_3, B67_3])
    (fun N i _ hi => by
      simp only [L67_3, B67_3]
      rw [qs (by omega), cond_true, ql (by omega) (by omega), wI (by omega) (by omega), qhU, g95_eq b l h _ (ruleB_of hi), qb]
      cases (gd b.1 (i : Int)).1 == ride <;> rfl)
  have e' : L67_3 fuel ((ride, 10000, b.1, (b.1.length : Int), 0, ()), ((b, l), ()), ()) = _ := e
  show qa (L67_3 fuel ((ride, 10000, b.1, (b.1.length : Int), 0, ()), ((b, l), ()), ())) _ = _
  rw [e', qb]
def chkB (b : Book) (l : List Ent) (ride day : Int) (n : Nat) : Bool := (List.range n).all fun i : Nat => (gd b.1 (i : Int)).1 != ride || qis b l (i : Int) day
theorem qk2 (b : Book) (l : List Ent) (ride day : Int) (n : Nat) : chkB b l ride day (n + 1) = (chkB b l ride day n && ((gd b.1 (n : Int)).1 != ride || qis b l (n : Int) day)) := by
  unfold chkB
  rw [List.range_succ, List.all_append]
  simp
theorem chk_lt {b : Book} {l : List Ent} {ride day : Int} (hd : 0 ≤ day ∧ day ≤ 10000) : ∀ n, decide (chkR b l ride n < day) = !chkB b l ride day n
  | 0 => by
    rw [show chkR b l ride 0 = 10000 from rfl, qy (by omega)]
    rfl
  | n + 1 => by
    have ih := chk_lt (b := b) (l := l) (ride := ride) hd n
    rw [qhU, qk2]
    cases hr : (gd b.1 (n : Int)).1 == ride with
    | false =>
      rw [show ((gd b.1 (n : Int)).1 != ride) = true by unfold bne; rw [hr]; rfl, Bool.true_or, Bool.and_true]
      exact ih
    | true =>
      rw [show ((gd b.1 (n : Int)).1 != ride) = false by unfold bne; rw [hr]; rfl, Bool.false_or, if_pos rfl, Bool.not_and, ← ih, ← until_lt hd.1]
      rw [Bool.eq_iff_iff]
      simp only [decide_eq_true_eq, Bool.or_eq_true]
      omega
theorem g66_eq (k : Int) (is : Bool) (out : List Int) (hl : out.length ≤ 1048576) : g66 (k, is, out, ()) = some ((), ((if is then out ++ [k] else out), ())) := by
  show F66 fuel k is out = _
  unfold F66
  cases is with
  | false => rfl
  | true => rw [cond_true, jS (by simp; omega) (by simp; omega)]; rfl
def qiK (ride : Int) (x : Ent) : Bool := x.2.1 == 4 && x.2.2.1 == ride
def whyL (b : Book) (l : List Ent) (ride day : Int) : List Int :=
  (if chkB b l ride day b.1.length then [] else [1]) ++ (if qgg l ride then [] else [2]) ++ (if qeI (qiK ride) ride l == day then [] else [3]) ++ (if insR b l ride < day then [4] else [])
theorem g40_eq (b : Book) (l : List Ent) (h : Fit b l) (ride day : Int) (hd : 0 ≤ day ∧ day ≤ 10000) (hr : qeC b ride = true) : g40 ((b, l), ride, day, ()) = some ((whyL b l ride day, ()), ()) := by
  show F40 fuel (b, l) ride day = _
  unfold F40 whyL
  have hl := h.len
  rw [g67_eq b l h, qb, g66_eq _ _ _ (by simp), qb, g68_eq b l h, qb]
  dsimp only
  rw [chk_lt hd, g66_eq _ _ _ (by split <;> simp), qb, g69_eq b l (by omega) ride _ (qiK ride) (fun x => by
    show qa (F70 fuel x ride) _ = _
    unfold F70 qiK
    cases x.2.1 == 4 <;> rfl), qb]
  dsimp only
  rw [g66_eq _ _ _ (by split <;> split <;> simp), qb, g71_eq b l (by omega) ride hr, qb]
  dsimp only
  rw [g66_eq _ _ _ (by split <;> split <;> split <;> simp), qb]
  unfold bne
  by_cases h4 : insR b l ride < day
  · rw [qs h4, if_pos h4]
    cases chkB b l ride day b.1.length <;> cases qgg l ride <;> cases qeI (qiK ride) ride l == day <;> rfl
  · rw [qy h4, if_neg h4]
    cases chkB b l ride day b.1.length <;> cases qgg l ride <;> cases qeI (qiK ride) ride l == day <;> rfl
theorem qk0 {b : Book} {l : List Ent} {day : Int} (h : dayErr b l day = 0) : Good b l ∧ 0 ≤ day ∧ day ≤ 10000 := by
  unfold dayErr at h
  split at h
  · rename_i hc
    split at h
    · rename_i hr
      exact ⟨good_of hc, qN.1 hr⟩
    · cases h
  · rename_i hc
    exact absurd h hc
def relB (b : Book) (l : List Ent) (day : Int) (i : Nat) : Bool := ((whyL b l (i : Int) day).length : Int) == 0
def relL (b : Book) (l : List Ent) (day : Int) : List Int := fil (relB b l day) b.2.2.length
theorem rideB_of {b : Book} {i : Nat} (h : i < b.2.2.length) : qeC b (i : Int) = true := qN.2 ⟨by omega, by omega⟩
theorem g13_eq (b : Book) (l : List Ent) (day : Int) : g13 (b, l, day, ()) = some ((if dayErr b l day = 0 then relL b (upto l day) day else [], dayErr b l day, ()), ()) := by
  show F13 fuel b l day = _
  unfold F13
  by_cases h : dayErr b l day = 0
  · obtain ⟨hg, hd⟩ := qk0 h
    have hs := (qex hg.book).rides
    have hu := (hg.upto day).fit
    rw [g39_ok h, qb, if_pos h, h]
    have e := qkj (L := L13_5) (fun i s => ((day, (b.2.2.length : Int), (i : Int), ()), (s, (b, upto l day), ()), ())) (relB b (upto l day) day) b.2.2.length 0 (fun s => ((), (s, ()), ())) (N := fuel) (by have := qY; omega)
      (fun N s _ => by simp [L13_5, B13_5])
      (fun N i s _ hi hl => by
        simp only [L13_5, B13_5]
        rw [qs (by omega), cond_true, g40_eq b _ hu _ day hd (rideB_of hi), qb, jS (by simp; omega) (by simp; omega), wI (by omega) (by omega)]
        unfold relB
        cases ((whyL b (upto l day) (i : Int) day).length : Int) == 0 <;> rfl)
    have e' : L13_5 fuel ((day, (b.2.2.length : Int), 0, ()), ([], (b, upto l day), ()), ()) = _ := e
    show qa (L13_5 fuel ((day, (b.2.2.length : Int), 0, ()), ([], (b, upto l day), ()), ())) _ = _
    rw [e']
    rfl
  · obtain ⟨z, e⟩ := g39_err h
    rw [e, qb, if_neg h]
    show cond (dayErr b l day != 0) _ _ = _
    rw [neq_t h]
    rfl
theorem rel_in {b : Book} {l : List Ent} {day n : Int} (h : n ∈ relL b l day) : 0 ≤ n ∧ n < b.2.2.length := by
  unfold relL fil at h
  rw [List.mem_map] at h
  obtain ⟨i, hi, rfl⟩ := h
  have := List.mem_range.1 (List.mem_filter.1 hi).1
  omega
theorem rel_lenT (b : Book) (l : List Ent) (day : Int) : (relL b l day).length ≤ b.2.2.length := qbQ _ _
theorem day_err {b : Book} {l : List Ent} {day : Int} (h : (checkR b l).2 = 0) (hd : 0 ≤ day ∧ day ≤ 10000) : dayErr b l day = 0 := by
  unfold dayErr
  rw [if_pos h, if_pos (qN.2 hd)]
theorem root10 : (∀ b l, g21 (b, l, ()) = some (((checkR b l).1, (checkR b l).2, ()), ())) ∧ (∀ b l, g28 (b, l, ()) = some (((checkR b l).1, (checkR b l).2, ()), ())) ∧ (∀ b l day, g13 (b, l, day, ()) = some ((if dayErr b l day = 0 then relL b (upto l day) day else [], dayErr b l day, ()), ())) := ⟨g21_eq, g28_eq, g13_eq⟩
end Go.Proofs.Tryz.V.L10
