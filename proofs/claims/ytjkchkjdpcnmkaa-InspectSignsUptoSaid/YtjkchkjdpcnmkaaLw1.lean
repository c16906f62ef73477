/- Plain laws of layer 10, first part: which books are valid, by the program and by the document. No condition beyond those typed in each theorem. -/
import Derived.Test.YtjkchkjdpcnmkaaFn4
namespace Go.Proofs.Try.V
open Go.Vi
set_option maxRecDepth 100000

abbrev Rule := Int × (Int × (Int × Bool))
abbrev Book := (List Rule) × ((List Int) × (List Int))
abbrev Ent := Int × (Int × (Int × (Int × Int)))
abbrev Log := Book × (List Ent)

/-! ## Loops over a list -/
/-- A loop that looks for the first element with q. -/
theorem loopIdx {α D R : Type} [Inhabited α] {L : Nat → D → Option R} (mk : Nat → D) (l : List α) (q : α → Bool) (hit : Nat → R) (e : R) (c : Nat) {N : Nat} (hN : l.length + c < N)
    (hend : ∀ N, L (N + 1) (mk l.length) = some e)
    (hstep : ∀ N i, c ≤ N → i < l.length → L (N + 1) (mk i) = if q (gd l (i : Int)) then some (hit i) else L N (mk (i + 1))) :
    L N (mk 0) = some (match l.findIdx? q with | some i => hit i | none => e) := by
  have key : ∀ (d i : Nat) (N : Nat), i + d = l.length → d + c < N → L N (mk i) = some (match (l.drop i).findIdx? q with | some j => hit (i + j) | none => e) := by
    intro d
    induction d with
    | zero =>
      intro i N hi hN
      obtain ⟨m, rfl⟩ : ∃ m, N = m + 1 := ⟨N - 1, by omega⟩
      obtain rfl : i = l.length := by omega
      rw [hend, List.drop_length]
      rfl
    | succ d ih =>
      intro i N hi hN
      obtain ⟨m, rfl⟩ : ∃ m, N = m + 1 := ⟨N - 1, by omega⟩
      rw [hstep m i (by omega) (by omega), drop_nat (by omega), List.findIdx?_cons]
      cases hq : q (gd l (i : Int)) with
      | true => rfl
      | false =>
        rw [if_neg (by simp), ih (i + 1) m (by omega) (by omega)]
        simp only [Bool.false_eq_true, if_false]
        cases (l.drop (i + 1)).findIdx? q with
        | none => rfl
        | some j =>
          simp only [Option.map_some]
          rw [show i + (j + 1) = i + 1 + j by omega]
  have := key l.length 0 N (by omega) hN
  simpa using this
theorem findIdx_none {α : Type} {l : List α} {q : α → Bool} : (l.findIdx? q).isNone = l.all (fun x => !q x) := by
  induction l with
  | nil => rfl
  | cons x l _ =>
    rw [List.findIdx?_cons, List.all_cons]
    cases q x with
    | true => rfl
    | false => simp
/-- A loop that leaves at the first element without p. -/
theorem loopAll {α D R : Type} [Inhabited α] {L : Nat → D → Option R} (mk : Nat → D) (l : List α) (p : α → Bool) (bad good : R) (c : Nat) {N : Nat} (hN : l.length + c < N)
    (hend : ∀ N, L (N + 1) (mk l.length) = some good)
    (hstep : ∀ N i, c ≤ N → i < l.length → L (N + 1) (mk i) = if p (gd l (i : Int)) then L N (mk (i + 1)) else some bad) :
    L N (mk 0) = some (if l.all p then good else bad) := by
  rw [loopIdx mk l (fun x => !p x) (fun _ => bad) good c hN hend (fun N i hc hi => by
    rw [hstep N i hc hi]
    cases p (gd l (i : Int)) <;> rfl)]
  have := findIdx_none (l := l) (q := fun x => !p x)
  simp only [Bool.not_not] at this
  cases h : l.findIdx? (fun x => !p x) with
  | none =>
    rw [h] at this
    simp only [Option.isNone_none] at this
    rw [← this]
    rfl
  | some i =>
    rw [h] at this
    simp only [Option.isNone_some] at this
    rw [← this]
    rfl

/-! ## Small functions -/
def rng (x lo hi : Int) : Bool := decide (lo ≤ x) && decide (x ≤ hi)
theorem g62_eq (x lo hi : Int) : g62 (x, lo, hi, ()) = some ((rng x lo hi, ()), ()) := by
  show F62 fuel x lo hi = _
  unfold F62 rng
  by_cases h : lo ≤ x
  · rw [dec_t (p := x ≥ lo) h]; rfl
  · rw [dec_f (p := x ≥ lo) h]; rfl
theorem g63_eq (x lo hi : Int) : g63 (x, lo, hi, ()) = some ((rng x lo hi, ()), ()) := by
  show F63 fuel x lo hi = _
  unfold F63 rng
  by_cases h : lo ≤ x
  · rw [dec_t (p := x ≥ lo) h]; rfl
  · rw [dec_f (p := x ≥ lo) h]; rfl

/-- slices.IndexFunc. -/
def idxI {α : Type} (l : List α) (q : α → Bool) : Int := match l.findIdx? q with | some i => (i : Int) | none => -1
theorem idxI_nn {α : Type} (l : List α) (q : α → Bool) : decide (idxI l q ≥ 0) = l.any q := by
  have h := findIdx_none (l := l) (q := q)
  unfold idxI
  cases hf : l.findIdx? q with
  | some i =>
    rw [hf] at h
    simp only [Option.isNone_some] at h
    show decide ((i : Int) ≥ 0) = _
    rw [dec_t (by omega)]
    rw [List.all_eq_not_any_not] at h
    simpa using h
  | none =>
    rw [hf] at h
    simp only [Option.isNone_none] at h
    show decide ((-1 : Int) ≥ 0) = _
    rw [dec_f (by omega)]
    rw [List.all_eq_not_any_not] at h
    simpa using h
theorem g88_eq (l : List Rule) (hl : l.length ≤ 1099511627776) (f : Rule → Option Bool) (q : Rule → Bool) (hf : ∀ x ∈ l, f x = some (q x)) : g88 (l, f, ()) = some ((idxI l q, ()), ()) := by
  show F88 fuel l f = _
  unfold F88
  have h := loopIdx (L := L88_2) (fun i => ((l, f, (l.length : Int), (i : Int), ()), (), ())) l q (fun i => .inl (((i : Int), ()), (), ())) (.inr ((), (), ())) 0 (N := fuel) (by have := fuel_ge; omega)
    (fun N => by simp [L88_2, B88_2])
    (fun N i _ hi => by
      simp only [L88_2, B88_2]
      rw [dec_t (by omega), cond_true, getI_gd (by omega) (by omega), hf _ (gd_mem (by omega) (by omega)), derefK_some, wI (by omega) (by omega)]
      cases q (gd l (i : Int)) <;> rfl)
  have h' : L88_2 fuel ((l, f, (l.length : Int), 0, ()), (), ()) = _ := h
  rw [h', derefK_some]
  unfold idxI
  cases l.findIdx? q <;> rfl
theorem g89_eq (l : List Int) (hl : l.length ≤ 1099511627776) (f : Int → Option Bool) (q : Int → Bool) (hf : ∀ x ∈ l, f x = some (q x)) : g89 (l, f, ()) = some ((idxI l q, ()), ()) := by
  show F89 fuel l f = _
  unfold F89
  have h := loopIdx (L := L89_2) (fun i => ((l, f, (l.length : Int), (i : Int), ()), (), ())) l q (fun i => .inl (((i : Int), ()), (), ())) (.inr ((), (), ())) 0 (N := fuel) (by have := fuel_ge; omega)
    (fun N => by simp [L89_2, B89_2])
    (fun N i _ hi => by
      simp only [L89_2, B89_2]
      rw [dec_t (by omega), cond_true, getI_gd (by omega) (by omega), hf _ (gd_mem (by omega) (by omega)), derefK_some, wI (by omega) (by omega)]
      cases q (gd l (i : Int)) <;> rfl)
  have h' : L89_2 fuel ((l, f, (l.length : Int), 0, ()), (), ()) = _ := h
  rw [h', derefK_some]
  unfold idxI
  cases l.findIdx? q <;> rfl
theorem g82_eq (l : List Ent) (hl : l.length ≤ 1099511627776) (f : Ent → Option Bool) (q : Ent → Bool) (hf : ∀ x ∈ l, f x = some (q x)) : g82 (l, f, ()) = some ((idxI l q, ()), ()) := by
  show F82 fuel l f = _
  unfold F82
  have h := loopIdx (L := L82_2) (fun i => ((l, f, (l.length : Int), (i : Int), ()), (), ())) l q (fun i => .inl (((i : Int), ()), (), ())) (.inr ((), (), ())) 0 (N := fuel) (by have := fuel_ge; omega)
    (fun N => by simp [L82_2, B82_2])
    (fun N i _ hi => by
      simp only [L82_2, B82_2]
      rw [dec_t (by omega), cond_true, getI_gd (by omega) (by omega), hf _ (gd_mem (by omega) (by omega)), derefK_some, wI (by omega) (by omega)]
      cases q (gd l (i : Int)) <;> rfl)
  have h' : L82_2 fuel ((l, f, (l.length : Int), 0, ()), (), ()) = _ := h
  rw [h', derefK_some]
  unfold idxI
  cases l.findIdx? q <;> rfl
theorem g75_eq (l : List Rule) (hl : l.length ≤ 1099511627776) (f : Rule → Option Bool) (q : Rule → Bool) (hf : ∀ x ∈ l, f x = some (q x)) : g75 (l, f, ()) = some ((l.any q, ()), ()) := by
  show F75 fuel l f = _
  unfold F75
  rw [g88_eq l hl f q hf, derefK_some, idxI_nn]
theorem g77_eq (l : List Int) (hl : l.length ≤ 1099511627776) (f : Int → Option Bool) (q : Int → Bool) (hf : ∀ x ∈ l, f x = some (q x)) : g77 (l, f, ()) = some ((l.any q, ()), ()) := by
  show F77 fuel l f = _
  unfold F77
  rw [g89_eq l hl f q hf, derefK_some, idxI_nn]
theorem g86_eq (l : List Ent) (hl : l.length ≤ 1099511627776) (f : Ent → Option Bool) (q : Ent → Bool) (hf : ∀ x ∈ l, f x = some (q x)) : g86 (l, f, ()) = some ((l.any q, ()), ()) := by
  show F86 fuel l f = _
  unfold F86
  rw [g82_eq l hl f q hf, derefK_some, idxI_nn]

/-! ## Which books are valid -/
def ruleOK (b : Book) (r : Rule) : Bool := rng r.1 0 ((b.2.2.length : Int) - 1) && rng r.2.1 1 10000 && rng r.2.2.1 0 9
def sizesOK (b : Book) : Bool := decide (b.1.length ≤ 20) && decide (b.2.1.length ≤ 8) && decide (b.2.2.length ≤ 10)
def bookOK (b : Book) : Bool := sizesOK b && b.1.all (ruleOK b) && b.2.1.all (fun n => rng n 0 9) && b.2.2.all (fun n => rng n 0 10000)
theorem any_not {α : Type} (l : List α) (p : α → Bool) : l.any (fun x => !p x) = !l.all p := by
  rw [List.any_eq_not_all_not]
  simp
theorem g60_eq (b : Book) : g60 (b, ()) = some ((if bookOK b then 0 else 100, ()), ()) := by
  show F60 fuel b = _
  unfold F60 bookOK sizesOK
  by_cases h1 : b.1.length ≤ 20
  case neg => rw [dec_t (by omega), dec_f h1]; rfl
  rw [dec_f (by omega), dec_t h1, cond_false]
  by_cases h2 : b.2.1.length ≤ 8
  case neg => rw [dec_t (by omega), dec_f h2]; rfl
  rw [dec_f (by omega), dec_t h2, cond_false]
  by_cases h3 : b.2.2.length ≤ 10
  case neg => rw [dec_t (by omega), dec_f h3]; rfl
  rw [dec_f (by omega), dec_t h3, cond_false]
  rw [g75_eq b.1 (by omega) _ (fun r => !ruleOK b r) (fun r _ => by
    show derefK (F76 fuel r b) _ = _
    unfold F76 ruleOK
    simp only [g62_eq, derefK_some]
    rw [wI (by omega) (by omega)]
    cases rng r.1 0 ((b.2.2.length : Int) - 1) with
    | false => rfl
    | true =>
      cases rng r.2.1 1 10000 with
      | false => rfl
      | true => rfl)]
  rw [derefK_some, any_not]
  cases b.1.all (ruleOK b) with
  | false => rfl
  | true =>
  rw [g77_eq b.2.1 (by omega) _ (fun n => !rng n 0 9) (fun n _ => by
    show derefK (F78 fuel n) _ = _
    unfold F78
    simp only [g62_eq, derefK_some])]
  rw [derefK_some, any_not]
  cases b.2.1.all (fun n => rng n 0 9) with
  | false => rfl
  | true =>
  rw [g77_eq b.2.2 (by omega) _ (fun n => !rng n 0 10000) (fun n _ => by
    show derefK (F79 fuel n) _ = _
    unfold F79
    simp only [g62_eq, derefK_some])]
  simp only [Bool.not_true, cond_false, derefK_some, any_not]
  cases b.2.2.all (fun n => rng n 0 10000) with
  | false => rfl
  | true => rfl
theorem g45_eq (b : Book) : g45 (b, ()) = some ((if bookOK b then 0 else 100, ()), ()) := by
  show F45 fuel b = _
  unfold F45 bookOK sizesOK
  by_cases h1 : b.1.length ≤ 20
  case neg => rw [dec_t (by omega), dec_f h1]; rfl
  rw [dec_f (by omega), dec_t h1, cond_false]
  by_cases h2 : b.2.1.length ≤ 8
  case neg => rw [dec_t (by omega), dec_f h2]; rfl
  rw [dec_f (by omega), dec_t h2, cond_false]
  by_cases h3 : b.2.2.length ≤ 10
  case neg => rw [dec_t (by omega), dec_f h3]; rfl
  rw [dec_f (by omega), dec_t h3, cond_false]
  have e1 : L45_4 fuel ((0, ()), (b, ()), ()) = _ := loopAll (L := L45_4) (fun i => (((i : Int), ()), (b, ()), ())) b.1 (ruleOK b) (.inl ((100, ()), (), ())) (.inr ((), (b, ()), ())) 0 (by have := fuel_ge; omega)
    (fun N => by simp [L45_4, B45_4])
    (fun N i _ hi => by
      simp only [L45_4, B45_4]
      rw [dec_t (by omega), cond_true, getI_gd (by omega) (by omega)]
      simp only [g63_eq, derefK_some]
      rw [wI (x := (b.2.2.length : Int) - 1) (by omega) (by omega), wI (by omega) (by omega)]
      unfold ruleOK
      cases rng (gd b.1 (i : Int)).1 0 ((b.2.2.length : Int) - 1) with
      | false => rfl
      | true =>
        cases rng (gd b.1 (i : Int)).2.1 1 10000 with
        | false => rfl
        | true => cases rng (gd b.1 (i : Int)).2.2.1 0 9 <;> rfl)
  rw [e1, derefK_some]
  cases b.1.all (ruleOK b) with
  | false => rfl
  | true =>
  simp only [if_true, sumK_inr]
  have e2 : L45_10 fuel ((0, ()), (b, ()), ()) = _ := loopAll (L := L45_10) (fun i => (((i : Int), ()), (b, ()), ())) b.2.1 (fun n => rng n 0 9) (.inl ((100, ()), (), ())) (.inr ((), (b, ()), ())) 0 (by have := fuel_ge; omega)
    (fun N => by simp [L45_10, B45_10])
    (fun N i _ hi => by
      simp only [L45_10, B45_10]
      rw [dec_t (by omega), cond_true, getI_gd (by omega) (by omega)]
      simp only [g63_eq, derefK_some]
      rw [wI (by omega) (by omega)]
      cases rng (gd b.2.1 (i : Int)) 0 9 <;> rfl)
  rw [e2, derefK_some]
  cases b.2.1.all (fun n => rng n 0 9) with
  | false => rfl
  | true =>
  simp only [if_true, sumK_inr]
  have e3 : L45_15 fuel ((0, ()), (b, ()), ()) = _ := loopAll (L := L45_15) (fun i => (((i : Int), ()), (b, ()), ())) b.2.2 (fun n => rng n 0 10000) (.inl ((100, ()), (), ())) (.inr ((), (), ())) 0 (by have := fuel_ge; omega)
    (fun N => by simp [L45_15, B45_15])
    (fun N i _ hi => by
      simp only [L45_15, B45_15]
      rw [dec_t (by omega), cond_true, getI_gd (by omega) (by omega)]
      simp only [g63_eq, derefK_some]
      rw [wI (by omega) (by omega)]
      cases rng (gd b.2.2 (i : Int)) 0 10000 <;> rfl)
  rw [e3, derefK_some]
  cases b.2.2.all (fun n => rng n 0 10000) with
  | false => rfl
  | true => rfl
end Go.Proofs.Try.V
