/- Plain laws of layer 1, first part: which fairs are valid, by the program and by the document. No condition beyond those typed in each theorem. -/
import Derived.Test.YtlhapfgcnfooeaaFn4
namespace Go.Proofs.Try.V
open Go.Vi
set_option maxRecDepth 100000

abbrev Bun := Int × Int
abbrev Fair := Int × (Int × ((List Int) × ((List Int) × ((List Bun) × (Int × (Int × Int))))))
abbrev Deal := Int × (Int × (Int × (Int × Int)))
abbrev Cnt := (List Int) × ((List Int) × ((List (Int × Int)) × ((List Int) × Int)))
abbrev Night := Int × (Int × (Int × (Int × (Int × Int))))

/-! ## Loops over a list -/
/-- A loop that looks for the first element with q. -/
theorem loopIdx {α D R : Type} [Inhabited α] {L : Nat → D → Option R} (mk : Nat → D) (l : List α) (q : α → Bool) (hit : Nat → R) (e : R) (c : Nat) {N : Nat} (hN : l.length + c < N)
    (hend : ∀ N, L (N + 1) (mk l.length) = some e)
    (hstep : ∀ N i, c ≤ N → i < l.length → L (N + 1) (mk i) = if q (gd l (i : Int)) then some (hit i) else L N (mk (i + 1))) :
    L N (mk 0) = some (match l.findIdx? q with | some i => hit i | none => e) := by
  have key : ∀ (d i : Nat) (N : Nat), i + d = l.length → d + c < N → L N (mk i) = some (match (l.drop i).findIdx? q with | some j => hit (i + j) | none => e) := by
    intro d
    induction d with
    | zero =>
      intro i N hi hN
      obtain ⟨m, rfl⟩ : ∃ m, N = m + 1 := ⟨N - 1, by omega⟩
      obtain rfl : i = l.length := by omega
      rw [hend, List.drop_length]
      rfl
    | succ d ih =>
      intro i N hi hN
      obtain ⟨m, rfl⟩ : ∃ m, N = m + 1 := ⟨N - 1, by omega⟩
      rw [hstep m i (by omega) (by omega), drop_nat (by omega), List.findIdx?_cons]
      cases hq : q (gd l (i : Int)) with
      | true => rfl
      | false =>
        rw [if_neg (by simp), ih (i + 1) m (by omega) (by omega)]
        simp only [Bool.false_eq_true, if_false]
        cases (l.drop (i + 1)).findIdx? q with
        | none => rfl
        | some j =>
          simp only [Option.map_some]
          rw [show i + (j + 1) = i + 1 + j by omega]
  have := key l.length 0 N (by omega) hN
  simpa using this
theorem findIdx_none {α : Type} {l : List α} {q : α → Bool} : (l.findIdx? q).isNone = l.all (fun x => !q x) := by
  induction l with
  | nil => rfl
  | cons x l _ =>
    rw [List.findIdx?_cons, List.all_cons]
    cases q x with
    | true => rfl
    | false => simp
/-- A loop that leaves at the first element without p. -/
theorem loopAll {α D R : Type} [Inhabited α] {L : Nat → D → Option R} (mk : Nat → D) (l : List α) (p : α → Bool) (bad good : R) (c : Nat) {N : Nat} (hN : l.length + c < N)
    (hend : ∀ N, L (N + 1) (mk l.length) = some good)
    (hstep : ∀ N i, c ≤ N → i < l.length → L (N + 1) (mk i) = if p (gd l (i : Int)) then L N (mk (i + 1)) else some bad) :
    L N (mk 0) = some (if l.all p then good else bad) := by
  rw [loopIdx mk l (fun x => !p x) (fun _ => bad) good c hN hend (fun N i hc hi => by
    rw [hstep N i hc hi]
    cases p (gd l (i : Int)) <;> rfl)]
  have := findIdx_none (l := l) (q := fun x => !p x)
  simp only [Bool.not_not] at this
  cases h : l.findIdx? (fun x => !p x) with
  | none =>
    rw [h] at this
    simp only [Option.isNone_none] at this
    rw [← this]
    rfl
  | some i =>
    rw [h] at this
    simp only [Option.isNone_some] at this
    rw [← this]
    rfl
/-- slices.IndexFunc. -/
def idxI {α : Type} (l : List α) (q : α → Bool) : Int := match l.findIdx? q with | some i => (i : Int) | none => -1
theorem idxI_nn {α : Type} (l : List α) (q : α → Bool) : decide (idxI l q ≥ 0) = l.any q := by
  have h := findIdx_none (l := l) (q := q)
  unfold idxI
  cases hf : l.findIdx? q with
  | some i =>
    rw [hf] at h
    simp only [Option.isNone_some] at h
    show decide ((i : Int) ≥ 0) = _
    rw [dec_t (by omega)]
    rw [List.all_eq_not_any_not] at h
    simpa using h
  | none =>
    rw [hf] at h
    simp only [Option.isNone_none] at h
    show decide ((-1 : Int) ≥ 0) = _
    rw [dec_f (by omega)]
    rw [List.all_eq_not_any_not] at h
    simpa using h

/-! ## Small functions -/
def rng (x lo hi : Int) : Bool := decide (lo ≤ x) && decide (x ≤ hi)
theorem rng_iff {x lo hi : Int} : rng x lo hi = true ↔ lo ≤ x ∧ x ≤ hi := by unfold rng; rw [Bool.and_eq_true, decide_eq_true_iff, decide_eq_true_iff]
theorem rng_f {x lo hi : Int} : rng x lo hi = false ↔ ¬ (lo ≤ x ∧ x ≤ hi) := by rw [← rng_iff, Bool.not_eq_true]
theorem g42_eq (x lo hi : Int) : g42 (x, lo, hi, ()) = some ((rng x lo hi, ()), ()) := by
  show F42 fuel x lo hi = _
  unfold F42 rng
  by_cases h : lo ≤ x
  · rw [dec_t (p := x ≥ lo) h]; rfl
  · rw [dec_f (p := x ≥ lo) h]; rfl
theorem g44_eq (x lo hi : Int) : g44 (x, lo, hi, ()) = some ((rng x lo hi, ()), ()) := by
  show F44 fuel x lo hi = _
  unfold F44 rng
  by_cases h : lo ≤ x
  · rw [dec_t (p := x ≥ lo) h]; rfl
  · rw [dec_f (p := x ≥ lo) h]; rfl
theorem g69_eq (l : List Int) (hl : l.length ≤ 1099511627) (f : Int → Option Bool) (q : Int → Bool) (hf : ∀ x ∈ l, f x = some (q x)) : g69 (l, f, ()) = some ((idxI l q, ()), ()) := by
  show F69 fuel l f = _
  unfold F69
  have h := loopIdx (L := L69_2) (fun i => ((l, f, (l.length : Int), (i : Int), ()), (), ())) l q (fun i => .inl (((i : Int), ()), (), ())) (.inr ((), (), ())) 0 (N := fuel) (by have := fuel_ge; omega)
    (fun N => by simp [L69_2, B69_2])
    (fun N i _ hi => by
      simp only [L69_2, B69_2]
      rw [dec_t (by omega), cond_true, getI_gd (by omega) (by omega), hf _ (gd_mem (by omega) (by omega)), derefK_some, wI (by omega) (by omega)]
      cases q (gd l (i : Int)) <;> rfl)
  have h' : L69_2 fuel ((l, f, (l.length : Int), 0, ()), (), ()) = _ := h
  rw [h', derefK_some]
  unfold idxI
  cases l.findIdx? q <;> rfl
theorem g70_eq (l : List Bun) (hl : l.length ≤ 1099511627) (f : Bun → Option Bool) (q : Bun → Bool) (hf : ∀ x ∈ l, f x = some (q x)) : g70 (l, f, ()) = some ((idxI l q, ()), ()) := by
  show F70 fuel l f = _
  unfold F70
  have h := loopIdx (L := L70_2) (fun i => ((l, f, (l.length : Int), (i : Int), ()), (), ())) l q (fun i => .inl (((i : Int), ()), (), ())) (.inr ((), (), ())) 0 (N := fuel) (by have := fuel_ge; omega)
    (fun N => by simp [L70_2, B70_2])
    (fun N i _ hi => by
      simp only [L70_2, B70_2]
      rw [dec_t (by omega), cond_true, getI_gd (by omega) (by omega), hf _ (gd_mem (by omega) (by omega)), derefK_some, wI (by omega) (by omega)]
      cases q (gd l (i : Int)) <;> rfl)
  have h' : L70_2 fuel ((l, f, (l.length : Int), 0, ()), (), ()) = _ := h
  rw [h', derefK_some]
  unfold idxI
  cases l.findIdx? q <;> rfl
theorem g49_eq (l : List Int) (hl : l.length ≤ 1099511627) (f : Int → Option Bool) (q : Int → Bool) (hf : ∀ x ∈ l, f x = some (q x)) : g49 (l, f, ()) = some ((l.any q, ()), ()) := by
  show F49 fuel l f = _
  unfold F49
  rw [g69_eq l hl f q hf, derefK_some, idxI_nn]
theorem g50_eq (l : List Bun) (hl : l.length ≤ 1099511627) (f : Bun → Option Bool) (q : Bun → Bool) (hf : ∀ x ∈ l, f x = some (q x)) : g50 (l, f, ()) = some ((l.any q, ()), ()) := by
  show F50 fuel l f = _
  unfold F50
  rw [g70_eq l hl f q hf, derefK_some, idxI_nn]
theorem any_not {α : Type} {l : List α} {q : α → Bool} : l.any (fun x => !q x) = !l.all q := by
  rw [List.all_eq_not_any_not, Bool.not_not]

/-! ## Valid fairs -/
def okB (f : Fair) (b : Bun) : Bool := rng b.1 1 1000 && (rng b.2 1 1000000 && !decide (IntKind.wrap .i64 (f.2.2.2.2.2.1 * b.1) > b.2))
def fairOK (f : Fair) : Bool :=
  rng f.2.2.1.length 1 8 && (((f.2.2.2.1.length : Int) == (f.2.2.1.length : Int)) && (rng f.1 0 20 && (rng f.2.1 0 12 && (decide ((f.2.2.2.2.1.length : Int) ≤ 6) && ((f.2.2.1.all (rng · 0 100000) && f.2.2.2.1.all (rng · 0 1000000)) && (rng f.2.2.2.2.2.1 0 1000 && (rng f.2.2.2.2.2.2.1 0 1000000 && (rng f.2.2.2.2.2.2.2 1 1440 && f.2.2.2.2.1.all (okB f)))))))))

/-- Lists that a machine can hold. -/
def Sized (f : Fair) : Prop := f.2.2.1.length ≤ 1099511627 ∧ f.2.2.2.1.length ≤ 1099511627 ∧ f.2.2.2.2.1.length ≤ 1099511627

theorem cond_not {R : Type} (b : Bool) (x y : R) : cond (!b) x y = cond b y x := by cases b <;> rfl
theorem g18_eq (f : Fair) (hs : Sized f) : g18 (f, ()) = some ((if fairOK f then 0 else 10, ()), ()) := by
  obtain ⟨s1, s2, s3⟩ := hs
  show F18 fuel f = _
  unfold F18
  have e1 : ∀ lo hi : Int, Mk.m47.p.g (lo, hi, ()) = some ((some lo, some hi, ()), ()) := fun _ _ => rfl
  have e2 : ∀ lo hi : Int, ∀ l : List Int, l.length ≤ 1099511627 → g49 (l, (fun v5 => derefK (g48 (v5, lo, hi, ())) fun y6 => some y6.1.1), ()) = some ((l.any (fun x => !rng x lo hi), ()), ()) := by
    intro lo hi l hl
    refine g49_eq l hl _ _ fun x _ => ?_
    show derefK (F48 fuel x lo hi) _ = _
    unfold F48
    rw [g42_eq]
    rfl
  have e3 : g50 (f.2.2.2.2.1, (fun v19 => derefK (g51 (v19, f, ())) fun y20 => some y20.1.1), ()) = some ((f.2.2.2.2.1.any (fun b => !okB f b), ()), ()) := by
    refine g50_eq _ s3 _ _ fun b _ => ?_
    show derefK (F51 fuel b f) _ = _
    unfold F51 okB
    rw [g42_eq, g42_eq]
    rw [derefK_some, cond_not, derefK_some, cond_not]
    cases rng b.1 1 1000
    · rfl
    cases rng b.2 1 1000000
    · rfl
    rw [Bool.true_and, Bool.true_and, Bool.not_not]
    rfl
  simp only [g42_eq, derefK_some, cond_not]
  unfold fairOK
  have d : decide ((f.2.2.2.2.1.length : Int) > 6) = !decide ((f.2.2.2.2.1.length : Int) ≤ 6) := by
    by_cases h : (f.2.2.2.2.1.length : Int) ≤ 6
    · rw [dec_t h, dec_f (by omega)]; rfl
    · rw [dec_f h, dec_t (by omega)]; rfl
  rw [d, bne, cond_not, cond_not]
  cases rng f.2.2.1.length 1 8
  · rfl
  cases (f.2.2.2.1.length : Int) == (f.2.2.1.length : Int)
  · rfl
  cases rng f.1 0 20
  · rfl
  cases rng f.2.1 0 12
  · rfl
  cases decide ((f.2.2.2.2.1.length : Int) ≤ 6)
  · rfl
  simp only [cond_true, Bool.true_and]
  rw [derefK_of (e1 0 100000)]
  have h1 := e2 0 100000 _ s1
  have h2 := e2 0 1000000 _ s2
  rw [any_not] at h1 h2 e3
  refine (derefK_of h1 _).trans ?_
  rw [cond_not]
  cases f.2.2.1.all (rng · 0 100000)
  · rfl
  rw [cond_true, derefK_of (e1 0 1000000)]
  refine (derefK_of h2 _).trans ?_
  rw [cond_not]
  cases f.2.2.2.1.all (rng · 0 1000000)
  · rfl
  rw [cond_true]
  cases rng f.2.2.2.2.2.1 0 1000
  · rfl
  cases rng f.2.2.2.2.2.2.1 0 1000000
  · rfl
  cases rng f.2.2.2.2.2.2.2 1 1440
  · rfl
  rw [cond_true, cond_true, cond_true]
  refine (derefK_of e3 _).trans ?_
  rw [cond_not]
  cases f.2.2.2.2.1.all (okB f) <;> rfl

theorem all_zip {a b : List Int} {p q : Int → Bool} (h : b.length = a.length) : ((a.zip b).all fun x => p x.1 && q x.2) = (a.all p && b.all q) := by
  induction a generalizing b with
  | nil => cases b with
    | nil => rfl
    | cons y b => simp at h
  | cons x a ih => cases b with
    | nil => simp at h
    | cons y b =>
      simp only [List.zip_cons_cons, List.all_cons, ih (by simpa using h)]
      cases p x <;> cases q y <;> cases a.all p <;> cases b.all q <;> rfl
theorem gd_zip {a b : List Int} {i : Int} (h0 : 0 ≤ i) (h1 : i < a.length) (h : b.length = a.length) : gd (a.zip b) i = (gd a i, gd b i) := by
  have e1 := gd_some h0 h1
  have e2 := gd_some (l := b) h0 (by omega)
  unfold gd at e1 e2 ⊢
  have : (a.zip b)[i.toNat]? = some (a.getD i.toNat default, b.getD i.toNat default) := by
    rw [List.zip_eq_zipWith, List.getElem?_zipWith, e1, e2]
  rw [List.getD_eq_getElem?_getD, this]
  rfl
theorem g19_eq (f : Fair) (hs : Sized f) : g19 (f, ()) = some ((if fairOK f then 0 else 10, ()), ()) := by
  obtain ⟨s1, s2, s3⟩ := hs
  show F19 fuel f = _
  unfold F19
  simp only [g44_eq, derefK_some]
  unfold fairOK
  have d : decide ((f.2.2.2.2.1.length : Int) > 6) = !decide ((f.2.2.2.2.1.length : Int) ≤ 6) := by
    by_cases h : (f.2.2.2.2.1.length : Int) ≤ 6
    · rw [dec_t h, dec_f (by omega)]; rfl
    · rw [dec_f h, dec_t (by omega)]; rfl
  rw [d, bne]
  simp only [cond_not]
  cases rng f.2.2.1.length 1 8
  · rfl
  cases hlen : (f.2.2.2.1.length : Int) == (f.2.2.1.length : Int)
  · rfl
  cases rng f.1 0 20
  · rfl
  cases rng f.2.1 0 12
  · rfl
  cases decide ((f.2.2.2.2.1.length : Int) ≤ 6)
  · rfl
  have hl : f.2.2.2.1.length = f.2.2.1.length := by
    rw [beq_iff_eq] at hlen; omega
  simp only [cond_true, Bool.true_and]
  have h1 := loopAll (L := L19_4) (fun i => (((i : Int), ()), (f, ()), ())) (f.2.2.1.zip f.2.2.2.1) (fun x => rng x.1 0 100000 && rng x.2 0 1000000) (.inl ((10, ()), (), ())) (.inr ((), (f, ()), ())) 0 (N := fuel)
    (by have := fuel_ge; rw [List.length_zip, hl]; omega)
    (fun N => by
      rw [List.length_zip, hl]
      simp [L19_4, B19_4])
    (fun N i _ hi => by
      rw [List.length_zip, hl] at hi
      rw [gd_zip (by omega) (by omega) hl]
      simp only [L19_4, B19_4]
      rw [dec_t (by omega), cond_true, getI_gd (by omega) (by omega), g44_eq, derefK_some]
      cases rng (gd f.2.2.1 (i : Int)) 0 100000
      · rfl
      simp only [Bool.not_true, cond_false, Bool.true_and]
      rw [getI_gd (by omega) (by omega), g44_eq, derefK_some]
      cases rng (gd f.2.2.2.1 (i : Int)) 0 1000000
      · rfl
      simp only [Bool.not_true, cond_false, if_true]
      rw [wI (by omega) (by omega)]
      rfl)
  have h1' : L19_4 fuel ((0, ()), (f, ()), ()) = _ := h1
  rw [h1', derefK_some, all_zip (p := (rng · 0 100000)) (q := (rng · 0 1000000)) hl]
  cases f.2.2.1.all (rng · 0 100000) && f.2.2.2.1.all (rng · 0 1000000)
  · rfl
  simp only [if_true, sumK_inr, Bool.true_and]
  cases rng f.2.2.2.2.2.1 0 1000
  · rfl
  cases rng f.2.2.2.2.2.2.1 0 1000000
  · rfl
  cases rng f.2.2.2.2.2.2.2 1 1440
  · rfl
  simp only [cond_true, Bool.true_and]
  have h2 := loopAll (L := L19_11) (fun i => (((i : Int), ()), (f, ()), ())) f.2.2.2.2.1 (okB f) (.inl ((10, ()), (), ())) (.inr ((), (), ())) 0 (N := fuel)
    (by have := fuel_ge; omega)
    (fun N => by simp [L19_11, B19_11])
    (fun N i _ hi => by
      rw [show okB f (gd f.2.2.2.2.1 (i : Int)) = (rng (gd f.2.2.2.2.1 (i : Int)).1 1 1000 && (rng (gd f.2.2.2.2.1 (i : Int)).2 1 1000000 && !decide (IntKind.wrap .i64 (f.2.2.2.2.2.1 * (gd f.2.2.2.2.1 (i : Int)).1) > (gd f.2.2.2.2.1 (i : Int)).2))) from rfl]
      simp only [L19_11, B19_11]
      rw [dec_t (by omega), cond_true, getI_gd (by omega) (by omega), g44_eq, derefK_some]
      cases rng (gd f.2.2.2.2.1 (i : Int)).1 1 1000
      · rfl
      simp only [Bool.not_true, cond_false, Bool.true_and]
      rw [g44_eq, derefK_some]
      cases rng (gd f.2.2.2.2.1 (i : Int)).2 1 1000000
      · rfl
      simp only [Bool.not_true, cond_false, Bool.true_and]
      rw [wI (x := (i : Int) + 1) (by omega) (by omega)]
      cases decide (IntKind.wrap .i64 (f.2.2.2.2.2.1 * (gd f.2.2.2.2.1 (i : Int)).1) > (gd f.2.2.2.2.1 (i : Int)).2) <;> rfl)
  have h2' : L19_11 fuel ((0, ()), (f, ()), ()) = _ := h2
  rw [h2', derefK_some]
  cases f.2.2.2.2.1.all (okB f) <;> rfl
end Go.Proofs.Try.V
