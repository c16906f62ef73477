/- Plain laws: what the last text needs of the others, in one. No condition beyond those typed in each theorem. -/
import Derived.Test.YtlhapfgcnfooeaaFn4
namespace Go.Proofs.Try.V
open Go.Vi
set_option maxRecDepth 100000
abbrev Bun := Int × Int
abbrev Fair := Int × (Int × ((List Int) × ((List Int) × ((List Bun) × (Int × (Int × Int))))))
abbrev Deal := Int × (Int × (Int × (Int × Int)))
abbrev Cnt := (List Int) × ((List Int) × ((List (Int × Int)) × ((List Int) × Int)))
abbrev Night := Int × (Int × (Int × (Int × (Int × Int))))
theorem loopIdx {α D R : Type} [Inhabited α] {L : Nat → D → Option R} (mk : Nat → D) (l : List α) (q : α → Bool) (hit : Nat → R) (e : R) (c : Nat) {N : Nat} (hN : l.length + c < N)
    (hend : ∀ N, L (N + 1) (mk l.length) = some e)
    (hstep : ∀ N i, c ≤ N → i < l.length → L (N + 1) (mk i) = if q (gd l (i : Int)) then some (hit i) else L N (mk (i + 1))) :
    L N (mk 0) = some (match l.findIdx? q with | some i => hit i | none => e) := by
  have key : ∀ (d i : Nat) (N : Nat), i + d = l.length → d + c < N → L N (mk i) = some (match (l.drop i).findIdx? q with | some j => hit (i + j) | none => e) := by
    intro d
    induction d with
    | zero =>
      intro i N hi hN
      obtain ⟨m, rfl⟩ : ∃ m, N = m + 1 := ⟨N - 1, by omega⟩
      obtain rfl : i = l.length := by omega
      rw [hend, List.drop_length]
      rfl
    | succ d ih =>
      intro i N hi hN
      obtain ⟨m, rfl⟩ : ∃ m, N = m + 1 := ⟨N - 1, by omega⟩
      rw [hstep m i (by omega) (by omega), drop_nat (by omega), List.findIdx?_cons]
      cases hq : q (gd l (i : Int)) with
      | true => rfl
      | false =>
        rw [if_neg (by simp), ih (i + 1) m (by omega) (by omega)]
        simp only [Bool.false_eq_true, if_false]
        cases (l.drop (i + 1)).findIdx? q with
        | none => rfl
        | some j =>
          simp only [Option.map_some]
          rw [show i + (j + 1) = i + 1 + j by omega]
  have := key l.length 0 N (by omega) hN
  simpa using this
theorem findIdx_none {α : Type} {l : List α} {q : α → Bool} : (l.findIdx? q).isNone = l.all (fun x => !q x) := by
  induction l with
  | nil => rfl
  | cons x l _ =>
    rw [List.findIdx?_cons, List.all_cons]
    cases q x with
    | true => rfl
    | false => simp
theorem loopAll {α D R : Type} [Inhabited α] {L : Nat → D → Option R} (mk : Nat → D) (l : List α) (p : α → Bool) (bad good : R) (c : Nat) {N : Nat} (hN : l.length + c < N)
    (hend : ∀ N, L (N + 1) (mk l.length) = some good)
    (hstep : ∀ N i, c ≤ N → i < l.length → L (N + 1) (mk i) = if p (gd l (i : Int)) then L N (mk (i + 1)) else some bad) :
    L N (mk 0) = some (if l.all p then good else bad) := by
  rw [loopIdx mk l (fun x => !p x) (fun _ => bad) good c hN hend (fun N i hc hi => by
    rw [hstep N i hc hi]
    cases p (gd l (i : Int)) <;> rfl)]
  have := findIdx_none (l := l) (q := fun x => !p x)
  simp only [Bool.not_not] at this
  cases h : l.findIdx? (fun x => !p x) with
  | none =>
    rw [h] at this
    simp only [Option.isNone_none] at this
    rw [← this]
    rfl
  | some i =>
    rw [h] at this
    simp only [Option.isNone_some] at this
    rw [← this]
    rfl
def idxI {α : Type} (l : List α) (q : α → Bool) : Int := match l.findIdx? q with | some i => (i : Int) | none => -1
theorem idxI_nn {α : Type} (l : List α) (q : α → Bool) : decide (idxI l q ≥ 0) = l.any q := by
  have h := findIdx_none (l := l) (q := q)
  unfold idxI
  cases hf : l.findIdx? q with
  | some i =>
    rw [hf] at h
    simp only [Option.isNone_some] at h
    show decide ((i : Int) ≥ 0) = _
    rw [dec_t (by omega)]
    rw [List.all_eq_not_any_not] at h
    simpa using h
  | none =>
    rw [hf] at h
    simp only [Option.isNone_none] at h
    show decide ((-1 : Int) ≥ 0) = _
    rw [dec_f (by omega)]
    rw [List.all_eq_not_any_not] at h
    simpa using h
def rng (x lo hi : Int) : Bool := decide (lo ≤ x) && decide (x ≤ hi)
theorem rng_iff {x lo hi : Int} : rng x lo hi = true ↔ lo ≤ x ∧ x ≤ hi := by unfold rng; rw [Bool.and_eq_true, decide_eq_true_iff, decide_eq_true_iff]
theorem rng_f {x lo hi : Int} : rng x lo hi = false ↔ ¬ (lo ≤ x ∧ x ≤ hi) := by rw [← rng_iff, Bool.not_eq_true]
theorem g42_eq (x lo hi : Int) : g42 (x, lo, hi, ()) = some ((rng x lo hi, ()), ()) := by
  show F42 fuel x lo hi = _
  unfold F42 rng
  by_cases h : lo ≤ x
  · rw [dec_t (p := x ≥ lo) h]; rfl
  · rw [dec_f (p := x ≥ lo) h]; rfl
theorem g44_eq (x lo hi : Int) : g44 (x, lo, hi, ()) = some ((rng x lo hi, ()), ()) := by
  show F44 fuel x lo hi = _
  unfold F44 rng
  by_cases h : lo ≤ x
  · rw [dec_t (p := x ≥ lo) h]; rfl
  · rw [dec_f (p := x ≥ lo) h]; rfl
theorem g69_eq (l : List Int) (hl : l.length ≤ 1099511627) (f : Int → Option Bool) (q : Int → Bool) (hf : ∀ x ∈ l, f x = some (q x)) : g69 (l, f, ()) = some ((idxI l q, ()), ()) := by
  show F69 fuel l f = _
  unfold F69
  have h := loopIdx (L := L69_2) (fun i => ((l, f, (l.length : Int), (i : Int), ()), (), ())) l q (fun i => .inl (((i : Int), ()), (), ())) (.inr ((), (), ())) 0 (N := fuel) (by have := fuel_ge; omega)
    (fun N => by simp [L69_2, B69_2])
    (fun N i _ hi => by
      simp only [L69_2, B69_2]
      rw [dec_t (by omega), cond_true, getI_gd (by omega) (by omega), hf _ (gd_mem (by omega) (by omega)), derefK_some, wI (by omega) (by omega)]
      cases q (gd l (i : Int)) <;> rfl)
  have h' : L69_2 fuel ((l, f, (l.length : Int), 0, ()), (), ()) = _ := h
  rw [h', derefK_some]
  unfold idxI
  cases l.findIdx? q <;> rfl
theorem g70_eq (l : List Bun) (hl : l.length ≤ 1099511627) (f : Bun → Option Bool) (q : Bun → Bool) (hf : ∀ x ∈ l, f x = some (q x)) : g70 (l, f, ()) = some ((idxI l q, ()), ()) := by
  show F70 fuel l f = _
  unfold F70
  have h := loopIdx (L := L70_2) (fun i => ((l, f, (l.length : Int), (i : Int), ()), (), ())) l q (fun i => .inl (((i : Int), ()), (), ())) (.inr ((), (), ())) 0 (N := fuel) (by have := fuel_ge; omega)
    (fun N => by simp [L70_2, B70_2])
    (fun N i _ hi => by
      simp only [L70_2, B70_2]
      rw [dec_t (by omega), cond_true, getI_gd (by omega) (by omega), hf _ (gd_mem (by omega) (by omega)), derefK_some, wI (by omega) (by omega)]
      cases q (gd l (i : Int)) <;> rfl)
  have h' : L70_2 fuel ((l, f, (l.length : Int), 0, ()), (), ()) = _ := h
  rw [h', derefK_some]
  unfold idxI
  cases l.findIdx? q <;> rfl
theorem g49_eq (l : List Int) (hl : l.length ≤ 1099511627) (f : Int → Option Bool) (q : Int → Bool) (hf : ∀ x ∈ l, f x = some (q x)) : g49 (l, f, ()) = some ((l.any q, ()), ()) := by
  show F49 fuel l f = _
  unfold F49
  rw [g69_eq l hl f q hf, derefK_some, idxI_nn]
theorem g50_eq (l : List Bun) (hl : l.length ≤ 1099511627) (f : Bun → Option Bool) (q : Bun → Bool) (hf : ∀ x ∈ l, f x = some (q x)) : g50 (l, f, ()) = some ((l.any q, ()), ()) := by
  show F50 fuel l f = _
  unfold F50
  rw [g70_eq l hl f q hf, derefK_some, idxI_nn]
theorem any_not {α : Type} {l : List α} {q : α → Bool} : l.any (fun x => !q x) = !l.all q := by
  rw [List.all_eq_not_any_not, Bool.not_not]
def okB (f : Fair) (b : Bun) : Bool := rng b.1 1 1000 && (rng b.2 1 1000000 && !decide (IntKind.wrap .i64 (f.2.2.2.2.2.1 * b.1) > b.2))
def fairOK (f : Fair) : Bool :=
  rng f.2.2.1.length 1 8 && (((f.2.2.2.1.length : Int) == (f.2.2.1.length : Int)) && (rng f.1 0 20 && (rng f.2.1 0 12 && (decide ((f.2.2.2.2.1.length : Int) ≤ 6) && ((f.2.2.1.all (rng · 0 100000) && f.2.2.2.1.all (rng · 0 1000000)) && (rng f.2.2.2.2.2.1 0 1000 && (rng f.2.2.2.2.2.2.1 0 1000000 && (rng f.2.2.2.2.2.2.2 1 1440 && f.2.2.2.2.1.all (okB f)))))))))
def Sized (f : Fair) : Prop := f.2.2.1.length ≤ 1099511627 ∧ f.2.2.2.1.length ≤ 1099511627 ∧ f.2.2.2.2.1.length ≤ 1099511627
theorem cond_not {R : Type} (b : Bool) (x y : R) : cond (!b) x y = cond b y x := by cases b <;> rfl
theorem g18_eq (f : Fair) (hs : Sized f) : g18 (f, ()) = some ((if fairOK f then 0 else 10, ()), ()) := by
  obtain ⟨s1, s2, s3⟩ := hs
  show F18 fuel f = _
  unfold F18
  have e1 : ∀ lo hi : Int, Mk.m47.p.g (lo, hi, ()) = some ((some lo, some hi, ()), ()) := fun _ _ => rfl
  have e2 : ∀ lo hi : Int, ∀ l : List Int, l.length ≤ 1099511627 → g49 (l, (fun v5 => derefK (g48 (v5, lo, hi, ())) fun y6 => some y6.1.1), ()) = some ((l.any (fun x => !rng x lo hi), ()), ()) := by
    intro lo hi l hl
    refine g49_eq l hl _ _ fun x _ => ?_
    show derefK (F48 fuel x lo hi) _ = _
    unfold F48
    rw [g42_eq]
    rfl
  have e3 : g50 (f.2.2.2.2.1, (fun v19 => derefK (g51 (v19, f, ())) fun y20 => some y20.1.1), ()) = some ((f.2.2.2.2.1.any (fun b => !okB f b), ()), ()) := by
    refine g50_eq _ s3 _ _ fun b _ => ?_
    show derefK (F51 fuel b f) _ = _
    unfold F51 okB
    rw [g42_eq, g42_eq]
    rw [derefK_some, cond_not, derefK_some, cond_not]
    cases rng b.1 1 1000
    · rfl
    cases rng b.2 1 1000000
    · rfl
    rw [Bool.true_and, Bool.true_and, Bool.not_not]
    rfl
  simp only [g42_eq, derefK_some, cond_not]
  unfold fairOK
  have d : decide ((f.2.2.2.2.1.length : Int) > 6) = !decide ((f.2.2.2.2.1.length : Int) ≤ 6) := by
    by_cases h : (f.2.2.2.2.1.length : Int) ≤ 6
    · rw [dec_t h, dec_f (by omega)]; rfl
    · rw [dec_f h, dec_t (by omega)]; rfl
  rw [d, bne, cond_not, cond_not]
  cases rng f.2.2.1.length 1 8
  · rfl
  cases (f.2.2.2.1.length : Int) == (f.2.2.1.length : Int)
  · rfl
  cases rng f.1 0 20
  · rfl
  cases rng f.2.1 0 12
  · rfl
  cases decide ((f.2.2.2.2.1.length : Int) ≤ 6)
  · rfl
  simp only [cond_true, Bool.true_and]
  rw [derefK_of (e1 0 100000)]
  have h1 := e2 0 100000 _ s1
  have h2 := e2 0 1000000 _ s2
  rw [any_not] at h1 h2 e3
  refine (derefK_of h1 _).trans ?_
  rw [cond_not]
  cases f.2.2.1.all (rng · 0 100000)
  · rfl
  rw [cond_true, derefK_of (e1 0 1000000)]
  refine (derefK_of h2 _).trans ?_
  rw [cond_not]
  cases f.2.2.2.1.all (rng · 0 1000000)
  · rfl
  rw [cond_true]
  cases rng f.2.2.2.2.2.1 0 1000
  · rfl
  cases rng f.2.2.2.2.2.2.1 0 1000000
  · rfl
  cases rng f.2.2.2.2.2.2.2 1 1440
  · rfl
  rw [cond_true, cond_true, cond_true]
  refine (derefK_of e3 _).trans ?_
  rw [cond_not]
  cases f.2.2.2.2.1.all (okB f) <;> rfl
theorem all_zip {a b : List Int} {p q : Int → Bool} (h : b.length = a.length) : ((a.zip b).all fun x => p x.1 && q x.2) = (a.all p && b.all q) := by
  induction a generalizing b with
  | nil => cases b with
    | nil => rfl
    | cons y b => simp at h
  | cons x a ih => cases b with
    | nil => simp at h
    | cons y b =>
      simp only [List.zip_cons_cons, List.all_cons, ih (by simpa using h)]
      cases p x <;> cases q y <;> cases a.all p <;> cases b.all q <;> rfl
theorem gd_zip {a b : List Int} {i : Int} (h0 : 0 ≤ i) (h1 : i < a.length) (h : b.length = a.length) : gd (a.zip b) i = (gd a i, gd b i) := by
  have e1 := gd_some h0 h1
  have e2 := gd_some (l := b) h0 (by omega)
  unfold gd at e1 e2 ⊢
  have : (a.zip b)[i.toNat]? = some (a.getD i.toNat default, b.getD i.toNat default) := by
    rw [List.zip_eq_zipWith, List.getElem?_zipWith, e1, e2]
  rw [List.getD_eq_getElem?_getD, this]
  rfl
theorem g19_eq (f : Fair) (hs : Sized f) : g19 (f, ()) = some ((if fairOK f then 0 else 10, ()), ()) := by
  obtain ⟨s1, s2, s3⟩ := hs
  show F19 fuel f = _
  unfold F19
  simp only [g44_eq, derefK_some]
  unfold fairOK
  have d : decide ((f.2.2.2.2.1.length : Int) > 6) = !decide ((f.2.2.2.2.1.length : Int) ≤ 6) := by
    by_cases h : (f.2.2.2.2.1.length : Int) ≤ 6
    · rw [dec_t h, dec_f (by omega)]; rfl
    · rw [dec_f h, dec_t (by omega)]; rfl
  rw [d, bne]
  simp only [cond_not]
  cases rng f.2.2.1.length 1 8
  · rfl
  cases hlen : (f.2.2.2.1.length : Int) == (f.2.2.1.length : Int)
  · rfl
  cases rng f.1 0 20
  · rfl
  cases rng f.2.1 0 12
  · rfl
  cases decide ((f.2.2.2.2.1.length : Int) ≤ 6)
  · rfl
  have hl : f.2.2.2.1.length = f.2.2.1.length := by
    rw [beq_iff_eq] at hlen; omega
  simp only [cond_true, Bool.true_and]
  have h1 := loopAll (L := L19_4) (fun i => (((i : Int), ()), (f, ()), ())) (f.2.2.1.zip f.2.2.2.1) (fun x => rng x.1 0 100000 && rng x.2 0 1000000) (.inl ((10, ()), (), ())) (.inr ((), (f, ()), ())) 0 (N := fuel)
    (by have := fuel_ge; rw [List.length_zip, hl]; omega)
    (fun N => by
      rw [List.length_zip, hl]
      simp [L19_4, B19_4])
    (fun N i _ hi => by
      rw [List.length_zip, hl] at hi
      rw [gd_zip (by omega) (by omega) hl]
      simp only [L19_4, B19_4]
      rw [dec_t (by omega), cond_true, getI_gd (by omega) (by omega), g44_eq, derefK_some]
      cases rng (gd f.2.2.1 (i : Int)) 0 100000
      · rfl
      simp only [Bool.not_true, cond_false, Bool.true_and]
      rw [getI_gd (by omega) (by omega), g44_eq, derefK_some]
      cases rng (gd f.2.2.2.1 (i : Int)) 0 1000000
      · rfl
      simp only [Bool.not_true, cond_false, if_true]
      rw [wI (by omega) (by omega)]
      rfl)
  have h1' : L19_4 fuel ((0, ()), (f, ()), ()) = _ := h1
  rw [h1', derefK_some, all_zip (p := (rng · 0 100000)) (q := (rng · 0 1000000)) hl]
  cases f.2.2.1.all (rng · 0 100000) && f.2.2.2.1.all (rng · 0 1000000)
  · rfl
  simp only [if_true, sumK_inr, Bool.true_and]
  cases rng f.2.2.2.2.2.1 0 1000
  · rfl
  cases rng f.2.2.2.2.2.2.1 0 1000000
  · rfl
  cases rng f.2.2.2.2.2.2.2 1 1440
  · rfl
  simp only [cond_true, Bool.true_and]
  have h2 := loopAll (L := L19_11) (fun i => (((i : Int), ()), (f, ()), ())) f.2.2.2.2.1 (okB f) (.inl ((10, ()), (), ())) (.inr ((), (), ())) 0 (N := fuel)
    (by have := fuel_ge; omega)
    (fun N => by simp [L19_11, B19_11])
    (fun N i _ hi => by
      rw [show okB f (gd f.2.2.2.2.1 (i : Int)) = (rng (gd f.2.2.2.2.1 (i : Int)).1 1 1000 && (rng (gd f.2.2.2.2.1 (i : Int)).2 1 1000000 && !decide (IntKind.wrap .i64 (f.2.2.2.2.2.1 * (gd f.2.2.2.2.1 (i : Int)).1) > (gd f.2.2.2.2.1 (i : Int)).2))) from rfl]
      simp only [L19_11, B19_11]
      rw [dec_t (by omega), cond_true, getI_gd (by omega) (by omega), g44_eq, derefK_some]
      cases rng (gd f.2.2.2.2.1 (i : Int)).1 1 1000
      · rfl
      simp only [Bool.not_true, cond_false, Bool.true_and]
      rw [g44_eq, derefK_some]
      cases rng (gd f.2.2.2.2.1 (i : Int)).2 1 1000000
      · rfl
      simp only [Bool.not_true, cond_false, Bool.true_and]
      rw [wI (x := (i : Int) + 1) (by omega) (by omega)]
      cases decide (IntKind.wrap .i64 (f.2.2.2.2.2.1 * (gd f.2.2.2.2.1 (i : Int)).1) > (gd f.2.2.2.2.1 (i : Int)).2) <;> rfl)
  have h2' : L19_11 fuel ((0, ()), (f, ()), ()) = _ := h2
  rw [h2', derefK_some]
  cases f.2.2.2.2.1.all (okB f) <;> rfl
abbrev intsTy : Ty := .list false 3 (.int .i64)
abbrev bunTy : Ty := .str (.pair (.int .i64) (.int .i64))
abbrev dealTy : Ty := .str (.pair (.int .i64) (.pair (.int .i64) (.pair (.int .i64) (.pair (.int .i64) (.int .i64)))))
abbrev dealsTy : Ty := .list false 52 dealTy
abbrev fairTy : Ty := .str (.pair (.int .i64) (.pair (.int .i64) (.pair intsTy (.pair intsTy (.pair (.list false 54 bunTy) (.pair (.int .i64) (.pair (.int .i64) (.int .i64))))))))
abbrev cntTy : Ty := .str (.pair intsTy (.pair intsTy (.pair (.list false 44 bunTy) (.pair intsTy (.int .i64)))))
theorem len_sum {α : Type} {g : α → Nat} (h : ∀ x, 1 ≤ g x) : ∀ l : List α, l.length ≤ (l.map g).sum
  | [] => Nat.zero_le _
  | x :: l => by
    have := len_sum h l
    have := h x
    simp only [List.map_cons, List.sum_cons, List.length_cons]
    omega
theorem bulk_ints (l : List Int) : l.length + 1 ≤ bulk intsTy l := by
  have e : bulk intsTy l = (l.map (bulk (.int .i64))).sum + 1 := rfl
  have := len_sum (g := bulk (.int .i64)) (fun _ => Nat.le_refl _) l
  omega
theorem bulk_deals (l : List Deal) : l.length + 1 ≤ bulk dealsTy l := by
  have e : bulk dealsTy l = (l.map (bulk dealTy)).sum + 1 := rfl
  have : l.length ≤ (l.map (bulk dealTy)).sum := len_sum (g := bulk dealTy) (fun x => by show 1 ≤ _ + 1; omega) l
  omega
theorem bulk_buns (t : Nat) (l : List Bun) : l.length + 1 ≤ bulk (.list false t bunTy) l := by
  have e : bulk (.list false t bunTy) l = (l.map (bulk bunTy)).sum + 1 := rfl
  have : l.length ≤ (l.map (bulk bunTy)).sum := len_sum (g := bulk bunTy) (fun x => by show 1 ≤ _ + 1; omega) l
  omega
theorem sized_bulk {f : Fair} (h : bulk fairTy f ≤ 1048576) : Sized f := by
  have e : bulk fairTy f = (1 + (1 + (bulk intsTy f.2.2.1 + (bulk intsTy f.2.2.2.1 + (bulk (.list false 54 bunTy) f.2.2.2.2.1 + (1 + (1 + 1))))))) + 1 := rfl
  have e1 := bulk_ints f.2.2.1
  have e2 := bulk_ints f.2.2.2.1
  have e3 := bulk_buns 54 f.2.2.2.2.1
  exact ⟨by omega, by omega, by omega⟩
theorem cnt_bulk {c : Cnt} (h : bulk cntTy c ≤ 1048576) : c.1.length ≤ 1048576 ∧ c.2.1.length ≤ 1048576 ∧ c.2.2.1.length ≤ 1048576 ∧ c.2.2.2.1.length ≤ 1048576 := by
  have e : bulk cntTy c = (bulk intsTy c.1 + (bulk intsTy c.2.1 + (bulk (.list false 44 bunTy) c.2.2.1 + (bulk intsTy c.2.2.2.1 + 1)))) + 1 := rfl
  have e1 := bulk_ints c.1
  have e2 := bulk_ints c.2.1
  have e3 := bulk_buns 44 c.2.2.1
  have e4 := bulk_ints c.2.2.2.1
  exact ⟨by omega, by omega, by omega, by omega⟩
theorem own_try : ownKnob Try.prog.godebug = none := by kernel_rfl
theorem laidOut_try : laidOutB Try.prog = true := by kernel_rfl
inductive Pays : List Bun → Int → Int → Prop
  | nil : Pays [] 0 0
  | skip {b : Bun} {l : List Bun} {t p : Int} : Pays l t p → Pays (b :: l) t p
  | take {b : Bun} {l : List Bun} {t p : Int} : Pays (b :: l) t p → Pays (b :: l) (t + b.1) (p + b.2)
def Fine (l : List Bun) : Prop := ∀ b ∈ l, 1 ≤ b.1 ∧ b.1 ≤ 1000 ∧ 1 ≤ b.2 ∧ b.2 ≤ 1000000
theorem Fine.tail {b : Bun} {l : List Bun} (h : Fine (b :: l)) : Fine l := fun x hx => h x (List.mem_cons_of_mem _ hx)
theorem Fine.drop {l : List Bun} (h : Fine l) (i : Nat) : Fine (l.drop i) := fun x hx => h x (List.mem_of_mem_drop hx)
theorem Pays.zero : ∀ l : List Bun, Pays l 0 0
  | [] => .nil
  | _ :: l => .skip (Pays.zero l)
theorem Pays.le {l : List Bun} {t p : Int} (h : Pays l t p) (hf : Fine l) : 0 ≤ t ∧ 0 ≤ p ∧ p ≤ 1000000 * t := by
  induction h with
  | nil => omega
  | skip _ ih => exact ih hf.tail
  | take _ ih =>
    have h1 := ih hf
    have h2 := hf _ (List.mem_cons_self ..)
    omega
theorem Pays.of_take {l : List Bun} {t p : Int} {b : Bun} (h : Pays l (t - b.1) (p - b.2)) (hb : b ∈ l) : Pays l t p := by
  have key : ∀ {l : List Bun} {t p : Int} (_ : Pays l t p) (b : Bun), b ∈ l → Pays l (t + b.1) (p + b.2) := by
    intro l t p h
    induction h with
    | nil => intro b hb; cases hb
    | @skip a l t p h ih =>
      intro b hb
      rcases List.mem_cons.1 hb with rfl | hb
      · exact .take (.skip h)
      · exact .skip (ih b hb)
    | @take a l t p h ih =>
      intro b hb
      have h1 := Pays.take (ih b hb)
      rwa [show t + b.1 + a.1 = t + a.1 + b.1 by omega, show p + b.2 + a.2 = p + a.2 + b.2 by omega] at h1
  have := key h b hb
  rwa [show t - b.1 + b.1 = t by omega, show p - b.2 + b.2 = p by omega] at this
theorem Pays.cons_iff {b : Bun} {l : List Bun} {t p : Int} : Pays (b :: l) t p ↔ Pays l t p ∨ Pays (b :: l) (t - b.1) (p - b.2) := by
  constructor
  · intro h
    cases h with
    | skip h => exact .inl h
    | @take _ _ t p h => exact .inr (by rwa [show t + b.1 - b.1 = t by omega, show p + b.2 - b.2 = p by omega])
  · rintro (h | h)
    · exact .skip h
    · exact h.of_take (List.mem_cons_self ..)
theorem Pays.cons_mono {b : Bun} {l : List Bun} {t p : Int} (h : Pays l t p) : ∀ k : Nat, Pays (b :: l) (t + k * b.1) (p + k * b.2)
  | 0 => by rw [show t + ((0 : Nat) : Int) * b.1 = t by simp, show p + ((0 : Nat) : Int) * b.2 = p by simp]; exact .skip h
  | k + 1 => by
    have := Pays.take (cons_mono (b := b) h k)
    rwa [show t + (k : Int) * b.1 + b.1 = t + ((k + 1 : Nat) : Int) * b.1 by rw [Int.natCast_succ, Int.add_mul]; omega, show p + (k : Int) * b.2 + b.2 = p + ((k + 1 : Nat) : Int) * b.2 by rw [Int.natCast_succ, Int.add_mul]; omega] at this
theorem Pays.count {b : Bun} {l : List Bun} {t p : Int} (h : Pays (b :: l) t p) : ∃ k : Nat, Pays l (t - k * b.1) (p - k * b.2) := by
  generalize hm : b :: l = m at h
  induction h with
  | nil => cases hm
  | @skip a m t p h _ =>
    cases hm
    exact ⟨0, by rwa [show t - ((0 : Nat) : Int) * b.1 = t by simp, show p - ((0 : Nat) : Int) * b.2 = p by simp]⟩
  | @take a m t p _ ih =>
    cases hm
    obtain ⟨k, h⟩ := ih rfl
    refine ⟨k + 1, ?_⟩
    rwa [show t + b.1 - ((k + 1 : Nat) : Int) * b.1 = t - (k : Int) * b.1 by rw [Int.natCast_succ, Int.add_mul]; omega, show p + b.2 - ((k + 1 : Nat) : Int) * b.2 = p - (k : Int) * b.2 by rw [Int.natCast_succ, Int.add_mul]; omega]
def Ent (N : Int) (l : List Bun) (t e : Int) : Prop := e ≤ N ∧ (e = N ∨ Pays l t e) ∧ ∀ p, Pays l t p → e ≤ p
def Least (l : List Bun) (t p : Int) : Prop := Pays l t p ∧ ∀ q, Pays l t q → p ≤ q
theorem Ent.least {N : Int} {l : List Bun} {t e : Int} (h : Ent N l t e) (hlt : e < N) : Least l t e := by
  obtain ⟨_, h2, h3⟩ := h
  rcases h2 with rfl | h2
  · omega
  · exact ⟨h2, h3⟩
theorem Ent.none {N : Int} {l : List Bun} {t : Int} (h : Ent N l t N) (hf : Fine l) (hN : 1000000 * t < N) : ∀ p, ¬ Pays l t p := by
  intro p hp
  have := h.2.2 p hp
  have := hp.le hf
  omega
theorem Ent.of_least {N : Int} {l : List Bun} {t e p : Int} (h : Ent N l t e) (hl : Least l t p) (hf : Fine l) (hN : 1000000 * t < N) : e = p := by
  have h1 := h.2.2 p hl.1
  have h2 := hl.1.le hf
  rcases h.2.1 with rfl | h3
  · omega
  · have := hl.2 e h3; omega
theorem Ent.uniq {N : Int} {l : List Bun} {t e e' : Int} (h : Ent N l t e) (h' : Ent N l t e') (hf : Fine l) (hN : 1000000 * t < N) : e = e' := by
  by_cases h1 : e' < N
  · exact h.of_least (h'.least h1) hf hN
  · by_cases h2 : e < N
    · exact (h'.of_least (h.least h2) hf hN).symm
    · have := h.1; have := h'.1; omega
theorem Least.uniq {l : List Bun} {t p q : Int} (h : Least l t p) (h' : Least l t q) : p = q := by
  have := h.2 q h'.1
  have := h'.2 p h.1
  omega
theorem Ent.nil_zero {N : Int} (hN : 0 ≤ N) : Ent N [] 0 0 := ⟨hN, .inr .nil, fun p h => by cases h; exact Int.le_refl _⟩
theorem Ent.nil_pos {N t : Int} (ht : t ≠ 0) : Ent N [] t N := ⟨Int.le_refl _, .inl rfl, fun p h => by cases h; exact absurd rfl ht⟩
theorem Ent.cons {N : Int} {b : Bun} {l : List Bun} {t e e1 : Int} (h : Ent N l t e) (h1 : Ent N (b :: l) (t - b.1) e1) (hb : e1 < N) : Ent N (b :: l) t (min e (e1 + b.2)) := by
  refine ⟨by have := h.1; omega, ?_, fun p hp => ?_⟩
  · by_cases hle : e ≤ e1 + b.2
    · rw [Int.min_eq_left hle]
      rcases h.2.1 with h2 | h2
      · exact .inl h2
      · exact .inr (.skip h2)
    · rw [Int.min_eq_right (by omega)]
      refine .inr (Pays.cons_iff.2 (.inr ?_))
      rw [show e1 + b.2 - b.2 = e1 by omega]
      exact (h1.least hb).1
  · rcases Pays.cons_iff.1 hp with h2 | h2
    · have := h.2.2 p h2; omega
    · have := h1.2.2 _ h2; omega
theorem Ent.cons_none {N : Int} {b : Bun} {l : List Bun} {t e : Int} (h : Ent N l t e) (h1 : ∀ p, ¬ Pays (b :: l) (t - b.1) p) : Ent N (b :: l) t e := by
  refine ⟨h.1, ?_, fun p hp => ?_⟩
  · rcases h.2.1 with h2 | h2
    · exact .inl h2
    · exact .inr (.skip h2)
  · rcases Pays.cons_iff.1 hp with h2 | h2
    · exact h.2.2 p h2
    · exact absurd h2 (h1 _)
theorem Pays.neg {l : List Bun} {t p : Int} (hf : Fine l) (ht : t < 0) : ¬ Pays l t p := fun h => by have := h.le hf; omega
def MaxC (b : Bun) (l : List Bun) (t p : Int) (k : Int) : Prop := 0 ≤ k ∧ Pays l (t - k * b.1) (p - k * b.2) ∧ ∀ j, 0 ≤ j → Pays l (t - j * b.1) (p - j * b.2) → j ≤ k
theorem MaxC.uniq {b : Bun} {l : List Bun} {t p k k' : Int} (h : MaxC b l t p k) (h' : MaxC b l t p k') : k = k' := by
  have := h.2.2 _ h'.1 h'.2.1
  have := h'.2.2 _ h.1 h.2.1
  omega
inductive Best : List Bun → Int → Int → List Int → Prop
  | nil : Best [] 0 0 []
  | cons {b : Bun} {l : List Bun} {t p k : Int} {r : List Int} : MaxC b l t p k → Best l (t - k * b.1) (p - k * b.2) r → Best (b :: l) t p (k :: r)
theorem Best.uniq {l : List Bun} {t p : Int} {r r' : List Int} (h : Best l t p r) (h' : Best l t p r') : r = r' := by
  induction h generalizing r' with
  | nil => cases h'; rfl
  | cons hm _ ih =>
    cases h' with
    | cons hm' h' =>
      obtain rfl := hm.uniq hm'
      rw [ih h']
theorem Best.length {l : List Bun} {t p : Int} {r : List Int} (h : Best l t p r) : r.length = l.length := by
  induction h with
  | nil => rfl
  | cons _ _ ih => simp [ih]
theorem Least.rest {b : Bun} {l : List Bun} {t p k : Int} (h : Least (b :: l) t p) (hk : 0 ≤ k) (hp : Pays l (t - k * b.1) (p - k * b.2)) : Least l (t - k * b.1) (p - k * b.2) := by
  refine ⟨hp, fun q hq => ?_⟩
  obtain ⟨n, rfl⟩ : ∃ n : Nat, k = n := ⟨k.toNat, by omega⟩
  have h1 := hq.cons_mono (b := b) n
  rw [show t - (n : Int) * b.1 + (n : Int) * b.1 = t by omega] at h1
  have := h.2 _ h1
  omega
theorem Least.prev {b : Bun} {l : List Bun} {t p : Int} (h : Least (b :: l) t p) (hp : Pays (b :: l) (t - b.1) (p - b.2)) : Least (b :: l) (t - b.1) (p - b.2) := by
  refine ⟨hp, fun q hq => ?_⟩
  have h1 := Pays.take hq
  rw [show t - b.1 + b.1 = t by omega] at h1
  have := h.2 _ h1
  omega
theorem Least.prev_iff {b : Bun} {l : List Bun} {t p q : Int} (h : Least (b :: l) t p) (hq : Least (b :: l) (t - b.1) q) : q + b.2 = p ↔ Pays (b :: l) (t - b.1) (p - b.2) := by
  constructor
  · intro e
    rw [show p - b.2 = q by omega]
    exact hq.1
  · intro e
    have := (h.prev e).uniq hq
    omega
theorem u64_in {n : Int} (h0 : 0 ≤ n) (h : n ≤ 4294967295) : IntKind.wrap .u64 n = n := by
  show n % 18446744073709551616 = n
  exact Int.emod_eq_of_lt h0 (by omega)
theorem shr_0 {n : Int} (h0 : 0 ≤ n) (h : n ≤ 4294967295) : shrI .u64 n 32 = 0 := by
  show n.fdiv 4294967296 = 0
  rw [Int.fdiv_eq_ediv_of_nonneg _ (by omega)]
  exact Int.ediv_eq_zero_of_lt h0 (by omega)
theorem and_in {n : Int} (h0 : 0 ≤ n) (h : n ≤ 4294967295) : bitsI .and .u64 n 4294967295 = n := by
  show IntKind.wrap .u64 ((BitVec.ofInt 64 n &&& BitVec.ofInt 64 4294967295).toNat : Int) = n
  have e : (BitVec.ofInt 64 n).toNat = n.toNat := by
    rw [BitVec.toNat_ofInt]
    rw [Int.emod_eq_of_lt h0 (by show n < 18446744073709551616; omega)]
  have e2 : (BitVec.ofInt 64 4294967295).toNat = 4294967295 := by decide
  rw [BitVec.toNat_and, e, e2, show (4294967295 : Nat) = 2 ^ 32 - 1 by decide, Nat.and_two_pow_sub_one_eq_mod, Nat.mod_eq_of_lt (by show n.toNat < 4294967296; omega)]
  rw [show ((n.toNat : Nat) : Int) = n by omega]
  exact u64_in h0 h
theorem negK_in {R : Type} {a : Int} (h : 0 ≤ a) (k : Option R) : negK a k = k := by
  unfold negK
  rw [if_neg (by omega)]
theorem g84_one {n : Int} (h0 : 0 ≤ n) (h : n ≤ 1048576) : g84 (1, n, ()) = some ((0, n, ()), ()) := by
  show F84 fuel 1 n = _
  unfold F84
  have b1 : bitsI .and .u64 1 4294967295 = 1 := and_in (by omega) (by omega)
  have b0 : bitsI .and .u64 0 4294967295 = 0 := and_in (by omega) (by omega)
  have s1 : shrI .u64 1 32 = 0 := shr_0 (by omega) (by omega)
  have s0 : shrI .u64 0 32 = 0 := shr_0 (by omega) (by omega)
  have u0 : IntKind.wrap .u64 0 = 0 := u64_in (by omega) (by omega)
  have un : IntKind.wrap .u64 n = n := u64_in h0 (by omega)
  simp only [negK_in (show (0 : Int) ≤ 32 by decide), bindV, b1, and_in h0 (show n ≤ 4294967295 by omega), s1, shr_0 h0 (show n ≤ 4294967295 by omega), Int.one_mul, Int.zero_mul, Int.mul_zero, Int.add_zero, un, u0, s0, b0]
theorem over_step {α : Type} (b c : α) {n k : Nat} (hk : k ≤ n) : overL (List.replicate k b ++ List.replicate (n - k) c) ((List.replicate k b ++ List.replicate (n - k) c).take k) k = List.replicate (k + min k (n - k)) b ++ List.replicate (n - (k + min k (n - k))) c := by
  have h1 : (List.replicate k b ++ List.replicate (n - k) c).take k = List.replicate k b := List.take_left' (by simp)
  have h2 : (List.replicate k b ++ List.replicate (n - k) c).length = n := by simp; omega
  unfold overL
  rw [h1, h2, List.take_replicate, List.length_replicate, List.replicate_append_replicate]
  rw [List.drop_append, List.drop_eq_nil_of_le (by simp), List.nil_append, List.length_replicate, List.drop_replicate]
  congr 2
  · omega
  · omega
theorem g54_one (b : Int) (n : Nat) (hn : n ≤ 1048576) : g54 ([b], (n : Int), ()) = some ((List.replicate n b, ()), ()) := by
  show F54 fuel [b] (n : Int) = _
  unfold F54
  have e1 : IntKind.wrap .u64 (([b] : List Int).length : Int) = 1 := u64_in (by simp) (by simp)
  have e2 : IntKind.wrap .u64 (n : Int) = n := u64_in (by omega) (by omega)
  have e3 : g74 (1, (n : Int), ()) = some ((0, (n : Int), ()), ()) := by
    show F74 fuel 1 (n : Int) = _
    unfold F74
    rw [g84_one (by omega) (by omega)]
    rfl
  rw [dec_f (p := (n : Int) < 0) (by omega), cond_false, e1, e2, e3, derefK_some]
  simp only [bindV]
  rw [dec_f (p := (0 : Int) > 0) (by omega), cond_false, dec_f (p := (n : Int) > 9223372036854775807) (by omega), cond_false, wI (by omega) (by omega), leK_in (by omega), leK_in (by omega), lenK_in (by omega) (by omega), Int.toNat_natCast]
  by_cases h0 : n = 0
  · subst h0
    obtain ⟨m, hm⟩ : ∃ m, fuel = m + 1 := ⟨fuel - 1, by have := fuel_ge; omega⟩
    have : L54_8 fuel ((0, ()), ([], ()), ()) = some ((), ([], ()), ()) := by
      rw [hm]
      simp [L54_8, B54_8]
    show derefK (L54_8 fuel ((0, ()), ([], ()), ())) _ = _
    rw [this]
    rfl
  have ei : overL (List.replicate n 0) [b] (0 : Int).toNat = List.replicate 1 b ++ List.replicate (n - 1) 0 := by
    show (List.replicate n (0 : Int)).take 0 ++ [b].take ((List.replicate n (0 : Int)).length - 0) ++ (List.replicate n (0 : Int)).drop (0 + min 1 ((List.replicate n (0 : Int)).length - 0)) = _
    rw [List.length_replicate, List.take_zero, List.nil_append, List.drop_replicate, show 0 + min 1 (n - 0) = 1 by omega, List.take_of_length_le (by simp; omega)]
    rfl
  have em : ((min ([b] : List Int).length ((List.replicate n (0 : Int)).length - (0 : Int).toNat) : Nat) : Int) = ((1 : Nat) : Int) := by
    rw [List.length_replicate]
    show ((min 1 (n - 0) : Nat) : Int) = _
    omega
  rw [ei, em]
  obtain ⟨r, hr, hrr⟩ := loopM (L := L54_8) (fun k : Nat => (((k : Int), ()), (List.replicate k b ++ List.replicate (n - k) 0, ()), ())) (fun k => 1 ≤ k ∧ k ≤ n) (fun r => r = ((), (List.replicate n b, ()), ())) 0 (fun k => n - k)
    (fun N k _ hk => by
      have hlen : (List.replicate k b ++ List.replicate (n - k) 0).length = n := by simp; omega
      simp only [L54_8, B54_8]
      rw [hlen]
      by_cases hlt : k < n
      · refine .inl ⟨k + min k (n - k), by omega, by omega, ?_⟩
        have hl2 : ((List.replicate k b ++ List.replicate (n - k) 0).take ((k : Nat) : Int).toNat).length = k := by
          rw [Int.toNat_natCast, List.length_take, hlen]
          omega
        rw [dec_t (by omega), cond_true]
        simp only [enumK_eq, leK_in (show (0 : Int) ≤ (k : Int) by omega), leK_in (show (k : Int) ≤ (n : Int) by omega), agreeK_two, agreeK_one]
        rw [hl2, Int.toNat_natCast, over_step b 0 (by omega), wI (by omega) (by omega), show (k : Int) + ((min k (n - k) : Nat) : Int) = ((k + min k (n - k) : Nat) : Int) by omega]
      · obtain rfl : k = n := by omega
        refine .inr ⟨_, ?_, rfl⟩
        rw [dec_f (by omega), cond_false, Nat.sub_self, List.replicate_zero, List.append_nil])
    (n - 1) fuel 1 (Nat.le_refl _) ⟨Nat.le_refl _, by omega⟩ (by have := fuel_ge; omega)
  have hr' : L54_8 fuel ((((1 : Nat) : Int), ()), (List.replicate 1 b ++ List.replicate (n - 1) 0, ()), ()) = some r := hr
  rw [hr', hrr]
  rfl
abbrev NO : Int := 1152921504606846976
def Tab (l : List Bun) (M : Nat) (o : List (List Int)) (lo : Nat) : Prop :=
  o.length = l.length + 1 ∧ (∀ i : Nat, i ≤ l.length → (gd o (i : Int)).length = M) ∧ ∀ i : Nat, lo ≤ i → i ≤ l.length → ∀ t : Nat, t < M → Ent NO (l.drop i) t (gd (gd o (i : Int)) (t : Int))
theorem row68 (l : List Bun) (hl : Fine l) (hk : l.length ≤ 6) (n most : Int) (M : Nat) (hM : M ≤ 3000) (i : Nat) (hi : i < l.length) (o : List (List Int)) (ho : Tab l M o (i + 1)) {N : Nat} (hN : M < N) :
    ∃ o', Tab l M o' i ∧ L68_13 N ((l, n, most, (i : Int), (M : Int), 0, ()), (o, ()), ()) = some ((l, n, most, (i : Int), ()), (o', ()), ()) := by
  obtain ⟨h1, h2, h3⟩ := ho
  have hd : l.drop i = gd l (i : Int) :: l.drop (i + 1) := drop_nat hi
  have hb := hl _ (gd_mem (l := l) (i := (i : Int)) (by omega) (by omega))
  have hfd : Fine (gd l (i : Int) :: l.drop (i + 1)) := by rw [← hd]; exact hl.drop i
  have w1 : IntKind.wrap .i64 ((i : Int) + 1) = ((i + 1 : Nat) : Int) := by rw [wI (by omega) (by omega)]; omega
  have hS := h2 (i + 1) (by omega)
  have hR0 := h2 i (by omega)
  obtain ⟨r, hr, R, hR, hE, rfl⟩ := loop0 (L := L68_13) (fun (t : Nat) (R : List Int) => ((l, n, most, (i : Int), (M : Int), (t : Int), ()), (o.set i R, ()), ()))
    (fun t R => R.length = M ∧ ∀ t' : Nat, t' < t → Ent NO (l.drop i) t' (gd R (t' : Int)))
    (fun r => ∃ R : List Int, R.length = M ∧ (∀ t' : Nat, t' < M → Ent NO (l.drop i) t' (gd R (t' : Int))) ∧ r = ((l, n, most, (i : Int), ()), (o.set i R, ()), ())) 0 M (s := gd o (i : Int)) ⟨hR0, fun t' h => by omega⟩ (by omega)
    (fun N R hR => ⟨_, by simp [L68_13, B68_13], R, hR.1, hR.2, rfl⟩)
    (fun N t R _ ht ⟨hR, hE⟩ => by
      refine .inl ?_
      have g1 : gd (o.set i R) (i : Int) = R := by
        have := gd_set_self (l := o) (i := (i : Int)) (c := R) (by omega) (by omega)
        rwa [Int.toNat_natCast] at this
      have g2 : gd (o.set i R) ((i + 1 : Nat) : Int) = gd o ((i + 1 : Nat) : Int) := by
        have := gd_set_ne (l := o) (i := (i : Int)) (j := ((i + 1 : Nat) : Int)) (c := R) (by omega) (by omega) (by omega)
        rwa [Int.toNat_natCast] at this
      have hlen : (o.set i R).length = l.length + 1 := by rw [List.length_set, h1]
      simp only [L68_13, B68_13]
      rw [dec_t (by omega), cond_true]
      have gg : ∀ R' : List Int, gd ((o.set i R).set (i : Int).toNat R') (i : Int) = R' := fun R' => gd_set_self (by omega) (by omega)
      have hlen2 : ∀ R' : List Int, ((o.set i R).set (i : Int).toNat R').length = l.length + 1 := fun R' => by rw [List.length_set, hlen]
      have hset : ∀ v : Int, (R.set (t : Int).toNat v).length = M := fun v => by rw [List.length_set, hR]
      have aS : ∀ {α : Type} (k : Int → Option α), getI (gd o ((i + 1 : Nat) : Int)) (t : Int) k = k (gd (gd o ((i + 1 : Nat) : Int)) (t : Int)) := fun k => getI_gd (by omega) (by omega) k
      have aR : ∀ {α : Type} (k : Int → Option α), getI R (t : Int) k = k (gd R (t : Int)) := fun k => getI_gd (by omega) (by omega) k
      have aR' : ∀ {α : Type} (v j : Int), 0 ≤ j → j < M → ∀ (k : Int → Option α), getI (R.set (t : Int).toNat v) j k = k (gd (R.set (t : Int).toNat v) j) := fun v j h1 h2 k => getI_gd h1 (by rw [hset]; exact h2) k
      have aO : ∀ {α : Type} (k : List Int → Option α), getI (o.set i R) (i : Int) k = k R := fun k => by rw [getI_gd (by omega) (by omega), g1]
      have aO1 : ∀ {α : Type} (k : List Int → Option α), getI (o.set i R) ((i + 1 : Nat) : Int) k = k (gd o ((i + 1 : Nat) : Int)) := fun k => by rw [getI_gd (by omega) (by omega), g2]
      have aO2 : ∀ {α : Type} (R' : List Int) (k : List Int → Option α), getI ((o.set i R).set (i : Int).toNat R') (i : Int) k = k R' := fun R' k => by rw [getI_gd (by omega) (by rw [hlen2]; omega), gg]
      have aL : ∀ {α : Type} (k : Bun → Option α), getI l (i : Int) k = k (gd l (i : Int)) := fun k => getI_gd (by omega) (by omega) k
      have i1 : ∀ {α : Type} (k : Option α), inR (i : Int) (l.length + 1) k = k := fun k => inR_in (by omega) (by omega) k
      have i2 : ∀ {α : Type} (k : Option α), inR ((i + 1 : Nat) : Int) (l.length + 1) k = k := fun k => inR_in (by omega) (by omega) k
      have i3 : ∀ {α : Type} (k : Option α), inR (t : Int) M k = k := fun k => inR_in (by omega) (by omega) k
      have w2 : IntKind.wrap .i64 ((t : Int) - (gd l (i : Int)).1) = (t : Int) - (gd l (i : Int)).1 := wI (by omega) (by omega)
      have w3 : IntKind.wrap .i64 ((t : Int) + 1) = ((t + 1 : Nat) : Int) := by rw [wI (by omega) (by omega)]; omega
      simp only [w1, w2, w3, hlen, hlen2, hR, hS, hset, aS, aR, aO, aO1, aO2, aL, i1, i2, i3]
      have sS := h3 (i + 1) (by omega) (by omega) t (by omega)
      have ss : ∀ R' : List Int, (o.set i R).set (i : Int).toNat R' = o.set i R' := fun R' => by rw [Int.toNat_natCast, List.set_set]
      have step : ∀ v : Int, Ent NO (l.drop i) t v → (R.set t v).length = M ∧ ∀ t' : Nat, t' < t + 1 → Ent NO (l.drop i) t' (gd (R.set t v) (t' : Int)) := by
        intro v hv
        refine ⟨by rw [List.length_set, hR], fun t' ht' => ?_⟩
        by_cases h : t' = t
        · subst h
          have := gd_set_self (l := R) (i := (t' : Int)) (c := v) (by omega) (by omega)
          rw [Int.toNat_natCast] at this
          rw [this]; exact hv
        · have := gd_set_ne (l := R) (i := (t : Int)) (j := (t' : Int)) (c := v) (by omega) (by omega) (by omega)
          rw [Int.toNat_natCast] at this
          rw [this]; exact hE t' (by omega)
      by_cases hge : (t : Int) - (gd l (i : Int)).1 ≥ 0
      · rw [dec_t hge, cond_true, inR_in (n := M) hge (by omega)]
        rw [aR' _ _ hge (by omega)]
        have hne : gd (R.set (t : Int).toNat (gd (gd o ((i + 1 : Nat) : Int)) (t : Int))) ((t : Int) - (gd l (i : Int)).1) = gd R ((t : Int) - (gd l (i : Int)).1) := gd_set_ne (by omega) hge (by omega)
        rw [hne]
        obtain ⟨t1, ht1⟩ : ∃ t1 : Nat, (t1 : Int) = (t : Int) - (gd l (i : Int)).1 := ⟨((t : Int) - (gd l (i : Int)).1).toNat, by omega⟩
        have hE1 := hE t1 (by omega)
        rw [ht1] at hE1
        by_cases hlt : gd R ((t : Int) - (gd l (i : Int)).1) < NO
        · rw [dec_t hlt, cond_true, aR' _ (t : Int) (by omega) (by omega), inR_in (n := M) hge (by omega), aR' _ _ hge (by omega), hne, aR' _ (t : Int) (by omega) (by omega)]
          have hs : gd (R.set (t : Int).toNat (gd (gd o ((i + 1 : Nat) : Int)) (t : Int))) (t : Int) = gd (gd o ((i + 1 : Nat) : Int)) (t : Int) := gd_set_self (by omega) (by omega)
          have hp := ((hE1.least hlt).1.le (by rw [hd]; exact hfd))
          have w4 : IntKind.wrap .i64 (gd R ((t : Int) - (gd l (i : Int)).1) + (gd l (i : Int)).2) = gd R ((t : Int) - (gd l (i : Int)).1) + (gd l (i : Int)).2 := wI (by omega) (by omega)
          simp only [bindV_eq]
          rw [hs, w4]
          simp only [Int.toNat_natCast, List.set_set]
          rw [hd] at hE1
          refine ⟨_, step _ ?_, rfl⟩
          rw [hd]
          exact sS.cons hE1 hlt
        · rw [dec_f hlt, cond_false, ss]
          rw [Int.toNat_natCast]
          refine ⟨_, step _ ?_, rfl⟩
          rw [hd] at hE1 ⊢
          have hN : gd R ((t : Int) - (gd l (i : Int)).1) = NO := by have := hE1.1; omega
          rw [hN] at hE1
          exact sS.cons_none (hE1.none hfd (by show _ < (1152921504606846976 : Int); omega))
      · rw [dec_f hge, cond_false, ss, Int.toNat_natCast]
        refine ⟨_, step _ ?_, rfl⟩
        rw [hd]
        exact sS.cons_none (fun p => Pays.neg hfd (by omega)))
  have e0 : o.set i (gd o (i : Int)) = o := by
    refine ext_gd (by rw [List.length_set]) fun j hj => ?_
    by_cases h : j = i
    · subst h
      have := gd_set_self (l := o) (i := (j : Int)) (c := gd o (j : Int)) (by omega) (by omega)
      rwa [Int.toNat_natCast] at this
    · have := gd_set_ne (l := o) (i := (i : Int)) (j := (j : Int)) (c := gd o (i : Int)) (by omega) (by omega) (by omega)
      rwa [Int.toNat_natCast] at this
  rw [e0] at hr
  refine ⟨_, ⟨by rw [List.length_set, h1], fun j hj => ?_, fun j hj hj2 t ht => ?_⟩, hr⟩
  · by_cases h : j = i
    · subst h
      have := gd_set_self (l := o) (i := (j : Int)) (c := R) (by omega) (by omega)
      rw [Int.toNat_natCast] at this
      rw [this, hR]
    · have := gd_set_ne (l := o) (i := (i : Int)) (j := (j : Int)) (c := R) (by omega) (by omega) (by omega)
      rw [Int.toNat_natCast] at this
      rw [this, h2 j hj]
  · by_cases h : j = i
    · subst h
      have := gd_set_self (l := o) (i := (j : Int)) (c := R) (by omega) (by omega)
      rw [Int.toNat_natCast] at this
      rw [this]; exact hE t ht
    · have := gd_set_ne (l := o) (i := (i : Int)) (j := (j : Int)) (c := R) (by omega) (by omega) (by omega)
      rw [Int.toNat_natCast] at this
      rw [this]; exact h3 j (by omega) hj2 t ht
theorem gd_setN {α : Type} [Inhabited α] {l : List α} {i : Nat} {c : α} (h : i < l.length) (j : Nat) : gd (l.set i c) (j : Int) = if j = i then c else gd l (j : Int) := by
  by_cases e : j = i
  · subst e
    have := gd_set_self (l := l) (i := (j : Int)) (c := c) (by omega) (by omega)
    rw [Int.toNat_natCast] at this
    rw [this, if_pos rfl]
  · have := gd_set_ne (l := l) (i := (i : Int)) (j := (j : Int)) (c := c) (by omega) (by omega) (by omega)
    rw [Int.toNat_natCast] at this
    rw [this, if_neg e]
theorem fill68 (l : List Bun) (n : Int) (m : Nat) (hm : m ≤ 2000) (hk : l.length ≤ 6) {N : Nat} (hN : 100 < N) :
    ∃ o : List (List Int), o.length = l.length + 1 ∧ (∀ i : Nat, i < l.length + 1 → gd o (i : Int) = List.replicate (m + 1) NO) ∧
      L68_4 N ((l, n, (m : Int), ((List.replicate (l.length + 1) ([] : List Int)).length : Int), 0, ()), ((List.replicate (l.length + 1) ([] : List Int)), ()), ()) = some ((l, n, (m : Int), ()), (o, ()), ()) := by
  rw [List.length_replicate]
  obtain ⟨r, hr, o, h1, h2, rfl⟩ := loop0 (L := L68_4) (fun (t : Nat) (o : List (List Int)) => ((l, n, (m : Int), ((l.length + 1 : Nat) : Int), (t : Int), ()), (o, ()), ()))
    (fun t o => o.length = l.length + 1 ∧ ∀ i : Nat, i < t → gd o (i : Int) = List.replicate (m + 1) NO)
    (fun r => ∃ o : List (List Int), o.length = l.length + 1 ∧ (∀ i : Nat, i < l.length + 1 → gd o (i : Int) = List.replicate (m + 1) NO) ∧ r = ((l, n, (m : Int), ()), (o, ()), ())) 0 (l.length + 1) (N := N) (s := List.replicate (l.length + 1) []) ⟨by simp, fun i hi => by omega⟩ (by omega)
    (fun N o h => ⟨_, by simp [L68_4, B68_4], o, h.1, h.2, rfl⟩)
    (fun N t o _ ht ⟨h1, h2⟩ => by
      refine .inl ⟨o.set t (List.replicate (m + 1) NO), ⟨by rw [List.length_set, h1], fun i hi => ?_⟩, ?_⟩
      · rw [gd_setN (by omega)]
        by_cases e : i = t
        · rw [if_pos e]
        · rw [if_neg e]; exact h2 i (by omega)
      · simp only [L68_4, B68_4]
        rw [dec_t (by omega), cond_true, show IntKind.wrap .i64 ((m : Int) + 1) = ((m + 1 : Nat) : Int) by rw [wI (by omega) (by omega)]; omega, g54_one _ _ (by omega), derefK_some, inR_in (by omega) (by omega), getI_gd (by omega) (by omega), wI (by omega) (by omega), Int.toNat_natCast]
        rfl)
  exact ⟨o, h1, h2, hr⟩
theorem tab68 (l : List Bun) (hl : Fine l) (n most : Int) (M : Nat) (hM : M ≤ 3000) (hk : l.length ≤ 6) (o : List (List Int)) (ho : Tab l M o l.length) {N : Nat} (hN : 4000 < N) :
    ∃ o', Tab l M o' 0 ∧ L68_10 N ((l, n, most, (l.length : Int) - 1, ()), (o, ()), ()) = some ((l, n, most, ()), (o', ()), ()) := by
  obtain ⟨r, hr, o', h1, rfl⟩ := loop0 (L := L68_10) (fun (j : Nat) (o : List (List Int)) => ((l, n, most, (l.length : Int) - 1 - (j : Int), ()), (o, ()), ()))
    (fun j o => Tab l M o (l.length - j))
    (fun r => ∃ o' : List (List Int), Tab l M o' 0 ∧ r = ((l, n, most, ()), (o', ()), ())) 3001 l.length (N := N) (s := o) ho (by omega)
    (fun N o h => ⟨_, by simp only [L68_10, B68_10]; rw [dec_f (by omega), cond_false], o, by rwa [show l.length - l.length = 0 by omega] at h, rfl⟩)
    (fun N j o hc hj h => by
      obtain ⟨i, hi⟩ : ∃ i : Nat, i = l.length - (j + 1) := ⟨_, rfl⟩
      rw [show l.length - j = i + 1 by omega] at h
      obtain ⟨o', h', e⟩ := row68 l hl hk n most M hM i (by omega) o h (N := N) (by omega)
      refine .inl ⟨o', by rwa [← hi], ?_⟩
      simp only [L68_10, B68_10]
      rw [show (l.length : Int) - 1 - (j : Int) = (i : Int) by omega, dec_t (by omega), cond_true, inR_in (by omega) (by rw [h.1]; omega), getI_gd (by omega) (by rw [h.1]; omega), h.2.1 i (by omega), e, derefK_some]
      simp only
      rw [wI (by omega) (by omega), show (l.length : Int) - 1 - ((j + 1 : Nat) : Int) = (i : Int) - 1 by omega])
  refine ⟨o', h1, ?_⟩
  rw [← hr]
  simp
def First (c : List Int) (n M t : Nat) : Prop := n ≤ t ∧ t < M ∧ ∀ t' : Nat, n ≤ t' → t' < M → gd c (t : Int) ≤ gd c (t' : Int) ∧ (gd c (t' : Int) = gd c (t : Int) → t ≤ t')
theorem arg68 (l : List Bun) (n m : Nat) (hm : m ≤ 2000) (hn : n ≤ m) (o : List (List Int)) (h0 : 0 < o.length) (h1 : (gd o 0).length = m + 1) {N : Nat} (hN : 4000 < N) :
    ∃ t, First (gd o 0) n (m + 1) t ∧ L68_22 N ((l, (m : Int), (n : Int), (n : Int), ()), (o, ()), ()) = some ((l, (t : Int), ()), (o, ()), ()) := by
  obtain ⟨r, hr, t, h1, rfl⟩ := loop0 (L := L68_22) (fun (j : Nat) (t : Nat) => ((l, (m : Int), (t : Int), ((n + j : Nat) : Int), ()), (o, ()), ()))
    (fun j t => n ≤ t ∧ (t < n + j ∨ t = n) ∧ ∀ t' : Nat, n ≤ t' → t' < n + j → gd (gd o 0) (t : Int) ≤ gd (gd o 0) (t' : Int) ∧ (gd (gd o 0) (t' : Int) = gd (gd o 0) (t : Int) → t ≤ t'))
    (fun r => ∃ t : Nat, First (gd o 0) n (m + 1) t ∧ r = ((l, (t : Int), ()), (o, ()), ())) 0 (m + 1 - n) (N := N) (s := n) ⟨by omega, by omega, fun t' h1 h2 => by omega⟩ (by omega)
    (fun N t h => ⟨_, by simp only [L68_22, B68_22]; rw [dec_f (by omega), cond_false], t, ⟨h.1, by omega, fun t' h1 h2 => h.2.2 t' h1 (by omega)⟩, rfl⟩)
    (fun N j t _ hj ⟨q1, q2, q3⟩ => by
      left
      have e1 : ∀ {α : Type} (k : Option α), inR 0 o.length k = k := fun k => inR_in (by omega) (by omega) k
      have e2 : ∀ {α : Type} (k : List Int → Option α), getI o 0 k = k (gd o 0) := fun k => getI_gd (by omega) (by omega) k
      have e3 : ∀ {α : Type} (x : Nat), x ≤ m → ∀ (k : Int → Option α), getI (gd o 0) (x : Int) k = k (gd (gd o 0) (x : Int)) := fun x hx k => getI_gd (by omega) (by omega) k
      have e4 : ∀ {α : Type} (x : Nat), x ≤ m → ∀ (k : Option α), inR (x : Int) (gd o 0).length k = k := fun x hx k => inR_in (by omega) (by omega) k
      have w3 : IntKind.wrap .i64 (((n + j : Nat) : Int) + 1) = ((n + (j + 1) : Nat) : Int) := by rw [wI (by omega) (by omega)]; omega
      simp only [L68_22, B68_22, e1, e2, w3]
      rw [dec_t (by omega), cond_true, e4 _ (by omega), e3 _ (by omega), e4 _ (by omega), e3 _ (by omega)]
      by_cases hlt : gd (gd o 0) ((n + j : Nat) : Int) < gd (gd o 0) (t : Int)
      · rw [dec_t hlt, cond_true]
        refine ⟨n + j, ⟨by omega, by omega, fun t' h1 h2 => ?_⟩, rfl⟩
        by_cases e : t' = n + j
        · subst e; exact ⟨Int.le_refl _, fun _ => Nat.le_refl _⟩
        · have := (q3 t' h1 (by omega)).1
          exact ⟨by omega, fun h => by omega⟩
      · rw [dec_f hlt, cond_false]
        refine ⟨t, ⟨q1, by omega, fun t' h1 h2 => ?_⟩, rfl⟩
        by_cases e : t' = n + j
        · subst e; exact ⟨by omega, fun _ => by omega⟩
        · exact q3 t' h1 (by omega))
  exact ⟨t, h1, hr⟩
theorem MaxC.of_end {b : Bun} {l : List Bun} {t p : Int} {k : Nat} (h : Pays (b :: l) (t - k * b.1) (p - k * b.2)) (he : ¬ Pays (b :: l) (t - k * b.1 - b.1) (p - k * b.2 - b.2)) : MaxC b l t p k := by
  refine ⟨by omega, ?_, fun j hj hp => ?_⟩
  · rcases Pays.cons_iff.1 h with h | h
    · exact h
    · exact absurd h he
  · by_cases hjk : j ≤ k
    · exact hjk
    · refine absurd ?_ he
      obtain ⟨d, hd⟩ : ∃ d : Nat, j = (k : Int) + 1 + d := ⟨(j - k - 1).toNat, by omega⟩
      have := hp.cons_mono (b := b) d
      have e1 : j * b.1 = (k : Int) * b.1 + b.1 + (d : Int) * b.1 := by rw [hd, Int.add_mul, Int.add_mul, Int.one_mul]
      have e2 : j * b.2 = (k : Int) * b.2 + b.2 + (d : Int) * b.2 := by rw [hd, Int.add_mul, Int.add_mul, Int.one_mul]
      rwa [show t - j * b.1 + (d : Int) * b.1 = t - k * b.1 - b.1 by omega, show p - j * b.2 + (d : Int) * b.2 = p - k * b.2 - b.2 by omega] at this
theorem take68 (l : List Bun) (hl : Fine l) (hk : l.length ≤ 6) (price : Int) (m : Nat) (hm : m ≤ 2000) (i : Nat) (hi : i < l.length) (o : List (List Int)) (ho : Tab l (m + 1) o 0) (T p : Int) (hT : T ≤ m) (hL : Least (l.drop i) T p) (many : List Int) (hml : many.length = l.length) (hz : gd many (i : Int) = 0) {N : Nat} (hN : 3000 < N) :
    ∃ k : Nat, MaxC (gd l (i : Int)) (l.drop (i + 1)) T p k ∧ Least (l.drop (i + 1)) (T - k * (gd l (i : Int)).1) (p - k * (gd l (i : Int)).2) ∧
      L68_34 N ((price, T, (i : Int), p, l, (l.length : Int), (i : Int), ()), (gd l (i : Int), o, many, ()), ()) = some ((price, T - k * (gd l (i : Int)).1, l, (l.length : Int), (i : Int), ()), (o, many.set i k, ()), ()) := by
  obtain ⟨h1, h2, h3⟩ := ho
  have hd : l.drop i = gd l (i : Int) :: l.drop (i + 1) := drop_nat hi
  have hb := hl _ (gd_mem (l := l) (i := (i : Int)) (by omega) (by omega))
  have hfd : Fine (gd l (i : Int) :: l.drop (i + 1)) := by rw [← hd]; exact hl.drop i
  rw [hd] at hL
  revert hL hb hfd
  generalize hbv : gd l (i : Int) = b
  intro hL hb hfd
  have hT0 := (hL.1.le hfd).1
  have hrow := h2 i (by omega)
  have e0 : many.set i 0 = many := by
    refine ext_gd (by rw [List.length_set]) fun j hj => ?_
    rw [gd_setN (by omega)]
    by_cases h : j = i
    · rw [if_pos h, h, hz]
    · rw [if_neg h]
  obtain ⟨r, hr, k, q1, q2, rfl⟩ := loopM (L := L68_34) (fun k : Nat => ((price, T - k * b.1, (i : Int), p - k * b.2, l, (l.length : Int), (i : Int), ()), (b, o, many.set i k, ()), ()))
    (fun k => Least (b :: l.drop (i + 1)) (T - k * b.1) (p - k * b.2))
    (fun r => ∃ k : Nat, MaxC b (l.drop (i + 1)) T p k ∧ Least (l.drop (i + 1)) (T - k * b.1) (p - k * b.2) ∧ r = ((price, T - k * b.1, l, (l.length : Int), (i : Int), ()), (o, many.set i k, ()), ())) 0 (fun k => (T - k * b.1).toNat)
    (fun N k _ hP => by
      have hle := hP.1.le hfd
      have hkb : (k : Int) ≤ k * b.1 := by
        have := Int.mul_le_mul_of_nonneg_left hb.1 (show (0 : Int) ≤ k by omega)
        omega
      have hkb2 : (0 : Int) ≤ k * b.2 := Int.mul_nonneg (by omega) (by omega)
      have e1 : ((k + 1 : Nat) : Int) * b.1 = k * b.1 + b.1 := by rw [Int.natCast_succ, Int.add_mul]; omega
      have e2 : ((k + 1 : Nat) : Int) * b.2 = k * b.2 + b.2 := by rw [Int.natCast_succ, Int.add_mul]; omega
      have hex : ¬ Pays (b :: l.drop (i + 1)) (T - k * b.1 - b.1) (p - k * b.2 - b.2) → ∃ r, some ((price, T - k * b.1, l, (l.length : Int), (i : Int), ()), (o, many.set i k, ()), ()) = some r ∧ ∃ k : Nat, MaxC b (l.drop (i + 1)) T p k ∧ Least (l.drop (i + 1)) (T - k * b.1) (p - k * b.2) ∧ r = ((price, T - k * b.1, l, (l.length : Int), (i : Int), ()), (o, many.set i k, ()), ()) := fun he => by
        have hm := MaxC.of_end hP.1 he
        exact ⟨_, rfl, k, hm, hL.rest (by omega) hm.2.1, rfl⟩
      have i1 : ∀ {α : Type} (k : Option α), inR (i : Int) o.length k = k := fun k => inR_in (by omega) (by omega) k
      have i2 : ∀ {α : Type} (k : List Int → Option α), getI o (i : Int) k = k (gd o (i : Int)) := fun k => getI_gd (by omega) (by omega) k
      simp only [L68_34, B68_34, i1, i2]
      by_cases hge : T - k * b.1 ≥ b.1
      · obtain ⟨t1, ht1⟩ : ∃ t1 : Nat, (t1 : Int) = T - k * b.1 - b.1 := ⟨(T - k * b.1 - b.1).toNat, by omega⟩
        have w2 : IntKind.wrap .i64 (T - k * b.1 - b.1) = (t1 : Int) := by rw [wI (by omega) (by omega), ht1]
        have i3 : ∀ {α : Type} (k : Option α), inR (t1 : Int) (gd o (i : Int)).length k = k := fun k => inR_in (by omega) (by omega) k
        have i4 : ∀ {α : Type} (k : Int → Option α), getI (gd o (i : Int)) (t1 : Int) k = k (gd (gd o (i : Int)) (t1 : Int)) := fun k => getI_gd (by omega) (by omega) k
        have hE := h3 i (by omega) (by omega) t1 (by omega)
        rw [hd, hbv] at hE
        rw [dec_t hge, cond_true, w2, i3, i4]
        by_cases hlt : gd (gd o (i : Int)) (t1 : Int) < NO
        · rw [dec_t hlt, cond_true, i3, i4]
          have hLq : Least (b :: l.drop (i + 1)) (T - k * b.1 - b.1) (gd (gd o (i : Int)) (t1 : Int)) := Eq.subst (motive := fun x => Least (b :: l.drop (i + 1)) x (gd (gd o (i : Int)) (t1 : Int))) ht1 (hE.least hlt)
          have hq := hLq.1.le hfd
          rw [wI (by omega) (by omega)]
          by_cases heq : gd (gd o (i : Int)) (t1 : Int) + b.2 = p - k * b.2
          · have hpv : gd (gd o (i : Int)) (t1 : Int) = p - k * b.2 - b.2 := by omega
            rw [heq, beq_self_eq_true, cond_true]
            have i5 : ∀ {α : Type} (k' : Option α), inR (i : Int) (many.set i (k : Int)).length k' = k' := fun k' => inR_in (by omega) (by rw [List.length_set, hml]; omega) k'
            have i6 : ∀ {α : Type} (k' : Int → Option α), getI (many.set i (k : Int)) (i : Int) k' = k' (k : Int) := fun k' => by
              rw [getI_gd (by omega) (by rw [List.length_set, hml]; omega), gd_setN (by omega), if_pos rfl]
            rw [i5, i6, i5, i6, i3, i4]
            refine .inl ⟨k + 1, ?_, ?_, ?_⟩
            · have h := (Least.prev_iff hP hLq).1 heq
              have := hP.prev h
              rwa [e1, e2, show T - (k * b.1 + b.1) = T - k * b.1 - b.1 by omega, show p - (k * b.2 + b.2) = p - k * b.2 - b.2 by omega]
            · rw [e1]; omega
            · rw [hpv, ht1, e1, e2, show T - (k * b.1 + b.1) = T - k * b.1 - b.1 by omega, show p - (k * b.2 + b.2) = p - k * b.2 - b.2 by omega, Int.toNat_natCast, List.set_set, wI (by omega) (by omega)]
              rfl
          · rw [beq_false_of_ne heq, cond_false]
            exact .inr (hex fun h => heq ((Least.prev_iff hP hLq).2 h))
        · rw [dec_f hlt, cond_false]
          refine .inr (hex ?_)
          have hN : gd (gd o (i : Int)) (t1 : Int) = NO := by have := hE.1; omega
          rw [hN] at hE
          rw [← ht1]
          exact hE.none hfd (by show _ < (1152921504606846976 : Int); omega) _
      · rw [dec_f hge, cond_false]
        exact .inr (hex fun h => by have := h.le hfd; omega))
    2001 N 0 (by omega) (by simpa using hL) (by omega)
  refine ⟨k, q1, q2, ?_⟩
  rw [← hr]
  simp [e0]
theorem counts68 (l : List Bun) (hl : Fine l) (hk : l.length ≤ 6) (price : Int) (m : Nat) (hm : m ≤ 2000) (o : List (List Int)) (ho : Tab l (m + 1) o 0) (T p : Int) (hT : T ≤ m) (hL : Least l T p) {N : Nat} (hN : 4000 < N) :
    ∃ r, Best l T p r ∧ L68_31 N ((price, T, l, (l.length : Int), 0, ()), (o, List.replicate l.length 0, ()), ()) = some ((price, ()), (r, ()), ()) := by
  obtain ⟨r, hr, r', h1, rfl⟩ := loop0 (L := L68_31) (fun (j : Nat) (s : Int × List Int) => ((price, s.1, l, (l.length : Int), (j : Int), ()), (o, s.2, ()), ()))
    (fun j s => s.1 ≤ m ∧ s.2.length = l.length ∧ (∀ x : Nat, j ≤ x → x < l.length → gd s.2 (x : Int) = 0) ∧ ∃ q, Least (l.drop j) s.1 q ∧ ∀ r', Best (l.drop j) s.1 q r' → Best l T p (s.2.take j ++ r'))
    (fun r => ∃ r' : List Int, Best l T p r' ∧ r = ((price, ()), (r', ()), ())) 3001 l.length (N := N) (s := (T, List.replicate l.length 0)) ⟨hT, by simp, fun x _ hx => gd_replicate (by omega) (by omega), p, hL, fun r' h => h⟩ (by omega)
    (fun N s ⟨_, q2, _, q, q4, q5⟩ => by
      rw [List.drop_length] at q4 q5
      obtain ⟨h1, _⟩ := q4
      revert q5
      generalize s.1 = t at h1
      cases h1
      intro q5
      have := q5 [] .nil
      rw [List.append_nil, ← q2, List.take_length] at this
      refine ⟨_, by simp only [L68_31, B68_31]; rw [dec_f (by omega), cond_false], _, this, rfl⟩)
    (fun N j s hc hj ⟨q1, q2, q3, q, q4, q5⟩ => by
      obtain ⟨o1, o2, o3⟩ := ho
      have hd : l.drop j = gd l (j : Int) :: l.drop (j + 1) := drop_nat hj
      obtain ⟨t, ht⟩ : ∃ t : Nat, s.1 = (t : Int) := ⟨s.1.toNat, by have := (q4.1.le (hl.drop j)).1; omega⟩
      have e := (o3 j (by omega) (by omega) t (by omega)).of_least (by rw [← ht]; exact q4) (hl.drop j) (by show _ < (1152921504606846976 : Int); omega)
      have hrow := o2 j (by omega)
      obtain ⟨k, k1, k2, k3⟩ := take68 l hl hk price m hm j hj o ⟨o1, o2, o3⟩ s.1 q q1 q4 s.2 q2 (q3 j (Nat.le_refl _) hj) (N := N) (by omega)
      have hb := hl _ (gd_mem (l := l) (i := (j : Int)) (by omega) (by omega))
      have hkb : (0 : Int) ≤ k * (gd l (j : Int)).1 := Int.mul_nonneg (by omega) (by omega)
      refine .inl ⟨(s.1 - k * (gd l (j : Int)).1, s.2.set j k), ⟨by simp only; omega, by rw [List.length_set, q2], fun x h1 h2 => ?_, _, k2, fun r' h => ?_⟩, ?_⟩
      · simp only
        rw [gd_setN (by omega), if_neg (by omega)]
        exact q3 x (by omega) h2
      · simp only at h ⊢
        have h2 := q5 (k :: r') (by rw [hd]; exact .cons k1 h)
        have e2 : (s.2.set j (k : Int)).take (j + 1) = s.2.take j ++ [(k : Int)] := by
          rw [take_nat (by rw [List.length_set]; omega), gd_setN (by omega), if_pos rfl, List.take_set_of_le (Nat.le_refl _)]
        rw [e2, List.append_assoc]
        exact h2
      · simp only [L68_31, B68_31]
        rw [dec_t (by omega), cond_true, getI_gd (by omega) (by omega), inR_in (by omega) (by omega), getI_gd (by omega) (by omega), inR_in (by omega) (by omega), getI_gd (by omega) (by omega), getI_gd (by omega) (by omega)]
        have e' : gd (gd o (j : Int)) s.1 = q := by rw [ht]; exact e
        rw [e', k3, derefK_some]
        simp only
        rw [wI (by omega) (by omega)]
        rfl)
  exact ⟨r', h1, hr⟩
def NoBuy (l : List Bun) (n : Nat) : Prop := ∀ t : Nat, n ≤ t → t ≤ n + 1000 → ∀ p, ¬ Pays l t p
def Opt (l : List Bun) (n t : Nat) (p : Int) : Prop := n ≤ t ∧ t ≤ n + 1000 ∧ Pays l t p ∧ ∀ t' : Nat, n ≤ t' → t' ≤ n + 1000 → ∀ p', Pays l t' p' → p ≤ p' ∧ (p' = p → t ≤ t')
def Buys (l : List Bun) (n : Nat) (r : List Int) (p : Int) : Prop := ∃ t, Opt l n t p ∧ Best l t p r
theorem Opt.uniq {l : List Bun} {n t t' : Nat} {p p' : Int} (h : Opt l n t p) (h' : Opt l n t' p') : t = t' ∧ p = p' := by
  have a := h.2.2.2 t' h'.1 h'.2.1 p' h'.2.2.1
  have b := h'.2.2.2 t h.1 h.2.1 p h.2.2.1
  have e : p = p' := by omega
  have := a.2 e.symm
  have := b.2 e
  omega
theorem Buys.uniq {l : List Bun} {n : Nat} {r r' : List Int} {p p' : Int} (h : Buys l n r p) (h' : Buys l n r' p') : r = r' ∧ p = p' := by
  obtain ⟨t, h1, h2⟩ := h
  obtain ⟨t', h3, h4⟩ := h'
  obtain ⟨rfl, rfl⟩ := h1.uniq h3
  exact ⟨h2.uniq h4, rfl⟩
theorem Opt.least {l : List Bun} {n t : Nat} {p : Int} (h : Opt l n t p) : Least l t p := ⟨h.2.2.1, fun q hq => (h.2.2.2 t h.1 h.2.1 q hq).1⟩
theorem First.opt {N : Int} {l : List Bun} {c : List Int} {n t : Nat} (hc : ∀ t : Nat, t < n + 1001 → Ent N l t (gd c (t : Int))) (h : First c n (n + 1001) t) (hlt : gd c (t : Int) < N) : Opt l n t (gd c (t : Int)) := by
  obtain ⟨h1, h2, h3⟩ := h
  refine ⟨h1, by omega, ((hc t h2).least hlt).1, fun t' q1 q2 p' hp => ?_⟩
  have a := h3 t' q1 (by omega)
  have b := (hc t' (by omega)).2.2 p' hp
  exact ⟨by omega, fun e => a.2 (by omega)⟩
theorem First.noBuy {N : Int} {l : List Bun} {c : List Int} {n t : Nat} (hl : Fine l) (hn : 1000000 * ((n : Int) + 1000) < N) (hc : ∀ t : Nat, t < n + 1001 → Ent N l t (gd c (t : Int))) (h : First c n (n + 1001) t) (hlt : gd c (t : Int) = N) : NoBuy l n := by
  obtain ⟨h1, h2, h3⟩ := h
  intro t' q1 q2 p hp
  have a := (h3 t' q1 (by omega)).1
  have b := (hc t' (by omega)).2.2 p hp
  have := hp.le hl
  omega
theorem same68_4 : @L10068_4 = @L68_4 := by kernel_rfl
theorem same68_10 : @L10068_10 = @L68_10 := by kernel_rfl
theorem same68_22 : @L10068_22 = @L68_22 := by kernel_rfl
theorem same68_31 : @L10068_31 = @L68_31 := by kernel_rfl
theorem g68_made (l : List Bun) (hl : Fine l) (hk : l.length ≤ 6) (n : Nat) (hn : n ≤ 1000) :
    (NoBuy l n ∧ g68 (l, (n : Int), ()) = none) ∨ ∃ r p, Buys l n r p ∧ g68 (l, (n : Int), ()) = some ((r, p, ()), ()) := by
  have hf := fuel_ge
  have e0 : g68 (l, (n : Int), ()) = F68 fuel l n := rfl
  rw [e0]
  unfold F68
  have w1 : IntKind.wrap .i64 ((l.length : Int) + 1) = ((l.length + 1 : Nat) : Int) := by rw [wI (by omega) (by omega)]; omega
  have w2 : IntKind.wrap .i64 ((n : Int) + 1000) = ((n + 1000 : Nat) : Int) := by rw [wI (by omega) (by omega)]; omega
  have w3 : IntKind.wrap .i64 ((l.length : Int) - 1) = (l.length : Int) - 1 := wI (by omega) (by omega)
  rw [w1, w2, leK_in (by omega), leK_in (by omega), lenK_in (by omega) (by omega), Int.toNat_natCast]
  obtain ⟨o, h1, h2, e1⟩ := fill68 l n (n + 1000) (by omega) hk (N := fuel) (by omega)
  rw [e1, derefK_some]
  simp only
  have hgo : gd o (l.length : Int) = List.replicate (n + 1000 + 1) NO := h2 l.length (by omega)
  rw [inR_in (by omega) (by omega), getI_gd (by omega) (by omega), hgo, inR_in (by omega) (by rw [List.length_replicate]; omega), getI_gd (by omega) (by omega), hgo, getI_gd (by omega) (by rw [List.length_replicate]; omega), w3, Int.toNat_natCast]
  have hgs : ∀ j : Nat, gd (o.set l.length ((List.replicate (n + 1000 + 1) NO).set (0 : Int).toNat 0)) (j : Int) = if j = l.length then (List.replicate (n + 1000 + 1) NO).set (0 : Int).toNat 0 else gd o (j : Int) := gd_setN (by omega)
  have ht : Tab l (n + 1000 + 1) (o.set l.length ((List.replicate (n + 1000 + 1) NO).set (0 : Int).toNat 0)) l.length := by
    refine ⟨by rw [List.length_set, h1], fun i hi => ?_, fun i q1 q2 t q3 => ?_⟩
    · rw [hgs]
      by_cases e : i = l.length
      · rw [if_pos e, List.length_set, List.length_replicate]
      · rw [if_neg e, h2 i (by omega), List.length_replicate]
    · obtain rfl : i = l.length := by omega
      rw [hgs, if_pos rfl, List.drop_length, show (0 : Int).toNat = 0 from rfl, gd_setN (by rw [List.length_replicate]; omega)]
      by_cases e : t = 0
      · rw [if_pos e, e]; exact .nil_zero (by decide)
      · rw [if_neg e, gd_replicate (by omega) (by omega)]; exact .nil_pos (by omega)
  obtain ⟨o2, t2, e2⟩ := tab68 l hl n ((n + 1000 : Nat) : Int) (n + 1000 + 1) (by omega) hk _ ht (N := fuel) (by omega)
  rw [e2, derefK_some]
  simp only
  obtain ⟨u1, u2, u3⟩ := t2
  have u20 := u2 0 (by omega)
  obtain ⟨t, hfst, e3⟩ := arg68 l n (n + 1000) (by omega) (by omega) o2 (by omega) u20 (N := fuel) (by omega)
  rw [e3, derefK_some]
  simp only
  have hft := hfst
  obtain ⟨v1, v2, _⟩ := hft
  have hent : ∀ t : Nat, t < n + 1001 → Ent NO l t (gd (gd o2 0) (t : Int)) := fun t ht => u3 0 (Nat.le_refl _) (Nat.zero_le _) t (by omega)
  rw [inR_in (by omega) (by omega), getI_gd (by omega) (by omega)]
  have u20' : (gd o2 0).length = n + 1000 + 1 := u20
  rw [inR_in (by omega) (by omega), getI_gd (by omega) (by omega), getI_gd (by omega) (by omega)]
  by_cases hno : gd (gd o2 0) (t : Int) = NO
  · left
    refine ⟨hfst.noBuy hl (by show _ < (1152921504606846976 : Int); omega) hent hno, ?_⟩
    rw [hno, beq_self_eq_true, cond_true]
  · right
    have hlt : gd (gd o2 0) (t : Int) < NO := by have := (hent t (by omega)).1; omega
    have ho := hfst.opt hent hlt
    obtain ⟨r, hb, e4⟩ := counts68 l hl hk (gd (gd o2 0) (t : Int)) (n + 1000) (by omega) o2 ⟨u1, u2, u3⟩ (t : Int) (gd (gd o2 0) (t : Int)) (by omega) ho.least (N := fuel) (by omega)
    refine ⟨r, gd (gd o2 0) (t : Int), ⟨t, ho, hb⟩, ?_⟩
    rw [beq_false_of_ne hno, cond_false, leK_in (by omega), leK_in (by omega), lenK_in (by omega) (by omega), Int.toNat_natCast, e4]
    rfl
theorem g68_nil (l : List Bun) (hl : Fine l) (hk : l.length ≤ 6) (n : Nat) (hn : n ≤ 1000) :
    (NoBuy l n ∧ g10068 (l, (n : Int), ()) = some (([], 0, ()), ())) ∨ ∃ r p, Buys l n r p ∧ g10068 (l, (n : Int), ()) = none := by
  have hf := fuel_ge
  have e0 : g10068 (l, (n : Int), ()) = F10068 fuel l n := rfl
  rw [e0]
  unfold F10068
  rw [same68_4, same68_10, same68_22, same68_31]
  have w1 : IntKind.wrap .i64 ((l.length : Int) + 1) = ((l.length + 1 : Nat) : Int) := by rw [wI (by omega) (by omega)]; omega
  have w2 : IntKind.wrap .i64 ((n : Int) + 1000) = ((n + 1000 : Nat) : Int) := by rw [wI (by omega) (by omega)]; omega
  have w3 : IntKind.wrap .i64 ((l.length : Int) - 1) = (l.length : Int) - 1 := wI (by omega) (by omega)
  rw [w1, w2, leK_in (by omega), leK_in (by omega), lenK_in (by omega) (by omega), Int.toNat_natCast]
  obtain ⟨o, h1, h2, e1⟩ := fill68 l n (n + 1000) (by omega) hk (N := fuel) (by omega)
  rw [e1, derefK_some]
  simp only
  have hgo : gd o (l.length : Int) = List.replicate (n + 1000 + 1) NO := h2 l.length (by omega)
  rw [inR_in (by omega) (by omega), getI_gd (by omega) (by omega), hgo, inR_in (by omega) (by rw [List.length_replicate]; omega), getI_gd (by omega) (by omega), hgo, getI_gd (by omega) (by rw [List.length_replicate]; omega), w3, Int.toNat_natCast]
  have hgs : ∀ j : Nat, gd (o.set l.length ((List.replicate (n + 1000 + 1) NO).set (0 : Int).toNat 0)) (j : Int) = if j = l.length then (List.replicate (n + 1000 + 1) NO).set (0 : Int).toNat 0 else gd o (j : Int) := gd_setN (by omega)
  have ht : Tab l (n + 1000 + 1) (o.set l.length ((List.replicate (n + 1000 + 1) NO).set (0 : Int).toNat 0)) l.length := by
    refine ⟨by rw [List.length_set, h1], fun i hi => ?_, fun i q1 q2 t q3 => ?_⟩
    · rw [hgs]
      by_cases e : i = l.length
      · rw [if_pos e, List.length_set, List.length_replicate]
      · rw [if_neg e, h2 i (by omega), List.length_replicate]
    · obtain rfl : i = l.length := by omega
      rw [hgs, if_pos rfl, List.drop_length, show (0 : Int).toNat = 0 from rfl, gd_setN (by rw [List.length_replicate]; omega)]
      by_cases e : t = 0
      · rw [if_pos e, e]; exact .nil_zero (by decide)
      · rw [if_neg e, gd_replicate (by omega) (by omega)]; exact .nil_pos (by omega)
  obtain ⟨o2, t2, e2⟩ := tab68 l hl n ((n + 1000 : Nat) : Int) (n + 1000 + 1) (by omega) hk _ ht (N := fuel) (by omega)
  rw [e2, derefK_some]
  simp only
  obtain ⟨u1, u2, u3⟩ := t2
  have u20 := u2 0 (by omega)
  obtain ⟨t, hfst, e3⟩ := arg68 l n (n + 1000) (by omega) (by omega) o2 (by omega) u20 (N := fuel) (by omega)
  rw [e3, derefK_some]
  simp only
  have hft := hfst
  obtain ⟨v1, v2, _⟩ := hft
  have hent : ∀ t : Nat, t < n + 1001 → Ent NO l t (gd (gd o2 0) (t : Int)) := fun t ht => u3 0 (Nat.le_refl _) (Nat.zero_le _) t (by omega)
  rw [inR_in (by omega) (by omega), getI_gd (by omega) (by omega)]
  have u20' : (gd o2 0).length = n + 1000 + 1 := u20
  rw [inR_in (by omega) (by omega), getI_gd (by omega) (by omega), getI_gd (by omega) (by omega)]
  by_cases hno : gd (gd o2 0) (t : Int) = NO
  · left
    refine ⟨hfst.noBuy hl (by show _ < (1152921504606846976 : Int); omega) hent hno, ?_⟩
    rw [hno, beq_self_eq_true, cond_true]
  · right
    have hlt : gd (gd o2 0) (t : Int) < NO := by have := (hent t (by omega)).1; omega
    have ho := hfst.opt hent hlt
    obtain ⟨r, hb, e4⟩ := counts68 l hl hk (gd (gd o2 0) (t : Int)) (n + 1000) (by omega) o2 ⟨u1, u2, u3⟩ (t : Int) (gd (gd o2 0) (t : Int)) (by omega) ho.least (N := fuel) (by omega)
    refine ⟨r, gd (gd o2 0) (t : Int), ⟨t, ho, hb⟩, ?_⟩
    rw [beq_false_of_ne hno, cond_false, leK_in (by omega), leK_in (by omega), lenK_in (by omega) (by omega), Int.toNat_natCast, e4]
    rfl
theorem buys_noBuy {l : List Bun} {n : Nat} {r : List Int} {p : Int} (h : Buys l n r p) : ¬ NoBuy l n := by
  obtain ⟨t, h1, _⟩ := h
  exact fun hn => hn t h1.1 h1.2.1 p h1.2.2.1
theorem g68_eq (l : List Bun) (hl : Fine l) (hk : l.length ≤ 6) (n : Nat) (hn : n ≤ 1000) :
    (NoBuy l n ∧ g10068 (l, (n : Int), ()) = some (([], 0, ()), ())) ∨ ∃ r p, Buys l n r p ∧ g68 (l, (n : Int), ()) = some ((r, p, ()), ()) ∧ g10068 (l, (n : Int), ()) = none := by
  rcases g68_nil l hl hk n hn with h | ⟨r, p, h1, h2⟩
  · exact .inl h
  · rcases g68_made l hl hk n hn with h | ⟨r, p, h3, h4⟩
    · exact absurd h.1 (buys_noBuy h1)
    · exact .inr ⟨r, p, h3, h4, h2⟩
theorem Pays.mul {b : Bun} {l : List Bun} (h : b ∈ l) : ∀ k : Nat, Pays l (k * b.1) (k * b.2)
  | 0 => by
    rw [show ((0 : Nat) : Int) * b.1 = 0 by simp, show ((0 : Nat) : Int) * b.2 = 0 by simp]
    exact .zero l
  | k + 1 => by
    refine Pays.of_take (b := b) ?_ h
    have := Pays.mul h k
    rwa [show ((k + 1 : Nat) : Int) * b.1 - b.1 = (k : Int) * b.1 by rw [Int.natCast_succ, Int.add_mul]; omega, show ((k + 1 : Nat) : Int) * b.2 - b.2 = (k : Int) * b.2 by rw [Int.natCast_succ, Int.add_mul]; omega]
theorem not_noBuy {l : List Bun} (hl : Fine l) {n : Nat} (hn : n = 0 ∨ l ≠ []) : ¬ NoBuy l n := by
  intro h
  rcases hn with rfl | hn
  · exact h 0 (Nat.le_refl _) (by omega) 0 (.zero l)
  · obtain ⟨b, l', rfl⟩ := List.exists_cons_of_ne_nil hn
    have hb := hl b (List.mem_cons_self ..)
    obtain ⟨k, hk⟩ : ∃ k : Nat, (k : Int) = ((n : Int) + b.1 - 1) / b.1 := ⟨(((n : Int) + b.1 - 1) / b.1).toNat, by have := Int.ediv_nonneg (a := (n : Int) + b.1 - 1) (b := b.1) (by omega) (by omega); omega⟩
    have h1 := Int.ediv_mul_le ((n : Int) + b.1 - 1) (show b.1 ≠ 0 by omega)
    have h2 := Int.lt_ediv_add_one_mul_self ((n : Int) + b.1 - 1) (show 0 < b.1 by omega)
    rw [← hk] at h1 h2
    rw [Int.add_mul, Int.one_mul] at h2
    refine h ((k : Int) * b.1).toNat (by omega) (by omega) (k * b.2) ?_
    rw [show ((((k : Int) * b.1).toNat : Nat) : Int) = (k : Int) * b.1 by omega]
    exact Pays.mul (List.mem_cons_self ..) k
theorem noBuy_nil {n : Nat} (h : 0 < n) : NoBuy [] n := by
  intro t h1 _ p hp
  generalize ht : (t : Int) = t' at hp
  cases hp
  omega
theorem fairOK_fine {f : Fair} (h : fairOK f = true) : Fine f.2.2.2.2.1 ∧ f.2.2.2.2.1.length ≤ 6 := by
  unfold fairOK at h
  simp only [Bool.and_eq_true, decide_eq_true_eq, List.all_eq_true] at h
  obtain ⟨_, _, _, _, h5, _, _, _, _, h10⟩ := h
  refine ⟨fun b hb => ?_, by omega⟩
  have := h10 b hb
  unfold okB at this
  rw [Bool.and_eq_true, Bool.and_eq_true, rng_iff, rng_iff] at this
  omega
def BuyR (f : Fair) (n : Int) (x : (List Int) × Int × Int) : Prop :=
  if fairOK f = false then x = ([], 0, 10) else if rng n 0 1000 = false then x = ([], 0, 1) else if f.2.2.2.2.1 = [] ∧ 0 < n then x = ([], 0, 3) else x.2.2 = 0 ∧ Buys f.2.2.2.2.1 n.toNat x.1 x.2.1
theorem BuyR.uniq {f : Fair} {n : Int} {x y : (List Int) × Int × Int} (h : BuyR f n x) (h' : BuyR f n y) : x = y := by
  unfold BuyR at h h'
  split at h
  · rename_i e; rw [if_pos e] at h'; rw [h, h']
  · rename_i e; rw [if_neg e] at h'
    split at h
    · rename_i e; rw [if_pos e] at h'; rw [h, h']
    · rename_i e; rw [if_neg e] at h'
      split at h
      · rename_i e; rw [if_pos e] at h'; rw [h, h']
      · rename_i e; rw [if_neg e] at h'
        obtain ⟨x1, x2, x3⟩ := x
        obtain ⟨y1, y2, y3⟩ := y
        have := h.2.uniq h'.2
        simp only at h h' this
        rw [this.1, this.2, h.1, h'.1]
theorem sum_set {l : List Int} {i : Nat} {v : Int} (h : i < l.length) : (l.set i v).sum = l.sum - gd l (i : Int) + v := by
  induction l generalizing i with
  | nil => simp at h
  | cons x l ih =>
    cases i with
    | zero =>
      rw [show gd (x :: l) ((0 : Nat) : Int) = x from rfl]
      simp only [List.set_cons_zero, List.sum_cons]
      omega
    | succ i =>
      have e : gd (x :: l) ((i + 1 : Nat) : Int) = gd l (i : Int) := by
        have h1 := gd_nat (l := l) (i := i) (by simpa using h)
        exact gd_of (by simpa using h1)
      rw [e]
      simp only [List.set_cons_succ, List.sum_cons]
      rw [ih (by simpa using h)]
      omega
theorem sum_nn {l : List Int} (h : ∀ x ∈ l, 0 ≤ x) : 0 ≤ l.sum := by
  induction l with
  | nil => exact Int.le_refl _
  | cons x l ih =>
    have h1 := h x (List.mem_cons_self ..)
    have h2 := ih fun y hy => h y (List.mem_cons_of_mem _ hy)
    rw [List.sum_cons]
    omega
theorem mem_le_sum {l : List Int} (h : ∀ x ∈ l, 0 ≤ x) {y : Int} (hy : y ∈ l) : y ≤ l.sum := by
  induction l with
  | nil => cases hy
  | cons x l ih =>
    have h1 := h x (List.mem_cons_self ..)
    have h2 : ∀ y ∈ l, 0 ≤ y := fun y hy => h y (List.mem_cons_of_mem _ hy)
    have h3 := sum_nn h2
    rw [List.sum_cons]
    rcases List.mem_cons.1 hy with rfl | hy
    · omega
    · have := ih h2 hy; omega
theorem sum_le {l : List Int} {m : Int} (h : ∀ x ∈ l, x ≤ m) : l.sum ≤ l.length * m := by
  induction l with
  | nil => simp
  | cons x l ih =>
    have h1 := h x (List.mem_cons_self ..)
    have h2 := ih fun y hy => h y (List.mem_cons_of_mem _ hy)
    rw [List.sum_cons, List.length_cons, Int.natCast_succ, Int.add_mul]
    omega
theorem sum_replicate_zero (n : Nat) : (List.replicate n (0 : Int)).sum = 0 := by
  induction n with
  | zero => rfl
  | succ n ih => rw [List.replicate_succ, List.sum_cons, ih]; rfl
def sumP (l : List (Int × Int)) : Int := (l.map (·.1)).sum
theorem gd_map1 {l : List (Int × Int)} {i : Nat} (h : i < l.length) : gd (l.map (·.1)) (i : Int) = (gd l (i : Int)).1 := gd_of (by rw [List.getElem?_map, gd_nat h]; rfl)
theorem sumP_set {l : List (Int × Int)} {i : Nat} {v : Int × Int} (h : i < l.length) : sumP (l.set i v) = sumP l - (gd l (i : Int)).1 + v.1 := by
  unfold sumP
  rw [List.map_set, sum_set (by simpa using h), gd_map1 h]
theorem sumP_nn {l : List (Int × Int)} (h : ∀ x ∈ l, 0 ≤ x.1) : 0 ≤ sumP l := sum_nn fun x hx => by
  obtain ⟨y, hy, rfl⟩ := List.mem_map.1 hx
  exact h y hy
theorem mem_le_sumP {l : List (Int × Int)} (h : ∀ x ∈ l, 0 ≤ x.1) {y : Int × Int} (hy : y ∈ l) : y.1 ≤ sumP l := mem_le_sum (fun x hx => by
  obtain ⟨y, hy, rfl⟩ := List.mem_map.1 hx
  exact h y hy) (List.mem_map.2 ⟨y, hy, rfl⟩)
def okD (f : Fair) (c : Cnt) (d : Deal) : Bool :=
  let tA := rng d.2.2.1 0 ((c.1.length : Int) - 1)
  let pA := rng d.2.2.1 0 ((c.2.2.1.length : Int) - 1)
  let pB := rng d.2.2.2.1 0 ((c.2.2.1.length : Int) - 1)
  let bB := rng d.2.2.2.1 0 ((c.2.2.2.1.length : Int) - 1)
  bif d.2.1 == 1 then tA && (pB && (rng d.2.2.2.2 0 ((f.2.2.2.2.1.length : Int) - 1) && decide ((gd f.2.2.2.2.1 d.2.2.2.2).1 ≤ gd c.1 d.2.2.1)))
  else bif d.2.1 == 2 then pA && (bB && (rng d.2.2.2.2 0 1000 && (decide (d.1 < (gd c.2.2.1 d.2.2.1).2) || decide (d.2.2.2.2 ≤ (gd c.2.2.1 d.2.2.1).1))))
  else bif d.2.1 == 3 then tA && (pB && (d.2.2.2.2 == 0))
  else bif d.2.1 == 4 then tA && (pB && (rng d.2.2.2.2 1 100000 && (decide (d.2.2.2.2 ≤ (gd c.2.2.1 d.2.2.2.1).1) && decide (d.2.2.2.2 * f.2.2.2.2.2.1 ≤ gd c.2.1 d.2.2.1))))
  else bif d.2.1 == 5 then tA && (bB && (d.2.2.2.2 == 0))
  else bif d.2.1 == 6 then pA && (pB && (!(d.2.2.1 == d.2.2.2.1) && (rng d.2.2.2.2 1 100000 && decide (d.2.2.2.2 ≤ (gd c.2.2.1 d.2.2.1).1))))
  else bif d.2.1 == 7 then pA && ((d.2.2.2.1 == 0) && (rng d.2.2.2.2 1 100000 && decide (d.2.2.2.2 ≤ (gd c.2.2.1 d.2.2.1).1)))
  else false
def mv (l : List (Int × Int)) (i v : Int) : List (Int × Int) := l.set i.toNat ((gd l i).1 + v, (gd l i).2)
def ad (l : List Int) (i v : Int) : List Int := l.set i.toNat (gd l i + v)
def stepD (f : Fair) (c : Cnt) (d : Deal) : Cnt :=
  bif d.2.1 == 1 then (ad c.1 d.2.2.1 (-(gd f.2.2.2.2.1 d.2.2.2.2).1), ad c.2.1 d.2.2.1 (gd f.2.2.2.2.1 d.2.2.2.2).2, mv c.2.2.1 d.2.2.2.1 (gd f.2.2.2.2.1 d.2.2.2.2).1, c.2.2.2.1, c.2.2.2.2)
  else bif d.2.1 == 2 then (bif decide (d.1 < (gd c.2.2.1 d.2.2.1).2) then c else (c.1, c.2.1, mv c.2.2.1 d.2.2.1 (-d.2.2.2.2), ad c.2.2.2.1 d.2.2.2.1 d.2.2.2.2, c.2.2.2.2))
  else bif d.2.1 == 3 then (c.1, ad c.2.1 d.2.2.1 f.2.2.2.2.2.2.1, c.2.2.1.set d.2.2.2.1.toNat ((gd c.2.2.1 d.2.2.2.1).1, max (gd c.2.2.1 d.2.2.2.1).2 (IntKind.wrap .i64 (d.1 + f.2.2.2.2.2.2.2))), c.2.2.2.1, c.2.2.2.2)
  else bif d.2.1 == 4 then (ad c.1 d.2.2.1 d.2.2.2.2, ad c.2.1 d.2.2.1 (-(d.2.2.2.2 * f.2.2.2.2.2.1)), mv c.2.2.1 d.2.2.2.1 (-d.2.2.2.2), c.2.2.2.1, c.2.2.2.2)
  else bif d.2.1 == 5 then (ad c.1 d.2.2.1 (gd c.2.2.2.1 d.2.2.2.1), c.2.1, c.2.2.1, c.2.2.2.1.set d.2.2.2.1.toNat 0, c.2.2.2.2)
  else bif d.2.1 == 6 then (c.1, c.2.1, mv (mv c.2.2.1 d.2.2.1 (-d.2.2.2.2)) d.2.2.2.1 d.2.2.2.2, c.2.2.2.1, c.2.2.2.2)
  else (c.1, c.2.1, mv c.2.2.1 d.2.2.1 (-d.2.2.2.2), c.2.2.2.1, c.2.2.2.2 + d.2.2.2.2)
def tot (c : Cnt) : Int := c.1.sum + sumP c.2.2.1 + c.2.2.2.1.sum + c.2.2.2.2
structure Inv (f : Fair) (c : Cnt) (k : Nat) : Prop where
  ls : c.1.length = f.2.2.1.length
  lc : c.2.1.length = f.2.2.1.length
  lp : c.2.2.1.length = f.1.toNat
  lb : c.2.2.2.1.length = f.2.1.toNat
  ns : ∀ x ∈ c.1, 0 ≤ x
  nc : ∀ x ∈ c.2.1, 0 ≤ x ∧ x ≤ 1000000 * ((k : Int) + 1)
  np : ∀ x ∈ c.2.2.1, 0 ≤ x.1
  nb : ∀ x ∈ c.2.2.2.1, 0 ≤ x
  nl : 0 ≤ c.2.2.2.2
  tt : tot c = f.2.2.1.sum
structure Ok (f : Fair) : Prop where
  s1 : 1 ≤ f.2.2.1.length
  s8 : f.2.2.1.length ≤ 8
  c8 : f.2.2.2.1.length = f.2.2.1.length
  p0 : 0 ≤ f.1
  p1 : f.1 ≤ 20
  b0 : 0 ≤ f.2.1
  b1 : f.2.1 ≤ 12
  st : ∀ x ∈ f.2.2.1, 0 ≤ x ∧ x ≤ 100000
  ca : ∀ x ∈ f.2.2.2.1, 0 ≤ x ∧ x ≤ 1000000
  r0 : 0 ≤ f.2.2.2.2.2.1
  r1 : f.2.2.2.2.2.1 ≤ 1000
  d0 : 0 ≤ f.2.2.2.2.2.2.1
  d1 : f.2.2.2.2.2.2.1 ≤ 1000000
  h0 : 1 ≤ f.2.2.2.2.2.2.2
  h1 : f.2.2.2.2.2.2.2 ≤ 1440
  fine : Fine f.2.2.2.2.1
  six : f.2.2.2.2.1.length ≤ 6
  win : ∀ b ∈ f.2.2.2.2.1, f.2.2.2.2.2.1 * b.1 ≤ b.2
theorem Ok.of {f : Fair} (h : fairOK f = true) : Ok f := by
  obtain ⟨hf, hk⟩ := fairOK_fine h
  unfold fairOK at h
  simp only [Bool.and_eq_true, decide_eq_true_eq, List.all_eq_true, rng_iff, beq_iff_eq] at h
  obtain ⟨h1, h2, h3, h4, h5, ⟨h6, h7⟩, h8, h9, h10, h11⟩ := h
  refine ⟨by omega, by omega, by omega, h3.1, h3.2, h4.1, h4.2, h6, h7, h8.1, h8.2, h9.1, h9.2, h10.1, h10.2, hf, hk, fun b hb => ?_⟩
  have h := h11 b hb
  have hb := hf b hb
  unfold okB at h
  simp only [Bool.and_eq_true, Bool.not_eq_true', decide_eq_false_iff_not] at h
  have h2 := h.2.2
  have m0 : 0 ≤ f.2.2.2.2.2.1 * b.1 := Int.mul_nonneg h8.1 (by omega)
  have m1 : f.2.2.2.2.2.1 * b.1 ≤ 1000 * 1000 := Int.mul_le_mul h8.2 hb.2.1 (by omega) (by omega)
  rw [wI (by omega) (by omega)] at h2
  omega
theorem Ok.sum {f : Fair} (h : Ok f) : 0 ≤ f.2.2.1.sum ∧ f.2.2.1.sum ≤ 800000 := by
  have h1 := sum_le (l := f.2.2.1) (m := 100000) fun x hx => (h.st x hx).2
  have h2 := sum_nn fun x hx => (h.st x hx).1
  have := h.s8
  omega
def cnt0 (f : Fair) : Cnt := (f.2.2.1, f.2.2.2.1, List.replicate f.1.toNat (0, 0), List.replicate f.2.1.toNat 0, 0)
theorem sumP_replicate (n : Nat) : sumP (List.replicate n (0, 0)) = 0 := by
  unfold sumP
  rw [List.map_replicate, sum_replicate_zero]
theorem Inv.zero {f : Fair} (h : Ok f) : Inv f (cnt0 f) 0 := by
  refine ⟨rfl, h.c8, List.length_replicate, List.length_replicate, fun x hx => (h.st x hx).1, fun x hx => ?_, fun x hx => ?_, fun x hx => ?_, Int.le_refl _, ?_⟩
  · have := h.ca x hx; omega
  · rw [(List.mem_replicate.1 hx).2]; exact Int.le_refl _
  · rw [(List.mem_replicate.1 hx).2]; exact Int.le_refl _
  · unfold tot cnt0
    simp only
    rw [sumP_replicate, sum_replicate_zero]
    omega
theorem nn_set {l : List Int} {i : Nat} {v : Int} (h : ∀ x ∈ l, 0 ≤ x) (hv : 0 ≤ v) : ∀ x ∈ l.set i v, 0 ≤ x := fun x hx => by
  rcases List.mem_or_eq_of_mem_set hx with h1 | rfl
  · exact h x h1
  · exact hv
theorem nnP_set {l : List (Int × Int)} {i : Nat} {v : Int × Int} (h : ∀ x ∈ l, 0 ≤ x.1) (hv : 0 ≤ v.1) : ∀ x ∈ l.set i v, 0 ≤ x.1 := fun x hx => by
  rcases List.mem_or_eq_of_mem_set hx with h1 | rfl
  · exact h x h1
  · exact hv
theorem sum_ad {l : List Int} {i v : Int} (h0 : 0 ≤ i) (h : i < l.length) : (ad l i v).sum = l.sum + v := by
  unfold ad
  rw [sum_set (by omega), show ((i.toNat : Nat) : Int) = i by omega]
  omega
theorem sumP_mv {l : List (Int × Int)} {i v : Int} (h0 : 0 ≤ i) (h : i < l.length) : sumP (mv l i v) = sumP l + v := by
  unfold mv
  rw [sumP_set (by omega), show ((i.toNat : Nat) : Int) = i by omega]
  simp only
  omega
theorem len_ad {l : List Int} {i v : Int} : (ad l i v).length = l.length := List.length_set
theorem len_mv {l : List (Int × Int)} {i v : Int} : (mv l i v).length = l.length := List.length_set
theorem nn_ad {l : List Int} {i v : Int} (h : ∀ x ∈ l, 0 ≤ x) (hv : 0 ≤ gd l i + v) : ∀ x ∈ ad l i v, 0 ≤ x := nn_set h hv
theorem nn_mv {l : List (Int × Int)} {i v : Int} (h : ∀ x ∈ l, 0 ≤ x.1) (hv : 0 ≤ (gd l i).1 + v) : ∀ x ∈ mv l i v, 0 ≤ x.1 := nnP_set h hv
theorem nc_ad {l : List Int} {i v m m' : Int} (h : ∀ x ∈ l, 0 ≤ x ∧ x ≤ m) (hm : m ≤ m') (hv : 0 ≤ gd l i + v ∧ gd l i + v ≤ m') : ∀ x ∈ ad l i v, 0 ≤ x ∧ x ≤ m' := fun x hx => by
  rcases List.mem_or_eq_of_mem_set hx with h1 | rfl
  · have := h x h1; omega
  · exact hv
theorem gd_mv_ne {l : List (Int × Int)} {i j v : Int} (h0 : 0 ≤ i) (h1 : 0 ≤ j) (h : j ≠ i) : gd (mv l i v) j = gd l j := gd_set_ne h0 h1 h
theorem Inv.step {f : Fair} (hf : Ok f) {c : Cnt} {k : Nat} (h : Inv f c k) {d : Deal} (hd : okD f c d = true) : Inv f (stepD f c d) (k + 1) := by
  obtain ⟨P, X, S, C, Bs, rf, bd, hr⟩ := f
  obtain ⟨st, ca, pu, bo, lo⟩ := c
  obtain ⟨at', kd, a, b, n⟩ := d
  obtain ⟨ls, lc, lp, lb, ns, nc, np, nb, nl, tt⟩ := h
  have hsum := hf.sum
  obtain ⟨s1, s8, c8, p0, p1, b0, b1, hst, hca, r0, r1, d0, d1, h0, h1, fine, six, _⟩ := hf
  have n1 := sum_nn ns
  have n2 := sumP_nn np
  have n3 := sum_nn nb
  unfold okD at hd
  unfold stepD
  unfold tot at tt
  simp only at *
  have nc' : ∀ x ∈ ca, 0 ≤ x ∧ x ≤ 1000000 * (((k + 1 : Nat) : Int) + 1) := fun x hx => by have := nc x hx; omega
  by_cases k1 : kd = 1
  · subst k1
    simp only [Int.reduceBEq, cond_true, Bool.and_eq_true, rng_iff, decide_eq_true_eq] at hd ⊢
    obtain ⟨hA, hB, hN, hle⟩ := hd
    have hb := fine _ (gd_mem (l := Bs) (i := n) (by omega) (by omega))
    have q1 := np _ (gd_mem (l := pu) (i := b) (by omega) (by omega))
    have q2 := nc _ (gd_mem (l := ca) (i := a) (by omega) (by omega))
    exact ⟨by rw [len_ad, ls], by rw [len_ad, lc], by rw [len_mv, lp], lb, nn_ad ns (by omega), nc_ad nc (by omega) (by omega), nn_mv np (by omega), nb, nl, by
      unfold tot
      simp only
      rw [sum_ad (by omega) (by omega), sumP_mv (by omega) (by omega)]
      omega⟩
  by_cases k2 : kd = 2
  · subst k2
    simp only [Int.reduceBEq, cond_true, cond_false, Bool.and_eq_true, Bool.or_eq_true, rng_iff, decide_eq_true_eq] at hd ⊢
    obtain ⟨hA, hB, hN, hle⟩ := hd
    by_cases hlt : at' < (gd pu a).2
    · rw [dec_t hlt, cond_true]
      exact ⟨ls, lc, lp, lb, ns, nc', np, nb, nl, tt⟩
    · rw [dec_f hlt, cond_false]
      have q3 := nb _ (gd_mem (l := bo) (i := b) (by omega) (by omega))
      exact ⟨ls, lc, by rw [len_mv, lp], by rw [len_ad, lb], ns, nc', nn_mv np (by omega), nn_ad nb (by omega), nl, by
        unfold tot
        simp only
        rw [sum_ad (by omega) (by omega), sumP_mv (by omega) (by omega)]
        omega⟩
  by_cases k3 : kd = 3
  · subst k3
    simp only [Int.reduceBEq, cond_true, cond_false, Bool.and_eq_true, rng_iff, beq_iff_eq] at hd ⊢
    obtain ⟨hA, hB, hN⟩ := hd
    have q1 := np _ (gd_mem (l := pu) (i := b) (by omega) (by omega))
    have q2 := nc _ (gd_mem (l := ca) (i := a) (by omega) (by omega))
    exact ⟨ls, by rw [len_ad, lc], by rw [List.length_set, lp], lb, ns, nc_ad nc (by omega) (by omega), nnP_set np q1, nb, nl, by
      unfold tot
      simp only
      rw [sumP_set (by omega), show ((b.toNat : Nat) : Int) = b by omega]
      omega⟩
  by_cases k4 : kd = 4
  · subst k4
    simp only [Int.reduceBEq, cond_true, cond_false, Bool.and_eq_true, rng_iff, decide_eq_true_eq] at hd ⊢
    obtain ⟨hA, hB, hN, hle, hcs⟩ := hd
    have q1 := np _ (gd_mem (l := pu) (i := b) (by omega) (by omega))
    have q2 := nc _ (gd_mem (l := ca) (i := a) (by omega) (by omega))
    have q3 := ns _ (gd_mem (l := st) (i := a) (by omega) (by omega))
    have m0 : 0 ≤ n * rf := Int.mul_nonneg (by omega) r0
    exact ⟨by rw [len_ad, ls], by rw [len_ad, lc], by rw [len_mv, lp], lb, nn_ad ns (by omega), nc_ad nc (by omega) (by omega), nn_mv np (by omega), nb, nl, by
      unfold tot
      simp only
      rw [sum_ad (by omega) (by omega), sumP_mv (by omega) (by omega)]
      omega⟩
  by_cases k5 : kd = 5
  · subst k5
    simp only [Int.reduceBEq, cond_true, cond_false, Bool.and_eq_true, rng_iff, beq_iff_eq] at hd ⊢
    obtain ⟨hA, hB, hN⟩ := hd
    have q3 := ns _ (gd_mem (l := st) (i := a) (by omega) (by omega))
    have q4 := nb _ (gd_mem (l := bo) (i := b) (by omega) (by omega))
    exact ⟨by rw [len_ad, ls], lc, lp, by rw [List.length_set, lb], nn_ad ns (by omega), nc', np, nn_set nb (Int.le_refl _), nl, by
      unfold tot
      simp only
      rw [sum_ad (by omega) (by omega), sum_set (by omega), show ((b.toNat : Nat) : Int) = b by omega]
      omega⟩
  by_cases k6 : kd = 6
  · subst k6
    simp only [Int.reduceBEq, cond_true, cond_false, Bool.and_eq_true, rng_iff, decide_eq_true_eq, Bool.not_eq_true', beq_eq_false_iff_ne] at hd ⊢
    obtain ⟨hA, hB, hne, hN, hle⟩ := hd
    have q1 := np _ (gd_mem (l := pu) (i := b) (by omega) (by omega))
    exact ⟨ls, lc, by rw [len_mv, len_mv, lp], lb, ns, nc', nn_mv (nn_mv np (by omega)) (by rw [gd_mv_ne (by omega) (by omega) (Ne.symm hne)]; omega), nb, nl, by
      unfold tot
      simp only
      rw [sumP_mv (by omega) (by rw [len_mv]; omega), sumP_mv (by omega) (by omega)]
      omega⟩
  by_cases k7 : kd = 7
  · subst k7
    simp only [Int.reduceBEq, cond_true, cond_false, Bool.and_eq_true, rng_iff, decide_eq_true_eq, beq_iff_eq] at hd ⊢
    obtain ⟨hA, hB, hN, hle⟩ := hd
    exact ⟨ls, lc, by rw [len_mv, lp], lb, ns, nc', nn_mv np (by omega), nb, by simp only; omega, by
      unfold tot
      simp only
      rw [sumP_mv (by omega) (by omega)]
      omega⟩
  · rw [beq_false_of_ne k1, beq_false_of_ne k2, beq_false_of_ne k3, beq_false_of_ne k4, beq_false_of_ne k5, beq_false_of_ne k6, beq_false_of_ne k7] at hd
    cases hd
theorem g41_eq (c : Cnt) (h1 : c.1.length ≤ 1000000) (h2 : c.2.1.length ≤ 1000000) (h3 : c.2.2.1.length ≤ 1000000) (h4 : c.2.2.2.1.length ≤ 1000000) : g41 (c, ()) = some ((c, ()), ()) := by
  show F41 fuel c = _
  unfold F41
  rw [lenK_in (by omega) (by omega), lenK_in (by omega) (by omega), lenK_in (by omega) (by omega), lenK_in (by omega) (by omega)]
theorem g64_eq {f : Fair} (hf : Ok f) {c : Cnt} {k : Nat} (h : Inv f c k) (hk : k ≤ 1000) (d : Deal) : g64 (f, c, d, ()) = some ((if okD f c d then stepD f c d else c, okD f c d, ()), ()) := by
  have e0 : g64 (f, c, d, ()) = F64 fuel f c d := rfl
  rw [e0]
  obtain ⟨P, X, S, C, Bs, rf, bd, hr⟩ := f
  obtain ⟨st, ca, pu, bo, lo⟩ := c
  obtain ⟨at', kd, a, b, n⟩ := d
  obtain ⟨ls, lc, lp, lb, ns, nc, np, nb, nl, tt⟩ := h
  have hsum := hf.sum
  obtain ⟨s1, s8, c8, p0, p1, b0, b1, hst, hca, r0, r1, d0, d1, h0, h1, fine, six, _⟩ := hf
  have n1 := sum_nn ns
  have n2 := sumP_nn np
  have n3 := sum_nn nb
  have z1 : ∀ {i : Int}, 0 ≤ i → i < st.length → gd st i ≤ st.sum := fun h1 h2 => mem_le_sum ns (gd_mem h1 h2)
  have z2 : ∀ {i : Int}, 0 ≤ i → i < pu.length → (gd pu i).1 ≤ sumP pu := fun h1 h2 => mem_le_sumP np (gd_mem h1 h2)
  have z3 : ∀ {i : Int}, 0 ≤ i → i < bo.length → gd bo i ≤ bo.sum := fun h1 h2 => mem_le_sum nb (gd_mem h1 h2)
  unfold tot at tt
  simp only at *
  unfold F64
  rw [g41_eq _ (by simp only; omega) (by simp only; omega) (by simp only; omega) (by simp only; omega)]
  have w1 : IntKind.wrap .i64 ((st.length : Int) - 1) = (st.length : Int) - 1 := wI (by omega) (by omega)
  have w2 : IntKind.wrap .i64 ((pu.length : Int) - 1) = (pu.length : Int) - 1 := wI (by omega) (by omega)
  have w3 : IntKind.wrap .i64 ((bo.length : Int) - 1) = (bo.length : Int) - 1 := wI (by omega) (by omega)
  have w4 : IntKind.wrap .i64 ((Bs.length : Int) - 1) = (Bs.length : Int) - 1 := wI (by omega) (by omega)
  simp only [derefK_some, g44_eq, w1, w2, w3, w4]
  unfold okD stepD
  by_cases k1 : kd = 1
  · subst k1
    simp only [Int.reduceBEq, cond_true]
    cases hA : rng a 0 ((st.length : Int) - 1)
    · rfl
    cases hB : rng b 0 ((pu.length : Int) - 1)
    · rfl
    cases hN : rng n 0 ((Bs.length : Int) - 1)
    · rfl
    rw [rng_iff] at hA hB hN
    have hb := fine _ (gd_mem (l := Bs) (i := n) (by omega) (by omega))
    have q1 := np _ (gd_mem (l := pu) (i := b) (by omega) (by omega))
    have q2 := nc _ (gd_mem (l := ca) (i := a) (by omega) (by omega))
    have q3 := ns _ (gd_mem (l := st) (i := a) (by omega) (by omega))
    have q4 := z1 (i := a) (by omega) (by omega)
    have q5 := z2 (i := b) (by omega) (by omega)
    have e1 : ∀ {R : Type} (k : Option R), inR a st.length k = k := fun k => inR_in (by omega) (by omega) k
    have e2 : ∀ {R : Type} (k : Int → Option R), getI st a k = k (gd st a) := fun k => getI_gd (by omega) (by omega) k
    have e3 : ∀ {R : Type} (k : Bun → Option R), getI Bs n k = k (gd Bs n) := fun k => getI_gd (by omega) (by omega) k
    have e4 : ∀ {R : Type} (k : Option R), inR b pu.length k = k := fun k => inR_in (by omega) (by omega) k
    have e5 : ∀ {R : Type} (k : (Int × Int) → Option R), getI pu b k = k (gd pu b) := fun k => getI_gd (by omega) (by omega) k
    have e6 : ∀ {R : Type} (k : Option R), inR a ca.length k = k := fun k => inR_in (by omega) (by omega) k
    have e7 : ∀ {R : Type} (k : Int → Option R), getI ca a k = k (gd ca a) := fun k => getI_gd (by omega) (by omega) k
    simp only [e1, e2, e3, e4, e5, e6, e7, Bool.not_true, cond_false, Bool.true_and, bindV_eq]
    by_cases hle : (gd Bs n).1 ≤ gd st a
    · rw [dec_t hle, dec_f (p := gd st a < (gd Bs n).1) (by omega), cond_false, if_pos rfl, wI (by omega) (by omega), wI (by omega) (by omega), wI (by omega) (by omega)]
      rfl
    · rw [dec_f hle, dec_t (p := gd st a < (gd Bs n).1) (by omega), cond_true]
      rfl
  by_cases k2 : kd = 2
  · subst k2
    simp only [Int.reduceBEq, cond_true, cond_false]
    cases hA : rng a 0 ((pu.length : Int) - 1)
    · rfl
    cases hB : rng b 0 ((bo.length : Int) - 1)
    · rfl
    cases hN : rng n 0 1000
    · rfl
    rw [rng_iff] at hA hB hN
    have q1 := np _ (gd_mem (l := pu) (i := a) (by omega) (by omega))
    have q2 := nb _ (gd_mem (l := bo) (i := b) (by omega) (by omega))
    have q4 := z3 (i := b) (by omega) (by omega)
    have q5 := z2 (i := a) (by omega) (by omega)
    have e1 : ∀ {R : Type} (k : Option R), inR a pu.length k = k := fun k => inR_in (by omega) (by omega) k
    have e2 : ∀ {R : Type} (k : (Int × Int) → Option R), getI pu a k = k (gd pu a) := fun k => getI_gd (by omega) (by omega) k
    have e4 : ∀ {R : Type} (k : Option R), inR b bo.length k = k := fun k => inR_in (by omega) (by omega) k
    have e5 : ∀ {R : Type} (k : Int → Option R), getI bo b k = k (gd bo b) := fun k => getI_gd (by omega) (by omega) k
    simp only [e1, e2, e4, e5, Bool.not_true, cond_false, Bool.true_and, bindV_eq]
    by_cases hlt : at' < (gd pu a).2
    · rw [dec_t hlt, cond_true]
      rfl
    · rw [dec_f hlt, cond_false, Bool.false_or, cond_false]
      by_cases hle : n ≤ (gd pu a).1
      · rw [dec_t hle, dec_f (p := (gd pu a).1 < n) (by omega), cond_false, if_pos rfl, wI (by omega) (by omega), wI (by omega) (by omega)]
        rfl
      · rw [dec_f hle, dec_t (p := (gd pu a).1 < n) (by omega), cond_true]
        rfl
  by_cases k3 : kd = 3
  · subst k3
    simp only [Int.reduceBEq, cond_true, cond_false]
    cases hA : rng a 0 ((st.length : Int) - 1)
    · rfl
    cases hB : rng b 0 ((pu.length : Int) - 1)
    · rfl
    rw [rng_iff] at hA hB
    have q2 := nc _ (gd_mem (l := ca) (i := a) (by omega) (by omega))
    have e4 : ∀ {R : Type} (k : Option R), inR b pu.length k = k := fun k => inR_in (by omega) (by omega) k
    have e5 : ∀ {R : Type} (k : (Int × Int) → Option R), getI pu b k = k (gd pu b) := fun k => getI_gd (by omega) (by omega) k
    have e6 : ∀ {R : Type} (k : Option R), inR a ca.length k = k := fun k => inR_in (by omega) (by omega) k
    have e7 : ∀ {R : Type} (k : Int → Option R), getI ca a k = k (gd ca a) := fun k => getI_gd (by omega) (by omega) k
    have w5 : IntKind.wrap .i64 (gd ca a + bd) = gd ca a + bd := wI (by omega) (by omega)
    simp only [e4, e5, e6, e7, w5, Bool.not_true, cond_false, Bool.true_and, bindV_eq, bne]
    cases hN : (n == 0)
    · rfl
    · rfl
  by_cases k4 : kd = 4
  · subst k4
    simp only [Int.reduceBEq, cond_true, cond_false]
    cases hA : rng a 0 ((st.length : Int) - 1)
    · rfl
    cases hB : rng b 0 ((pu.length : Int) - 1)
    · rfl
    cases hN : rng n 1 100000
    · rfl
    rw [rng_iff] at hA hB hN
    have q1 := np _ (gd_mem (l := pu) (i := b) (by omega) (by omega))
    have q2 := nc _ (gd_mem (l := ca) (i := a) (by omega) (by omega))
    have q3 := ns _ (gd_mem (l := st) (i := a) (by omega) (by omega))
    have q4 := z1 (i := a) (by omega) (by omega)
    have q5 := z2 (i := b) (by omega) (by omega)
    have m0 : 0 ≤ n * rf := Int.mul_nonneg (by omega) r0
    have m1 : n * rf ≤ 100000 * 1000 := Int.mul_le_mul hN.2 r1 r0 (by omega)
    have e1 : ∀ {R : Type} (k : Option R), inR a st.length k = k := fun k => inR_in (by omega) (by omega) k
    have e2 : ∀ {R : Type} (k : Int → Option R), getI st a k = k (gd st a) := fun k => getI_gd (by omega) (by omega) k
    have e4 : ∀ {R : Type} (k : Option R), inR b pu.length k = k := fun k => inR_in (by omega) (by omega) k
    have e5 : ∀ {R : Type} (k : (Int × Int) → Option R), getI pu b k = k (gd pu b) := fun k => getI_gd (by omega) (by omega) k
    have e6 : ∀ {R : Type} (k : Option R), inR a ca.length k = k := fun k => inR_in (by omega) (by omega) k
    have e7 : ∀ {R : Type} (k : Int → Option R), getI ca a k = k (gd ca a) := fun k => getI_gd (by omega) (by omega) k
    have w5 : IntKind.wrap .i64 (n * rf) = n * rf := wI (by omega) (by omega)
    simp only [e1, e2, e4, e5, e6, e7, w5, Bool.not_true, cond_false, Bool.true_and, bindV_eq]
    by_cases hle : n ≤ (gd pu b).1
    · rw [dec_t hle, dec_f (p := (gd pu b).1 < n) (by omega), cond_false, Bool.true_and]
      by_cases hcs : n * rf ≤ gd ca a
      · rw [dec_t hcs, dec_f (p := gd ca a < n * rf) (by omega), cond_false, if_pos rfl, wI (by omega) (by omega), wI (by omega) (by omega), wI (by omega) (by omega)]
        rfl
      · rw [dec_f hcs, dec_t (p := gd ca a < n * rf) (by omega), cond_true]
        rfl
    · rw [dec_f hle, dec_t (p := (gd pu b).1 < n) (by omega), cond_true]
      rfl
  by_cases k5 : kd = 5
  · subst k5
    simp only [Int.reduceBEq, cond_true, cond_false]
    cases hA : rng a 0 ((st.length : Int) - 1)
    · rfl
    cases hB : rng b 0 ((bo.length : Int) - 1)
    · rfl
    rw [rng_iff] at hA hB
    have q3 := ns _ (gd_mem (l := st) (i := a) (by omega) (by omega))
    have q4 := z1 (i := a) (by omega) (by omega)
    have q5 := nb _ (gd_mem (l := bo) (i := b) (by omega) (by omega))
    have q6 := z3 (i := b) (by omega) (by omega)
    have e1 : ∀ {R : Type} (k : Option R), inR a st.length k = k := fun k => inR_in (by omega) (by omega) k
    have e2 : ∀ {R : Type} (k : Int → Option R), getI st a k = k (gd st a) := fun k => getI_gd (by omega) (by omega) k
    have e4 : ∀ {R : Type} (k : Option R), inR b bo.length k = k := fun k => inR_in (by omega) (by omega) k
    have e5 : ∀ {R : Type} (k : Int → Option R), getI bo b k = k (gd bo b) := fun k => getI_gd (by omega) (by omega) k
    have w5 : IntKind.wrap .i64 (gd st a + gd bo b) = gd st a + gd bo b := wI (by omega) (by omega)
    simp only [e1, e2, e4, e5, w5, Bool.not_true, cond_false, Bool.true_and, bindV_eq, bne]
    cases hN : (n == 0)
    · rfl
    · rfl
  by_cases k6 : kd = 6
  · subst k6
    simp only [Int.reduceBEq, cond_true, cond_false]
    cases hA : rng a 0 ((pu.length : Int) - 1)
    · rfl
    cases hB : rng b 0 ((pu.length : Int) - 1)
    · rfl
    cases hab : (a == b)
    case true => rfl
    cases hN : rng n 1 100000
    · rfl
    rw [rng_iff] at hA hB hN
    have hne : a ≠ b := by simpa using hab
    have q1 := np _ (gd_mem (l := pu) (i := b) (by omega) (by omega))
    have q5 := z2 (i := b) (by omega) (by omega)
    have q6 := np _ (gd_mem (l := pu) (i := a) (by omega) (by omega))
    have q7 := z2 (i := a) (by omega) (by omega)
    have e1 : ∀ {R : Type} (k : Option R), inR a pu.length k = k := fun k => inR_in (by omega) (by omega) k
    have e2 : ∀ {R : Type} (k : (Int × Int) → Option R), getI pu a k = k (gd pu a) := fun k => getI_gd (by omega) (by omega) k
    have e3 : ∀ (v : Int × Int), gd (pu.set a.toNat v) b = gd pu b := fun v => gd_set_ne (by omega) (by omega) (Ne.symm hne)
    have e4 : ∀ {R : Type} (v : Int × Int) (k : Option R), inR b (pu.set a.toNat v).length k = k := fun v k => inR_in (by omega) (by rw [List.length_set]; omega) k
    have e5 : ∀ {R : Type} (v : Int × Int) (k : (Int × Int) → Option R), getI (pu.set a.toNat v) b k = k (gd pu b) := fun v k => by rw [getI_gd (by omega) (by rw [List.length_set]; omega), e3]
    have w5 : IntKind.wrap .i64 ((gd pu b).1 + n) = (gd pu b).1 + n := wI (by omega) (by omega)
    simp only [e1, e2, e4, e5, w5, Bool.not_true, Bool.not_false, cond_false, Bool.true_and, bindV_eq]
    by_cases hle : n ≤ (gd pu a).1
    · rw [dec_t hle, dec_f (p := (gd pu a).1 < n) (by omega), cond_false, if_pos rfl, wI (by omega) (by omega)]
      unfold mv
      rw [e3]
      rfl
    · rw [dec_f hle, dec_t (p := (gd pu a).1 < n) (by omega), cond_true]
      rfl
  by_cases k7 : kd = 7
  · subst k7
    simp only [Int.reduceBEq, cond_true, cond_false]
    cases hA : rng a 0 ((pu.length : Int) - 1)
    · rfl
    cases hB : (b == 0)
    · simp only [bne, hB]
      rfl
    cases hN : rng n 1 100000
    · simp only [bne, hB]
      rfl
    rw [rng_iff] at hA hN
    have q6 := np _ (gd_mem (l := pu) (i := a) (by omega) (by omega))
    have q7 := z2 (i := a) (by omega) (by omega)
    have e1 : ∀ {R : Type} (k : Option R), inR a pu.length k = k := fun k => inR_in (by omega) (by omega) k
    have e2 : ∀ {R : Type} (k : (Int × Int) → Option R), getI pu a k = k (gd pu a) := fun k => getI_gd (by omega) (by omega) k
    have w5 : IntKind.wrap .i64 (lo + n) = lo + n := wI (by omega) (by omega)
    simp only [e1, e2, w5, Bool.not_true, cond_false, Bool.true_and, bindV_eq, bne, hB]
    by_cases hle : n ≤ (gd pu a).1
    · rw [dec_t hle, dec_f (p := (gd pu a).1 < n) (by omega), cond_false, if_pos rfl, wI (by omega) (by omega)]
      rfl
    · rw [dec_f hle, dec_t (p := (gd pu a).1 < n) (by omega), cond_true]
      rfl
  · simp only [beq_false_of_ne k1, beq_false_of_ne k2, beq_false_of_ne k3, beq_false_of_ne k4, beq_false_of_ne k5, beq_false_of_ne k6, beq_false_of_ne k7, cond_false]
    rfl
abbrev Stand := Fair × (Cnt × (Int × Night))
def nightD (f : Fair) (c : Cnt) (d : Deal) (t : Night) : Night :=
  bif d.2.1 == 1 then (t.1 + (gd f.2.2.2.2.1 d.2.2.2.2).1, t.2.1, t.2.2.1, t.2.2.2.1, t.2.2.2.2.1, t.2.2.2.2.2 + (gd f.2.2.2.2.1 d.2.2.2.2).2)
  else bif d.2.1 == 2 then (bif decide (d.1 < (gd c.2.2.1 d.2.2.1).2) then t else (t.1, t.2.1 + d.2.2.2.2, t.2.2.1, t.2.2.2.1, t.2.2.2.2.1, t.2.2.2.2.2))
  else bif d.2.1 == 3 then (t.1, t.2.1, t.2.2.1, t.2.2.2.1, t.2.2.2.2.1, t.2.2.2.2.2 + f.2.2.2.2.2.2.1)
  else bif d.2.1 == 4 then (t.1, t.2.1, t.2.2.1 + d.2.2.2.2, t.2.2.2.1, t.2.2.2.2.1, t.2.2.2.2.2 + -(d.2.2.2.2 * f.2.2.2.2.2.1))
  else bif d.2.1 == 7 then (t.1, t.2.1, t.2.2.1, t.2.2.2.1, t.2.2.2.2.1 + d.2.2.2.2, t.2.2.2.2.2)
  else t
structure NInv (t : Night) (k : Nat) : Prop where
  s0 : 0 ≤ t.1
  s1 : t.1 ≤ 100000 * k
  t0 : 0 ≤ t.2.1
  t1 : t.2.1 ≤ 100000 * k
  r0 : 0 ≤ t.2.2.1
  r1 : t.2.2.1 ≤ 100000 * k
  h : t.2.2.2.1 = 0
  l0 : 0 ≤ t.2.2.2.2.1
  l1 : t.2.2.2.2.1 ≤ 100000 * k
  c0 : -(100000000 * (k : Int)) ≤ t.2.2.2.2.2
  c1 : t.2.2.2.2.2 ≤ 1000000 * k
def nt0 : Night := (0, 0, 0, 0, 0, 0)
theorem NInv.zero : NInv nt0 0 := ⟨by decide, by decide, by decide, by decide, by decide, by decide, rfl, by decide, by decide, by decide, by decide⟩
theorem NInv.step {f : Fair} (hf : Ok f) {c : Cnt} {k : Nat} (h : Inv f c k) {t : Night} (ht : NInv t k) {d : Deal} (hd : okD f c d = true) : NInv (nightD f c d t) (k + 1) := by
  obtain ⟨P, X, S, C, Bs, rf, bd, hr⟩ := f
  obtain ⟨st, ca, pu, bo, lo⟩ := c
  obtain ⟨at', kd, a, b, n⟩ := d
  obtain ⟨sd, tk, rt, he, ls, cs⟩ := t
  obtain ⟨a0, a1, a2, a3, a4, a5, a6, a7, a8, a9, a10⟩ := ht
  obtain ⟨s1, s8, c8, p0, p1, b0, b1, hst, hca, r0, r1, d0, d1, h0, h1, fine, six, _⟩ := hf
  unfold okD at hd
  unfold nightD
  simp only at *
  by_cases k1 : kd = 1
  · subst k1
    simp only [Int.reduceBEq, cond_true, Bool.and_eq_true, rng_iff, decide_eq_true_eq] at hd ⊢
    obtain ⟨hA, hB, hN, hle⟩ := hd
    have hb := fine _ (gd_mem (l := Bs) (i := n) (by omega) (by omega))
    refine ⟨?_, ?_, ?_, ?_, ?_, ?_, ?_, ?_, ?_, ?_, ?_⟩ <;> simp only <;> omega
  by_cases k2 : kd = 2
  · subst k2
    simp only [Int.reduceBEq, cond_true, cond_false, Bool.and_eq_true, rng_iff] at hd ⊢
    obtain ⟨hA, hB, hN, hle⟩ := hd
    cases decide (at' < (gd pu a).2) <;> refine ⟨?_, ?_, ?_, ?_, ?_, ?_, ?_, ?_, ?_, ?_, ?_⟩ <;> simp only [cond_true, cond_false] <;> omega
  by_cases k3 : kd = 3
  · subst k3
    simp only [Int.reduceBEq, cond_true, cond_false]
    refine ⟨?_, ?_, ?_, ?_, ?_, ?_, ?_, ?_, ?_, ?_, ?_⟩ <;> simp only <;> omega
  by_cases k4 : kd = 4
  · subst k4
    simp only [Int.reduceBEq, cond_true, cond_false, Bool.and_eq_true, rng_iff, decide_eq_true_eq] at hd ⊢
    obtain ⟨hA, hB, hN, hle, hcs⟩ := hd
    have m0 : 0 ≤ n * rf := Int.mul_nonneg (by omega) r0
    have m1 : n * rf ≤ 100000 * 1000 := Int.mul_le_mul hN.2 r1 r0 (by omega)
    refine ⟨?_, ?_, ?_, ?_, ?_, ?_, ?_, ?_, ?_, ?_, ?_⟩ <;> simp only <;> omega
  by_cases k7 : kd = 7
  · subst k7
    simp only [Int.reduceBEq, cond_true, cond_false, Bool.and_eq_true, rng_iff] at hd ⊢
    obtain ⟨hA, hB, hN, hle⟩ := hd
    refine ⟨?_, ?_, ?_, ?_, ?_, ?_, ?_, ?_, ?_, ?_, ?_⟩ <;> simp only <;> omega
  · simp only [beq_false_of_ne k1, beq_false_of_ne k2, beq_false_of_ne k3, beq_false_of_ne k4, beq_false_of_ne k7, cond_false]
    refine ⟨?_, ?_, ?_, ?_, ?_, ?_, ?_, ?_, ?_, ?_, ?_⟩ <;> simp only <;> omega
theorem g77_eq (s : Stand) (n : Int) (h : s.2.1.1.length ≤ 1000) : g77 (s, n, ()) = some ((rng n 0 ((s.2.1.1.length : Int) - 1), ()), ()) := by
  show F77 fuel s n = _
  unfold F77
  rw [wI (by omega) (by omega), g42_eq]
  rfl
theorem g78_eq (s : Stand) (n : Int) (h0 : 0 ≤ s.1.1) (h : s.1.1 ≤ 1000) : g78 (s, n, ()) = some ((rng n 0 (s.1.1 - 1), ()), ()) := by
  show F78 fuel s n = _
  unfold F78
  rw [wI (by omega) (by omega), g42_eq]
  rfl
theorem g79_eq (s : Stand) (n : Int) (h0 : 0 ≤ s.1.2.1) (h : s.1.2.1 ≤ 1000) : g79 (s, n, ()) = some ((rng n 0 (s.1.2.1 - 1), ()), ()) := by
  show F79 fuel s n = _
  unfold F79
  rw [wI (by omega) (by omega), g42_eq]
  rfl
theorem g80_eq (s : Stand) (p t : Int) (h0 : 0 ≤ p) (h : p < s.2.1.2.2.1.length) : g80 (s, p, t, ()) = some ((decide (t < (gd s.2.1.2.2.1 p).2), ()), ()) := by
  show F80 fuel s p t = _
  unfold F80
  rw [getI_gd h0 h]
theorem g81_eq (s : Stand) (p n : Int) (h0 : 0 ≤ s.1.1) (h : s.1.1 ≤ 1000) (hl : (s.2.1.2.2.1.length : Int) = s.1.1) : g81 (s, p, n, ()) = some ((rng p 0 (s.1.1 - 1) && rng n 1 (gd s.2.1.2.2.1 p).1, ()), ()) := by
  show F81 fuel s p n = _
  unfold F81
  rw [g78_eq s p h0 h, derefK_some]
  simp only
  cases hp : rng p 0 (s.1.1 - 1)
  · rfl
  rw [rng_iff] at hp
  rw [cond_true, getI_gd (by omega) (by omega), g42_eq]
  rfl
theorem rng_le {n lo hi m : Int} (h : n ≤ m) : rng n lo hi = (rng n lo m && decide (n ≤ hi)) := by
  unfold rng
  by_cases h1 : lo ≤ n
  · rw [dec_t h1, dec_t h]
    rfl
  · rw [dec_f h1]
    rfl
theorem rng_big {n lo hi : Int} (h : ¬ n ≤ hi) : rng n lo hi = false := rng_f.2 (by omega)
theorem g72_eq {f : Fair} (hf : Ok f) {c : Cnt} {k : Nat} (h : Inv f c k) (last : Int) (t : Night) (d : Deal) : g72 ((f, (c, (last, t))), d, ()) = some ((rng d.1 last 1440 && okD f c d, ()), ()) := by
  have e0 : g72 ((f, (c, (last, t))), d, ()) = F72 fuel (f, (c, (last, t))) d := rfl
  rw [e0]
  obtain ⟨P, X, S, C, Bs, rf, bd, hr⟩ := f
  obtain ⟨st, ca, pu, bo, lo⟩ := c
  obtain ⟨at', kd, a, b, n⟩ := d
  obtain ⟨ls, lc, lp, lb, ns, nc, np, nb, nl, tt⟩ := h
  obtain ⟨s1, s8, c8, p0, p1, b0, b1, hst, hca, r0, r1, d0, d1, h0, h1, fine, six, _⟩ := hf
  simp only at *
  have e1 : ∀ n, g77 (((P, X, S, C, Bs, rf, bd, hr), ((st, ca, pu, bo, lo), (last, t))), n, ()) = some ((rng n 0 ((st.length : Int) - 1), ()), ()) := fun n => g77_eq _ n (by simp only; omega)
  have e2 : ∀ n, g78 (((P, X, S, C, Bs, rf, bd, hr), ((st, ca, pu, bo, lo), (last, t))), n, ()) = some ((rng n 0 ((pu.length : Int) - 1), ()), ()) := fun n => by
    rw [show (pu.length : Int) = P by omega]
    exact g78_eq _ n p0 (by simp only; omega)
  have e3 : ∀ n, g79 (((P, X, S, C, Bs, rf, bd, hr), ((st, ca, pu, bo, lo), (last, t))), n, ()) = some ((rng n 0 ((bo.length : Int) - 1), ()), ()) := fun n => by
    rw [show (bo.length : Int) = X by omega]
    exact g79_eq _ n b0 (by simp only; omega)
  have e4 : ∀ p n, g81 (((P, X, S, C, Bs, rf, bd, hr), ((st, ca, pu, bo, lo), (last, t))), p, n, ()) = some ((rng p 0 ((pu.length : Int) - 1) && rng n 1 (gd pu p).1, ()), ()) := fun p n => by
    rw [show (pu.length : Int) = P by omega]
    exact g81_eq _ p n p0 (by simp only; omega) (by simp only; omega)
  unfold F72 okD
  have w4 : IntKind.wrap .i64 ((Bs.length : Int) - 1) = (Bs.length : Int) - 1 := wI (by omega) (by omega)
  simp only [g42_eq, derefK_some, e1, e2, e3, e4, w4]
  cases rng at' last 1440
  · rfl
  simp only [Bool.not_true, cond_false, Bool.true_and]
  by_cases hn : n > 100000
  · rw [dec_t hn, cond_true]
    by_cases k1 : kd = 1
    · subst k1
      simp only [Int.reduceBEq, cond_true]
      rw [rng_big (n := n) (hi := (Bs.length : Int) - 1) (by omega)]
      cases rng a 0 ((st.length : Int) - 1) <;> cases rng b 0 ((pu.length : Int) - 1) <;> rfl
    by_cases k2 : kd = 2
    · subst k2
      simp only [Int.reduceBEq, cond_true, cond_false]
      rw [rng_big (n := n) (hi := 1000) (by omega)]
      cases rng a 0 ((pu.length : Int) - 1) <;> cases rng b 0 ((bo.length : Int) - 1) <;> rfl
    rw [rng_big (n := n) (hi := 100000) (by omega), beq_false_of_ne (show n ≠ 0 by omega), beq_false_of_ne k1, beq_false_of_ne k2]
    simp only [Bool.false_and, Bool.and_false, cond_false]
    cases kd == 3 <;> cases kd == 4 <;> cases kd == 5 <;> cases kd == 6 <;> cases kd == 7 <;> rfl
  rw [dec_f hn, cond_false]
  have e5 : ∀ p, rng n 1 (gd pu p).1 = (rng n 1 100000 && decide (n ≤ (gd pu p).1)) := fun p => rng_le (by omega)
  simp only [e5]
  by_cases k1 : kd = 1
  · subst k1
    simp only [Int.reduceBEq, cond_true]
    cases hA : rng a 0 ((st.length : Int) - 1)
    · rfl
    cases hB : rng b 0 ((pu.length : Int) - 1)
    · rfl
    cases hN : rng n 0 ((Bs.length : Int) - 1)
    · rfl
    rw [rng_iff] at hA hB hN
    simp only [cond_true, Bool.true_and]
    rw [getI_gd (by omega) (by omega), getI_gd (by omega) (by omega)]
  by_cases k2 : kd = 2
  · subst k2
    simp only [Int.reduceBEq, cond_true, cond_false]
    cases hA : rng a 0 ((pu.length : Int) - 1)
    · rfl
    cases hB : rng b 0 ((bo.length : Int) - 1)
    · rfl
    cases hN : rng n 0 1000
    · rfl
    rw [rng_iff] at hA hB hN
    simp only [cond_true, Bool.true_and]
    rw [g80_eq _ _ _ (by omega) (by simp only; omega), derefK_some, getI_gd (by omega) (by omega)]
    cases decide (at' < (gd pu a).2) <;> rfl
  by_cases k3 : kd = 3
  · subst k3
    simp only [Int.reduceBEq, cond_true, cond_false]
    cases hA : rng a 0 ((st.length : Int) - 1)
    · rfl
    cases hB : rng b 0 ((pu.length : Int) - 1) <;> rfl
  by_cases k4 : kd = 4
  · subst k4
    simp only [Int.reduceBEq, cond_true, cond_false]
    cases hA : rng a 0 ((st.length : Int) - 1)
    · rfl
    cases hB : rng b 0 ((pu.length : Int) - 1)
    · rfl
    cases hN : rng n 1 100000
    · rfl
    cases hle : decide (n ≤ (gd pu b).1)
    · rfl
    rw [rng_iff] at hA hB hN
    have m0 : 0 ≤ n * rf := Int.mul_nonneg (by omega) r0
    have m1 : n * rf ≤ 100000 * 1000 := Int.mul_le_mul hN.2 r1 r0 (by omega)
    simp only [cond_true, Bool.true_and, bindV_eq]
    rw [getI_gd (by omega) (by omega), wI (by omega) (by omega)]
  by_cases k5 : kd = 5
  · subst k5
    simp only [Int.reduceBEq, cond_true, cond_false]
    cases hA : rng a 0 ((st.length : Int) - 1)
    · rfl
    cases hB : rng b 0 ((bo.length : Int) - 1) <;> rfl
  by_cases k6 : kd = 6
  · subst k6
    simp only [Int.reduceBEq, cond_true, cond_false]
    cases rng a 0 ((pu.length : Int) - 1) <;> cases rng b 0 ((pu.length : Int) - 1) <;> cases rng n 1 100000 <;> cases decide (n ≤ (gd pu a).1) <;> cases hab : (a == b) <;> simp [bne, hab]
  by_cases k7 : kd = 7
  · subst k7
    simp only [Int.reduceBEq, cond_true, cond_false]
    cases rng a 0 ((pu.length : Int) - 1) <;> cases rng n 1 100000 <;> cases decide (n ≤ (gd pu a).1) <;> cases hab : (b == 0) <;> simp
  · simp only [beq_false_of_ne k1, beq_false_of_ne k2, beq_false_of_ne k3, beq_false_of_ne k4, beq_false_of_ne k5, beq_false_of_ne k6, beq_false_of_ne k7, cond_false]
theorem g82_eq (f : Fair) (c : Cnt) (last : Int) (t : Night) (i v : Int) (h0 : 0 ≤ i) (h : i < c.2.1.length) (w1 : IntKind.wrap .i64 (gd c.2.1 i + v) = gd c.2.1 i + v) (w2 : IntKind.wrap .i64 (t.2.2.2.2.2 + v) = t.2.2.2.2.2 + v) :
    g82 ((f, (c, (last, t))), i, v, ()) = some ((), ((f, ((c.1, (ad c.2.1 i v, c.2.2)), (last, (t.1, t.2.1, t.2.2.1, t.2.2.2.1, t.2.2.2.2.1, t.2.2.2.2.2 + v)))), ())) := by
  show F82 fuel (f, (c, (last, t))) i v = _
  unfold F82
  simp only [bindV_eq]
  rw [inR_in h0 h, getI_gd h0 h, inR_in h0 h, getI_gd h0 h, w1, w2]
  rfl
theorem g73_eq {f : Fair} (hf : Ok f) {c : Cnt} {k : Nat} (h : Inv f c k) (hk : k ≤ 1000) (last : Int) {t : Night} (ht : NInv t k) {d : Deal} (hd : okD f c d = true) :
    g73 ((f, (c, (last, t))), d, ()) = some ((), ((f, (stepD f c d, (d.1, nightD f c d t))), ())) := by
  have e0 : g73 ((f, (c, (last, t))), d, ()) = F73 fuel (f, (c, (last, t))) d := rfl
  rw [e0]
  obtain ⟨P, X, S, C, Bs, rf, bd, hr⟩ := f
  obtain ⟨st, ca, pu, bo, lo⟩ := c
  obtain ⟨at', kd, a, b, n⟩ := d
  obtain ⟨sd, tk, rt, he, ls', cs⟩ := t
  obtain ⟨a0, a1, a2, a3, a4, a5, a6, a7, a8, a9, a10⟩ := ht
  obtain ⟨ls, lc, lp, lb, ns, nc, np, nb, nl, tt⟩ := h
  have hsum := hf.sum
  obtain ⟨s1, s8, c8, p0, p1, b0, b1, hst, hca, r0, r1, d0, d1, h0, h1, fine, six, _⟩ := hf
  have n1 := sum_nn ns
  have n2 := sumP_nn np
  have n3 := sum_nn nb
  have z1 : ∀ {i : Int}, 0 ≤ i → i < st.length → gd st i ≤ st.sum := fun h1 h2 => mem_le_sum ns (gd_mem h1 h2)
  have z2 : ∀ {i : Int}, 0 ≤ i → i < pu.length → (gd pu i).1 ≤ sumP pu := fun h1 h2 => mem_le_sumP np (gd_mem h1 h2)
  have z3 : ∀ {i : Int}, 0 ≤ i → i < bo.length → gd bo i ≤ bo.sum := fun h1 h2 => mem_le_sum nb (gd_mem h1 h2)
  unfold tot at tt
  unfold okD at hd
  unfold F73 stepD nightD
  simp only at *
  by_cases k1 : kd = 1
  · subst k1
    simp only [Int.reduceBEq, cond_true, Bool.and_eq_true, rng_iff, decide_eq_true_eq] at hd ⊢
    obtain ⟨hA, hB, hN, hle⟩ := hd
    have hb := fine _ (gd_mem (l := Bs) (i := n) (by omega) (by omega))
    have q1 := np _ (gd_mem (l := pu) (i := b) (by omega) (by omega))
    have q2 := nc _ (gd_mem (l := ca) (i := a) (by omega) (by omega))
    have q3 := ns _ (gd_mem (l := st) (i := a) (by omega) (by omega))
    have q4 := z1 (i := a) (by omega) (by omega)
    have q5 := z2 (i := b) (by omega) (by omega)
    have e1 : ∀ {R : Type} (k : Option R), inR a st.length k = k := fun k => inR_in (by omega) (by omega) k
    have e2 : ∀ {R : Type} (k : Int → Option R), getI st a k = k (gd st a) := fun k => getI_gd (by omega) (by omega) k
    have e3 : ∀ {R : Type} (k : Bun → Option R), getI Bs n k = k (gd Bs n) := fun k => getI_gd (by omega) (by omega) k
    have e4 : ∀ {R : Type} (k : Option R), inR b pu.length k = k := fun k => inR_in (by omega) (by omega) k
    have e5 : ∀ {R : Type} (k : (Int × Int) → Option R), getI pu b k = k (gd pu b) := fun k => getI_gd (by omega) (by omega) k
    have w5 : IntKind.wrap .i64 (gd st a - (gd Bs n).1) = gd st a - (gd Bs n).1 := wI (by omega) (by omega)
    have w6 : IntKind.wrap .i64 ((gd pu b).1 + (gd Bs n).1) = (gd pu b).1 + (gd Bs n).1 := wI (by omega) (by omega)
    have w7 : IntKind.wrap .i64 (sd + (gd Bs n).1) = sd + (gd Bs n).1 := wI (by omega) (by omega)
    simp only [enumK_eq, bindV_eq, e3, agreeK_two, agreeK_one, e1, e2, e4, e5, w5, w6, w7]
    rw [g82_eq _ _ _ _ _ _ (by omega) (by simp only; omega) (wI (by simp only; omega) (by simp only; omega)) (wI (by simp only; omega) (by simp only; omega))]
    rfl
  by_cases k2 : kd = 2
  · subst k2
    simp only [Int.reduceBEq, cond_true, cond_false, Bool.and_eq_true, Bool.or_eq_true, rng_iff, decide_eq_true_eq] at hd ⊢
    obtain ⟨hA, hB, hN, hle⟩ := hd
    have q1 := np _ (gd_mem (l := pu) (i := a) (by omega) (by omega))
    have q2 := nb _ (gd_mem (l := bo) (i := b) (by omega) (by omega))
    have q4 := z3 (i := b) (by omega) (by omega)
    have q5 := z2 (i := a) (by omega) (by omega)
    have e1 : ∀ {R : Type} (k : Option R), inR a pu.length k = k := fun k => inR_in (by omega) (by omega) k
    have e2 : ∀ {R : Type} (k : (Int × Int) → Option R), getI pu a k = k (gd pu a) := fun k => getI_gd (by omega) (by omega) k
    have e4 : ∀ {R : Type} (k : Option R), inR b bo.length k = k := fun k => inR_in (by omega) (by omega) k
    have e5 : ∀ {R : Type} (k : Int → Option R), getI bo b k = k (gd bo b) := fun k => getI_gd (by omega) (by omega) k
    rw [g80_eq _ _ _ (by omega) (by simp only; omega), derefK_some]
    simp only [e1, e2, e4, e5, bindV_eq]
    by_cases hlt : at' < (gd pu a).2
    · rw [dec_t hlt, cond_true]
      rfl
    · rw [dec_f hlt, cond_false, cond_false, cond_false, wI (by omega) (by omega), wI (by omega) (by omega), wI (by omega) (by omega)]
      rfl
  by_cases k3 : kd = 3
  · subst k3
    simp only [Int.reduceBEq, cond_true, cond_false, Bool.and_eq_true, rng_iff, beq_iff_eq] at hd ⊢
    obtain ⟨hA, hB, hN⟩ := hd
    have q2 := nc _ (gd_mem (l := ca) (i := a) (by omega) (by omega))
    have e4 : ∀ {R : Type} (k : Option R), inR b pu.length k = k := fun k => inR_in (by omega) (by omega) k
    have e5 : ∀ {R : Type} (k : (Int × Int) → Option R), getI pu b k = k (gd pu b) := fun k => getI_gd (by omega) (by omega) k
    simp only [e4, e5, bindV_eq]
    rw [g82_eq _ _ _ _ _ _ (by omega) (by simp only; omega) (wI (by simp only; omega) (by simp only; omega)) (wI (by simp only; omega) (by simp only; omega))]
    rfl
  by_cases k4 : kd = 4
  · subst k4
    simp only [Int.reduceBEq, cond_true, cond_false, Bool.and_eq_true, rng_iff, decide_eq_true_eq] at hd ⊢
    obtain ⟨hA, hB, hN, hle, hcs⟩ := hd
    have q1 := np _ (gd_mem (l := pu) (i := b) (by omega) (by omega))
    have q2 := nc _ (gd_mem (l := ca) (i := a) (by omega) (by omega))
    have q3 := ns _ (gd_mem (l := st) (i := a) (by omega) (by omega))
    have q4 := z1 (i := a) (by omega) (by omega)
    have q5 := z2 (i := b) (by omega) (by omega)
    have m0 : 0 ≤ n * rf := Int.mul_nonneg (by omega) r0
    have m1 : n * rf ≤ 100000 * 1000 := Int.mul_le_mul hN.2 r1 r0 (by omega)
    have e1 : ∀ {R : Type} (k : Option R), inR a st.length k = k := fun k => inR_in (by omega) (by omega) k
    have e2 : ∀ {R : Type} (k : Int → Option R), getI st a k = k (gd st a) := fun k => getI_gd (by omega) (by omega) k
    have e4 : ∀ {R : Type} (k : Option R), inR b pu.length k = k := fun k => inR_in (by omega) (by omega) k
    have e5 : ∀ {R : Type} (k : (Int × Int) → Option R), getI pu b k = k (gd pu b) := fun k => getI_gd (by omega) (by omega) k
    have w5 : IntKind.wrap .i64 ((gd pu b).1 - n) = (gd pu b).1 - n := wI (by omega) (by omega)
    have w6 : IntKind.wrap .i64 (gd st a + n) = gd st a + n := wI (by omega) (by omega)
    have w7 : IntKind.wrap .i64 (rt + n) = rt + n := wI (by omega) (by omega)
    have w8 : IntKind.wrap .i64 (0 - n) = 0 - n := wI (by omega) (by omega)
    have m2 : (0 - n) * rf = -(n * rf) := by rw [Int.sub_mul, Int.zero_mul, Int.zero_sub]
    have w9 : IntKind.wrap .i64 (-(n * rf)) = -(n * rf) := wI (by omega) (by omega)
    simp only [e1, e2, e4, e5, w5, w6, w7, w8, m2, w9, bindV_eq]
    rw [g82_eq _ _ _ _ _ _ (by omega) (by simp only; omega) (wI (by simp only; omega) (by simp only; omega)) (wI (by simp only; omega) (by simp only; omega))]
    rfl
  by_cases k5 : kd = 5
  · subst k5
    simp only [Int.reduceBEq, cond_true, cond_false, Bool.and_eq_true, rng_iff, beq_iff_eq] at hd ⊢
    obtain ⟨hA, hB, hN⟩ := hd
    have q3 := ns _ (gd_mem (l := st) (i := a) (by omega) (by omega))
    have q4 := z1 (i := a) (by omega) (by omega)
    have q5 := nb _ (gd_mem (l := bo) (i := b) (by omega) (by omega))
    have q6 := z3 (i := b) (by omega) (by omega)
    have e1 : ∀ {R : Type} (k : Option R), inR a st.length k = k := fun k => inR_in (by omega) (by omega) k
    have e2 : ∀ {R : Type} (k : Int → Option R), getI st a k = k (gd st a) := fun k => getI_gd (by omega) (by omega) k
    have e4 : ∀ {R : Type} (k : Option R), inR b bo.length k = k := fun k => inR_in (by omega) (by omega) k
    have e5 : ∀ {R : Type} (k : Int → Option R), getI bo b k = k (gd bo b) := fun k => getI_gd (by omega) (by omega) k
    have w5 : IntKind.wrap .i64 (gd st a + gd bo b) = gd st a + gd bo b := wI (by omega) (by omega)
    simp only [e1, e2, e4, e5, w5, bindV_eq]
    rfl
  by_cases k6 : kd = 6
  · subst k6
    simp only [Int.reduceBEq, cond_true, cond_false, Bool.and_eq_true, rng_iff, decide_eq_true_eq, Bool.not_eq_true', beq_eq_false_iff_ne] at hd ⊢
    obtain ⟨hA, hB, hne, hN, hle⟩ := hd
    have q1 := np _ (gd_mem (l := pu) (i := b) (by omega) (by omega))
    have q5 := z2 (i := b) (by omega) (by omega)
    have q7 := z2 (i := a) (by omega) (by omega)
    have e1 : ∀ {R : Type} (k : Option R), inR a pu.length k = k := fun k => inR_in (by omega) (by omega) k
    have e2 : ∀ {R : Type} (k : (Int × Int) → Option R), getI pu a k = k (gd pu a) := fun k => getI_gd (by omega) (by omega) k
    have e3 : ∀ (v : Int × Int), gd (pu.set a.toNat v) b = gd pu b := fun v => gd_set_ne (by omega) (by omega) (Ne.symm hne)
    have e4 : ∀ {R : Type} (v : Int × Int) (k : Option R), inR b (pu.set a.toNat v).length k = k := fun v k => inR_in (by omega) (by rw [List.length_set]; omega) k
    have e5 : ∀ {R : Type} (v : Int × Int) (k : (Int × Int) → Option R), getI (pu.set a.toNat v) b k = k (gd pu b) := fun v k => by rw [getI_gd (by omega) (by rw [List.length_set]; omega), e3]
    have w5 : IntKind.wrap .i64 ((gd pu b).1 + n) = (gd pu b).1 + n := wI (by omega) (by omega)
    have w6 : IntKind.wrap .i64 ((gd pu a).1 - n) = (gd pu a).1 - n := wI (by omega) (by omega)
    simp only [e1, e2, e4, e5, w5, w6, bindV_eq]
    unfold mv
    rw [e3]
    rfl
  by_cases k7 : kd = 7
  · subst k7
    simp only [Int.reduceBEq, cond_true, cond_false, Bool.and_eq_true, rng_iff, decide_eq_true_eq, beq_iff_eq] at hd ⊢
    obtain ⟨hA, hB, hN, hle⟩ := hd
    have q6 := np _ (gd_mem (l := pu) (i := a) (by omega) (by omega))
    have q7 := z2 (i := a) (by omega) (by omega)
    have e1 : ∀ {R : Type} (k : Option R), inR a pu.length k = k := fun k => inR_in (by omega) (by omega) k
    have e2 : ∀ {R : Type} (k : (Int × Int) → Option R), getI pu a k = k (gd pu a) := fun k => getI_gd (by omega) (by omega) k
    have w5 : IntKind.wrap .i64 (lo + n) = lo + n := wI (by omega) (by omega)
    have w6 : IntKind.wrap .i64 ((gd pu a).1 - n) = (gd pu a).1 - n := wI (by omega) (by omega)
    have w7 : IntKind.wrap .i64 (ls' + n) = ls' + n := wI (by omega) (by omega)
    simp only [e1, e2, w5, w6, w7, bindV_eq]
    rfl
  · simp only [beq_false_of_ne k1, beq_false_of_ne k2, beq_false_of_ne k3, beq_false_of_ne k4, beq_false_of_ne k5, beq_false_of_ne k6, beq_false_of_ne k7, cond_false] at hd
    cases hd
def first (n : Nat) (q : Nat → Bool) : Option Nat := (List.range n).find? q
theorem first_none {n : Nat} {q : Nat → Bool} : first n q = none ↔ ∀ j, j < n → q j = false := by
  unfold first
  rw [List.find?_eq_none]
  simp
theorem first_some {n : Nat} {q : Nat → Bool} {i : Nat} : first n q = some i ↔ i < n ∧ q i = true ∧ ∀ j, j < i → q j = false := by
  unfold first
  rw [List.find?_range_eq_some]
  simp only [List.mem_range, Bool.not_eq_true']
  constructor
  · rintro ⟨h1, h2, h3⟩; exact ⟨h2, h1, h3⟩
  · rintro ⟨h1, h2, h3⟩; exact ⟨h2, h1, h3⟩
theorem loopFirst {D R : Type} {L : Nat → D → Option R} (mk : Nat → D) (n : Nat) (q : Nat → Bool) (hit : Nat → R) (e : R) (c : Nat) {N : Nat} (hN : n + c < N)
    (hend : ∀ N, (∀ j, j < n → q j = false) → L (N + 1) (mk n) = some e)
    (hstep : ∀ N i, c ≤ N → i < n → (∀ j, j < i → q j = false) → L (N + 1) (mk i) = bif q i then some (hit i) else L N (mk (i + 1))) :
    L N (mk 0) = some (match first n q with | some i => hit i | none => e) := by
  have key : ∀ (d i : Nat) (N : Nat), i + d = n → d + c < N → (∀ j, j < i → q j = false) → L N (mk i) = some (match first n q with | some i => hit i | none => e) := by
    intro d
    induction d with
    | zero =>
      intro i N hi hN hq
      obtain ⟨m, rfl⟩ : ∃ m, N = m + 1 := ⟨N - 1, by omega⟩
      obtain rfl : i = n := by omega
      rw [hend m hq, first_none.2 hq]
    | succ d ih =>
      intro i N hi hN hq
      obtain ⟨m, rfl⟩ : ∃ m, N = m + 1 := ⟨N - 1, by omega⟩
      rw [hstep m i (by omega) (by omega) hq]
      cases h : q i with
      | true => rw [cond_true, first_some.2 ⟨by omega, h, hq⟩]
      | false =>
        rw [cond_false]
        refine ih (i + 1) m (by omega) (by omega) fun j hj => ?_
        by_cases e : j = i
        · rw [e, h]
        · exact hq j (by omega)
  exact key n 0 N (by omega) hN fun j hj => absurd hj (by omega)
def stC (f : Fair) (l : List Deal) : Nat → Cnt
  | 0 => cnt0 f
  | i + 1 => stepD f (stC f l i) (gd l (i : Int))
def stT (f : Fair) (l : List Deal) : Nat → Night
  | 0 => nt0
  | i + 1 => nightD f (stC f l i) (gd l (i : Int)) (stT f l i)
def lastT (l : List Deal) : Nat → Int
  | 0 => 0
  | i + 1 => (gd l (i : Int)).1
def bad (f : Fair) (l : List Deal) (i : Nat) : Bool := !(rng (gd l (i : Int)).1 (lastT l i) 1440 && okD f (stC f l i) (gd l (i : Int)))
theorem Inv.all {f : Fair} (hf : Ok f) (l : List Deal) : ∀ i : Nat, (∀ j, j < i → bad f l j = false) → Inv f (stC f l i) i
  | 0, _ => .zero hf
  | i + 1, h => by
    refine (Inv.all hf l i fun j hj => h j (by omega)).step hf ?_
    have := h i (by omega)
    unfold bad at this
    rw [Bool.not_eq_false', Bool.and_eq_true] at this
    exact this.2
theorem NInv.all {f : Fair} (hf : Ok f) (l : List Deal) : ∀ i : Nat, (∀ j, j < i → bad f l j = false) → NInv (stT f l i) i
  | 0, _ => .zero
  | i + 1, h => by
    refine (NInv.all hf l i fun j hj => h j (by omega)).step hf (Inv.all hf l i fun j hj => h j (by omega)) ?_
    have := h i (by omega)
    unfold bad at this
    rw [Bool.not_eq_false', Bool.and_eq_true] at this
    exact this.2
def stand (f : Fair) (l : List Deal) (i : Nat) : Stand := (f, (stC f l i, (lastT l i, stT f l i)))
theorem g76_eq (l : List Int) (h : l.length ≤ 1000000) : g76 (l, ()) = some ((l, ()), ()) := by
  show F76 fuel l = _
  unfold F76
  refine nilK_of (fun h0 => ?_) ?_
  · rw [List.length_eq_zero_iff.1 h0]; rfl
  · rw [cond_false, lenK_in (by simp <;> omega) (by simp <;> omega), List.nil_append]
theorem g71_eq {f : Fair} (hf : Ok f) : g71 (f, ()) = some ((stand f [] 0, ()), ()) := by
  have e0 : g71 (f, ()) = F71 fuel f := rfl
  rw [e0]
  have h1 := hf.s8
  have h2 := hf.c8
  have h3 := hf.p0
  have h4 := hf.p1
  have h5 := hf.b0
  have h6 := hf.b1
  have e1 : g76 (f.2.2.1, ()) = some ((f.2.2.1, ()), ()) := g76_eq _ (by omega)
  have e2 : g76 (f.2.2.2.1, ()) = some ((f.2.2.2.1, ()), ()) := g76_eq _ (by omega)
  have l1 : ∀ {R : Type} (k : Option R), leK 0 f.1 k = k := fun k => leK_in h3 k
  have l2 : ∀ {R : Type} (k : Option R), leK f.1 f.1 k = k := fun k => leK_in (Int.le_refl _) k
  have l3 : ∀ {R : Type} (k : Option R), lenK f.1 k = k := fun k => lenK_in h3 (by omega) k
  have l4 : ∀ {R : Type} (k : Option R), leK 0 f.2.1 k = k := fun k => leK_in h5 k
  have l5 : ∀ {R : Type} (k : Option R), leK f.2.1 f.2.1 k = k := fun k => leK_in (Int.le_refl _) k
  have l6 : ∀ {R : Type} (k : Option R), lenK f.2.1 k = k := fun k => lenK_in h5 (by omega) k
  unfold F71
  simp only [enumK_eq, e1, e2, derefK_some, l1, l2, l3, l4, l5, l6, bindV_eq, agreeK_two, agreeK_one]
  rfl
def resL (f : Fair) (l : List Deal) : ((Option Stand × Int × Int × Unit) × Unit × Unit) ⊕ (Unit × (Stand × Unit) × Unit) :=
  match first l.length (bad f l) with
  | some i => .inl ((none, (i : Int), 11, ()), (), ())
  | none => .inr ((), (stand f l l.length, ()), ())
theorem loop52 {f : Fair} (hf : Ok f) (l : List Deal) (hl : l.length ≤ 200) : L52_8 fuel ((l, (l.length : Int), 0, ()), (stand f [] 0, ()), ()) = some (resL f l) := by
  have hfu := fuel_ge
  have h := loopFirst (L := L52_8) (fun i => ((l, (l.length : Int), (i : Int), ()), (stand f l i, ()), ())) l.length (bad f l) (fun i => .inl ((none, (i : Int), 11, ()), (), ())) (.inr ((), (stand f l l.length, ()), ())) 0 (N := fuel) (by omega)
    (fun N _ => by simp only [L52_8, B52_8]; rw [dec_f (by omega), cond_false])
    (fun N i _ hi hb => by
      have hI := Inv.all hf l i hb
      simp only [L52_8, B52_8]
      rw [dec_t (by omega), cond_true, getI_gd (by omega) (by omega)]
      have e := g72_eq hf hI (lastT l i) (stT f l i) (gd l (i : Int))
      have e' : g72 (stand f l i, gd l (i : Int), ()) = _ := e
      rw [e', derefK_some]
      unfold bad
      cases hg : (rng (gd l (i : Int)).1 (lastT l i) 1440 && okD f (stC f l i) (gd l (i : Int)))
      · rfl
      · rw [Bool.and_eq_true] at hg
        have e2 := g73_eq hf hI (by omega) (lastT l i) (NInv.all hf l i hb) hg.2
        have e2' : g73 (stand f l i, gd l (i : Int), ()) = some ((), (stand f l (i + 1), ())) := e2
        simp only [Bool.not_true, cond_false]
        rw [e2', derefK_some]
        have e3 : g53 ((stand f l (i + 1)), ()) = some ((), ()) := rfl
        simp only
        rw [e3, derefK_some, wI (by omega) (by omega)]
        rfl)
  exact h
theorem loop10052 {f : Fair} (hf : Ok f) (l : List Deal) (hl : l.length ≤ 200) : L10052_8 fuel ((l, (l.length : Int), 0, ()), (stand f [] 0, ()), ()) = some (resL f l) := by
  have hfu := fuel_ge
  have h := loopFirst (L := L10052_8) (fun i => ((l, (l.length : Int), (i : Int), ()), (stand f l i, ()), ())) l.length (bad f l) (fun i => .inl ((none, (i : Int), 11, ()), (), ())) (.inr ((), (stand f l l.length, ()), ())) 0 (N := fuel) (by omega)
    (fun N _ => by simp only [L10052_8, B10052_8]; rw [dec_f (by omega), cond_false])
    (fun N i _ hi hb => by
      have hI := Inv.all hf l i hb
      simp only [L10052_8, B10052_8]
      rw [dec_t (by omega), cond_true, getI_gd (by omega) (by omega)]
      have e := g72_eq hf hI (lastT l i) (stT f l i) (gd l (i : Int))
      have e' : g72 (stand f l i, gd l (i : Int), ()) = _ := e
      rw [e', derefK_some]
      unfold bad
      cases hg : (rng (gd l (i : Int)).1 (lastT l i) 1440 && okD f (stC f l i) (gd l (i : Int)))
      · rfl
      · rw [Bool.and_eq_true] at hg
        have e2 := g73_eq hf hI (by omega) (lastT l i) (NInv.all hf l i hb) hg.2
        have e2' : g73 (stand f l i, gd l (i : Int), ()) = some ((), (stand f l (i + 1), ())) := e2
        simp only [Bool.not_true, cond_false]
        rw [e2', derefK_some]
        have e3 : g53 ((stand f l (i + 1)), ()) = some ((), ()) := rfl
        simp only
        rw [e3, derefK_some, wI (by omega) (by omega)]
        rfl)
  exact h
def wrong (f : Fair) (l : List Deal) : Option (Int × Int) :=
  if fairOK f = false then some (0, 10) else if 200 < l.length then some (0, 2) else match first l.length (bad f l) with | some i => some ((i : Int), 11) | none => none
theorem wrong_ne {f : Fair} {l : List Deal} {x : Int × Int} (h : wrong f l = some x) : x.2 ≠ 0 := by
  unfold wrong at h
  split at h
  · cases h; decide
  split at h
  · cases h; decide
  split at h
  · cases h; show (11 : Int) ≠ 0; decide
  · cases h
theorem wrong_none {f : Fair} {l : List Deal} (h : wrong f l = none) : Ok f ∧ fairOK f = true ∧ l.length ≤ 200 ∧ ∀ j, j < l.length → bad f l j = false := by
  unfold wrong at h
  split at h
  · cases h
  rename_i h1
  split at h
  · cases h
  split at h
  · cases h
  · rename_i h2 _ h3
    have h1 : fairOK f = true := by simpa using h1
    exact ⟨.of h1, h1, by omega, first_none.1 h3⟩
theorem wrong_of {f : Fair} {l : List Deal} (h1 : fairOK f = true) (h2 : l.length ≤ 200) (h3 : ∀ j, j < l.length → bad f l j = false) : wrong f l = none := by
  unfold wrong
  rw [if_neg (by rw [h1]; decide), if_neg (by omega), first_none.2 h3]
theorem g52_eq (f : Fair) (hs : Sized f) (l : List Deal) : g52 (f, l, (), ()) = some ((match wrong f l with | some x => (none, x.1, x.2, ()) | none => (some (stand f l l.length), 0, 0, ())), ()) := by
  have e0 : g52 (f, l, (), ()) = F52 fuel f l () := rfl
  rw [e0]
  unfold F52 wrong
  rw [g18_eq f hs, derefK_some]
  by_cases hv : fairOK f = false
  · rw [hv]; rfl
  have hv' : fairOK f = true := by simpa using hv
  rw [if_neg hv, hv', if_pos rfl, show ((0 : Int) != 0) = false from rfl, cond_false]
  by_cases hl : 200 < l.length
  · rw [dec_t (by omega), cond_true, if_pos hl]
  · rw [dec_f (by omega), cond_false, if_neg hl, g71_eq (.of hv'), derefK_some]
    simp only
    rw [loop52 (.of hv') l (by omega), derefK_some]
    unfold resL
    cases first l.length (bad f l) <;> rfl
theorem g10052_eq (f : Fair) (hs : Sized f) (l : List Deal) : g10052 (f, l, (), ()) = match wrong f l with | some _ => none | none => some ((stand f l l.length, 0, 0, ()), ()) := by
  have e0 : g10052 (f, l, (), ()) = F10052 fuel f l () := rfl
  rw [e0]
  unfold F10052 wrong
  rw [g18_eq f hs, derefK_some]
  by_cases hv : fairOK f = false
  · rw [hv]; rfl
  have hv' : fairOK f = true := by simpa using hv
  rw [if_neg hv, hv', if_pos rfl, show ((0 : Int) != 0) = false from rfl, cond_false]
  by_cases hl : 200 < l.length
  · rw [dec_t (by omega), cond_true, if_pos hl]
  · rw [dec_f (by omega), cond_false, if_neg hl, g71_eq (.of hv'), derefK_some]
    simp only
    rw [loop10052 (.of hv') l (by omega), derefK_some]
    unfold resL
    cases first l.length (bad f l) <;> rfl
def cnil : Cnt := ([], [], [], [], 0)
theorem g28_eq (f : Fair) (hs : Sized f) (l : List Deal) : g28 (f, l, ()) = some ((match wrong f l with | some x => (x.1, x.2, ()) | none => (0, 0, ())), ()) := by
  have e0 : g28 (f, l, ()) = F28 fuel f l := rfl
  rw [e0]
  unfold F28
  rw [g52_eq f hs l, derefK_some]
  cases wrong f l <;> rfl
theorem sum_take {l : List Int} {i : Nat} (h : i < l.length) : (l.take (i + 1)).sum = (l.take i).sum + gd l (i : Int) := by
  rw [take_nat h, List.sum_append]
  simp
theorem sum_take_le {l : List Int} (h : ∀ x ∈ l, 0 ≤ x) (i : Nat) : 0 ≤ (l.take i).sum ∧ (l.take i).sum ≤ l.sum := by
  have h1 := sum_nn fun x hx => h x (List.mem_of_mem_take (i := i) hx)
  have h2 := sum_nn fun x hx => h x (List.mem_of_mem_drop (i := i) hx)
  have h3 : l.sum = (l.take i).sum + (l.drop i).sum := by rw [← List.sum_append, List.take_append_drop]
  omega
def acct (f : Fair) (l : List Deal) : Night :=
  let t := stT f l l.length
  (t.1, t.2.1, t.2.2.1, sumP (stC f l l.length).2.2.1, t.2.2.2.2.1, t.2.2.2.2.2)
theorem g24_eq (f : Fair) (hs : Sized f) (l : List Deal) : g24 (f, l, ()) = some ((match wrong f l with | some x => (nt0, x.2, ()) | none => (acct f l, 0, ())), ()) := by
  have hfu := fuel_ge
  have e0 : g24 (f, l, ()) = F24 fuel f l := rfl
  rw [e0]
  unfold F24
  rw [g10052_eq f hs l]
  cases h : wrong f l with
  | some x =>
    simp only
    show derefK (g52 (f, l, (), ())) _ = _
    rw [g52_eq f hs l, h, derefK_some]
    simp only
    rw [bne_iff_ne.2 (wrong_ne h), cond_true]
    rfl
  | none =>
    obtain ⟨hf, _, hl, hb⟩ := wrong_none h
    have hI := Inv.all hf l l.length hb
    have hN := NInv.all hf l l.length hb
    have hsum := hf.sum
    have ht : tot (stC f l l.length) = f.2.2.1.sum := hI.tt
    unfold tot at ht
    have n1 := sum_nn hI.ns
    have n3 := sum_nn hI.nb
    have n4 := hI.nl
    have hp1 := hf.p1
    have hlp := hI.lp
    obtain ⟨P, hP⟩ : ∃ P, (stC f l l.length).2.2.1.map (·.1) = P := ⟨_, rfl⟩
    have hPl : P.length = (stC f l l.length).2.2.1.length := by rw [← hP, List.length_map]
    have hPn : ∀ x ∈ P, 0 ≤ x := fun x hx => by
      rw [← hP] at hx
      obtain ⟨y, hy, rfl⟩ := List.mem_map.1 hx
      exact hI.np y hy
    have hPs : P.sum = sumP (stC f l l.length).2.2.1 := by rw [← hP]; rfl
    have hloop := loopF (L := L24_5) (fun i => ((((stC f l l.length).2.2.1.length : Int), (i : Int), ()), (nt0, (f, (stC f l l.length, (lastT l l.length, ((stT f l l.length).1, (stT f l l.length).2.1, (stT f l l.length).2.2.1, (P.take i).sum, (stT f l l.length).2.2.2.2)))), ()), ()))
      ((), (nt0, (f, (stC f l l.length, (lastT l l.length, acct f l))), ()), ()) 0 (stC f l l.length).2.2.1.length (N := fuel) (by omega)
      (fun N => by
        simp only [L24_5, B24_5]
        rw [dec_f (by omega), cond_false, ← hPl, List.take_length, hPs]
        rfl)
      (fun N i _ hi => by
        simp only [L24_5, B24_5, bindV_eq]
        have h2 := sum_take_le hPn i
        have h3 := sum_take_le hPn (i + 1)
        have h4 := sum_take (l := P) (i := i) (by omega)
        have h5 : gd P (i : Int) = (gd (stC f l l.length).2.2.1 (i : Int)).1 := by rw [← hP]; exact gd_map1 hi
        rw [dec_t (by omega), cond_true, inR_in (by omega) (by omega), getI_gd (by omega) (by omega), ← h5, wI (by omega) (by omega), wI (by omega) (by omega), h4]
        rfl)
    show derefK (L24_5 fuel ((((stand f l l.length).2.1.2.2.1.length : Int), 0, ()), (((0 : Int), ((0 : Int), ((0 : Int), ((0 : Int), ((0 : Int), (0 : Int)))))), stand f l l.length, ()), ())) _ = _
    have hst : (stT f l l.length).2.2.2.1 = 0 := hN.h
    have e1 : (((((stC f l l.length).2.2.1.length : Int), (((0 : Nat) : Int)), ()), (nt0, (f, (stC f l l.length, (lastT l l.length, ((stT f l l.length).1, (stT f l l.length).2.1, (stT f l l.length).2.2.1, (P.take 0).sum, (stT f l l.length).2.2.2.2)))), ()), ()) : (Int × Int × Unit) × (Night × Stand × Unit) × Unit) = ((((stand f l l.length).2.1.2.2.1.length : Int), 0, ()), (((0 : Int), ((0 : Int), ((0 : Int), ((0 : Int), ((0 : Int), (0 : Int)))))), stand f l l.length, ()), ()) := by
      have e2 : (P.take 0).sum = (stT f l l.length).2.2.2.1 := by rw [hst]; rfl
      rw [e2]
      rfl
    rw [e1] at hloop
    rw [hloop]
    rfl
def exF : Fair := (2, 2, [100, 50], [0, 1000], [(1, 200), (6, 1000)], 150, 2500, 180)
def exL : List Deal := [(5, 1, 0, 0, 1), (10, 2, 0, 1, 4), (20, 4, 1, 0, 1)]
theorem exF_ok : fairOK exF = true := by decide
theorem exS : Sized exF := by unfold Sized exF; simp
theorem ex_wrong : wrong exF exL = none := wrong_of exF_ok (by decide) (by decide)
theorem ex_acct : acct exF exL = (6, 4, 1, 1, 0, 850) := by decide
theorem ex_pays {t p : Int} (h : Pays [(1, 200), (6, 1000)] t p) : ∃ a b : Nat, t = a + 6 * b ∧ p = 200 * a + 1000 * b := by
  obtain ⟨a, h1⟩ := h.count
  obtain ⟨b, h2⟩ := h1.count
  revert h2
  generalize e1 : t - (a : Int) * ((1, 200) : Bun).1 - (b : Int) * ((6, 1000) : Bun).1 = x
  generalize e2 : p - (a : Int) * ((1, 200) : Bun).2 - (b : Int) * ((6, 1000) : Bun).2 = y
  intro h2
  cases h2
  simp only at e1 e2
  exact ⟨a, b, by omega, by omega⟩
theorem ex_pays1 {t p : Int} (h : Pays [(6, 1000)] t p) : ∃ b : Nat, t = 6 * b ∧ p = 1000 * b := by
  obtain ⟨b, h2⟩ := h.count
  revert h2
  generalize e1 : t - (b : Int) * ((6, 1000) : Bun).1 = x
  generalize e2 : p - (b : Int) * ((6, 1000) : Bun).2 = y
  intro h2
  cases h2
  simp only at e1 e2
  exact ⟨b, by omega, by omega⟩
theorem ex_buys : Buys exF.2.2.2.2.1 7 [1, 1] 1200 := by
  show Buys [(1, 200), (6, 1000)] 7 [1, 1] 1200
  have p6 : Pays [(6, 1000)] 6 1000 := Pays.take (b := (6, 1000)) (t := 0) (p := 0) (.zero _)
  have p7 : Pays [(1, 200), (6, 1000)] 7 1200 := Pays.take (b := (1, 200)) (t := 6) (p := 1000) (.skip p6)
  refine ⟨7, ⟨Nat.le_refl _, by decide, p7, fun t' h1 h2 p' hp => ?_⟩, ?_⟩
  · obtain ⟨a, b, e1, e2⟩ := ex_pays hp
    omega
  · refine .cons (k := 1) ⟨by decide, p6, fun j hj hp => ?_⟩ (.cons (k := 1) ⟨by decide, .zero _, fun j hj hp => ?_⟩ ?_)
    · obtain ⟨b, e1, e2⟩ := ex_pays1 hp
      simp only at e1 e2
      omega
    · revert hp
      generalize e1 : ((7 : Nat) : Int) - 1 * ((1, 200) : Bun).1 - j * ((6, 1000) : Bun).1 = x
      generalize e2 : (1200 : Int) - 1 * ((1, 200) : Bun).2 - j * ((6, 1000) : Bun).2 = y
      intro hp
      cases hp
      simp only at e1 e2
      omega
    · exact .nil
theorem g43_eq (f : Fair) (hl : Fine f.2.2.2.2.1) (hk : f.2.2.2.2.1.length ≤ 6) (n : Nat) (hn : n ≤ 1000) :
    (NoBuy f.2.2.2.2.1 n ∧ g43 (f, (n : Int), ()) = some (([], 0, 3, ()), ())) ∨ ∃ r p, Buys f.2.2.2.2.1 n r p ∧ g43 (f, (n : Int), ()) = some ((r, p, 0, ()), ()) := by
  have e0 : g43 (f, (n : Int), ()) = F43 fuel f n := rfl
  rw [e0]
  unfold F43
  rcases g68_eq f.2.2.2.2.1 hl hk n hn with ⟨h, h2⟩ | ⟨r, p, h, h1, h2⟩
  · left
    exact ⟨h, by rw [h2]; rfl⟩
  · right
    exact ⟨r, p, h, by rw [h2, h1]; rfl⟩
theorem g14_eq (f : Fair) (hs : Sized f) (n : Int) : ∃ x, BuyR f n x ∧ g14 (f, n, ()) = some ((x.1, x.2.1, x.2.2, ()), ()) := by
  have e0 : g14 (f, n, ()) = F14 fuel f n := rfl
  rw [e0]
  unfold F14
  rw [g18_eq f hs, derefK_some]
  by_cases hv : fairOK f = false
  · refine ⟨([], 0, 10), by unfold BuyR; rw [if_pos hv], ?_⟩
    rw [hv]; rfl
  have hv' : fairOK f = true := by simpa using hv
  rw [hv', if_pos rfl, show ((0 : Int) != 0) = false from rfl, cond_false, g42_eq, derefK_some]
  by_cases hn : rng n 0 1000 = false
  · refine ⟨([], 0, 1), by unfold BuyR; rw [if_neg hv, if_pos hn], ?_⟩
    rw [hn]; rfl
  have hn' : rng n 0 1000 = true := by simpa using hn
  have hr := rng_iff.1 hn'
  rw [hn', Bool.not_true, cond_false]
  obtain ⟨hl, hk⟩ := fairOK_fine hv'
  obtain ⟨m, rfl⟩ : ∃ m : Nat, n = m := ⟨n.toNat, by omega⟩
  rcases g43_eq f hl hk m (by omega) with ⟨h, h1⟩ | ⟨r, p, h, h1⟩
  · refine ⟨([], 0, 3), ?_, by rw [h1]; rfl⟩
    unfold BuyR
    rw [if_neg hv, if_neg hn, if_pos]
    refine ⟨?_, ?_⟩
    · exact Classical.byContradiction fun hne => not_noBuy hl (.inr hne) h
    · exact Classical.byContradiction fun hne => not_noBuy hl (.inl (by omega)) h
  · refine ⟨(r, p, 0), ?_, by rw [h1]; rfl⟩
    unfold BuyR
    rw [if_neg hv, if_neg hn, if_neg, Int.toNat_natCast]
    · exact ⟨rfl, h⟩
    · rintro ⟨e1, e2⟩
      rw [e1] at h
      exact buys_noBuy h (noBuy_nil (by omega))
theorem g16_eq (a b : List Int) (ha : a.length ≤ 1000000000) : g16 (a, b, ()) = some ((decide (a = b), ()), ()) := by
  have hfu := fuel_ge
  have e0 : g16 (a, b, ()) = F16 fuel a b := rfl
  rw [e0]
  unfold F16
  by_cases hl : a.length = b.length
  · rw [show ((a.length : Int) != (b.length : Int)) = false by rw [hl, bne_self_eq_false], cond_false]
    have h := loopFirst (L := L16_4) (fun i => ((a, b, (i : Int), ()), (), ())) a.length (fun i => decide (gd a (i : Int) ≠ gd b (i : Int))) (fun _ => .inl ((false, ()), (), ())) (.inr ((), (), ())) 0 (N := fuel) (by omega)
      (fun N _ => by simp only [L16_4, B16_4]; rw [dec_f (by omega), cond_false])
      (fun N i _ hi _ => by
        simp only [L16_4, B16_4]
        rw [dec_t (by omega), cond_true, getI_gd (by omega) (by omega), getI_gd (by omega) (by omega), wI (by omega) (by omega)]
        by_cases he : gd a (i : Int) = gd b (i : Int)
        · rw [he, bne_self_eq_false, dec_f (fun h => h rfl)]
          rfl
        · rw [bne_iff_ne.2 he, dec_t he]
          rfl)
    have h' : L16_4 fuel ((a, b, 0, ()), (), ()) = _ := h
    rw [h', derefK_some]
    cases hq : first a.length (fun i => decide (gd a (i : Int) ≠ gd b (i : Int))) with
    | none =>
      rw [first_none] at hq
      have : a = b := ext_gd hl fun i hi => by
        have := hq i hi
        rw [decide_eq_false_iff_not] at this
        exact Classical.not_not.1 this
      rw [dec_t this]
      rfl
    | some i =>
      rw [first_some] at hq
      have := of_decide_eq_true hq.2.1
      rw [dec_f (p := a = b) fun h => this (by rw [h])]
      rfl
  · rw [bne_iff_ne.2 (fun h => hl (by omega)), cond_true, dec_f (fun h => hl (by rw [h]))]
theorem works_eq : g17 () = some ((true, ()), ()) := by
  have e0 : g17 () = F17 fuel := rfl
  rw [e0]
  unfold F17
  have e1 : g46 () = some ((exF, ()), ()) := rfl
  have e2 : g24 (exF, exL, ()) = some ((acct exF exL, 0, ()), ()) := by
    rw [g24_eq exF exS exL, ex_wrong]
  have e3 : g14 (exF, 7, ()) = some (([1, 1], 1200, 0, ()), ()) := by
    obtain ⟨x, h1, h2⟩ := g14_eq exF exS 7
    have h3 : BuyR exF 7 ([1, 1], 1200, 0) := by
      unfold BuyR
      rw [if_neg (by rw [exF_ok]; decide), if_neg (by decide), if_neg (by unfold exF; simp)]
      exact ⟨rfl, ex_buys⟩
    obtain rfl := h1.uniq h3
    exact h2
  have e2' : g24 (exF, [(5, 1, (0 : Int), (0 : Int), 1), (10, 2, (0 : Int), 1, 4), (20, 4, 1, (0 : Int), 1)], ()) = some ((acct exF exL, 0, ()), ()) := e2
  rw [e1, derefK_some, e2', derefK_some, derefK_some, e3, derefK_some, ex_acct]
  have e4 : g16 ([1, 1], [1, 1], ()) = some ((true, ()), ()) := g16_eq [1, 1] [1, 1] (by simp)
  show derefK (g16 ([1, 1], [1, 1], ())) _ = _
  rw [e4]
  rfl
theorem works_k : (derefK (g17 ()) fun y => some ((y.1.1, ()), ())) = some ((true, ()), ()) := by
  rw [works_eq]
  rfl
structure AInv (f : Fair) (c : Cnt) (t : Night) : Prop where
  pt : sumP c.2.2.1 = t.1 - t.2.1 - t.2.2.1 - t.2.2.2.2.1
  lt : c.2.2.2.2 = t.2.2.2.2.1
  ct : c.2.1.sum = f.2.2.2.1.sum + t.2.2.2.2.2
  bt : c.2.2.2.1.sum ≤ t.2.1
theorem AInv.zero (f : Fair) : AInv f (cnt0 f) nt0 := by
  refine ⟨sumP_replicate _, rfl, ?_, ?_⟩
  · show f.2.2.2.1.sum = f.2.2.2.1.sum + 0
    omega
  · show (List.replicate f.2.1.toNat (0 : Int)).sum ≤ 0
    rw [sum_replicate_zero]
    exact Int.le_refl _
theorem AInv.step {f : Fair} (hf : Ok f) {c : Cnt} {k : Nat} (h : Inv f c k) {t : Night} (ht : AInv f c t) {d : Deal} (hd : okD f c d = true) : AInv f (stepD f c d) (nightD f c d t) := by
  obtain ⟨P, X, S, C, Bs, rf, bd, hr⟩ := f
  obtain ⟨st, ca, pu, bo, lo⟩ := c
  obtain ⟨at', kd, a, b, n⟩ := d
  obtain ⟨sd, tk, rt, he, ls', cs⟩ := t
  obtain ⟨a1, a2, a3, a4⟩ := ht
  obtain ⟨ls, lc, lp, lb, ns, nc, np, nb, nl, tt⟩ := h
  obtain ⟨s1, s8, c8, p0, p1, b0, b1, hst, hca, r0, r1, d0, d1, h0, h1, fine, six, _⟩ := hf
  unfold okD at hd
  unfold stepD nightD
  simp only at *
  by_cases k1 : kd = 1
  · subst k1
    simp only [Int.reduceBEq, cond_true, Bool.and_eq_true, rng_iff, decide_eq_true_eq] at hd ⊢
    obtain ⟨hA, hB, hN, hle⟩ := hd
    refine ⟨?_, ?_, ?_, ?_⟩ <;> simp only
    · rw [sumP_mv (by omega) (by omega)]; omega
    · omega
    · rw [sum_ad (by omega) (by omega)]; omega
    · omega
  by_cases k2 : kd = 2
  · subst k2
    simp only [Int.reduceBEq, cond_true, cond_false, Bool.and_eq_true, rng_iff] at hd ⊢
    obtain ⟨hA, hB, hN, hle⟩ := hd
    cases decide (at' < (gd pu a).2) with
    | true => exact ⟨a1, a2, a3, a4⟩
    | false =>
      refine ⟨?_, ?_, ?_, ?_⟩ <;> simp only [cond_false]
      · rw [sumP_mv (by omega) (by omega)]; omega
      · omega
      · omega
      · rw [sum_ad (by omega) (by omega)]; omega
  by_cases k3 : kd = 3
  · subst k3
    simp only [Int.reduceBEq, cond_true, cond_false, Bool.and_eq_true, rng_iff] at hd ⊢
    obtain ⟨hA, hB, hN⟩ := hd
    refine ⟨?_, ?_, ?_, ?_⟩ <;> simp only
    · rw [sumP_set (by omega), show ((b.toNat : Nat) : Int) = b by omega]; simp only; omega
    · omega
    · rw [sum_ad (by omega) (by omega)]; omega
    · omega
  by_cases k4 : kd = 4
  · subst k4
    simp only [Int.reduceBEq, cond_true, cond_false, Bool.and_eq_true, rng_iff, decide_eq_true_eq] at hd ⊢
    obtain ⟨hA, hB, hN, hle, hcs⟩ := hd
    refine ⟨?_, ?_, ?_, ?_⟩ <;> simp only
    · rw [sumP_mv (by omega) (by omega)]; omega
    · omega
    · rw [sum_ad (by omega) (by omega)]; omega
    · omega
  by_cases k5 : kd = 5
  · subst k5
    simp only [Int.reduceBEq, cond_true, cond_false, Bool.and_eq_true, rng_iff] at hd ⊢
    obtain ⟨hA, hB, hN⟩ := hd
    have q := nb _ (gd_mem (l := bo) (i := b) (by omega) (by omega))
    refine ⟨a1, a2, a3, ?_⟩
    simp only
    rw [sum_set (by omega), show ((b.toNat : Nat) : Int) = b by omega]
    omega
  by_cases k6 : kd = 6
  · subst k6
    simp only [Int.reduceBEq, cond_true, cond_false, Bool.and_eq_true, rng_iff, decide_eq_true_eq] at hd ⊢
    obtain ⟨hA, hB, hne, hN, hle⟩ := hd
    refine ⟨?_, a2, a3, a4⟩
    simp only
    rw [sumP_mv (by omega) (by rw [len_mv]; omega), sumP_mv (by omega) (by omega)]
    omega
  by_cases k7 : kd = 7
  · subst k7
    simp only [Int.reduceBEq, cond_true, cond_false, Bool.and_eq_true, rng_iff, decide_eq_true_eq] at hd ⊢
    obtain ⟨hA, hB, hN, hle⟩ := hd
    refine ⟨?_, ?_, ?_, ?_⟩ <;> simp only
    · rw [sumP_mv (by omega) (by omega)]; omega
    · omega
    · omega
    · omega
  · rw [beq_false_of_ne k1, beq_false_of_ne k2, beq_false_of_ne k3, beq_false_of_ne k4, beq_false_of_ne k5, beq_false_of_ne k6, beq_false_of_ne k7] at hd
    cases hd
theorem bad_ok {f : Fair} {l : List Deal} {i : Nat} (h : bad f l i = false) : rng (gd l (i : Int)).1 (lastT l i) 1440 = true ∧ okD f (stC f l i) (gd l (i : Int)) = true := by
  unfold bad at h
  rw [Bool.not_eq_false', Bool.and_eq_true] at h
  exact h
theorem AInv.all {f : Fair} (hf : Ok f) (l : List Deal) : ∀ i : Nat, (∀ j, j < i → bad f l j = false) → AInv f (stC f l i) (stT f l i)
  | 0, _ => .zero f
  | i + 1, h => (AInv.all hf l i fun j hj => h j (by omega)).step hf (Inv.all hf l i fun j hj => h j (by omega)) (bad_ok (h i (by omega))).2
theorem stC_congr {f : Fair} {l l' : List Deal} : ∀ {i : Nat}, (∀ j : Nat, j < i → gd l (j : Int) = gd l' (j : Int)) → stC f l i = stC f l' i
  | 0, _ => rfl
  | i + 1, h => by
    show stepD f (stC f l i) (gd l (i : Int)) = stepD f (stC f l' i) (gd l' (i : Int))
    rw [h i (by omega), stC_congr fun j hj => h j (by omega)]
theorem lastT_congr {l l' : List Deal} : ∀ {i : Nat}, (∀ j : Nat, j < i → gd l (j : Int) = gd l' (j : Int)) → lastT l i = lastT l' i
  | 0, _ => rfl
  | i + 1, h => by
    show (gd l (i : Int)).1 = (gd l' (i : Int)).1
    rw [h i (by omega)]
theorem bad_congr {f : Fair} {l l' : List Deal} {i : Nat} (h : ∀ j : Nat, j ≤ i → gd l (j : Int) = gd l' (j : Int)) : bad f l i = bad f l' i := by
  unfold bad
  rw [h i (Nat.le_refl _), stC_congr (l' := l') fun j hj => h j (by omega), lastT_congr (l' := l') fun j hj => h j (by omega)]
theorem g63_eq {f : Fair} (hf : Ok f) : g63 (f, ()) = some ((cnt0 f, ()), ()) := by
  have e0 : g63 (f, ()) = F63 fuel f := rfl
  rw [e0]
  have h1 := hf.s8
  have h2 := hf.c8
  have h3 := hf.p0
  have h4 := hf.p1
  have h5 := hf.b0
  have h6 := hf.b1
  have e1 : ∀ {R : Type} (k : Option R), lenK (f.2.2.1.length : Int) k = k := fun k => lenK_in (by omega) (by omega) k
  have e2 : ∀ {R : Type} (k : Option R), lenK (f.2.2.2.1.length : Int) k = k := fun k => lenK_in (by omega) (by omega) k
  have l1 : ∀ {R : Type} (k : Option R), leK 0 f.1 k = k := fun k => leK_in h3 k
  have l2 : ∀ {R : Type} (k : Option R), leK f.1 f.1 k = k := fun k => leK_in (Int.le_refl _) k
  have l3 : ∀ {R : Type} (k : Option R), lenK f.1 k = k := fun k => lenK_in h3 (by omega) k
  have l4 : ∀ {R : Type} (k : Option R), leK 0 f.2.1 k = k := fun k => leK_in h5 k
  have l5 : ∀ {R : Type} (k : Option R), leK f.2.1 f.2.1 k = k := fun k => leK_in (Int.le_refl _) k
  have l6 : ∀ {R : Type} (k : Option R), lenK f.2.1 k = k := fun k => lenK_in h5 (by omega) k
  unfold F63
  simp only [enumK_eq, e1, e2, l1, l2, l3, l4, l5, l6, agreeK_two, agreeK_one]
  rfl
theorem g56_eq {f : Fair} (hf : Ok f) (l : List Deal) (hl : l.length ≤ 200) (hb : ∀ j, j < l.length → bad f l j = false) : g56 (f, l, ()) = some ((stC f l l.length, ()), ()) := by
  have hfu := fuel_ge
  have e0 : g56 (f, l, ()) = F56 fuel f l := rfl
  rw [e0]
  unfold F56
  rw [g63_eq hf, derefK_some]
  have h := loopF (L := L56_3) (fun i => ((l, f, (i : Int), ()), (cnil, stC f l i, ()), ())) ((), (cnil, stC f l l.length, ()), ()) 0 l.length (N := fuel) (by omega)
    (fun N => by simp only [L56_3, B56_3]; rw [dec_f (by omega), cond_false])
    (fun N i _ hi => by
      have hI := Inv.all hf l i fun j hj => hb j (by omega)
      have e64 := g64_eq hf hI (by omega) (gd l (i : Int))
      rw [(bad_ok (hb i hi)).2, if_pos rfl] at e64
      have e1 : ∀ {R : Type} (k : Deal → Option R), getI l (i : Int) k = k (gd l (i : Int)) := fun k => getI_gd (by omega) (by omega) k
      simp only [L56_3, B56_3]
      rw [dec_t (by omega), cond_true]
      simp only [enumK_eq, e1, e64, derefK_some, agreeK_two, agreeK_one]
      rw [wI (by omega) (by omega)]
      rfl)
  have h' : L56_3 fuel ((l, f, 0, ()), (([], ([], (([] : List (Int × Int)), ([], (0 : Int))))), cnt0 f, ()), ()) = _ := h
  rw [h', derefK_some]
theorem g34_eq (f : Fair) (hs : Sized f) (l : List Deal) : g34 (f, l, ()) = some ((match wrong f l with | some x => (x.1, x.2, ()) | none => (0, 0, ())), ()) := by
  have hfu := fuel_ge
  have e0 : g34 (f, l, ()) = F34 fuel f l := rfl
  rw [e0]
  unfold F34 wrong
  rw [g19_eq f hs, derefK_some]
  by_cases hv : fairOK f = false
  · rw [hv]; rfl
  have hv' : fairOK f = true := by simpa using hv
  rw [if_neg hv, hv', if_pos rfl, show ((0 : Int) != 0) = false from rfl, cond_false]
  by_cases hl : 200 < l.length
  · rw [dec_t (by omega), cond_true, if_pos hl]
  have hf := Ok.of hv'
  rw [dec_f (by omega), cond_false, if_neg hl, g63_eq hf, derefK_some]
  have h := loopFirst (L := L34_9) (fun i => ((l, f, lastT l i, (i : Int), ()), (stC f l i, ()), ())) l.length (bad f l) (fun i => .inl (((i : Int), 11, ()), (), ())) (.inr ((), (), ())) 0 (N := fuel) (by omega)
    (fun N _ => by simp only [L34_9, B34_9]; rw [dec_f (by omega), cond_false])
    (fun N i _ hi hb => by
      have hI := Inv.all hf l i hb
      have e64 := g64_eq hf hI (by omega) (gd l (i : Int))
      have e1 : ∀ {R : Type} (k : Deal → Option R), getI l (i : Int) k = k (gd l (i : Int)) := fun k => getI_gd (by omega) (by omega) k
      simp only [L34_9, B34_9]
      rw [dec_t (by omega), cond_true]
      simp only [enumK_eq, e1, e64, g44_eq, derefK_some, agreeK_two, agreeK_one]
      unfold bad
      cases hok : okD f (stC f l i) (gd l (i : Int)) with
      | false => rw [Bool.and_false]; rfl
      | true =>
        cases rng (gd l (i : Int)).1 (lastT l i) 1440 with
        | false => rfl
        | true =>
          rw [if_pos rfl, wI (by omega) (by omega)]
          rfl)
  have h' : L34_9 fuel ((l, f, 0, 0, ()), (cnt0 f, ()), ()) = _ := h
  simp only
  rw [h', derefK_some]
  cases first l.length (bad f l) <;> rfl
theorem gd_take' {α : Type} [Inhabited α] {l : List α} {k i : Nat} (h : i < k) : gd (l.take k) (i : Int) = gd l (i : Int) := by
  unfold gd
  rw [List.getD_eq_getElem?_getD, List.getD_eq_getElem?_getD, List.getElem?_take_of_lt (by omega)]
theorem g56_take {f : Fair} (hf : Ok f) (l : List Deal) (hl : l.length ≤ 200) (hb : ∀ j, j < l.length → bad f l j = false) (m : Nat) (hm : m ≤ l.length) : g56 (f, l.take m, ()) = some ((stC f l m, ()), ()) := by
  have hlen : (l.take m).length = m := by rw [List.length_take]; omega
  rw [g56_eq hf (l.take m) (by omega) fun j hj => ?_, hlen, stC_congr fun j hj => gd_take' hj]
  rw [hlen] at hj
  rw [bad_congr (l' := l) fun i hi => gd_take' (by omega)]
  exact hb j (by omega)
abbrev withC (f : Fair) (x : List Int) : Fair := (f.1, (f.2.1, (f.2.2.1, (x, f.2.2.2.2))))
theorem fairOK_with {f : Fair} {x : List Int} (h : fairOK f = true) (hx : x.length = f.2.2.1.length) (hb : ∀ v ∈ x, 0 ≤ v ∧ v ≤ 1000000) : fairOK (withC f x) = true := by
  unfold fairOK at h ⊢
  simp only [Bool.and_eq_true] at h ⊢
  obtain ⟨h1, h2, h3, h4, h5, ⟨h6, h7⟩, h8, h9, h10, h11⟩ := h
  refine ⟨h1, ?_, h3, h4, h5, ⟨h6, ?_⟩, h8, h9, h10, h11⟩
  · rw [hx]; simp
  · rw [List.all_eq_true]; exact fun v hv => rng_iff.2 (hb v hv)
theorem sized_with {f : Fair} {x : List Int} (h : Sized f) (hx : x.length = f.2.2.1.length) : Sized (withC f x) := ⟨h.1, by show x.length ≤ _; rw [hx]; exact h.1, h.2.2⟩
structure Sh (n : Nat) (x y : List Int) (c1 c2 : Cnt) : Prop where
  t : c2.1 = c1.1
  r : c2.2.2 = c1.2.2
  l0 : c1.1.length = n
  l1 : c1.2.1.length = n
  l2 : c2.2.1.length = n
  ca : ∀ i : Nat, i < n → gd c2.2.1 (i : Int) = gd c1.2.1 (i : Int) + (gd y (i : Int) - gd x (i : Int))
theorem ad_len (l : List Int) (i v : Int) : (ad l i v).length = l.length := by unfold ad; rw [List.length_set]
theorem gd_ad {l : List Int} {A v : Int} (h0 : 0 ≤ A) (h1 : A < l.length) (i : Nat) : gd (ad l A v) (i : Int) = if (i : Int) = A then gd l A + v else gd l (i : Int) := by
  unfold ad
  by_cases e : (i : Int) = A
  · rw [if_pos e, e, gd_set_self h0 h1]
  · rw [if_neg e, gd_set_ne h0 (by omega) e]
theorem sh_ad {n : Nat} {x y b1 b2 : List Int} (l1 : b1.length = n) (l2 : b2.length = n) (ca : ∀ i : Nat, i < n → gd b2 (i : Int) = gd b1 (i : Int) + (gd y (i : Int) - gd x (i : Int))) {A : Int} (h0 : 0 ≤ A) (h1 : A < n) (v : Int) :
    ∀ i : Nat, i < n → gd (ad b2 A v) (i : Int) = gd (ad b1 A v) (i : Int) + (gd y (i : Int) - gd x (i : Int)) := by
  intro i hi
  rw [gd_ad h0 (by omega), gd_ad h0 (by omega)]
  by_cases e : (i : Int) = A
  · rw [if_pos e, if_pos e]
    have := ca A.toNat (by omega)
    rw [show ((A.toNat : Nat) : Int) = A by omega] at this
    rw [e]
    omega
  · rw [if_neg e, if_neg e]
    exact ca i hi
theorem Sh.step {f : Fair} {n : Nat} {x y : List Int} {c1 c2 : Cnt} (h : Sh n x y c1 c2) {d : Deal} (hd : okD f c1 d = true) : Sh n x y (stepD f c1 d) (stepD f c2 d) := by
  obtain ⟨a, b1, r⟩ := c1
  obtain ⟨a2, b2, r2⟩ := c2
  obtain ⟨ht, hr, l0, l1, l2, ca⟩ := h
  simp only at ht hr l0 l1 l2 ca
  subst ht
  subst hr
  unfold okD at hd
  unfold stepD
  have tA : ∀ {q : Bool}, (rng d.2.2.1 0 ((a2.length : Int) - 1) && q) = true → 0 ≤ d.2.2.1 ∧ d.2.2.1 < n := by
    intro q h
    rw [Bool.and_eq_true] at h
    have := rng_iff.1 h.1
    omega
  cases e1 : d.2.1 == 1 with
  | true =>
    simp only [e1, cond_true] at hd ⊢
    obtain ⟨h0, h1⟩ := tA hd
    exact ⟨rfl, rfl, by rw [ad_len]; exact l0, by rw [ad_len]; exact l1, by rw [ad_len]; exact l2, sh_ad l1 l2 ca h0 h1 _⟩
  | false =>
  cases e2 : d.2.1 == 2 with
  | true =>
    simp only [e1, e2, cond_true, cond_false] at hd ⊢
    cases decide (d.1 < (gd r2.1 d.2.2.1).2) with
    | true => exact ⟨rfl, rfl, l0, l1, l2, ca⟩
    | false => exact ⟨rfl, rfl, l0, l1, l2, ca⟩
  | false =>
  cases e3 : d.2.1 == 3 with
  | true =>
    simp only [e1, e2, e3, cond_true, cond_false] at hd ⊢
    obtain ⟨h0, h1⟩ := tA hd
    exact ⟨rfl, rfl, l0, by rw [ad_len]; exact l1, by rw [ad_len]; exact l2, sh_ad l1 l2 ca h0 h1 _⟩
  | false =>
  cases e4 : d.2.1 == 4 with
  | true =>
    simp only [e1, e2, e3, e4, cond_true, cond_false] at hd ⊢
    obtain ⟨h0, h1⟩ := tA hd
    exact ⟨rfl, rfl, by rw [ad_len]; exact l0, by rw [ad_len]; exact l1, by rw [ad_len]; exact l2, sh_ad l1 l2 ca h0 h1 _⟩
  | false =>
  cases e5 : d.2.1 == 5 with
  | true =>
    simp only [e1, e2, e3, e4, e5, cond_true, cond_false] at hd ⊢
    exact ⟨rfl, rfl, by rw [ad_len]; exact l0, l1, l2, ca⟩
  | false =>
  cases e6 : d.2.1 == 6 with
  | true =>
    simp only [e1, e2, e3, e4, e5, e6, cond_true, cond_false] at hd ⊢
    exact ⟨rfl, rfl, l0, l1, l2, ca⟩
  | false =>
    simp only [cond_false]
    exact ⟨rfl, rfl, l0, l1, l2, ca⟩
theorem Sh.ok {f : Fair} {n : Nat} {x y : List Int} {c1 c2 : Cnt} (h : Sh n x y c1 c2) {d : Deal} (hd : okD f c1 d = true) (hp : ∀ i : Nat, i < n → 0 ≤ gd (stepD f c2 d).2.1 (i : Int)) : okD f c2 d = true := by
  obtain ⟨a, b1, r⟩ := c1
  obtain ⟨a2, b2, r2⟩ := c2
  obtain ⟨ht, hr, l0, l1, l2, ca⟩ := h
  simp only at ht hr l0 l1 l2 ca
  subst ht
  subst hr
  unfold okD at hd ⊢
  unfold stepD at hp
  cases e1 : d.2.1 == 1 with
  | true => simp only [e1, cond_true] at hd ⊢; exact hd
  | false =>
  cases e2 : d.2.1 == 2 with
  | true => simp only [e1, e2, cond_true, cond_false] at hd ⊢; exact hd
  | false =>
  cases e3 : d.2.1 == 3 with
  | true => simp only [e1, e2, e3, cond_true, cond_false] at hd ⊢; exact hd
  | false =>
  cases e4 : d.2.1 == 4 with
  | false => simp only [e1, e2, e3, e4, cond_false] at hd ⊢; exact hd
  | true =>
    simp only [e1, e2, e3, e4, cond_true, cond_false] at hd hp ⊢
    simp only [Bool.and_eq_true, decide_eq_true_eq] at hd ⊢
    obtain ⟨g1, g2, g3, g4, g5⟩ := hd
    have hA := rng_iff.1 g1
    refine ⟨g1, g2, g3, g4, ?_⟩
    have := hp d.2.2.1.toNat (by omega)
    rw [gd_ad hA.1 (by omega), if_pos (by omega)] at this
    omega
theorem Sh.run {f : Fair} {n : Nat} {x y : List Int} (hs : f.2.2.1.length = n) (hx : x.length = n) (hy : y.length = n) (l : List Deal) : ∀ m : Nat, (∀ j, j < m → bad (withC f x) l j = false) → Sh n x y (stC (withC f x) l m) (stC (withC f y) l m)
  | 0, _ => ⟨rfl, rfl, hs, hx, hy, fun i _ => by show gd y (i : Int) = gd x (i : Int) + (gd y (i : Int) - gd x (i : Int)); omega⟩
  | m + 1, h => by
    have h1 := Sh.run hs hx hy l m (fun j hj => h j (by omega))
    have h2 : okD f (stC (withC f x) l m) (gd l (m : Int)) = true := (bad_ok (h m (by omega))).2
    exact h1.step (f := f) h2
def mx (o c : List Int) : List Int := (List.range o.length).map fun (i : Nat) => max (gd o (i : Int)) (1000000 - gd c (i : Int))
def mxTo (i : Nat) (o c : List Int) : List Int := (List.range o.length).map fun (j : Nat) => if j < i then max (gd o (j : Int)) (1000000 - gd c (j : Int)) else gd o (j : Int)
theorem mx_len (o c : List Int) : (mx o c).length = o.length := by simp [mx]
theorem mx_gd {o c : List Int} {i : Nat} (h : i < o.length) : gd (mx o c) (i : Int) = max (gd o (i : Int)) (1000000 - gd c (i : Int)) := gd_of (by simp [mx, h])
theorem mxTo_len (i : Nat) (o c : List Int) : (mxTo i o c).length = o.length := by simp [mxTo]
theorem mxTo_gd {o c : List Int} {i : Nat} (h : i < o.length) : gd (mxTo i o c) (i : Int) = gd o (i : Int) := gd_of (by simp [mxTo, h])
theorem getElem_gd {o : List Int} {i : Nat} (h : i < o.length) : o[i] = gd o (i : Int) := by
  have := gd_nat h
  rw [List.getElem?_eq_getElem h] at this
  exact Option.some.inj this
theorem mxTo_zero (o c : List Int) : mxTo 0 o c = o := by
  apply List.ext_getElem
  · simp [mxTo]
  · intro j h1 h2
    simp only [mxTo, List.getElem_map, List.getElem_range, Nat.not_lt_zero, if_false]
    exact (getElem_gd h2).symm
theorem mxTo_end (o c : List Int) : mxTo o.length o c = mx o c := by
  unfold mxTo mx
  apply List.map_congr_left
  intro j hj
  rw [if_pos (List.mem_range.1 hj)]
theorem mxTo_set {o c : List Int} {i : Nat} (hi : i < o.length) : (mxTo i o c).set i (max (gd o (i : Int)) (1000000 - gd c (i : Int))) = mxTo (i + 1) o c := by
  apply List.ext_getElem
  · simp [mxTo]
  · intro j h1 h2
    simp only [mxTo, List.getElem_set, List.getElem_map, List.getElem_range]
    by_cases e : i = j
    · subst e; rw [if_pos rfl, if_pos (by omega)]
    · rw [if_neg e]
      by_cases e2 : j < i
      · rw [if_pos e2, if_pos (by omega)]
      · rw [if_neg e2, if_neg (by omega)]
theorem L55_1_q {o c : List Int} (hl : c.length = o.length) (hs : o.length ≤ 1000000) (hc : ∀ i : Nat, i < c.length → 0 ≤ gd c (i : Int) ∧ gd c (i : Int) ≤ 1000000000) {N : Nat} (hN : o.length < N) : L55_1 N ((c, (c.length : Int), 0, ()), (o, ()), ()) = some ((), (mx o c, ()), ()) := by
  have h := loopF (L := L55_1) (fun i => ((c, (c.length : Int), (i : Int), ()), (mxTo i o c, ()), ())) ((), (mx o c, ()), ()) 0 o.length (N := N) (by omega)
    (fun N => by
      simp only [L55_1, B55_1]
      rw [dec_f (by omega), cond_false, mxTo_end])
    (fun N i _ hi => by
      have hb := hc i (by omega)
      have hml := mxTo_len i o c
      simp only [L55_1, B55_1]
      rw [dec_t (by omega), cond_true, getI_gd (by omega) (by omega), inR_in (by omega) (by omega), getI_gd (by omega) (by omega), inR_in (by omega) (by omega), getI_gd (by omega) (by omega), mxTo_gd hi, wI (x := 1000000 - gd c (i : Int)) (by omega) (by omega), wI (by omega) (by omega), Int.toNat_natCast, mxTo_set hi]
      rfl)
  rw [mxTo_zero] at h
  exact h
theorem g55_q (s : Stand) {o : List Int} (hl : s.2.1.2.1.length = o.length) (hs : o.length ≤ 1000000) (hc : ∀ i : Nat, i < s.2.1.2.1.length → 0 ≤ gd s.2.1.2.1 (i : Int) ∧ gd s.2.1.2.1 (i : Int) ≤ 1000000000) : g55 (s, o, ()) = some ((), (mx o s.2.1.2.1, ())) := by
  have e0 : g55 (s, o, ()) = F55 fuel s o := rfl
  have hfu := fuel_ge
  rw [e0]
  unfold F55
  rw [L55_1_q hl hs hc (by omega), derefK_some]
abbrev richC (f : Fair) : List Int := List.replicate f.2.2.1.length 1000000
abbrev rich (f : Fair) : Fair := withC f (richC f)
theorem rich_ok {f : Fair} (h : fairOK f = true) : fairOK (rich f) = true := fairOK_with h (by simp) (fun v hv => by rw [(List.mem_replicate.1 hv).2]; omega)
def nd (f : Fair) (l : List Deal) : Nat → List Int
  | 0 => List.replicate f.2.2.1.length 0
  | m + 1 => mx (nd f l m) (stC (rich f) l (m + 1)).2.1
theorem nd_len (f : Fair) (l : List Deal) : ∀ m, (nd f l m).length = f.2.2.1.length
  | 0 => by simp [nd]
  | m + 1 => by unfold nd; rw [mx_len, nd_len f l m]
theorem nd_bd (f : Fair) (l : List Deal) {i : Nat} (hi : i < f.2.2.1.length) : ∀ m, 0 ≤ gd (nd f l m) (i : Int) ∧ (∀ j, 1 ≤ j → j ≤ m → 1000000 - gd (stC (rich f) l j).2.1 (i : Int) ≤ gd (nd f l m) (i : Int)) ∧ (gd (nd f l m) (i : Int) = 0 ∨ ∃ j, 1 ≤ j ∧ j ≤ m ∧ gd (nd f l m) (i : Int) = 1000000 - gd (stC (rich f) l j).2.1 (i : Int))
  | 0 => by
    have : gd (nd f l 0) (i : Int) = 0 := gd_replicate (by omega) (by omega)
    exact ⟨by omega, fun j h1 h2 => by omega, .inl this⟩
  | m + 1 => by
    obtain ⟨h1, h2, h3⟩ := nd_bd f l hi m
    have e : gd (nd f l (m + 1)) (i : Int) = max (gd (nd f l m) (i : Int)) (1000000 - gd (stC (rich f) l (m + 1)).2.1 (i : Int)) := mx_gd (by rw [nd_len]; exact hi)
    rw [e]
    refine ⟨by omega, fun j g1 g2 => ?_, ?_⟩
    · by_cases ej : j = m + 1
      · rw [ej]; omega
      · have := h2 j g1 (by omega); omega
    · rcases Int.le_total (1000000 - gd (stC (rich f) l (m + 1)).2.1 (i : Int)) (gd (nd f l m) (i : Int)) with h | h
      · rw [Int.max_eq_left h]
        rcases h3 with h3 | ⟨j, g1, g2, g3⟩
        · exact .inl h3
        · exact .inr ⟨j, g1, by omega, g3⟩
      · rw [Int.max_eq_right h]
        exact .inr ⟨m + 1, by omega, by omega, rfl⟩
theorem cash_bd {f : Fair} {c : Cnt} {k : Nat} (h : Inv f c k) (hk : k ≤ 200) : ∀ i : Nat, i < c.2.1.length → 0 ≤ gd c.2.1 (i : Int) ∧ gd c.2.1 (i : Int) ≤ 1000000000 := by
  intro i hi
  have := h.nc _ (gd_mem (l := c.2.1) (i := (i : Int)) (by omega) (by omega))
  omega
theorem loop20052 {f : Fair} (hok : fairOK f = true) (l : List Deal) (hl : l.length ≤ 200) :
    L20052_8 fuel ((l, (l.length : Int), 0, ()), (stand (rich f) [] 0, nd f l 0, ()), ()) = some (match first l.length (bad (rich f) l) with
      | some i => .inl ((none, (i : Int), 11, ()), (nd f l i, ()), ())
      | none => .inr ((), (stand (rich f) l l.length, nd f l l.length, ()), ())) := by
  have hf := Ok.of (rich_ok hok)
  have hfu := fuel_ge
  have h := loopFirst (L := L20052_8) (fun i => ((l, (l.length : Int), (i : Int), ()), (stand (rich f) l i, nd f l i, ()), ())) l.length (bad (rich f) l) (fun i => .inl ((none, (i : Int), 11, ()), (nd f l i, ()), ())) (.inr ((), (stand (rich f) l l.length, nd f l l.length, ()), ())) 0 (N := fuel) (by omega)
    (fun N _ => by simp only [L20052_8, B20052_8]; rw [dec_f (by omega), cond_false])
    (fun N i _ hi hb => by
      have hI := Inv.all hf l i hb
      simp only [L20052_8, B20052_8]
      rw [dec_t (by omega), cond_true, getI_gd (by omega) (by omega)]
      have e := g72_eq hf hI (lastT l i) (stT (rich f) l i) (gd l (i : Int))
      have e' : g72 (stand (rich f) l i, gd l (i : Int), ()) = _ := e
      rw [e', derefK_some]
      unfold bad
      cases hg : (rng (gd l (i : Int)).1 (lastT l i) 1440 && okD (rich f) (stC (rich f) l i) (gd l (i : Int)))
      · rfl
      · rw [Bool.and_eq_true] at hg
        have e2 := g73_eq hf hI (by omega) (lastT l i) (NInv.all hf l i hb) hg.2
        have e2' : g73 (stand (rich f) l i, gd l (i : Int), ()) = some ((), (stand (rich f) l (i + 1), ())) := e2
        have hI2 := hI.step hf hg.2
        have hlc : (stC (rich f) l (i + 1)).2.1.length = f.2.2.1.length := hI2.lc
        have e3 := g55_q (stand (rich f) l (i + 1)) (o := nd f l i) (by rw [nd_len]; exact hlc) (by rw [nd_len]; have := hf.s8; have h8 : f.2.2.1.length ≤ 8 := this; omega) (cash_bd hI2 (by omega))
        simp only [Bool.not_true, cond_false]
        rw [e2', derefK_some]
        simp only
        rw [e3, derefK_some, wI (by omega) (by omega)]
        rfl)
  exact h
def flR (f : Fair) (l : List Deal) : List Int × Int := if fairOK f = false then ([], 10) else match wrong (rich f) l with
  | some x => ([], x.2)
  | none => (nd f l l.length, 0)
theorem g26_q (f : Fair) (hs : Sized f) (l : List Deal) : g26 (f, l, ()) = some (((flR f l).1, (flR f l).2, ()), ()) := by
  have e0 : g26 (f, l, ()) = F26 fuel f l := rfl
  rw [e0]
  unfold F26 flR
  rw [g18_eq f hs, derefK_some]
  by_cases hv : fairOK f = false
  · rw [hv]; rfl
  have hv' : fairOK f = true := by simpa using hv
  have hf := Ok.of hv'
  have h8 := hf.s8
  rw [if_neg hv, hv', if_pos rfl, show ((0 : Int) != 0) = false from rfl, cond_false, g54_one 1000000 f.2.2.1.length (by omega), derefK_some, leK_in (by omega), leK_in (by omega), lenK_in (by omega) (by omega), Int.toNat_natCast]
  have e20 : g20052 ((f.1, (f.2.1, (f.2.2.1, (richC f, f.2.2.2.2)))), l, List.replicate f.2.2.1.length (0 : Int), ()) = F20052 fuel (rich f) l (nd f l 0) := rfl
  show derefK (g20052 ((f.1, (f.2.1, (f.2.2.1, (richC f, f.2.2.2.2)))), l, List.replicate f.2.2.1.length (0 : Int), ())) _ = _
  rw [e20]
  unfold F20052 wrong
  rw [g18_eq (rich f) (sized_with hs (by simp)), derefK_some, rich_ok hv', if_pos rfl, show ((0 : Int) != 0) = false from rfl, cond_false, if_neg (by decide)]
  by_cases hl : 200 < l.length
  · rw [dec_t (by omega), cond_true, if_pos hl]
    rfl
  · rw [dec_f (by omega), cond_false, if_neg hl, g71_eq (.of (rich_ok hv')), derefK_some]
    simp only
    rw [loop20052 hv' l (by omega), derefK_some]
    cases first l.length (bad (rich f) l) <;> rfl
def cs (f : Fair) (i : Nat) : List Int := (List.range f.2.2.2.1.length).map fun (j : Nat) => if j < i then 1000000 else gd f.2.2.2.1 (j : Int)
theorem cs_len (f : Fair) (i : Nat) : (cs f i).length = f.2.2.2.1.length := by simp [cs]
theorem cs_zero (f : Fair) : cs f 0 = f.2.2.2.1 := by
  apply List.ext_getElem
  · simp [cs]
  · intro j h1 h2
    simp only [cs, List.getElem_map, List.getElem_range, Nat.not_lt_zero, if_false]
    exact (getElem_gd h2).symm
theorem cs_end {f : Fair} (h : f.2.2.2.1.length = f.2.2.1.length) : cs f f.2.2.2.1.length = richC f := by
  apply List.ext_getElem
  · simp [cs, h]
  · intro j h1 h2
    simp only [cs, List.getElem_map, List.getElem_range, List.getElem_replicate]
    rw [cs_len] at h1
    rw [if_pos h1]
theorem cs_set {f : Fair} {i : Nat} : (cs f i).set i 1000000 = cs f (i + 1) := by
  apply List.ext_getElem
  · simp [cs]
  · intro j h1 h2
    simp only [cs, List.getElem_set, List.getElem_map, List.getElem_range]
    by_cases e : i = j
    · subst e; rw [if_pos rfl, if_pos (by omega)]
    · rw [if_neg e]
      by_cases e2 : j < i
      · rw [if_pos e2, if_pos (by omega)]
      · rw [if_neg e2, if_neg (by omega)]
theorem L27_6_q {f : Fair} (h : f.2.2.2.1.length = f.2.2.1.length) (hb : f.2.2.1.length ≤ 8) (l : List Deal) {N : Nat} (hN : 100 < N) : L27_6 N ((l, f, 0, ()), (f, ()), ()) = some ((l, f, ()), (rich f, ()), ()) := by
  have e := loopF (L := L27_6) (fun i => ((l, f, (i : Int), ()), (withC f (cs f i), ()), ())) ((l, f, ()), (rich f, ()), ()) 0 f.2.2.2.1.length (N := N) (by omega)
    (fun N => by
      simp only [L27_6, B27_6]
      rw [cs_len, dec_f (by omega), cond_false, cs_end h])
    (fun N i _ hi => by
      simp only [L27_6, B27_6]
      rw [cs_len, dec_t (by omega), cond_true, inR_in (by omega) (by omega), getI_gd (by omega) (by rw [cs_len]; omega), wI (by omega) (by omega), Int.toNat_natCast, cs_set]
      rfl)
  rw [cs_zero] at e
  exact e
theorem L27_18_q {f : Fair} (l : List Deal) (r : Fair) (m : Int) (c : Cnt) {o : List Int} (hl : c.2.1.length = o.length) (hs : o.length ≤ 1000000) (hc : ∀ i : Nat, i < c.2.1.length → 0 ≤ gd c.2.1 (i : Int) ∧ gd c.2.1 (i : Int) ≤ 1000000000) {N : Nat} (hN : o.length < N) : L27_18 N ((l, r, m, 0, ()), (c, o, ()), ()) = some ((l, r, m, ()), (mx o c.2.1, ()), ()) := by
  have h := loopF (L := L27_18) (fun i => ((l, r, m, (i : Int), ()), (c, mxTo i o c.2.1, ()), ())) ((l, r, m, ()), (mx o c.2.1, ()), ()) 0 o.length (N := N) (by omega)
    (fun N => by
      have hml := mxTo_len o.length o c.2.1
      simp only [L27_18, B27_18]
      rw [dec_f (by omega), cond_false, mxTo_end])
    (fun N i _ hi => by
      have hb := hc i (by omega)
      have hml := mxTo_len i o c.2.1
      simp only [L27_18, B27_18]
      rw [dec_t (by omega), cond_true, inR_in (by omega) (by omega), getI_gd (by omega) (by omega), getI_gd (by omega) (by omega), inR_in (by omega) (by omega), getI_gd (by omega) (by omega), mxTo_gd hi, wI (x := 1000000 - gd c.2.1 (i : Int)) (by omega) (by omega), wI (by omega) (by omega), Int.toNat_natCast, mxTo_set hi]
      rfl)
  rw [mxTo_zero] at h
  exact h
theorem nd_zero_mx {f : Fair} (l : List Deal) : mx (nd f l 0) (stC (rich f) l 0).2.1 = nd f l 0 := by
  apply List.ext_getElem
  · rw [mx_len]
  · intro j h1 h2
    have h3 : j < f.2.2.1.length := by rw [nd_len] at h2; exact h2
    have e1 : gd (nd f l 0) (j : Int) = 0 := gd_replicate (by omega) (by omega)
    have e2 : gd (stC (rich f) l 0).2.1 (j : Int) = 1000000 := gd_replicate (by omega) (by omega)
    rw [getElem_gd h1, getElem_gd h2, mx_gd h2, e1, e2]
    rfl
theorem L27_14_q {f : Fair} (hok : fairOK f = true) (l : List Deal) (hl : l.length ≤ 200) (hb : ∀ j, j < l.length → bad (rich f) l j = false) {N : Nat} (hN : 10000 < N) : L27_14 N ((l, rich f, 0, ()), (nd f l 0, ()), ()) = some ((), (nd f l l.length, ()), ()) := by
  have hf := Ok.of (rich_ok hok)
  have h8 : f.2.2.1.length ≤ 8 := hf.s8
  have h := loopF (L := L27_14) (fun i => ((l, rich f, (i : Int), ()), (nd f l (i - 1), ()), ())) ((), (nd f l l.length, ()), ()) 1000 (l.length + 1) (N := N) (by omega)
    (fun N => by
      simp only [L27_14, B27_14]
      rw [dec_f (by omega), cond_false, Nat.add_sub_cancel])
    (fun N i hN hi => by
      have hI := Inv.all hf l i (fun j hj => hb j (by omega))
      have e56 := g56_take hf l hl hb i (by omega)
      have hlc : (stC (rich f) l i).2.1.length = f.2.2.1.length := hI.lc
      have e18 := L27_18_q (f := f) l (rich f) (i : Int) (stC (rich f) l i) (o := nd f l (i - 1)) (by rw [nd_len]; exact hlc) (by rw [nd_len]; omega) (cash_bd hI (by omega)) (N := N) (by rw [nd_len]; omega)
      have emx : mx (nd f l (i - 1)) (stC (rich f) l i).2.1 = nd f l i := by
        cases i with
        | zero => exact nd_zero_mx l
        | succ i => rfl
      rw [emx] at e18
      simp only [L27_14, B27_14]
      rw [dec_t (by omega), cond_true]
      simp only [enumK_eq, Int.toNat_natCast, e56, derefK_some, agreeK_two, agreeK_one]
      rw [leK_in (by omega), leK_in (by omega), e18, derefK_some]
      simp only []
      rw [wI (x := (i : Int) + 1) (by omega) (by omega), Nat.add_sub_cancel]
      rfl)
  exact h
theorem g27_q (f : Fair) (hs : Sized f) (l : List Deal) : g27 (f, l, ()) = some (((flR f l).1, (flR f l).2, ()), ()) := by
  have e0 : g27 (f, l, ()) = F27 fuel f l := rfl
  have hfu := fuel_ge
  rw [e0]
  unfold F27 flR
  rw [g19_eq f hs, derefK_some]
  by_cases hv : fairOK f = false
  · rw [hv]; rfl
  have hv' : fairOK f = true := by simpa using hv
  have hf := Ok.of hv'
  have h8 := hf.s8
  have hc8 := hf.c8
  rw [if_neg hv, hv', if_pos rfl, show ((0 : Int) != 0) = false from rfl, cond_false]
  have e29 : g10029 (f, f.2.2.2.1, ()) = some ((f, ()), ()) := by
    have e0 : g10029 (f, f.2.2.2.1, ()) = F10029 fuel f f.2.2.2.1 := rfl
    rw [e0]
    unfold F10029
    rw [lenK_in (by omega) (by omega)]
  rw [e29, derefK_some]
  show derefK (L27_6 fuel ((l, f, 0, ()), (f, ()), ())) _ = _
  rw [L27_6_q hc8 h8 l (by omega), derefK_some]
  show derefK (g34 (rich f, l, ())) _ = _
  rw [g34_eq (rich f) (sized_with hs (by simp)), derefK_some]
  cases hw : wrong (rich f) l with
  | some x =>
    show cond (x.2 != 0) _ _ = _
    rw [show (x.2 != 0) = true by simp [wrong_ne hw], cond_true]
  | none =>
    obtain ⟨_, _, hll, hbad⟩ := wrong_none hw
    show leK 0 (f.2.2.2.1.length : Int) (leK (f.2.2.2.1.length : Int) (f.2.2.2.1.length : Int) (lenK (f.2.2.2.1.length : Int) (derefK (L27_14 fuel ((l, rich f, 0, ()), (List.replicate (f.2.2.2.1.length : Int).toNat (0 : Int), ()), ())) _))) = _
    rw [leK_in (by omega), leK_in (by omega), lenK_in (by omega) (by omega), Int.toNat_natCast, hc8]
    have e14 := L27_14_q hv' l hll hbad (N := fuel) (by omega)
    have e14' : L27_14 fuel ((l, rich f, 0, ()), (List.replicate f.2.2.1.length (0 : Int), ()), ()) = _ := e14
    rw [e14', derefK_some]
theorem wrong_code {f : Fair} {l : List Deal} (h1 : fairOK f = true) (h2 : l.length ≤ 200) (h : wrong f l ≠ none) : ∃ i, wrong f l = some (i, 11) := by
  unfold wrong at h ⊢
  rw [if_neg (by rw [h1]; decide), if_neg (by omega)] at h ⊢
  cases hq : first l.length (bad f l) with
  | none => rw [hq] at h; exact (h rfl).elim
  | some i => exact ⟨_, rfl⟩
theorem nd_le {f : Fair} (hok : fairOK f = true) {l : List Deal} (hbad : ∀ j, j < l.length → bad (rich f) l j = false) {i : Nat} (hi : i < f.2.2.1.length) : gd (nd f l l.length) (i : Int) ≤ 1000000 := by
  have hf := Ok.of (rich_ok hok)
  rcases (nd_bd f l hi l.length).2.2 with h | ⟨j, _, h2, h3⟩
  · omega
  · have hI := Inv.all hf l j (fun k hk => hbad k (by omega))
    have hlc : (stC (rich f) l j).2.1.length = f.2.2.1.length := hI.lc
    have := hI.nc _ (gd_mem (l := (stC (rich f) l j).2.1) (i := (i : Int)) (by omega) (by omega))
    omega
theorem nd_enough {f : Fair} (hok : fairOK f = true) {l : List Deal} (hll : l.length ≤ 200) (hbad : ∀ j, j < l.length → bad (rich f) l j = false) : wrong (withC f (nd f l l.length)) l = none := by
  have hlen := nd_len f l l.length
  have hbx : ∀ v ∈ nd f l l.length, 0 ≤ v ∧ v ≤ 1000000 := by
    intro v hv
    obtain ⟨i, hi, rfl⟩ := List.mem_iff_getElem.1 hv
    rw [getElem_gd hi]
    exact ⟨(nd_bd f l (by omega) l.length).1, nd_le hok hbad (by omega)⟩
  have hokx := fairOK_with hok hlen hbx
  have key : ∀ m, m ≤ l.length → ∀ j, j < m → bad (withC f (nd f l l.length)) l j = false := by
    intro m
    induction m with
    | zero => intro _ j hj; omega
    | succ m ih =>
      intro hm j hj
      by_cases e : j < m
      · exact ih (by omega) j e
      · obtain rfl : j = m := by omega
        have hS := Sh.run (f := f) (x := richC f) (y := nd f l l.length) rfl (by simp) hlen l j (fun k hk => hbad k (by omega))
        have hd : okD f (stC (rich f) l j) (gd l (j : Int)) = true := (bad_ok (hbad j (by omega))).2
        have hS2 := hS.step (f := f) hd
        have hok2 := hS.ok (f := f) hd (fun i hi => by
          have h1 := hS2.ca i hi
          have h2 := (nd_bd f l hi l.length).2.1 (j + 1) (by omega) (by omega)
          have e1 : gd (richC f) (i : Int) = 1000000 := gd_replicate (by omega) (by omega)
          have e2 : stepD f (stC (rich f) l j) (gd l (j : Int)) = stC (rich f) l (j + 1) := rfl
          rw [e2] at h1
          omega)
        have hr := (bad_ok (hbad j (by omega))).1
        unfold bad
        rw [hr]
        have hok3 : okD (withC f (nd f l l.length)) (stC (withC f (nd f l l.length)) l j) (gd l (j : Int)) = true := hok2
        rw [hok3]
        rfl
  exact wrong_of hokx hll (key l.length (Nat.le_refl _))
theorem nd_less {f : Fair} (hok : fairOK f = true) {l : List Deal} (hll : l.length ≤ 200) (hbad : ∀ j, j < l.length → bad (rich f) l j = false) {i : Nat} (hi : i < f.2.2.1.length) (hne : gd (nd f l l.length) (i : Int) ≠ 0) :
    ∃ k, wrong (withC f ((nd f l l.length).set i (gd (nd f l l.length) (i : Int) - 1))) l = some (k, 11) := by
  have hlen := nd_len f l l.length
  have hn := nd_bd f l hi l.length
  have hu := nd_le hok hbad hi
  have hsl : ((nd f l l.length).set i (gd (nd f l l.length) (i : Int) - 1)).length = f.2.2.1.length := by rw [List.length_set]; exact hlen
  have hgi : gd ((nd f l l.length).set i (gd (nd f l l.length) (i : Int) - 1)) (i : Int) = gd (nd f l l.length) (i : Int) - 1 := by
    have := gd_set_self (l := nd f l l.length) (i := (i : Int)) (c := gd (nd f l l.length) (i : Int) - 1) (by omega) (by omega)
    rwa [Int.toNat_natCast] at this
  generalize hy : (nd f l l.length).set i (gd (nd f l l.length) (i : Int) - 1) = y at hsl hgi
  have hbx : ∀ v ∈ y, 0 ≤ v ∧ v ≤ 1000000 := by
    intro v hv
    rw [← hy] at hv
    rcases List.mem_or_eq_of_mem_set hv with hv | rfl
    · obtain ⟨j, hj, rfl⟩ := List.mem_iff_getElem.1 hv
      rw [getElem_gd hj]
      exact ⟨(nd_bd f l (by omega) l.length).1, nd_le hok hbad (by omega)⟩
    · omega
  have hoky := fairOK_with hok hsl hbx
  refine wrong_code hoky hll fun hnone => ?_
  obtain ⟨hfy, _, _, hby⟩ := wrong_none hnone
  rcases hn.2.2 with h | ⟨j, h1, h2, h3⟩
  · exact hne h
  · have hS := Sh.run (f := f) (x := richC f) (y := y) rfl (by simp) hsl l j (fun k hk => hbad k (by omega))
    have hI := Inv.all hfy l j (fun k hk => hby k (by omega))
    have hlc : (stC (withC f y) l j).2.1.length = f.2.2.1.length := hI.lc
    have hnn := hI.nc _ (gd_mem (l := (stC (withC f y) l j).2.1) (i := (i : Int)) (by omega) (by omega))
    have hca := hS.ca i hi
    have e1 : gd (richC f) (i : Int) = 1000000 := gd_replicate (by omega) (by omega)
    have hca' : gd (stC (withC f y) l j).2.1 (i : Int) = gd (stC (rich f) l j).2.1 (i : Int) + (gd y (i : Int) - gd (richC f) (i : Int)) := hca
    omega
theorem g29_q (f : Fair) {x : List Int} (hx : x.length ≤ 1000000) : g29 (f, x, ()) = some ((withC f x, ()), ()) := by
  have e0 : g29 (f, x, ()) = F29 fuel f x := rfl
  rw [e0]
  unfold F29
  rw [lenK_in (by omega) (by omega)]
theorem L8_13_q {f : Fair} (hs : Sized f) (hok : fairOK f = true) {l : List Deal} (hll : l.length ≤ 200) (hbad : ∀ j, j < l.length → bad (rich f) l j = false) {N : Nat} (hN : 1000 < N) : L8_13 N ((l, nd f l l.length, 0, ()), (f, ()), ()) = some (.inr ((), (), ())) := by
  have hf := Ok.of hok
  have h8 := hf.s8
  have hlen := nd_len f l l.length
  have h := loopF (L := L8_13) (fun i => ((l, nd f l l.length, (i : Int), ()), (f, ()), ())) (.inr ((), (), ())) 0 (nd f l l.length).length (N := N) (by omega)
    (fun N => by
      simp only [L8_13, B8_13]
      rw [dec_f (by omega), cond_false])
    (fun N i _ hi => by
      have hu := nd_le hok hbad (i := i) (by omega)
      have hn := (nd_bd f l (i := i) (by omega) l.length).1
      simp only [L8_13, B8_13]
      rw [dec_t (by omega), cond_true, getI_gd (by omega) (by omega)]
      by_cases hz : gd (nd f l l.length) (i : Int) = 0
      · rw [show (gd (nd f l l.length) (i : Int) == 0) = true by simp [hz], cond_true, wI (by omega) (by omega)]
        rfl
      · obtain ⟨k, hk⟩ := nd_less hok hll hbad (i := i) (by omega) hz
        rw [show (gd (nd f l l.length) (i : Int) == 0) = false by simp [hz], cond_false, lenK_in (by omega) (by omega), inR_in (by omega) (by omega), getI_gd (by omega) (by omega), inR_in (by omega) (by omega), getI_gd (by omega) (by omega), wI (x := gd (nd f l l.length) (i : Int) - 1) (by omega) (by omega), Int.toNat_natCast, g29_q f (by rw [List.length_set]; omega), derefK_some]
        simp only
        rw [g28_eq _ (sized_with hs (by rw [List.length_set]; exact hlen)), hk, derefK_some, wI (by omega) (by omega)]
        rfl)
  exact h
theorem law8 (f : Fair) (hs : Sized f) (l : List Deal) : g8 (f, l, ()) = some ((true, ()), ()) := by
  have e0 : g8 (f, l, ()) = F8 fuel f l := rfl
  have hfu := fuel_ge
  rw [e0]
  unfold F8
  obtain ⟨b, hb⟩ : ∃ b, g21 (l, ()) = some ((b, ()), ()) := by
    have e0 : g21 (l, ()) = F21 fuel l := rfl
    rw [e0]
    unfold F21
    cases decide ((l.length : Int) > 40) with
    | true => exact ⟨_, rfl⟩
    | false => exact ⟨_, rfl⟩
  rw [hb, derefK_some]
  cases b with
  | true => exact works_k
  | false =>
  rw [cond_false, g26_q f hs, derefK_some, g27_q f hs, derefK_some]
  simp only [bne_self_eq_false, cond_false]
  have hfl : (flR f l).1.length ≤ 1000000000 := by
    unfold flR
    split
    · simp
    · rename_i hv
      have := (Ok.of (f := f) (by simpa using hv)).s8
      split
      · simp
      · rw [nd_len]; omega
  rw [g16_eq _ _ hfl, derefK_some, dec_t rfl, Bool.not_true, cond_false]
  by_cases hv : fairOK f = false
  · have : flR f l = ([], 10) := by unfold flR; rw [if_pos hv]
    rw [this]
    exact works_k
  have hv' : fairOK f = true := by simpa using hv
  cases hw : wrong (rich f) l with
  | some x =>
    have : flR f l = ([], x.2) := by unfold flR; rw [if_neg hv, hw]
    rw [this]
    simp only [show (x.2 != 0) = true by simp [wrong_ne hw], cond_true]
    exact works_k
  | none =>
    obtain ⟨_, _, hll, hbad⟩ := wrong_none hw
    have h8 := (Ok.of hv').s8
    have : flR f l = (nd f l l.length, 0) := by unfold flR; rw [if_neg hv, hw]
    rw [this]
    simp only [show ((0 : Int) != 0) = false from rfl, cond_false]
    rw [g29_q f (by rw [nd_len]; omega), derefK_some]
    simp only
    rw [g28_eq _ (sized_with hs (nd_len f l l.length)), nd_enough hv' hll hbad, derefK_some]
    simp only [show ((0 : Int) != 0) = false from rfl, cond_false]
    rw [L8_13_q hs hv' hll hbad (N := fuel) (by omega), derefK_some, sumK_inr]
    exact works_k
end Go.Proofs.Try.V
