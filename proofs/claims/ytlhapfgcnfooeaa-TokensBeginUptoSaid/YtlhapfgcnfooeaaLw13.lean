/- Plain laws of layer 1: many deals, by the program. No condition beyond those typed in each theorem. -/
import Derived.Test.YtlhapfgcnfooeaaLw12
namespace Go.Proofs.Try.V
open Go.Vi
set_option maxRecDepth 100000

/-! ## The first of some numbers -/
def first (n : Nat) (q : Nat → Bool) : Option Nat := (List.range n).find? q
theorem first_none {n : Nat} {q : Nat → Bool} : first n q = none ↔ ∀ j, j < n → q j = false := by
  unfold first
  rw [List.find?_eq_none]
  simp
theorem first_some {n : Nat} {q : Nat → Bool} {i : Nat} : first n q = some i ↔ i < n ∧ q i = true ∧ ∀ j, j < i → q j = false := by
  unfold first
  rw [List.find?_range_eq_some]
  simp only [List.mem_range, Bool.not_eq_true']
  constructor
  · rintro ⟨h1, h2, h3⟩; exact ⟨h2, h1, h3⟩
  · rintro ⟨h1, h2, h3⟩; exact ⟨h2, h1, h3⟩
theorem first_congr {n : Nat} {q q' : Nat → Bool} (h : ∀ j, j < n → q j = q' j) : first n q = first n q' := by
  cases h1 : first n q' with
  | none =>
    rw [first_none] at h1 ⊢
    exact fun j hj => by rw [h j hj, h1 j hj]
  | some i =>
    rw [first_some] at h1 ⊢
    exact ⟨h1.1, by rw [h i h1.1, h1.2.1], fun j hj => by rw [h j (by omega), h1.2.2 j hj]⟩
theorem loopFirst {D R : Type} {L : Nat → D → Option R} (mk : Nat → D) (n : Nat) (q : Nat → Bool) (hit : Nat → R) (e : R) (c : Nat) {N : Nat} (hN : n + c < N)
    (hend : ∀ N, (∀ j, j < n → q j = false) → L (N + 1) (mk n) = some e)
    (hstep : ∀ N i, c ≤ N → i < n → (∀ j, j < i → q j = false) → L (N + 1) (mk i) = bif q i then some (hit i) else L N (mk (i + 1))) :
    L N (mk 0) = some (match first n q with | some i => hit i | none => e) := by
  have key : ∀ (d i : Nat) (N : Nat), i + d = n → d + c < N → (∀ j, j < i → q j = false) → L N (mk i) = some (match first n q with | some i => hit i | none => e) := by
    intro d
    induction d with
    | zero =>
      intro i N hi hN hq
      obtain ⟨m, rfl⟩ : ∃ m, N = m + 1 := ⟨N - 1, by omega⟩
      obtain rfl : i = n := by omega
      rw [hend m hq, first_none.2 hq]
    | succ d ih =>
      intro i N hi hN hq
      obtain ⟨m, rfl⟩ : ∃ m, N = m + 1 := ⟨N - 1, by omega⟩
      rw [hstep m i (by omega) (by omega) hq]
      cases h : q i with
      | true => rw [cond_true, first_some.2 ⟨by omega, h, hq⟩]
      | false =>
        rw [cond_false]
        refine ih (i + 1) m (by omega) (by omega) fun j hj => ?_
        by_cases e : j = i
        · rw [e, h]
        · exact hq j (by omega)
  exact key n 0 N (by omega) hN fun j hj => absurd hj (by omega)

/-! ## Many deals -/
def stC (f : Fair) (l : List Deal) : Nat → Cnt
  | 0 => cnt0 f
  | i + 1 => stepD f (stC f l i) (gd l (i : Int))
def stT (f : Fair) (l : List Deal) : Nat → Night
  | 0 => nt0
  | i + 1 => nightD f (stC f l i) (gd l (i : Int)) (stT f l i)
def lastT (l : List Deal) : Nat → Int
  | 0 => 0
  | i + 1 => (gd l (i : Int)).1
def bad (f : Fair) (l : List Deal) (i : Nat) : Bool := !(rng (gd l (i : Int)).1 (lastT l i) 1440 && okD f (stC f l i) (gd l (i : Int)))
theorem Inv.all {f : Fair} (hf : Ok f) (l : List Deal) : ∀ i : Nat, (∀ j, j < i → bad f l j = false) → Inv f (stC f l i) i
  | 0, _ => .zero hf
  | i + 1, h => by
    refine (Inv.all hf l i fun j hj => h j (by omega)).step hf ?_
    have := h i (by omega)
    unfold bad at this
    rw [Bool.not_eq_false', Bool.and_eq_true] at this
    exact this.2
theorem NInv.all {f : Fair} (hf : Ok f) (l : List Deal) : ∀ i : Nat, (∀ j, j < i → bad f l j = false) → NInv (stT f l i) i
  | 0, _ => .zero
  | i + 1, h => by
    refine (NInv.all hf l i fun j hj => h j (by omega)).step hf (Inv.all hf l i fun j hj => h j (by omega)) ?_
    have := h i (by omega)
    unfold bad at this
    rw [Bool.not_eq_false', Bool.and_eq_true] at this
    exact this.2
def stand (f : Fair) (l : List Deal) (i : Nat) : Stand := (f, (stC f l i, (lastT l i, stT f l i)))

theorem g76_eq (l : List Int) (h : l.length ≤ 1000000) : g76 (l, ()) = some ((l, ()), ()) := by
  show F76 fuel l = _
  unfold F76
  refine nilK_of (fun h0 => ?_) ?_
  · rw [List.length_eq_zero_iff.1 h0]; rfl
  · rw [cond_false, lenK_in (by simp <;> omega) (by simp <;> omega), List.nil_append]
theorem g71_eq {f : Fair} (hf : Ok f) : g71 (f, ()) = some ((stand f [] 0, ()), ()) := by
  have e0 : g71 (f, ()) = F71 fuel f := rfl
  rw [e0]
  have h1 := hf.s8
  have h2 := hf.c8
  have h3 := hf.p0
  have h4 := hf.p1
  have h5 := hf.b0
  have h6 := hf.b1
  have e1 : g76 (f.2.2.1, ()) = some ((f.2.2.1, ()), ()) := g76_eq _ (by omega)
  have e2 : g76 (f.2.2.2.1, ()) = some ((f.2.2.2.1, ()), ()) := g76_eq _ (by omega)
  have l1 : ∀ {R : Type} (k : Option R), leK 0 f.1 k = k := fun k => leK_in h3 k
  have l2 : ∀ {R : Type} (k : Option R), leK f.1 f.1 k = k := fun k => leK_in (Int.le_refl _) k
  have l3 : ∀ {R : Type} (k : Option R), lenK f.1 k = k := fun k => lenK_in h3 (by omega) k
  have l4 : ∀ {R : Type} (k : Option R), leK 0 f.2.1 k = k := fun k => leK_in h5 k
  have l5 : ∀ {R : Type} (k : Option R), leK f.2.1 f.2.1 k = k := fun k => leK_in (Int.le_refl _) k
  have l6 : ∀ {R : Type} (k : Option R), lenK f.2.1 k = k := fun k => lenK_in h5 (by omega) k
  unfold F71
  simp only [enumK_eq, e1, e2, derefK_some, l1, l2, l3, l4, l5, l6, bindV_eq, agreeK_two, agreeK_one]
  rfl
/-- The loop over the deals. -/
def resL (f : Fair) (l : List Deal) : ((Option Stand × Int × Int × Unit) × Unit × Unit) ⊕ (Unit × (Stand × Unit) × Unit) :=
  match first l.length (bad f l) with
  | some i => .inl ((none, (i : Int), 11, ()), (), ())
  | none => .inr ((), (stand f l l.length, ()), ())
theorem loop52 {f : Fair} (hf : Ok f) (l : List Deal) (hl : l.length ≤ 200) : L52_8 fuel ((l, (l.length : Int), 0, ()), (stand f [] 0, ()), ()) = some (resL f l) := by
  have hfu := fuel_ge
  have h := loopFirst (L := L52_8) (fun i => ((l, (l.length : Int), (i : Int), ()), (stand f l i, ()), ())) l.length (bad f l) (fun i => .inl ((none, (i : Int), 11, ()), (), ())) (.inr ((), (stand f l l.length, ()), ())) 0 (N := fuel) (by omega)
    (fun N _ => by simp only [L52_8, B52_8]; rw [dec_f (by omega), cond_false])
    (fun N i _ hi hb => by
      have hI := Inv.all hf l i hb
      simp only [L52_8, B52_8]
      rw [dec_t (by omega), cond_true, getI_gd (by omega) (by omega)]
      have e := g72_eq hf hI (lastT l i) (stT f l i) (gd l (i : Int))
      have e' : g72 (stand f l i, gd l (i : Int), ()) = _ := e
      rw [e', derefK_some]
      unfold bad
      cases hg : (rng (gd l (i : Int)).1 (lastT l i) 1440 && okD f (stC f l i) (gd l (i : Int)))
      · rfl
      · rw [Bool.and_eq_true] at hg
        have e2 := g73_eq hf hI (by omega) (lastT l i) (NInv.all hf l i hb) hg.2
        have e2' : g73 (stand f l i, gd l (i : Int), ()) = some ((), (stand f l (i + 1), ())) := e2
        simp only [Bool.not_true, cond_false]
        rw [e2', derefK_some]
        have e3 : g53 ((stand f l (i + 1)), ()) = some ((), ()) := rfl
        simp only
        rw [e3, derefK_some, wI (by omega) (by omega)]
        rfl)
  exact h
theorem loop10052 {f : Fair} (hf : Ok f) (l : List Deal) (hl : l.length ≤ 200) : L10052_8 fuel ((l, (l.length : Int), 0, ()), (stand f [] 0, ()), ()) = some (resL f l) := by
  have hfu := fuel_ge
  have h := loopFirst (L := L10052_8) (fun i => ((l, (l.length : Int), (i : Int), ()), (stand f l i, ()), ())) l.length (bad f l) (fun i => .inl ((none, (i : Int), 11, ()), (), ())) (.inr ((), (stand f l l.length, ()), ())) 0 (N := fuel) (by omega)
    (fun N _ => by simp only [L10052_8, B10052_8]; rw [dec_f (by omega), cond_false])
    (fun N i _ hi hb => by
      have hI := Inv.all hf l i hb
      simp only [L10052_8, B10052_8]
      rw [dec_t (by omega), cond_true, getI_gd (by omega) (by omega)]
      have e := g72_eq hf hI (lastT l i) (stT f l i) (gd l (i : Int))
      have e' : g72 (stand f l i, gd l (i : Int), ()) = _ := e
      rw [e', derefK_some]
      unfold bad
      cases hg : (rng (gd l (i : Int)).1 (lastT l i) 1440 && okD f (stC f l i) (gd l (i : Int)))
      · rfl
      · rw [Bool.and_eq_true] at hg
        have e2 := g73_eq hf hI (by omega) (lastT l i) (NInv.all hf l i hb) hg.2
        have e2' : g73 (stand f l i, gd l (i : Int), ()) = some ((), (stand f l (i + 1), ())) := e2
        simp only [Bool.not_true, cond_false]
        rw [e2', derefK_some]
        have e3 : g53 ((stand f l (i + 1)), ()) = some ((), ()) := rfl
        simp only
        rw [e3, derefK_some, wI (by omega) (by omega)]
        rfl)
  exact h

/-- What is wrong with deals: the first bad one and an error's number; none: they are right. -/
def wrong (f : Fair) (l : List Deal) : Option (Int × Int) :=
  if fairOK f = false then some (0, 10) else if 200 < l.length then some (0, 2) else match first l.length (bad f l) with | some i => some ((i : Int), 11) | none => none
theorem wrong_ne {f : Fair} {l : List Deal} {x : Int × Int} (h : wrong f l = some x) : x.2 ≠ 0 := by
  unfold wrong at h
  split at h
  · cases h; decide
  split at h
  · cases h; decide
  split at h
  · cases h; show (11 : Int) ≠ 0; decide
  · cases h
theorem wrong_none {f : Fair} {l : List Deal} (h : wrong f l = none) : Ok f ∧ fairOK f = true ∧ l.length ≤ 200 ∧ ∀ j, j < l.length → bad f l j = false := by
  unfold wrong at h
  split at h
  · cases h
  rename_i h1
  split at h
  · cases h
  split at h
  · cases h
  · rename_i h2 _ h3
    have h1 : fairOK f = true := by simpa using h1
    exact ⟨.of h1, h1, by omega, first_none.1 h3⟩
theorem wrong_of {f : Fair} {l : List Deal} (h1 : fairOK f = true) (h2 : l.length ≤ 200) (h3 : ∀ j, j < l.length → bad f l j = false) : wrong f l = none := by
  unfold wrong
  rw [if_neg (by rw [h1]; decide), if_neg (by omega), first_none.2 h3]
theorem g52_eq (f : Fair) (hs : Sized f) (l : List Deal) : g52 (f, l, (), ()) = some ((match wrong f l with | some x => (none, x.1, x.2, ()) | none => (some (stand f l l.length), 0, 0, ())), ()) := by
  have e0 : g52 (f, l, (), ()) = F52 fuel f l () := rfl
  rw [e0]
  unfold F52 wrong
  rw [g18_eq f hs, derefK_some]
  by_cases hv : fairOK f = false
  · rw [hv]; rfl
  have hv' : fairOK f = true := by simpa using hv
  rw [if_neg hv, hv', if_pos rfl, show ((0 : Int) != 0) = false from rfl, cond_false]
  by_cases hl : 200 < l.length
  · rw [dec_t (by omega), cond_true, if_pos hl]
  · rw [dec_f (by omega), cond_false, if_neg hl, g71_eq (.of hv'), derefK_some]
    simp only
    rw [loop52 (.of hv') l (by omega), derefK_some]
    unfold resL
    cases first l.length (bad f l) <;> rfl
theorem g10052_eq (f : Fair) (hs : Sized f) (l : List Deal) : g10052 (f, l, (), ()) = match wrong f l with | some _ => none | none => some ((stand f l l.length, 0, 0, ()), ()) := by
  have e0 : g10052 (f, l, (), ()) = F10052 fuel f l () := rfl
  rw [e0]
  unfold F10052 wrong
  rw [g18_eq f hs, derefK_some]
  by_cases hv : fairOK f = false
  · rw [hv]; rfl
  have hv' : fairOK f = true := by simpa using hv
  rw [if_neg hv, hv', if_pos rfl, show ((0 : Int) != 0) = false from rfl, cond_false]
  by_cases hl : 200 < l.length
  · rw [dec_t (by omega), cond_true, if_pos hl]
  · rw [dec_f (by omega), cond_false, if_neg hl, g71_eq (.of hv'), derefK_some]
    simp only
    rw [loop10052 (.of hv') l (by omega), derefK_some]
    unfold resL
    cases first l.length (bad f l) <;> rfl

/-! ## Play, CheckDeals -/
def cnil : Cnt := ([], [], [], [], 0)
theorem g22_eq (f : Fair) (hs : Sized f) (l : List Deal) : g22 (f, l, ()) = some ((match wrong f l with | some x => (cnil, x.2, ()) | none => (stC f l l.length, 0, ())), ()) := by
  have e0 : g22 (f, l, ()) = F22 fuel f l := rfl
  rw [e0]
  unfold F22
  rw [g52_eq f hs l, derefK_some]
  cases h : wrong f l with
  | none => rfl
  | some x =>
    simp only
    rw [bne_iff_ne.2 (wrong_ne h), cond_true]
    rfl
theorem g28_eq (f : Fair) (hs : Sized f) (l : List Deal) : g28 (f, l, ()) = some ((match wrong f l with | some x => (x.1, x.2, ()) | none => (0, 0, ())), ()) := by
  have e0 : g28 (f, l, ()) = F28 fuel f l := rfl
  rw [e0]
  unfold F28
  rw [g52_eq f hs l, derefK_some]
  cases wrong f l <;> rfl
end Go.Proofs.Try.V
