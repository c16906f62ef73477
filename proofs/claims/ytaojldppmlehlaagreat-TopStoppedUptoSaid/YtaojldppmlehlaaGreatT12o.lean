/- Plain laws of the night: an equal gala in new memory; what opens. No condition beyond those typed in each theorem. -/
import Derived.Test.YtaojldppmlehlaaGreatT12
namespace Go.Proofs.Tryz.V.Top
open Go.Vi
open L10 (jG qP)
set_option maxRecDepth 100000
structure Near (g : qda) : Prop where
 rides : g.1.1.length ≤ 1000
 rules : g.2.1.1.length ≤ 1000
 ranks : g.2.1.2.1.length ≤ 1000
 ins : g.2.1.2.2.length ≤ 1000
 ents : g.2.2.1.length ≤ 1000
 boards : g.2.2.2.2.1.1.length ≤ 1000
 loads : g.2.2.2.2.1.2.1.length ≤ 1000
 lims : g.2.2.2.2.2.1.length ≤ 1000
 emps : g.2.2.2.2.2.2.length ≤ 1000
theorem far_eq (g : qda) : ∃ b : Bool, g4 (g, ()) = some ((b, ()), ()) ∧ (b = false → Near g) := by
 have hF : g4 (g, ()) = F4 qe g := rfl
 rw [hF]
 unfold F4
 by_cases h1 : (g.1.1.length : Int) > 10
 ·exact ⟨true, by rw [qw h1]; rfl, fun h => by cases h⟩
 rw [qE h1, cond_false]
 by_cases h2 : (g.2.1.1.length : Int) > 25
 ·exact ⟨true, by rw [qw h2]; rfl, fun h => by cases h⟩
 rw [qE h2, cond_false]
 by_cases h3 : (g.2.1.2.1.length : Int) > 12
 ·exact ⟨true, by rw [qw h3]; rfl, fun h => by cases h⟩
 rw [qE h3, cond_false]
 by_cases h4 : (g.2.1.2.2.length : Int) > 15
 ·exact ⟨true, by rw [qw h4]; rfl, fun h => by cases h⟩
 rw [qE h4, cond_false]
 by_cases h5 : (g.2.2.1.length : Int) > 60
 ·exact ⟨true, by rw [qw h5]; rfl, fun h => by cases h⟩
 rw [qE h5, cond_false]
 by_cases h6 : (g.2.2.2.2.1.1.length : Int) > 15
 ·exact ⟨true, by rw [qw h6]; rfl, fun h => by cases h⟩
 rw [qE h6, cond_false]
 by_cases h7 : (g.2.2.2.2.1.2.1.length : Int) > 20
 ·exact ⟨true, by rw [qw h7]; rfl, fun h => by cases h⟩
 rw [qE h7, cond_false]
 by_cases h8 : (g.2.2.2.2.2.1.length : Int) > 15
 ·exact ⟨true, by rw [qw h8]; rfl, fun h => by cases h⟩
 rw [qE h8, cond_false]
 refine ⟨_, rfl, fun h => ?_⟩
 have h9 := of_decide_eq_false h
 exact ⟨by omega, by omega, by omega, by omega, by omega, by omega, by omega, by omega, by omega⟩
theorem qkL {g : qda} (h : Near g) : g9 (g, ()) = some ((g, ()), ()) := by
 obtain ⟨h1, h2, h3, h4, h5, h6, h7, h8, h9⟩ := h
 have hF : g9 (g, ()) = F9 qe g := rfl
 rw [hF]
 unfold F9
 have e1 : g24 (g.1, ()) = some ((g.1, ()), ()) := by
  show F24 qe g.1 = _
  unfold F24
  rw [j1 (by simp <;> omega) (by simp <;> omega)]
  rfl
 have a1 : ∀ {R : Type} (k : Option R), qY ((([] : List (Int × (Int × (Int × Bool)))).length : Int) + g.2.1.1.length) k = k := fun k => j1 (by simp <;> omega) (by simp <;> omega) k
 have a2 : ∀ {R : Type} (k : Option R), qY ((([] : List Int).length : Int) + g.2.1.2.1.length) k = k := fun k => j1 (by simp <;> omega) (by simp <;> omega) k
 have a3 : ∀ {R : Type} (k : Option R), qY ((([] : List Int).length : Int) + g.2.1.2.2.length) k = k := fun k => j1 (by simp <;> omega) (by simp <;> omega) k
 rw [jS e1, qbQ]
 simp only [a1, a2, a3, qbk, qbj]
 rw [j1 (by simp <;> omega) (by simp <;> omega), qa5, j1 (by simp <;> omega) (by simp <;> omega), qa5, j1 (by simp <;> omega) (by simp <;> omega), qa5, j1 (by simp <;> omega) (by simp <;> omega), qa5, j1 (by simp <;> omega) (by simp <;> omega), qa5]
 rfl
def opS (s : L05.Sup) (l : List Int) : Nat → Nat × List Int
 | 0 => (0, [])
 | i + 1 => if (L05.fo s ((opS s l i).1 ||| 2 ^ (gd l (i : Int)).toNat)).isNone then ((opS s l i).1 ||| 2 ^ (gd l (i : Int)).toNat, (opS s l i).2 ++ [gd l (i : Int)]) else opS s l i
def rel (g : qda) : List Int := L10.relL g.2.1 (L10.upto g.2.2.1 g.2.2.2.1) g.2.2.2.1
def opn (g : qda) : List Int := (opS g.2.2.2.2.1 (rel g) (rel g).length).2
theorem qj0 {s : L05.Sup} {l : List Int} (hn : s.2.1.length ≤ 16) (hl : ∀ x ∈ l, 0 ≤ x ∧ x < s.2.1.length) : ∀ i, i ≤ l.length → (opS s l i).1 < 2 ^ s.2.1.length ∧ (opS s l i).2.length ≤ i
 | 0, _ => ⟨Nat.two_pow_pos _, Nat.le_refl _⟩
 | i + 1, hi => by
  obtain ⟨h1, h2⟩ := qj0 hn hl i (by omega)
  have hx := hl _ (qag (l := l) (i := (i : Int)) (by omega) (by omega))
  have := (L05.set_bit hn h1 hx.1 hx.2).2
  unfold opS
  split
  ·exact ⟨this, by simp; omega⟩
  ·exact ⟨h1, by omega⟩
theorem qiv (s : L05.Sup) (l : List Int) : ∀ i, i ≤ l.length → ∀ x ∈ (opS s l i).2, x ∈ l
 | 0, _, x, h => by cases h
 | i + 1, hi, x, h => by
  unfold opS at h
  split at h
  ·rcases List.mem_append.1 h with h | h
   ·exact qiv s l i (by omega) x h
   ·rw [List.mem_singleton.1 h]
    exact qag (by omega) (by omega)
  ·exact qiv s l i (by omega) x h
theorem qcJ.rel_in {g : qda} (h : qcJ g) : ∀ x ∈ rel g, 0 ≤ x ∧ x < g.2.2.2.2.1.2.1.length := fun x hx => by
 have := L10.rel_in hx
 have := h.ins
 have := h.loads
 omega
theorem qcJ.opens {g : qda} (h : qcJ g) : g65 (g, ()) = some ((opn g, ()), ()) := by
 have hF : g65 (g, ()) = F65 qe g := rfl
 have h8 := h.n8
 have hll : (rel g).length ≤ 8 := by
  have := L10.rel_lenT g.2.1 (L10.upto g.2.2.1 g.2.2.2.1) g.2.2.2.1
  have := h.ins
  unfold rel
  omega
 have hd : L10.dayErr g.2.1 g.2.2.1 g.2.2.2.1 = 0 := L10.day_err h.book (qP.1 h.day)
 have hn : g.2.2.2.2.1.2.1.length ≤ 16 := L05.root05.2.2.2 _ h.sup
 rw [hF]
 unfold F65
 rw [L10.root10.2.2, qb, hd, if_pos rfl]
 dsimp only
 rw [show ((0 : Int) != 0) = false from rfl, cond_false]
 have e : L65_6 qe ((0, ((rel g).length : Int), 0, ()), (g, ([] : List Int), rel g, ()), ()) = some ((), (opn g, ()), ()) :=
  qjq (L := L65_6) (fun i => ((((opS g.2.2.2.2.1 (rel g) i).1 : Nat), ((rel g).length : Int), (i : Int), ()), (g, (opS g.2.2.2.2.1 (rel g) i).2, rel g, ()), ())) _ 0 (rel g).length (by have := qQ; omega)
   (fun N => by
    simp only [L65_6, B65_6]
    rw [qE (by omega)]
    rfl)
   (fun N i _ hi => by
    obtain ⟨i1, i2⟩ := qj0 hn h.rel_in i (by omega)
    have hx := h.rel_in _ (qag (l := rel g) (i := (i : Int)) (by omega) (by omega))
    obtain ⟨b1, b2⟩ := L05.set_bit hn i1 hx.1 hx.2
    simp only [L65_6, B65_6]
    rw [qw (by omega), cond_true, jV (by omega) (by omega), qq (by omega) (by omega), L05.negK_in hx.1, b1, jS (L05.root05.2.2.1 _ _ h.sup b2), wI (by omega) (by omega)]
    dsimp only
    have es : opS g.2.2.2.2.1 (rel g) (i + 1) = if (L05.fo g.2.2.2.2.1 ((opS g.2.2.2.2.1 (rel g) i).1 ||| 2 ^ (gd (rel g) (i : Int)).toNat)).isNone then ((opS g.2.2.2.2.1 (rel g) i).1 ||| 2 ^ (gd (rel g) (i : Int)).toNat, (opS g.2.2.2.2.1 (rel g) i).2 ++ [gd (rel g) (i : Int)]) else opS g.2.2.2.2.1 (rel g) i := rfl
    rw [es, show ((0 : Int) == 0) = true from rfl, cond_true]
    cases (L05.fo g.2.2.2.2.1 ((opS g.2.2.2.2.1 (rel g) i).1 ||| 2 ^ (gd (rel g) (i : Int)).toNat)).isNone with
    | true =>
     rw [cond_true, L05.negK_in hx.1, j1 (by simp <;> omega) (by simp <;> omega), if_pos rfl]
     rfl
    | false => rfl)
 exact (jS e _).trans rfl
theorem qcJ.opens' {g : qda} (h : qcJ g) : g29 (g, ()) = some ((opn g, 0, ()), ()) := by
 show F29 qe g = _
 unfold F29
 rw [h.check, qb]
 exact (jS h.opens _).trans rfl
theorem opn_len {g : qda} (h : qcJ g) : (opn g).length ≤ 8 := by
 have h8 := h.n8
 have := L10.rel_lenT g.2.1 (L10.upto g.2.2.1 g.2.2.2.1) g.2.2.2.1
 have h1 := h.ins
 have h2 := (qj0 (L05.root05.2.2.2 _ h.sup) h.rel_in (rel g).length (Nat.le_refl _)).2
 have : (rel g).length ≤ g.2.1.2.2.length := this
 unfold opn
 omega
theorem opn_sub {g : qda} {n : Int} (h : n ∈ opn g) : n ∈ rel g := qiv _ _ _ (Nat.le_refl _) n h
end Go.Proofs.Tryz.V.Top
