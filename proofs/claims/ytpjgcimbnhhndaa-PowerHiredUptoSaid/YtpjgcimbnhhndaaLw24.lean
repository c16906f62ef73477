/- Plain laws of layer 5, twenty-fourth part: the law of Hire. No condition beyond those typed in each theorem. -/
import Derived.Test.YtpjgcimbnhhndaaLw23
namespace Go.Proofs.Try.V
open Go.Vi
set_option maxRecDepth 100000

/-- The errors of Hire. -/
def hrC (pw pr : List Int) (need : Int) : Int :=
  if pw.length ≤ 10 then (if pr.length = pw.length ∧ (∀ x ∈ pw, 1 ≤ x ∧ x ≤ 1000) ∧ (∀ x ∈ pr, 0 ≤ x ∧ x ≤ 1000000) ∧ 0 ≤ need ∧ need ≤ 10000 then 0 else 1) else 2
structure HOK5 (pw pr : List Int) (need : Int) : Prop where
  n : pw.length ≤ 10
  e : pr.length = pw.length
  pw : ∀ x ∈ pw, 1 ≤ x ∧ x ≤ 1000
  pr : ∀ x ∈ pr, 0 ≤ x ∧ x ≤ 1000000
  nd : 0 ≤ need ∧ need ≤ 10000
/-- A choice is taken instead of another one. -/
def btr (m w : List Int) (c s : Int) : Bool := decide (c < s) || (decide (c = s) && (if m.length = w.length then ltL m w else decide (m.length < w.length)))
/-- What is kept after the first choices. -/
def hst (pw pr : List Int) (need : Int) : Nat → Option (List Int × Int)
  | 0 => none
  | S + 1 => if aL pw (fil S.testBit pw.length) < need then hst pw pr need S else
    match hst pw pr need S with
    | none => some (fil S.testBit pw.length, aL pr (fil S.testBit pw.length))
    | some (w, s) => if btr (fil S.testBit pw.length) w (aL pr (fil S.testBit pw.length)) s = true then some (fil S.testBit pw.length, aL pr (fil S.testBit pw.length)) else some (w, s)
def hW : Option (List Int × Int) → List Int
  | none => []
  | some x => x.1
def hS : Option (List Int × Int) → Int
  | none => 0
  | some x => x.2
def hL : Option (List Int × Int) → Int
  | none => -1
  | some x => x.2
theorem hst_lt {pw pr : List Int} {need : Int} {S : Nat} (h : aL pw (fil S.testBit pw.length) < need) : hst pw pr need (S + 1) = hst pw pr need S := by
  conv => lhs; unfold hst
  rw [if_pos h]
theorem hst_none {pw pr : List Int} {need : Int} {S : Nat} (h : ¬ aL pw (fil S.testBit pw.length) < need) (hs : hst pw pr need S = none) : hst pw pr need (S + 1) = some (fil S.testBit pw.length, aL pr (fil S.testBit pw.length)) := by
  conv => lhs; unfold hst
  rw [if_neg h, hs]
theorem hst_some {pw pr : List Int} {need : Int} {S : Nat} (h : ¬ aL pw (fil S.testBit pw.length) < need) {w : List Int} {s : Int} (hs : hst pw pr need S = some (w, s)) :
    hst pw pr need (S + 1) = if btr (fil S.testBit pw.length) w (aL pr (fil S.testBit pw.length)) s = true then some (fil S.testBit pw.length, aL pr (fil S.testBit pw.length)) else some (w, s) := by
  conv => lhs; unfold hst
  rw [if_neg h, hs]
theorem hst_len {pw pr : List Int} {need : Int} (h : HOK5 pw pr need) : ∀ S, (hW (hst pw pr need S)).length ≤ 10 ∧ (∀ x, hst pw pr need S = some x → 0 ≤ x.2)
  | 0 => ⟨Nat.zero_le _, fun x h => by cases h⟩
  | S + 1 => by
    have ih := hst_len h S
    have hl := fil_len S.testBit pw.length
    have hn := h.n
    have hb := (aL_bd h.pr (fil S.testBit pw.length) (fun x hx => by have := fil_mem x hx; have := h.e; omega)).1
    unfold hst
    split
    · exact ih
    · split
      · refine ⟨by show (fil S.testBit pw.length).length ≤ 10; omega, fun x hx => by cases hx; exact hb⟩
      · rename_i w s hws
        rw [hws] at ih
        split
        · refine ⟨by show (fil S.testBit pw.length).length ≤ 10; omega, fun x hx => by cases hx; exact hb⟩
        · exact ih

/-! ## The program -/
theorem L48_13_eq' {pw pr : List Int} {need nd : Int} (h : HOK5 pw pr need) (w : List Int) (a : Int) (f : Bool) (c d : Int) {m : List Int} (hm : ∀ x ∈ m, 0 ≤ x ∧ x < pw.length) (hml : m.length ≤ 10) {N : Nat} (hN : 2000 ≤ N) :
    L48_13 N ((pw, pr, nd, w, a, f, 0, 0, c, d, (m.length : Int), 0, ()), (m, ()), ()) = some ((pw, pr, nd, w, a, f, aL pw m, aL pr m, c, d, ()), (m, ()), ()) := by
  have he := h.e
  have e := loopF (L := L48_13) (fun (i : Nat) => ((pw, pr, nd, w, a, f, aL pw (m.take i), aL pr (m.take i), c, d, (m.length : Int), (i : Int), ()), (m, ()), ())) ((pw, pr, nd, w, a, f, aL pw m, aL pr m, c, d, ()), (m, ()), ()) 0 m.length (N := N) (by omega)
    (fun N => by
      simp only [L48_13, B48_13]
      rw [dec_f (by omega), List.take_length]
      rfl)
    (fun N i _ hi => by
      have hx := hm _ (gd_mem (l := m) (i := (i : Int)) (by omega) (by omega))
      have htl : (m.take i).length ≤ 10 := by rw [List.length_take]; omega
      have hmt : ∀ x ∈ m.take i, 0 ≤ x ∧ x < pw.length := fun x hx => hm x (List.mem_of_mem_take hx)
      have b1 := aL_bd (B := 1000) (fun x hx => by have := h.pw x hx; omega) (m.take i) hmt
      have b2 := aL_bd h.pr (m.take i) (fun x hx => by have := hmt x hx; omega)
      have c1 := h.pw _ (gd_mem (l := pw) hx.1 hx.2)
      have c2 := h.pr _ (gd_mem (l := pr) hx.1 (by omega))
      simp only [L48_13, B48_13]
      rw [dec_t (by omega), cond_true, inR_in (by omega) (by omega), getI_gd (by omega) (by omega), getI_gd hx.1 hx.2, getI_gd hx.1 (by omega), wI (x := (i : Int) + 1) (by omega) (by omega), wI (x := aL pw (m.take i) + _) (by omega) (by omega), wI (x := aL pr (m.take i) + _) (by omega) (by omega), show (i : Int) + 1 = ((i + 1 : Nat) : Int) by omega, take_nat hi, aL_snoc, aL_snoc])
  have e' : L48_13 N ((pw, pr, nd, w, a, f, 0, 0, c, d, (m.length : Int), 0, ()), (m, ()), ()) = _ := e
  exact e'
theorem L48_8_step {pw pr : List Int} {need : Int} (h : HOK5 pw pr need) {N : Nat} (hN : 2000 ≤ N) {S : Nat} (hS' : S < 2 ^ pw.length) :
    L48_8 (N + 1) ((pw, pr, need, hW (hst pw pr need S), hS (hst pw pr need S), (hst pw pr need S).isSome, ((2 ^ pw.length : Nat) : Int), (S : Int), ()), (), ()) =
      L48_8 N ((pw, pr, need, hW (hst pw pr need (S + 1)), hS (hst pw pr need (S + 1)), (hst pw pr need (S + 1)).isSome, ((2 ^ pw.length : Nat) : Int), ((S + 1 : Nat) : Int), ()), (), ()) := by
  have hn := h.n
  have h10 : (2 : Nat) ^ pw.length ≤ 2 ^ 10 := Nat.pow_le_pow_right (by omega) hn
  have hl := fil_len S.testBit pw.length
  have hwl := (hst_len h S).1
  have e13 := L48_13_eq' (nd := need) h (hW (hst pw pr need S)) (hS (hst pw pr need S)) (hst pw pr need S).isSome ((2 ^ pw.length : Nat) : Int) (S : Int) (m := fil S.testBit pw.length) (fun x hx => fil_mem x hx) (by omega) hN
  have hw : IntKind.wrap .i64 ((S : Int) + 1) = ((S + 1 : Nat) : Int) := by rw [wI (by omega) (by omega)]; omega
  simp only [L48_8, B48_8]
  rw [dec_t (by omega), cond_true, g79_eq hS' hn, derefK_some]
  refine (derefK_of e13 _).trans ?_
  simp only [hw]
  by_cases h1 : aL pw (fil S.testBit pw.length) < need
  · rw [dec_t h1, cond_true, hst_lt h1]
  rw [dec_f h1, cond_false]
  cases hs : hst pw pr need S with
  | none =>
    rw [hst_none h1 hs]
    rfl
  | some x =>
    obtain ⟨w, s⟩ := x
    rw [hs] at hwl
    have hwl : w.length ≤ 10 := hwl
    rw [hst_some h1 hs]
    have hbt : btr (fil S.testBit pw.length) w (aL pr (fil S.testBit pw.length)) s = (decide (aL pr (fil S.testBit pw.length) < s) || (decide (aL pr (fil S.testBit pw.length) = s) && (if (fil S.testBit pw.length).length = w.length then ltL (fil S.testBit pw.length) w else decide ((fil S.testBit pw.length).length < w.length)))) := rfl
    rw [hbt]
    show (bif !true then _ else bif decide (aL pr (fil S.testBit pw.length) < s) then _ else bif aL pr (fil S.testBit pw.length) == s then (bif decide (((fil S.testBit pw.length).length : Int) < (w.length : Int)) then _ else bif ((fil S.testBit pw.length).length : Int) == (w.length : Int) then derefK (g80 (fil S.testBit pw.length, w, ())) _ else _) else _) = _
    rw [Bool.not_true, cond_false]
    by_cases h2 : aL pr (fil S.testBit pw.length) < s
    · rw [dec_t h2, Bool.true_or]
      rfl
    rw [dec_f h2, cond_false, Bool.false_or]
    by_cases h3 : aL pr (fil S.testBit pw.length) = s
    case neg =>
      rw [show (aL pr (fil S.testBit pw.length) == s) = false from beq_eq_false_iff_ne.2 h3, dec_f h3, Bool.false_and]
      rfl
    rw [show (aL pr (fil S.testBit pw.length) == s) = true by simp [h3], dec_t h3, Bool.true_and, cond_true]
    by_cases h4 : (fil S.testBit pw.length).length = w.length
    · obtain ⟨v, e80, hv⟩ := g80_eq (a := fil S.testBit pw.length) (b := w) (by omega) h4
      rw [dec_f (by omega), cond_false, show (((fil S.testBit pw.length).length : Int) == (w.length : Int)) = true by rw [h4]; simp, cond_true, if_pos h4]
      refine (derefK_of e80 _).trans ?_
      show (bif decide (v < 0) then _ else _) = _
      rw [hv]
      cases ltL (fil S.testBit pw.length) w <;> rfl
    · rw [if_neg h4]
      by_cases h5 : (fil S.testBit pw.length).length < w.length
      · rw [dec_t (p := ((fil S.testBit pw.length).length : Int) < (w.length : Int)) (by omega), dec_t h5]
        rfl
      · rw [dec_f (p := ((fil S.testBit pw.length).length : Int) < (w.length : Int)) (by omega), dec_f h5, cond_false, show (((fil S.testBit pw.length).length : Int) == (w.length : Int)) = false from beq_eq_false_iff_ne.2 (by omega)]
        rfl
end Go.Proofs.Try.V
