/- Plain laws: what is generic; sums of some of a list's numbers, and the greatest of them. No condition beyond those typed in each theorem. -/
import Derived.Test.YtdecnbepmnjeiaaS01
import Derived.Test.YtdecnbepmnjeiaaS05m
namespace Go.Proofs.Try.V.L10
open Go.Vi
def rng (x lo hi : Int) : Bool := decide (lo ≤ x) && decide (x ≤ hi)
theorem jL {x lo hi : Int} : rng x lo hi = true ↔ lo ≤ x ∧ x ≤ hi := by simp [rng]
def idxI {α : Type} (l : List α) (q : α → Bool) : Int := match l.findIdx? q with | some i => (i : Int) | none => -1
theorem idxI_nn {α : Type} (l : List α) (q : α → Bool) : decide (idxI l q ≥ 0) = l.any q := by
 unfold idxI
 cases e : l.findIdx? q with
 | none =>
  rw [List.findIdx?_eq_none_iff] at e
  rw [qL (by decide)]
  symm
  rw [List.any_eq_false]
  intro x hx
  rw [e x hx]
  decide
 | some i =>
  rw [List.findIdx?_eq_some_iff_getElem] at e
  obtain ⟨h, h2, _⟩ := e
  rw [qM (by show (i : Int) ≥ 0; omega)]
  symm
  rw [List.any_eq_true]
  exact ⟨_, List.getElem_mem h, h2⟩
theorem loopIdx {α D R : Type} [Inhabited α] {L : Nat → D → Option R} (mk : Nat → D) (l : List α) (q : α → Bool) (hit : Nat → R) (e : R) (c : Nat) {N : Nat} (hN : l.length + c < N) (hend : ∀ N, L (N + 1) (mk l.length) = some e) (hstep : ∀ N i, c ≤ N → i < l.length → L (N + 1) (mk i) = bif q (gd l (i : Int)) then some (hit i) else L N (mk (i + 1))) : L N (mk 0) = some (match l.findIdx? q with | some i => hit i | none => e) := by
 exact L05.loopIdx mk l q hit e c hN hend fun N i h1 h2 => (hstep N i h1 h2).trans (by cases q (gd l (i : Int)) <;> rfl)
theorem neq_t {x y : Int} (h : x ≠ y) : (x != y) = true := by simp [h]
end Go.Proofs.Try.V.L10
namespace Go.Proofs.Try.V.Top
open Go.Vi
open L10 (rng jL)
open L05 (smK)
set_option maxRecDepth 100000
theorem buys_eq : g5 () = some ((true, ()), ()) := by
 show F5 qj = _
 unfold F5
 have e := L01.buyT
 unfold L01.exT at e
 rw [qb8, e, qd]
 show qa (g10 ([1, 1], [1, 1], ())) _ = _
 rw [L01.root01]
 rfl
theorem within7 (x lo hi : Int) : g22 (x, lo, hi, ()) = some ((rng x lo hi, ()), ()) := by
 show F22 qj x lo hi = _
 unfold F22 rng
 by_cases h : lo ≤ x
 ·rw [qM (p := x ≥ lo) h]; rfl
 ·rw [qL (p := x ≥ lo) h]; rfl
theorem qhq {a b : List Int} {p q : Nat → Bool} : ∀ n, (∀ i, i < n → (if p i = true then gd a (i : Int) else 0) = (if q i = true then gd b (i : Int) else 0)) → smK a p n = smK b q n
 | 0, _ => rfl
 | n + 1, h => by
  unfold smK
  rw [qhq n fun i hi => h i (by omega), h n (by omega)]
theorem qgd {a : List Int} {p : Nat → Bool} : ∀ n, (∀ i, i < n → p i = false) → smK a p n = 0
 | 0, _ => rfl
 | n + 1, h => by
  unfold smK
  rw [qgd n fun i hi => h i (by omega), h n (by omega), if_neg (by decide)]
  rfl
def less (p : Nat → Bool) (y : Nat) : Nat → Bool := fun i => p i && !(i == y)
theorem qd5 (p : Nat → Bool) (y : Nat) : less p y y = false := by simp [less]
theorem qii (p : Nat → Bool) {y i : Nat} (h : i ≠ y) : less p y i = p i := by simp [less, h]
theorem qge (a : List Int) (p : Nat → Bool) (y : Nat) : ∀ n, smK a p n = smK a (less p y) n + if y < n ∧ p y = true then gd a (y : Int) else 0
 | 0 => by rw [if_neg (by omega)]; rfl
 | n + 1 => by
  have ih := qge a p y n
  unfold smK
  by_cases e : y = n
  ·subst e
   rw [if_neg (by omega)] at ih
   rw [qd5, if_neg (show ¬ false = true by decide), ih]
   cases h : p y with
   | true => rw [if_pos rfl, if_pos (show y < y + 1 ∧ true = true from ⟨by omega, rfl⟩)]
   | false => rw [if_neg (by decide), if_neg (show ¬ (y < y + 1 ∧ false = true) from fun h => by cases h.2)]
  ·rw [qii p (show n ≠ y by omega), ih]
   by_cases h : y < n ∧ p y = true
   ·rw [if_pos h, if_pos (show y < n + 1 ∧ p y = true from ⟨by omega, h.2⟩)]; omega
   ·rw [if_neg h, if_neg (show ¬ (y < n + 1 ∧ p y = true) from fun h' => h ⟨by omega, h'.2⟩)]; omega
theorem qhZ {a : List Int} {p : Nat → Bool} {b : Nat} (hb : b < a.length) (hp : p b = false) (n : Nat) : smK (a.set b 0) p n = smK a p n := qhq n fun i _ => by
 cases hi : p i with
 | false => rw [if_neg (by decide), if_neg (by decide)]
 | true =>
  rw [if_pos rfl, if_pos rfl, L05.gd_set_nat hb, if_neg (fun e => by rw [e, hp] at hi; cases hi)]
def Cov (p : Nat → Bool) (n k : Nat) : Prop := ∃ xs : List Nat, xs.length ≤ k ∧ ∀ i, i < n → p i = true → i ∈ xs
theorem cov_step {a : List Int} {p : Nat → Bool} {n k b : Nat} (hn : n = a.length) (hb : b < n) (h0 : ∀ i : Nat, i < n → 0 ≤ gd a (i : Int)) (hm : ∀ i : Nat, i < n → gd a (i : Int) ≤ gd a (b : Int)) (hc : Cov p n (k + 1)) :
  ∃ q, Cov q n k ∧ smK a p n ≤ gd a (b : Int) + smK (a.set b 0) q n := by
 obtain ⟨xs, hl, hx⟩ := hc
 cases hp : p b with
 | true =>
  refine ⟨less p b, ⟨xs.erase b, ?_, fun i hi h => ?_⟩, ?_⟩
  ·have := List.length_erase_of_mem (hx b hb hp)
   omega
  ·have hne : i ≠ b := fun e => by rw [e, qd5] at h; cases h
   rw [qii p hne] at h
   exact (List.mem_erase_of_ne hne).2 (hx i hi h)
  ·rw [qhZ (by omega) (qd5 p b), qge a p b n, if_pos ⟨hb, hp⟩]
   omega
 | false =>
  cases xs with
  | nil =>
   refine ⟨p, ⟨[], by simp, hx⟩, ?_⟩
   rw [qhZ (by omega) hp, qgd n fun i hi => by
    cases h : p i with
    | false => rfl
    | true => exact absurd (hx i hi h) (by simp)]
   have := h0 b hb
   omega
  | cons y ys =>
   refine ⟨less p y, ⟨ys, by simp at hl; omega, fun i hi h => ?_⟩, ?_⟩
   ·have hne : i ≠ y := fun e => by rw [e, qd5] at h; cases h
    rw [qii p hne] at h
    rcases List.mem_cons.1 (hx i hi h) with e | h
    ·exact absurd e hne
    ·exact h
   ·have hq : less p y b = false := by unfold less; rw [hp]; rfl
    rw [qhZ (by omega) hq, qge a p y n]
    have hb0 := h0 b hb
    split
    ·rename_i h
     have := hm y h.1
     omega
    ·omega
end Go.Proofs.Try.V.Top
