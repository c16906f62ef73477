/- Plain law: whether a number is in a list. No condition beyond those typed in each theorem. -/
import Derived.Test.YtaojldppmlehlaaGreatT12o
namespace Go.Proofs.Tryz.V.Top
open Go.Vi
set_option maxRecDepth 100000
theorem has_eq (l : List Int) (hl : l.length ≤ 1000) (n : Int) : g30 (l, n, ()) = some ((decide (n ∈ l), ()), ()) := by
 show F30 qe l n = _
 unfold F30
 have e : L30_2 qe ((l, n, 0, ()), (), ()) = _ := L10.loopAll (L := L30_2) (fun i => ((l, n, (i : Int), ()), (), ())) l (fun x => !(x == n)) (.inl ((true, ()), (), ())) (.inr ((), (), ())) 0 (by have := qQ; omega)
  (fun N => by simp [L30_2, B30_2])
  (fun N i _ hi => by
   simp only [L30_2, B30_2]
   rw [qw (by omega), cond_true, qq (by omega) (by omega), wI (by omega) (by omega)]
   cases gd l (i : Int) == n <;> rfl)
 rw [e, qb]
 by_cases h : n ∈ l
 ·rw [qw h, show l.all (fun x => !(x == n)) = false by
   rw [← Bool.not_eq_true, List.all_eq_true]
   intro hh
   have := hh n h
   simp at this]
  rfl
 ·rw [qE h, show l.all (fun x => !(x == n)) = true by
   rw [List.all_eq_true]
   intro x hx
   cases e : x == n with
   | false => rfl
   | true => exact absurd (eq_of_beq e ▸ hx) h]
  rfl
end Go.Proofs.Tryz.V.Top
