/- Plain laws of layer 10, ninth part: InspectChecks, InspectDays. No condition beyond those typed in each theorem. -/
import Derived.Test.YtjkchkjdpcnmkaaLw8
namespace Go.Proofs.Try.V
open Go.Vi
set_option maxRecDepth 100000

theorem g16_eq (l : List Ent) : g16 (l, ()) = some ((decide (30 < l.length ∧ l.length ≤ 100), ()), ()) := by
  show F16 fuel l = _
  unfold F16
  by_cases h : 30 < l.length
  · rw [dec_t (by omega), cond_true]
    congr 3
    rw [Bool.eq_iff_iff, decide_eq_true_eq, decide_eq_true_eq]
    omega
  · rw [dec_f (by omega), dec_f (p := 30 < l.length ∧ l.length ≤ 100) (by omega)]
    rfl
theorem law3 (b : Book) (l : List Ent) : g3 (b, l, ()) = some ((true, ()), ()) := by
  show F3 fuel b l = _
  unfold F3
  rw [g16_eq, derefK_some, g18_eq, g19_eq, works_eq]
  simp only [derefK_some]
  rw [show ((checkR b l).1 == (checkR b l).1) = true by simp, show ((checkR b l).2 == (checkR b l).2) = true by simp]
  cases decide (30 < l.length ∧ l.length ≤ 100) <;> rfl
theorem law9 (b : Book) (l : List Ent) (day : Int) : g9 (b, l, day, ()) = some ((true, ()), ()) := by
  show F9 fuel b l day = _
  unfold F9
  rw [g16_eq, derefK_some, g29_eq, g31_eq, g30_eq, g32_eq, g20_eq, g33_eq, works_eq]
  simp only [derefK_some]
  have e : (dayErr b l day != dayErr b l day) = false := by simp
  have e2 : (dayErr b l day == dayErr b l day) = true := by simp
  have h1 : (if dayErr b l day = 0 then dueL b (upto l day) day else []).length ≤ 1099511627776 := by
    split
    · rename_i h
      have hg := (dayErr_ok h).1
      have := (sized_of hg.book).rules
      have := fil_len (fun i => !forceB b (upto l day) (i : Int) day) b.1.length
      unfold dueL
      omega
    · simp
  have h2 : (if dayErr b l day = 0 then openL (upto l day) else []).length ≤ 1099511627776 := by
    split
    · rename_i h
      have hg := ((dayErr_ok h).1.upto day).len
      have := openL_len (upto l day)
      omega
    · simp
  have h3 : (if dayErr b l day = 0 then relL b (upto l day) day else []).length ≤ 1099511627776 := by
    split
    · rename_i h
      have hg := (dayErr_ok h).1
      have := (sized_of hg.book).rides
      have := fil_len (relB b (upto l day) day) b.2.2.length
      unfold relL
      omega
    · simp
  rw [e, e2, g24_eq _ h1, g24_eq _ h2, g24_eq _ h3]
  cases decide (30 < l.length ∧ l.length ≤ 100) <;> rfl
end Go.Proofs.Try.V
