/- What is of small bulk is short; what each law's last theorem needs of the program. No condition beyond those typed in each theorem. -/
import Derived.Test.YtlhapfgcnfooeaaLw1
namespace Go.Proofs.Try.V
open Go.Vi
set_option maxRecDepth 100000

abbrev intsTy : Ty := .list false 3 (.int .i64)
abbrev bunTy : Ty := .str (.pair (.int .i64) (.int .i64))
abbrev dealTy : Ty := .str (.pair (.int .i64) (.pair (.int .i64) (.pair (.int .i64) (.pair (.int .i64) (.int .i64)))))
abbrev dealsTy : Ty := .list false 52 dealTy
abbrev fairTy : Ty := .str (.pair (.int .i64) (.pair (.int .i64) (.pair intsTy (.pair intsTy (.pair (.list false 54 bunTy) (.pair (.int .i64) (.pair (.int .i64) (.int .i64))))))))
abbrev cntTy : Ty := .str (.pair intsTy (.pair intsTy (.pair (.list false 44 bunTy) (.pair intsTy (.int .i64)))))
theorem len_sum {α : Type} {g : α → Nat} (h : ∀ x, 1 ≤ g x) : ∀ l : List α, l.length ≤ (l.map g).sum
  | [] => Nat.zero_le _
  | x :: l => by
    have := len_sum h l
    have := h x
    simp only [List.map_cons, List.sum_cons, List.length_cons]
    omega
theorem bulk_ints (l : List Int) : l.length + 1 ≤ bulk intsTy l := by
  have e : bulk intsTy l = (l.map (bulk (.int .i64))).sum + 1 := rfl
  have := len_sum (g := bulk (.int .i64)) (fun _ => Nat.le_refl _) l
  omega
theorem bulk_deals (l : List Deal) : l.length + 1 ≤ bulk dealsTy l := by
  have e : bulk dealsTy l = (l.map (bulk dealTy)).sum + 1 := rfl
  have : l.length ≤ (l.map (bulk dealTy)).sum := len_sum (g := bulk dealTy) (fun x => by show 1 ≤ _ + 1; omega) l
  omega
theorem bulk_buns (t : Nat) (l : List Bun) : l.length + 1 ≤ bulk (.list false t bunTy) l := by
  have e : bulk (.list false t bunTy) l = (l.map (bulk bunTy)).sum + 1 := rfl
  have : l.length ≤ (l.map (bulk bunTy)).sum := len_sum (g := bulk bunTy) (fun x => by show 1 ≤ _ + 1; omega) l
  omega
theorem sized_bulk {f : Fair} (h : bulk fairTy f ≤ 1048576) : Sized f := by
  have e : bulk fairTy f = (1 + (1 + (bulk intsTy f.2.2.1 + (bulk intsTy f.2.2.2.1 + (bulk (.list false 54 bunTy) f.2.2.2.2.1 + (1 + (1 + 1))))))) + 1 := rfl
  have e1 := bulk_ints f.2.2.1
  have e2 := bulk_ints f.2.2.2.1
  have e3 := bulk_buns 54 f.2.2.2.2.1
  exact ⟨by omega, by omega, by omega⟩
theorem cnt_bulk {c : Cnt} (h : bulk cntTy c ≤ 1048576) : c.1.length ≤ 1048576 ∧ c.2.1.length ≤ 1048576 ∧ c.2.2.1.length ≤ 1048576 ∧ c.2.2.2.1.length ≤ 1048576 := by
  have e : bulk cntTy c = (bulk intsTy c.1 + (bulk intsTy c.2.1 + (bulk (.list false 44 bunTy) c.2.2.1 + (bulk intsTy c.2.2.2.1 + 1)))) + 1 := rfl
  have e1 := bulk_ints c.1
  have e2 := bulk_ints c.2.1
  have e3 := bulk_buns 44 c.2.2.1
  have e4 := bulk_ints c.2.2.2.1
  exact ⟨by omega, by omega, by omega, by omega⟩
end Go.Proofs.Try.V
namespace Go.Proofs.Ytlhapfgcnfooeaa
open Go.Vi Go.Proofs.Try.V
theorem own_try : ownKnob Try.prog.godebug = none := by kernel_rfl
theorem laidOut_try : laidOutB Try.prog = true := by kernel_rfl
end Go.Proofs.Ytlhapfgcnfooeaa
