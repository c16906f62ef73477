/- TopOpening: for every map, lorries and opening of small bulk the law returns true, and all read as before. No condition beyond the statement's own. -/
import Derived.Test.YtmlocmhkfnojbaaGreatD14
import Derived.Test.YtmlocmhkfnojbaaGreatRows
namespace Go.Proofs.Tryz.V.Cv
open Go.Vi
set_option maxRecDepth 100000
theorem pL {α : Type} {g : α → Nat} : ∀ {l : List α} {x : α}, x ∈ l → g x ≤ (l.map g).sum
 | y :: l, x, h => by
  rw [List.map_cons, List.sum_cons]
  rcases List.mem_cons.1 h with rfl | h
  ·omega
  ·have := pL (g := g) h; omega
theorem qnO {α : Type} {g h : α → Nat} (hg : ∀ x, h x ≤ g x) : ∀ (l : List α), (l.map h).sum ≤ (l.map g).sum
 | [] => Nat.le_refl _
 | x :: l => by
  rw [List.map_cons, List.sum_cons, List.map_cons, List.sum_cons]
  have := qnO hg l
  have := hg x
  omega
theorem qk1 {α : Type} {g : α → Nat} (hg : ∀ x, 1 ≤ g x) : ∀ (l : List α), l.length ≤ (l.map g).sum
 | [] => Nat.zero_le _
 | x :: l => by
  rw [List.map_cons, List.sum_cons, List.length_cons]
  have := qk1 hg l
  have := hg x
  omega
theorem qmj {α : Type} : ∀ (l : List (List α)), l.flatten.length = (l.map List.length).sum
 | [] => rfl
 | x :: l => by rw [List.flatten_cons, List.length_append, List.map_cons, List.sum_cons, qmj l]
abbrev Ka : Ty := .list false 3 (.int .i64)
abbrev TO : Ty := .str (.pair (.int .i64) (.pair (.int .i64) (.pair (.int .i64) Ka)))
abbrev oI : Ty := .str (.pair (.list false 53 TO) (.pair (.int .i64) (.list false 38 Ka)))
theorem Zj (l : List Int) : gT Ka l = l.length + 1 := by
 show (l.map fun _ => 1).sum + 1 = _
 congr 1
 induction l with
 | nil => rfl
 | cons x l ih => rw [List.map_cons, List.sum_cons, ih, List.length_cons]; omega
theorem Ax {k : kn.bw} (h : gT oI k ≤ 1048576) : kn.Small k := by
 have h1 : gT oI k = ((k.1.map (gT TO)).sum + 1) + (1 + ((k.2.2.map (gT Ka)).sum + 1)) + 1 := rfl
 have hp : ∀ p : kn.Part, gT TO p = 1 + (1 + (1 + gT Ka p.2.2.2)) + 1 := fun _ => rfl
 have e1 := qk1 (g := gT TO) (fun p => by rw [hp]; omega) k.1
 have e2 := qk1 (g := gT Ka) (fun l => by rw [Zj]; omega) k.2.2
 have e3 := qnO (h := List.length) (g := gT Ka) (fun l => by rw [Zj]; omega) k.2.2
 refine ⟨by omega, fun p IB => ?_, by omega, fun v hv => ?_, ?_⟩
 ·have := pL (g := gT TO) IB
  rw [hp, Zj] at this
  omega
 ·have := pL (g := gT Ka) hv
  rw [Zj] at this
  omega
 ·rw [qmj]
  omega
end Go.Proofs.Tryz.V.Cv
namespace Go.Proofs.YtmlocmhkfnojbaaGreat
open Go.Vi Go.Proofs.Tryz.V
theorem HQ : ownKnob Tryz.prog.godebug = none := by kernel_rfl
theorem qmd : laidOutB Tryz.prog = true := by kernel_rfl
end Go.Proofs.YtmlocmhkfnojbaaGreat
namespace Go.Proofs.YtmlocmhkfnojbaaGreat
open Go.Vi Go.Proofs.Tryz.V
set_option maxRecDepth 100000 in
theorem Ip (os : Os) (started : os.Started) (H : Type) (enc : TypeId × Value → H) (F : Stop.Interp) :
  ReturnsInHanded {} Tryz.checked os 3 .any ((Rows.OpenSpec.upto Rows.topOpeningSpec).pre6 enc Tryz.prog Tryz.f3 Rows.topOpeningUptoRow.domain false) (((Rows.OpenSpec.upto Rows.topOpeningSpec).at F).post enc Tryz.prog Tryz.f3 false true false false) := by
 refine returnsInHanded_of_cond (C := Tryz.checked) (s := Rows.OpenSpec.upto Rows.topOpeningSpec) (k := Rows.uptoSmall) rfl HQ started (by kernel_rfl) Tryz.func3
  (OpenSpec.witness (enc := enc) (C := Tryz.checked) (s := Rows.OpenSpec.upto Rows.topOpeningSpec) (k := Rows.uptoSmall) rfl false ⟨#[], #[.agg #[.slice none 0 0, .slice none 0 0], .slice none 0 0, .agg #[.slice none 0 0, .int .i64 0, .int .i64 0, .int .i64 0, .int .i64 0]], []⟩ 24 (by kernel_rfl) (by kernel_rfl) (by kernel_rfl)
   (x := ([.agg [.nil, .nil], .nil, .agg [.nil, .lit (.int .i64 0), .lit (.int .i64 0), .lit (.int .i64 0), .lit (.int .i64 0)]], [], [])) (by kernel_rfl) rfl (by kernel_rfl)) ?_
 intro W base args ds gs before hval hW _ hk _
 refine BS (s := Rows.topOpeningSpec) h3 qmd (by kernel_rfl) (rt := 4) (by kernel_rfl) Tryz.underlying4 rfl
  (fun ds hds => match ds, hds with | [_, _, _], _ => rfl) (fun d _ hb => ⟨(), ?_⟩) hval hW hk
 have cO : _ + (_ + (gT (.str (.pair (.list false 37 Cv.oI) (.pair (.int .i64) (.pair (.int .i64) (.pair (.int .i64) (.int .i64)))))) d.2.2.1 + 0)) ≤ 1048576 := hb
 have e : gT (.str (.pair (.list false 37 Cv.oI) (.pair (.int .i64) (.pair (.int .i64) (.pair (.int .i64) (.int .i64)))))) d.2.2.1 = ((d.2.2.1.1.map (gT Cv.oI)).sum + 1) + (1 + (1 + (1 + 1))) + 1 := rfl
 exact Cv.BU d.1 d.2.1 d.2.2.1 (fun k hk => Cv.Ax (by have := Cv.pL (g := gT Cv.oI) hk; omega))
theorem topOpening_upto : Rows.TopOpeningUptoSaid :=
 OpenClaim.holds_of_cond 3 Tryz.f3 rfl rfl rfl rfl rfl rfl rfl ⟨rfl, rfl, rfl, rfl, rfl⟩ rfl rfl rfl rfl rfl (by kernel_rfl) Tryz.func3 (by kernel_rfl)
  (of_decide_eq_true (by kernel_rfl)) (by unfold Func.isWrapper; first | (rw [if_pos (by decide +kernel)]; kernel_rfl) | (rw [if_neg (by decide +kernel)]; exact ⟨rfl, rfl⟩))
  (fun os started H enc _ F => Ip os started H enc F)
end Go.Proofs.YtmlocmhkfnojbaaGreat
