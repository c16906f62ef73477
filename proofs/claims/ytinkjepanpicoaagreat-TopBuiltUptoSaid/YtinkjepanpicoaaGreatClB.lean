/- TopBuilt: for every gala, works and number of small bulk the law returns true, and all read as before. No condition beyond the statement's own. -/
import Derived.Test.YtinkjepanpicoaaGreatT12b
import Derived.Test.YtinkjepanpicoaaGreatRows
namespace Go.Proofs.Tryz.V.Top
open Go.Vi
set_option maxRecDepth 100000
theorem qkf {α : Type} {g : α → Nat} : ∀ {l : List α} {x : α}, x ∈ l → g x ≤ (l.map g).sum
  | y :: l, x, h => by
    rw [List.map_cons, List.sum_cons]
    rcases List.mem_cons.1 h with rfl | h
    · omega
    · have := qkf (g := g) h; omega
theorem qkX {α : Type} {g h : α → Nat} (hg : ∀ x, h x ≤ g x) : ∀ (l : List α), (l.map h).sum ≤ (l.map g).sum
  | [] => Nat.le_refl _
  | x :: l => by
    rw [List.map_cons, List.sum_cons, List.map_cons, List.sum_cons]
    have := qkX hg l
    have := hg x
    omega
theorem qiX {α : Type} {g : α → Nat} (hg : ∀ x, 1 ≤ g x) : ∀ (l : List α), l.length ≤ (l.map g).sum
  | [] => Nat.zero_le _
  | x :: l => by
    rw [List.map_cons, List.sum_cons, List.length_cons]
    have := qiX hg l
    have := hg x
    omega
theorem qjY {α : Type} : ∀ (l : List (List α)), l.flatten.length = (l.map List.length).sum
  | [] => rfl
  | x :: l => by rw [List.flatten_cons, List.length_append, List.map_cons, List.sum_cons, qjY l]
abbrev qdY : Ty := .list false 3 (.int .i64)
abbrev qgY : Ty := .str (.pair (.int .i64) (.pair (.int .i64) (.pair (.int .i64) qdY)))
abbrev kitTy : Ty := .str (.pair (.list false 100 qgY) (.pair (.int .i64) (.list false 26 qdY)))
theorem qel (l : List Int) : qbr qdY l = l.length + 1 := by
  show (l.map fun _ => 1).sum + 1 = _
  congr 1
  induction l with
  | nil => rfl
  | cons x l ih => rw [List.map_cons, List.sum_cons, ih, List.length_cons]; omega
theorem small_of {k : L08.Kit} (h : qbr kitTy k ≤ 1048576) : L08.Small k := by
  have h1 : qbr kitTy k = ((k.1.map (qbr qgY)).sum + 1) + (1 + ((k.2.2.map (qbr qdY)).sum + 1)) + 1 := rfl
  have hp : ∀ p : L08.Part, qbr qgY p = 1 + (1 + (1 + qbr qdY p.2.2.2)) + 1 := fun _ => rfl
  have e1 := qiX (g := qbr qgY) (fun p => by rw [hp]; omega) k.1
  have e2 := qiX (g := qbr qdY) (fun l => by rw [qel]; omega) k.2.2
  have e3 := qkX (h := List.length) (g := qbr qdY) (fun l => by rw [qel]; omega) k.2.2
  refine ⟨by omega, fun p hp' => ?_, by omega, fun v hv => ?_, ?_⟩
  · have := qkf (g := qbr qgY) hp'
    rw [hp, qel] at this
    omega
  · have := qkf (g := qbr qdY) hv
    rw [qel] at this
    omega
  · rw [qjY]
    omega
end Go.Proofs.Tryz.V.Top
namespace Go.Proofs.YtinkjepanpicoaaGreat
open Go.Vi Go.Proofs.Tryz.V
theorem own_try : ownKnob Tryz.prog.godebug = none := by kernel_rfl
theorem qjR : laidOutB Tryz.prog = true := by kernel_rfl
end Go.Proofs.YtinkjepanpicoaaGreat
namespace Go.Proofs.YtinkjepanpicoaaGreat
open Go.Vi Go.Proofs.Tryz.V
set_option maxRecDepth 100000 in
theorem liftedB (os : Os) (started : os.Started) (H : Type) (enc : TypeId × Value → H) (F : Stop.Interp) :
    ReturnsInHanded {} Tryz.checked os 4 .any ((Rows.OpenSpec.upto Rows.topBuiltSpec).pre6 enc Tryz.prog Tryz.f4 Rows.topBuiltUptoRow.domain false) (((Rows.OpenSpec.upto Rows.topBuiltSpec).at F).post enc Tryz.prog Tryz.f4 false true false false) := by
  refine returnsInHanded_of_cond (C := Tryz.checked) (s := Rows.OpenSpec.upto Rows.topBuiltSpec) (k := Rows.uptoSmall) rfl own_try started (by kernel_rfl) Tryz.func4
    (OpenSpec.witness (enc := enc) (C := Tryz.checked) (s := Rows.OpenSpec.upto Rows.topBuiltSpec) (k := Rows.uptoSmall) rfl false ⟨#[], #[.agg #[.slice none 0 0, .int .i64 0, .slice none 0 0, .slice none 0 0, .slice none 0 0, .slice none 0 0, .int .i64 0, .slice none 0 0, .slice none 0 0, .int .i64 0, .int .i64 0, .int .i64 0, .slice none 0 0, .slice none 0 0], .agg #[.slice none 0 0, .int .i64 0, .slice none 0 0, .slice none 0 0], .int .i64 0], []⟩ 24 (by kernel_rfl) (by kernel_rfl) (by kernel_rfl)
      (x := ([.agg [.agg [.nil, .lit (.int .i64 0)], .agg [.nil, .nil, .nil], .nil, .lit (.int .i64 0), .agg [.nil, .nil, .lit (.int .i64 0), .lit (.int .i64 0), .lit (.int .i64 0)], .nil, .nil], .agg [.agg [.nil, .lit (.int .i64 0), .nil], .nil], .lit (.int .i64 0)], [], [])) (by kernel_rfl) rfl (by kernel_rfl)) ?_
  intro W base args ds gs before hval hW _ hk _
  refine law_post (s := Rows.topBuiltSpec) h4 qjR (by kernel_rfl) (rt := 4) (by kernel_rfl) Tryz.underlying4 rfl
    (fun ds hds => match ds, hds with | [_, _, _], _ => rfl) (fun d _ hb => ⟨(), ?_⟩) hval hW hk
  have hb2 : _ + (qbr (.str (.pair Top.kitTy (.list false 135 (.str (.pair (.int .i64) (.int .i64)))))) d.2.1 + (1 + 0)) ≤ 1048576 := hb
  have e : qbr (.str (.pair Top.kitTy (.list false 135 (.str (.pair (.int .i64) (.int .i64)))))) d.2.1 = (qbr Top.kitTy d.2.1.1 + qbr (.list false 135 (.str (.pair (.int .i64) (.int .i64)))) d.2.1.2) + 1 := rfl
  exact Top.law_built d.1 d.2.1 (Top.small_of (by omega)) d.2.2.1
theorem topBuilt_upto : Rows.TopBuiltUptoSaid :=
  OpenClaim.holds_of_cond 4 Tryz.f4 rfl rfl rfl rfl rfl rfl rfl ⟨rfl, rfl, rfl, rfl, rfl⟩ rfl rfl rfl rfl rfl (by kernel_rfl) Tryz.func4 (by kernel_rfl)
    (of_decide_eq_true (by kernel_rfl)) (by unfold Func.isWrapper; first | (rw [if_pos (by decide +kernel)]; kernel_rfl) | (rw [if_neg (by decide +kernel)]; exact ⟨rfl, rfl⟩))
    (fun os started H enc _ F => liftedB os started H enc F)
end Go.Proofs.YtinkjepanpicoaaGreat
