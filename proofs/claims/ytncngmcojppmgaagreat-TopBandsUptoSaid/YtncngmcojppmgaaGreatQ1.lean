import Derived.Test.YtncngmcojppmgaaGreatProg
import Derived.LoopN
import Derived.Ground.SlsfProg
import Derived.Shelf.SlSortCmp.InsertionK
namespace Go.Proofs.Tryz
open Go.Shelf Go.RowKit Go.Lib Go.Sort
set_option maxHeartbeats 1000000 in
theorem qlU (x1 x2 y1 y2 : Int) (W : World) (h1 : -9223372036854775808 ≤ x1 - y1) (h2 : x1 - y1 ≤ 9223372036854775807) : Calls Tryz.prog 51 #[.agg #[.int .i64 x1, .int .i64 x2], .agg #[.int .i64 y1, .int .i64 y2]] W fun e w' => e = .returned (.int .i64 (x1 - y1)) ∧ ∃ q os', w' = grow (W.drewN q) os' := by
  have hw : wrap64 (x1 - y1) = x1 - y1 := by unfold wrap64; omega
  go_enter Tryz.func51, Tryz.ntmps51
  go_wp2
  go_ret
  exact ⟨rfl, 0, _, by rw [alloc_eq_grow, alloc_eq_grow, grow_grow]; rfl⟩
def or3 (x y z : Int) : Int := if x ≠ 0 then x else if y ≠ 0 then y else z
set_option maxHeartbeats 1000000 in
theorem cmpOr (g : Nat) (x y z : Int) (W : World) (t : TypeId) (hg : W.heap[g]? = some (.cells #[.int .i64 x, .int .i64 y, .int .i64 z] t (0, 0))) : Calls Tryz.prog 32 #[.slice (some ⟨g, 0, none⟩) 3 3] W fun e w' => e = .returned (.int .i64 (or3 x y z)) ∧ w' = W := by
  have c0 : W.cell? ⟨g, 0, none⟩ = some (.int .i64 x) := by simp [World.cell?, hg]
  have c1 : W.cell? ⟨g, 1, none⟩ = some (.int .i64 y) := by simp [World.cell?, hg]
  have c2 : W.cell? ⟨g, 2, none⟩ = some (.int .i64 z) := by simp [World.cell?, hg]
  go_enter Tryz.func32, Tryz.ntmps32
  go_wp2
  refine wp_loop_rounds 4 ?_
  rw [rounds_succ]
  go_wp2
  · rename_i hx
    have hx : x ≠ 0 := by simpa using hx
    go_ret
    exact ⟨by simp [or3, hx], rfl⟩
  rename_i hx
  have hx : x = 0 := by simpa using hx
  rw [rounds_succ]
  go_wp2
  · rename_i hy
    have hy : y ≠ 0 := by simpa using hy
    go_ret
    exact ⟨by simp [or3, hx, hy], rfl⟩
  rename_i hy
  have hy : y = 0 := by simpa using hy
  rw [rounds_succ]
  go_wp2
  · rename_i hz
    have hz : z ≠ 0 := by simpa using hz
    go_ret
    exact ⟨by simp [or3, hx, hy], rfl⟩
  rename_i hz
  have hz : z = 0 := by simpa using hz
  rw [rounds_succ]
  go_wp2
  go_ret
  exact ⟨by simp [or3, hx, hy, hz], rfl⟩
set_option maxHeartbeats 1000000 in
theorem qlV (a0 a1 a2 a4 a5 b0 b1 b2 b4 b5 : Int) (a3 b3 : Bool) (W : World) (h1 : -9223372036854775808 ≤ a5 - b5) (h2 : a5 - b5 ≤ 9223372036854775807) (h3 : -9223372036854775808 ≤ a0 - b0) (h4 : a0 - b0 ≤ 9223372036854775807) (h5 : -9223372036854775808 ≤ a1 - b1) (h6 : a1 - b1 ≤ 9223372036854775807) :
    Calls Tryz.prog 31 #[.agg #[.int .i64 a0, .int .i64 a1, .int .i64 a2, .bool a3, .int .i64 a4, .int .i64 a5], .agg #[.int .i64 b0, .int .i64 b1, .int .i64 b2, .bool b3, .int .i64 b4, .int .i64 b5]] W fun e w' => e = .returned (.int .i64 (or3 (a5 - b5) (a0 - b0) (a1 - b1))) ∧ ∃ q os', w' = grow (W.drewN q) os' := by
  have hw1 : wrap64 (a5 - b5) = a5 - b5 := by unfold wrap64; omega
  have hw2 : wrap64 (a0 - b0) = a0 - b0 := by unfold wrap64; omega
  have hw3 : wrap64 (a1 - b1) = a1 - b1 := by unfold wrap64; omega
  have hb : ∀ (o1 o2 o3 : Obj), (((W.alloc o1).alloc o2).alloc o3).heap[W.heap.size + 1 + 1]? = some o3 := by
    intro o1 o2 o3
    have h := Array.getElem?_push_size (xs := ((W.alloc o1).alloc o2).heap) (x := o3)
    have e : ((W.alloc o1).alloc o2).heap.size = W.heap.size + 1 + 1 := by
      unfold World.alloc
      rw [Array.size_push, Array.size_push]
    rw [e] at h
    exact h
  go_enter Tryz.func31, Tryz.ntmps31
  go_wp2_with (go_at_call 32; refine (cmpOr _ _ _ _ _ 3 (hb _ _ _)).mono ?_; rintro e w' ⟨rfl, rfl⟩)
  go_ret
  exact ⟨rfl, 0, _, by rw [alloc_eq_grow, alloc_eq_grow, alloc_eq_grow, grow_grow, grow_grow]; rfl⟩
end Go.Proofs.Tryz
