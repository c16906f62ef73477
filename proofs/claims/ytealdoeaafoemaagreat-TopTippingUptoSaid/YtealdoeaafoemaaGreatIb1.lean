/- The iterators of layer 10: slices.Backward over entries, and the log's own one: each yields the entries from the last to the first. No condition beyond those typed in each theorem. -/
import Derived.Test.YtealdoeaafoemaaGreatVi40
import Derived.Test.YtealdoeaafoemaaGreatProg
import Derived.RangeFuncBox
import Derived.RangeFuncLeaves
import Derived.Shelf.Abstract
import Derived.WalkKit
import Derived.OwnWalkIn
import Derived.TacticsInMore
import Derived.LoopNIn
import Derived.LoopIn
namespace Go.Proofs.Tryz.Ib
open Go.RowKit Go.Shelf Go.Proofs
attribute [local go_sem] Oper.semAt_some
def entV (z : Nat → Int) : Value := .agg #[.int .i64 (z 0), .int .i64 (z 1), .int .i64 (z 2), .int .i64 (z 3), .int .i64 (z 4)]
set_option maxRecDepth 100000 in
set_option maxHeartbeats 4000000 in
theorem bw1 (l Bs b off len cap : Nat) (z : Nat → Nat → Int) (hlen : len ≤ 1099511627776) (J Jx : Nat → World → Prop) (Kp : World → World → Prop) (hKc : ∀ A B, Kp A B → ∀ k, k = Bs ∨ k = b → B.heap[k]? = A.heap[k]?)
    (hY : ∀ m i W1, i < len → J i W1 → YieldAt Fence.wide m Tryz.prog l #[.int .i64 (len - 1 - i : Int), entV (z (len - 1 - i))] W1 fun e W' =>
      (e = .returned (.bool true) ∧ J (i + 1) W' ∧ Kp W1 W') ∨ (e = .returned (.bool false) ∧ Jx (i + 1) W'))
    (W : World) (hBs : W.cell? ⟨Bs, 0, none⟩ = some (.slice (some ⟨b, off, none⟩) len cap)) (hc : ∀ j i, j < len → i < 5 → W.cell? ⟨b, off + j * 5 + i, none⟩ = some (.int .i64 (z j i))) (h0 : J 0 W) :
    CallsIn Fence.wide 1 Tryz.prog 132 #[.func (.yield l) #[] #[], .pointer (some ⟨Bs, 0, none⟩)] W fun e W' => (∃ v, e = .returned v) ∧ (J len W' ∨ ∃ i, Jx i W') := by
  refine callsIn_of_wp Tryz.func132 rfl trivial ?_ rfl
  simp only [Tryz.ntmps132, List.size_toArray, List.length_cons, List.length_nil, Nat.reduceAdd, Nat.reduceSub, Array.replicate_succ, Array.replicate_zero, List.push_toArray, List.append_toArray, List.nil_append, List.cons_append]
  have hlen2 : (len : Int) ≤ 1099511627776 := by omega
  gi_wp2
  gi_loopw [3] (fun i wr => ∃ k : Nat, k ≤ len ∧ i = .int .i64 ((len : Int) - 1 - k) ∧ J k wr ∧ wr.heap[Bs]? = W.heap[Bs]? ∧ wr.heap[b]? = W.heap[b]?)
    (fun i _ => (intOf i + 1).toNat)
  case atStart => exact ⟨0, Nat.zero_le _, by simp, h0, rfl, rfl⟩
  case round =>
    obtain ⟨k, hk, rfl, hJs, hkB, hkb⟩ := hrel
    have hBs' : wr.cell? ⟨Bs, 0, none⟩ = some (.slice (some ⟨b, off, none⟩) len cap) := (World.cell?_of_block (a := ⟨Bs, 0, none⟩) hkB).trans hBs
    by_cases hlt : k < len
    · obtain ⟨fn, tmps, assign, body, hy, hR⟩ := hY 0 k wr hlt hJs
      have e1 : ((len : Int) - 1 - k).toNat = len - 1 - k := by omega
      have hj : len - 1 - k < len := by omega
      have c0 : wr.cell? ⟨b, off + (len - 1 - k) * 5, none⟩ = _ := (World.cell?_of_block (a := ⟨b, off + (len - 1 - k) * 5, none⟩) hkb).trans (hc (len - 1 - k) 0 hj (by omega))
      have c1 : wr.cell? ⟨b, off + (len - 1 - k) * 5 + 1, none⟩ = _ := (World.cell?_of_block (a := ⟨b, off + (len - 1 - k) * 5 + 1, none⟩) hkb).trans (hc (len - 1 - k) 1 hj (by omega))
      have c2 : wr.cell? ⟨b, off + (len - 1 - k) * 5 + 2, none⟩ = _ := (World.cell?_of_block (a := ⟨b, off + (len - 1 - k) * 5 + 2, none⟩) hkb).trans (hc (len - 1 - k) 2 hj (by omega))
      have c3 : wr.cell? ⟨b, off + (len - 1 - k) * 5 + 3, none⟩ = _ := (World.cell?_of_block (a := ⟨b, off + (len - 1 - k) * 5 + 3, none⟩) hkb).trans (hc (len - 1 - k) 3 hj (by omega))
      have c4 : wr.cell? ⟨b, off + (len - 1 - k) * 5 + 4, none⟩ = _ := (World.cell?_of_block (a := ⟨b, off + (len - 1 - k) * 5 + 4, none⟩) hkb).trans (hc (len - 1 - k) 4 hj (by omega))
      have g0 : (0 : Int) ≤ (len : Int) - 1 - k := by omega
      have g1 : (len : Int) - 1 - k < len := by omega
      simp only [entV] at hy
      gi_wp2
      refine hR.mono ?_
      rintro e W3 (⟨rfl, hJ3, hk3⟩ | ⟨rfl, hJx3⟩)
      · gi_wp2
        go_roundw
        case rel => exact ⟨k + 1, by omega, by simp; omega, hJ3, (hKc _ _ hk3 Bs (.inl rfl)).trans hkB, (hKc _ _ hk3 b (.inr rfl)).trans hkb⟩
        case measure => simp [intOf]; omega
      · gi_wp2
        refine bodyPost_ret (results_none rfl _ _ _) rfl ?_
        exact ⟨⟨_, rfl⟩, .inr ⟨_, hJx3⟩⟩
    · obtain rfl : k = len := by omega
      gi_wp2
      go_end0
      exact ⟨⟨_, rfl⟩, .inl hJs⟩
set_option maxHeartbeats 1000000 in
theorem bw1_nil (l Bs : Nat) (sa : Option Addr) (cap : Nat) (J : World → Prop) (W : World) (hBs : W.cell? ⟨Bs, 0, none⟩ = some (.slice sa 0 cap)) (h0 : J W) :
    CallsIn Fence.wide 1 Tryz.prog 132 #[.func (.yield l) #[] #[], .pointer (some ⟨Bs, 0, none⟩)] W fun e W' => (∃ v, e = .returned v) ∧ J W' := by
  refine callsIn_of_wp Tryz.func132 rfl trivial ?_ rfl
  simp only [Tryz.ntmps132, List.size_toArray, List.length_cons, List.length_nil, Nat.reduceAdd, Nat.reduceSub, Array.replicate_succ, Array.replicate_zero, List.push_toArray, List.append_toArray, List.nil_append, List.cons_append]
  gi_wp2
  gi_loopw [3] (fun i wr => i = .int .i64 (-1) ∧ J wr) (fun _ _ => 0)
  case atStart => exact ⟨rfl, h0⟩
  case round =>
    obtain ⟨rfl, hJs⟩ := hrel
    gi_wp2
    go_end0
    exact ⟨⟨_, rfl⟩, hJs⟩
set_option maxHeartbeats 1000000 in
theorem bw130 (sa : Option Addr) (len cap : Nat) (w : World) :
    CallsIn Fence.wide 0 Tryz.prog 130 #[.slice sa len cap] w fun e w' => e = .returned (.func (.func 132) #[] #[.pointer (some ⟨w.heap.size, 0, none⟩)]) ∧ w' = w.alloc (.cells #[.slice sa len cap] 29) := by
  refine callsIn_of_wp Tryz.func130 rfl trivial ?_ rfl
  simp only [Tryz.ntmps130, List.size_toArray, List.length_cons, List.length_nil, Nat.reduceAdd, Nat.reduceSub, Array.replicate_succ, Array.replicate_zero, List.push_toArray, List.append_toArray, List.nil_append, List.cons_append]
  gi_wp2
  go_ret
  exact ⟨rfl, rfl⟩
open Go.Vi in
theorem bw_seq (Bs len : Nat) (sa : Option Addr) (cap : Nat) (z : Nat → Nat → Int) (hlen : len ≤ 1099511627776) {H : FH} {O0 : Nat → Prop} {w : World} (hok : HOk H w) (hO : O0 Bs) (hBl : Bs < w.heap.size) (hBs : w.cell? ⟨Bs, 0, none⟩ = some (.slice sa len cap))
    (hent : len = 0 ∨ ∃ b off c, sa = some ⟨b, off, none⟩ ∧ H b = some c ∧ ∀ j i, j < len → i < 5 → w.cell? ⟨b, off + j * 5 + i, none⟩ = some (.int .i64 (z j i))) :
    qkP Tryz.prog 132 #[.pointer (some ⟨Bs, 0, none⟩)] len (fun i => #[.int .i64 (len - 1 - i : Int), entV (z (len - 1 - i))]) H O0 w := by
  intro l J Jx W hW _ _ hY h0
  have hBs' : W.cell? ⟨Bs, 0, none⟩ = some (.slice sa len cap) := (hW.cell (p := ⟨Bs, 0, none⟩) hBl).trans hBs
  rcases hent with rfl | ⟨b, off, c, rfl, hb, hc⟩
  · refine (callsIn_wide (n := 1)).1 ((bw1_nil l Bs _ _ (fun W => J 0 O0 W) W hBs' h0).mono ?_)
    rintro e W' ⟨he, hj⟩
    exact ⟨he, .inl ⟨_, hj⟩⟩
  · obtain ⟨t, f, e⟩ := hok b c hb
    have hbl := (Array.getElem?_eq_some_iff.1 e).1
    refine (callsIn_wide (n := 1)).1 ((bw1 l Bs b off len cap z hlen (fun i W => J i O0 W) (fun i W => Jx i O0 W) (fun A B => qck H A B ∧ qeT O0 A B) ?_ ?_ W hBs' (fun j i hj hi => (hW.cell (p := ⟨b, off + j * 5 + i, none⟩) hbl).trans (hc j i hj hi)) h0).mono ?_)
    · rintro A B ⟨h1, h2⟩ k (rfl | rfl)
      · exact h2 _ hO
      · exact h1 _ _ hb
    · intro m i W1 hi hj
      obtain ⟨fn, tmps, assign, body, hy, hR⟩ := hY m i O0 W1 hi hj
      refine ⟨fn, tmps, assign, body, hy, hR.mono ?_⟩
      rintro e W' ⟨_, ⟨h1, h2, h3, h4⟩ | h⟩
      · exact .inl ⟨h1, h2, h3, h4⟩
      · exact .inr h
    · rintro e W' ⟨he, hj | ⟨i, hj⟩⟩
      · exact ⟨he, .inl ⟨_, hj⟩⟩
      · exact ⟨he, .inr ⟨_, _, hj⟩⟩
theorem qhv (W : World) (arr : Array Value) (T : TypeId) (i : Nat) : (W.alloc (.cells arr T)).cell? ⟨W.heap.size, i, none⟩ = arr[i]? := by
  have h : (W.alloc (.cells arr T)).heap[W.heap.size]? = some (.cells arr T (0, 0)) := World.alloc_heap_new W _
  unfold World.cell?
  rw [h]
  simp
theorem qfS {A B : World} {row : Option Nat} (hg : A.grownBy B row) {X q : Nat} {v : Value} (hr : ∀ r, row = some r → r ≠ X) (h : A.cell? ⟨X, q, none⟩ = some v) : B.cell? ⟨X, q, none⟩ = some v :=
  (World.cell?_of_block (a := ⟨X, q, none⟩) (hg.block X (World.block_lt_of_cell? A ⟨X, q, none⟩ h) (fun e => hr X e.symm rfl))).trans h
theorem qkc {A : World} {O : Nat → Prop} {B : Nat} {row : Option Nat} (hr : ∀ r, row = some r → O r ∨ (B ≤ r ∧ ∃ o : Obj, A.heap[r]? = some o ∧ o.isCells = false)) {X q : Nat} {v : Value} (hO : ¬ O X) (h : A.cell? ⟨X, q, none⟩ = some v) : ∀ r, row = some r → r ≠ X := by
  rintro r e rfl
  rcases hr r e with h1 | ⟨_, o, ho, hc⟩
  · exact hO h1
  · obtain ⟨o', ho', hc'⟩ := cells_of_cell h
    have ho' : A.heap[r]? = some o' := ho'
    rw [ho] at ho'
    cases ho'
    rw [hc] at hc'
    cases hc'
open Go.Vi in
set_option maxRecDepth 100000 in
set_option maxHeartbeats 4000000 in
theorem bk129 (Lb o len : Nat) (sa : Option Addr) (cap : Nat) (z : Nat → Nat → Int) (hlen : len ≤ 1099511627776) {H : FH} {w : World} (hok : HOk H w) (hLl : Lb < w.heap.size) (hL : w.cell? ⟨Lb, o + 3, none⟩ = some (.slice sa len cap))
    (hent : len = 0 ∨ ∃ b off c, sa = some ⟨b, off, none⟩ ∧ H b = some c ∧ ∀ j i, j < len → i < 5 → w.cell? ⟨b, off + j * 5 + i, none⟩ = some (.int .i64 (z j i))) :
    qkP Tryz.prog 129 #[.pointer (some ⟨Lb, o, none⟩)] len (fun i => #[entV (z (len - 1 - i))]) H (fun _ => False) w := by
  intro l J Jx W hW hJ hJx hY h0
  have hL' : W.cell? ⟨Lb, o + 3, none⟩ = some (.slice sa len cap) := (hW.cell (p := ⟨Lb, o + 3, none⟩) hLl).trans hL
  have hLW : Lb < W.heap.size := Nat.lt_of_lt_of_le hLl hW.size
  have hLA : (W.alloc (.cells #[.func (.yield l) #[] #[]] 152)).cell? ⟨Lb, o + 3, none⟩ = some (.slice sa len cap) := (World.cell?_of_block (a := ⟨Lb, o + 3, none⟩) (heap_alloc_old W _ hLW)).trans hL'
  refine (callsIn_wide (n := 1)).1 (callsIn_of_wp_marks Tryz.func129 rfl trivial ?_ rfl)
  simp only [Tryz.ntmps129, List.size_toArray, List.length_cons, List.length_nil, Nat.reduceAdd, Nat.reduceSub, Array.replicate_succ, Array.replicate_zero, List.push_toArray, List.append_toArray, List.nil_append, List.cons_append]
  gi_wp2
  refine ⟨trivial, (bw130 sa len cap _).mono ?_⟩
  rintro e w' ⟨rfl, rfl⟩
  gi_wp2
  obtain ⟨W2, hW2⟩ : ∃ W2, (W.alloc (.cells #[.func (.yield l) #[] #[]] 152)).alloc (.cells #[.slice sa len cap] 29) = W2 := ⟨_, rfl⟩
  have hz2 : W2.heap.size = W.heap.size + 2 := by rw [← hW2]; simp
  have hcY : W2.cell? ⟨W.heap.size, 0, none⟩ = some (.func (.yield l) #[] #[]) := by
    rw [← hW2, World.cell?_of_block (a := ⟨W.heap.size, 0, none⟩) (heap_alloc_old _ _ (by simp))]
    exact qhv _ _ _ _
  have hcB : W2.cell? ⟨W.heap.size + 1, 0, none⟩ = some (.slice sa len cap) := by
    rw [← hW2]
    have := qhv (W.alloc (.cells #[.func (.yield l) #[] #[]] 152)) #[.slice sa len cap] 29 0
    rwa [World.size_alloc] at this
  have hold2 : ∀ b, b < W.heap.size → W2.heap[b]? = W.heap[b]? := fun b hb => by
    rw [← hW2]
    exact (heap_alloc_old _ _ (by simp; omega)).trans (heap_alloc_old _ _ hb)
  have hJ2 : J 0 (fun b => b = W.heap.size + 1 ∨ b = W.heap.size) W2 := by
    rw [← hW2]
    have s1 := hJ 0 _ (fun b => b = W.heap.size) W (W.alloc (.cells #[.func (.yield l) #[] #[]] 152)) h0 ⟨none, World.grownBy_alloc _ _ none, fun r e => (by cases e), fun b => by simp only [World.size_alloc, false_or]; omega⟩
    exact hJ 0 _ _ _ _ s1 ⟨none, World.grownBy_alloc _ _ none, fun r e => (by cases e), fun b => by simp only [World.size_alloc]; omega⟩
  have hok2 : HOk H W2 := by
    intro b c hb
    obtain ⟨t, f, e⟩ := hok b c hb
    have hlt := (Array.getElem?_eq_some_iff.1 e).1
    exact ⟨t, f, (hold2 b (Nat.lt_of_lt_of_le hlt hW.size)).trans ((hW.block b hlt).trans e)⟩
  have hH2 : ∀ b c, H b = some c → b < w.heap.size := fun b c hb => by
    obtain ⟨t, f, e⟩ := hok b c hb
    exact (Array.getElem?_eq_some_iff.1 e).1
  have hent2 : len = 0 ∨ ∃ b off c, sa = some ⟨b, off, none⟩ ∧ H b = some c ∧ ∀ j i, j < len → i < 5 → W2.cell? ⟨b, off + j * 5 + i, none⟩ = some (.int .i64 (z j i)) := by
    rcases hent with h | ⟨b, off, c, e, hb, hc⟩
    · exact .inl h
    · have hlt := hH2 b c hb
      refine .inr ⟨b, off, c, e, hb, fun j i hj hi => ?_⟩
      rw [World.cell?_of_block (a := ⟨b, off + j * 5 + i, none⟩) (hold2 b (Nat.lt_of_lt_of_le hlt hW.size)), hW.cell (p := ⟨b, off + j * 5 + i, none⟩) hlt]
      exact hc j i hj hi
  have hseq := bw_seq (W.heap.size + 1) len sa cap z hlen (O0 := fun b => b = W.heap.size + 1) hok2 rfl (by omega) hcB hent2
  rw [hW2]
  refine (wpIn_wide (n := 1)).2 (qh0 (gf := 132) (pre := #[]) (fun y => (Array.empty_append (xs := #[y])).symm ▸ rfl) rfl (fun args w' => qeo (qab Tryz.func132 rfl (by kernel_rfl)) args w') (fun b c hb => by have := hH2 b c hb; have := hW.size; omega) hseq (fun i => rfl) (fun b hb => by omega)
    (fun i O W' => (∀ b, O b → b < W'.heap.size) ∧ ∃ E : Nat → Prop, J i (fun b => O b ∨ E b) W' ∧ E W.heap.size ∧ (∀ b, E b → ¬ O b ∧ b < W'.heap.size) ∧ W'.cell? ⟨W.heap.size, 0, none⟩ = some (.func (.yield l) #[] #[]))
    (fun x O W' => (∀ b, O b → b < W'.heap.size) ∧ ∃ (E : Nat → Prop) (X : Nat), J x.1 (fun b => O b ∨ E b) W' ∧ E W.heap.size ∧ E X ∧ (∀ b, E b → ¬ O b ∧ b < W'.heap.size) ∧ W'.cell? ⟨W.heap.size, 0, none⟩ = some (.func (.yield l) #[] #[]) ∧
      (∀ (q : Nat), q < 5 → W'.cell? ⟨X, q, none⟩ = some (.int .i64 (z (len - 1 - x.1) q))) ∧
      x.2 = { tmps := #[.func (.yield l) #[] #[], .pointer (some ⟨Lb, o, none⟩), .pointer (some ⟨W.heap.size, 0, none⟩), undef, .pointer (some ⟨X, 0, none⟩), .pointer (some ⟨Lb, o + 3, none⟩), .slice sa len cap, .func (.func 132) #[] #[.pointer (some ⟨W.heap.size + 1, 0, none⟩)], .int .i64 (len - 1 - x.1 : Int), entV (z (len - 1 - x.1)), undef, undef, undef, undef], defers := [] })
    (fun c O W' => c = .ret ∧ ∃ (E : Nat → Prop) (i : Nat), Jx i (fun b => O b ∨ E b) W') ?_ ?_ ?_ ?_ ?_ ?_ ?_ ?_)
  · rintro i O O' A B ⟨hOs, E, hj, hEY, hE, hcy⟩ ⟨row, hgr, hr, hO⟩
    refine ⟨fun b hb => ((hO b).1 hb).elim (fun h => Nat.lt_of_lt_of_le (hOs b h) hgr.size) (fun h => h.2), E, hJ _ _ _ _ _ hj ⟨row, hgr, fun r e => (hr r e).imp .inl (fun h => ⟨by omega, h.2⟩), fun b => ?_⟩, hEY, fun b hb => ⟨fun h => ?_, Nat.lt_of_lt_of_le (hE b hb).2 hgr.size⟩, qfS hgr (qkc hr (hE _ hEY).1 hcy) hcy⟩
    · show (O' b ∨ E b) ↔ (O b ∨ E b) ∨ (A.heap.size ≤ b ∧ b < B.heap.size)
      rw [hO, or_assoc, or_assoc, or_comm (a := A.heap.size ≤ b ∧ b < B.heap.size)]
    · rcases (hO b).1 h with h | h
      · exact (hE b hb).1 h
      · have := (hE b hb).2; omega
  · rintro i O O' A B ⟨hOs, E, X, hj, hEY, hEX, hE, hcy, hcx, ha⟩ ⟨row, hgr, hr, hO⟩
    refine ⟨fun b hb => ((hO b).1 hb).elim (fun h => Nat.lt_of_lt_of_le (hOs b h) hgr.size) (fun h => h.2), E, X, hJ _ _ _ _ _ hj ⟨row, hgr, fun r e => (hr r e).imp .inl (fun h => ⟨by omega, h.2⟩), fun b => ?_⟩, hEY, hEX, fun b hb => ⟨fun h => ?_, Nat.lt_of_lt_of_le (hE b hb).2 hgr.size⟩, qfS hgr (qkc hr (hE _ hEY).1 hcy) hcy, fun q hq => qfS hgr (qkc hr (hE _ hEX).1 (hcx q hq)) (hcx q hq), ha⟩
    · show (O' b ∨ E b) ↔ (O b ∨ E b) ∨ (A.heap.size ≤ b ∧ b < B.heap.size)
      rw [hO, or_assoc, or_assoc, or_comm (a := A.heap.size ≤ b ∧ b < B.heap.size)]
    · rcases (hO b).1 h with h | h
      · exact (hE b hb).1 h
      · have := (hE b hb).2; omega
  · rintro c O O' A B ⟨hc, E, i, hj⟩ ⟨row, hgr, hr, hO⟩
    refine ⟨hc, E, i, hJx _ _ _ _ _ hj ⟨row, hgr, fun r e => (hr r e).imp .inl (fun h => ⟨by omega, h.2⟩), fun b => ?_⟩⟩
    show (O' b ∨ E b) ↔ (O b ∨ E b) ∨ (A.heap.size ≤ b ∧ b < B.heap.size)
    rw [hO, or_assoc, or_assoc, or_comm (a := A.heap.size ≤ b ∧ b < B.heap.size)]
  · exact ⟨fun b hb => by omega, fun b => b = W.heap.size, hJ2, rfl, fun b hb => by omega, hcY⟩
  · -- the loop variable
    rintro l' n i O W' hi ⟨hOs, E, hj, hEY, hE, hcy⟩
    simp only [entV]
    gi_wp2
    have hHW : ∀ b c, H b = some c → b < W'.heap.size := fun b c hb => by have := hH2 b c hb; have := hW.size; have := (hE _ hEY).2; omega
    refine ⟨⟨fun b hb => by rw [World.size_alloc]; exact Nat.lt_succ_of_lt (hOs b hb), fun b => b = W'.heap.size ∨ E b, W'.heap.size, ?_, .inr hEY, .inl rfl, ?_, ?_, ?_, rfl⟩, ?_, ?_, ?_⟩
    · refine hJ _ _ _ _ _ hj ⟨none, World.grownBy_alloc _ _ none, fun r e => (by cases e), fun b => ?_⟩
      show O b ∨ b = W'.heap.size ∨ E b ↔ (O b ∨ E b) ∨ _
      rw [World.size_alloc, or_assoc]
      refine or_congr Iff.rfl ?_
      rw [or_comm]
      exact or_congr Iff.rfl (by omega)
    · rintro b (rfl | hb)
      · exact ⟨fun h => by have := hOs _ h; omega, by simp⟩
      · have := hE b hb
        exact ⟨this.1, by rw [World.size_alloc]; omega⟩
    · rw [World.cell?_of_block (a := ⟨W.heap.size, 0, none⟩) (heap_alloc_old _ _ (hE _ hEY).2)]
      exact hcy
    · intro q hq
      rw [qhv]
      match q, hq with
      | 0, _ => rfl
      | 1, _ => rfl
      | 2, _ => rfl
      | 3, _ => rfl
      | 4, _ => rfl
    · exact (KeepsOthers.alloc _ _).from _
    · exact fun b c hb => heap_alloc_old _ _ (hHW b c hb)
    · exact fun b hb => heap_alloc_old _ _ (hOs b hb)
  · rintro l' n i O a₁ W' hi ⟨hOs, E, X, hj, hEY, hEX, hE, hcy, hcx, ha⟩
    dsimp only at ha hj hcx
    subst ha
    obtain ⟨fn, tmps, assign, body, hy, hR⟩ := hY (n - 1) i _ W' hi hj
    have c0 := hcx 0 (by omega)
    have c1 := hcx 1 (by omega)
    have c2 := hcx 2 (by omega)
    have c3 := hcx 3 (by omega)
    have c4 := hcx 4 (by omega)
    simp only [entV] at hy
    gi_wp2
    refine ⟨fun h => absurd h (by decide), RoundIn.mono (F := Fence.wide.inRound l') hR ?_⟩
    rintro e W3 ⟨hkF, ⟨rfl, hJ3, hkH, hkO⟩ | ⟨rfl, hJx3⟩⟩
    · gi_wp2
      refine ⟨⟨hkF.size, fun k o hk => hkF.same k o (by omega)⟩, hkH, fun b hb => hkO b (.inl hb), fun b hb => Nat.lt_of_lt_of_le (hOs b hb) hkF.size, E, hJ3, hEY, fun b hb => ⟨(hE b hb).1, Nat.lt_of_lt_of_le (hE b hb).2 hkF.size⟩, ?_⟩
      rw [World.cell?_of_block (a := ⟨W.heap.size, 0, none⟩) (hkO _ (.inr hEY))]
      exact hcy
    · gi_wp2
      exact ⟨⟨hkF.size, fun k o hk => hkF.same k o (by omega)⟩, rfl, E, i + 1, hJx3⟩
  · rintro D O W' hD ⟨_, E, hj, _⟩ hh
    gi_wp2
    refine ⟨by simp, .inl ⟨_, _, rfl, run_takeDeferred hh, ?_⟩⟩
    exact ⟨_, results_none rfl _ _ _, ⟨_, rfl⟩, .inl ⟨_, hJ.putObj _ hj (by omega) hh rfl⟩⟩
  · rintro D c O W' hD ⟨rfl, E, i, hj⟩ hh
    refine wp_ret ?_
    refine ⟨by simp, .inl ⟨_, _, rfl, run_takeDeferred hh, ?_⟩⟩
    exact ⟨_, results_none rfl _ _ _, ⟨_, rfl⟩, .inr ⟨_, _, hJx.putObj _ hj (by omega) hh rfl⟩⟩
end Go.Proofs.Tryz.Ib
