/- The iterator of layer 5: a board, all that it is below, and the generator. No condition beyond those typed in each theorem. -/
import Derived.Test.YtealdoeaafoemaaGreatVi40
import Derived.Test.YtealdoeaafoemaaGreatProg
import Derived.RangeFuncBox
import Derived.RangeFuncLeaves
import Derived.Shelf.Abstract
import Derived.WalkKit
import Derived.OwnWalkIn
import Derived.TacticsInMore
import Derived.LoopNIn
import Derived.LoopIn
namespace Go.Proofs.Tryz.It
open Go.RowKit Go.Shelf Go.Proofs
attribute [local go_sem] Oper.semAt_some
inductive qdN (z : Nat → Int) (len : Nat) : Int → List Int → Prop
  | stop {b : Int} (h : b < 0) : qdN z len b [-1]
  | go {b : Int} {xs : List Int} (h0 : 0 ≤ b) (h1 : b < len) (h2 : z b.toNat < b) (h : qdN z len (z b.toNat) xs) : qdN z len b (b :: xs)
theorem qdN.neg {z : Nat → Int} {len : Nat} {b : Int} {xs : List Int} (h : qdN z len b xs) (hb : b < 0) : xs = [-1] := by
  cases h with
  | stop => rfl
  | go h0 => omega
theorem qdN.pos {z : Nat → Int} {len : Nat} {b : Int} {xs : List Int} (h : qdN z len b xs) (hb : ¬ b < 0) : ∃ r, xs = b :: r ∧ 0 ≤ b ∧ b < len ∧ z b.toNat < b ∧ qdN z len (z b.toNat) r := by
  cases h with
  | stop h => omega
  | go h0 h1 h2 h => exact ⟨_, rfl, h0, h1, h2, h⟩
def qjW (Bb : Nat) (w : World) : Int := match w.cell? ⟨Bb, 0, none⟩ with | some (.int _ n) => n | _ => 0
set_option maxRecDepth 100000 in
set_option maxHeartbeats 4000000 in
theorem up1 (l Bb Sb so b off len cap : Nat) (sa : Option Addr) (z : Nat → Int) (xs : List Int) (b0 : Int) (hch : qdN z len b0 xs) (hlen : len ≤ 1099511627776) (J Jx : Nat → World → Prop) (Kp : World → World → Prop)
    (hKc : ∀ A B, Kp A B → ∀ k, k = Bb ∨ k = Sb ∨ k = b → B.heap[k]? = A.heap[k]?) (hst : ∀ i A v, J i A → J i (A.setCell ⟨Bb, 0, none⟩ v)) (hne : Sb ≠ Bb ∧ b ≠ Bb)
    (hY : ∀ m i W1, i < xs.length → J i W1 → YieldAt Fence.wide m Tryz.prog l #[.int .i64 (xs.getD i 0)] W1 fun e W' =>
      (e = .returned (.bool true) ∧ J (i + 1) W' ∧ Kp W1 W') ∨ (e = .returned (.bool false) ∧ Jx (i + 1) W'))
    (W : World) (hBb : ∃ t, Boxed W Bb t (.int .i64 b0)) (hS : W.cell? ⟨Sb, so, none⟩ = some (.slice sa len cap)) (hsa : len = 0 ∨ sa = some ⟨b, off, none⟩) (hc : ∀ j, j < len → W.cell? ⟨b, off + j * 4, none⟩ = some (.int .i64 (z j))) (h0 : J 0 W) :
    CallsIn Fence.wide 1 Tryz.prog 131 #[.func (.yield l) #[] #[], .pointer (some ⟨Bb, 0, none⟩), .pointer (some ⟨Sb, so, none⟩)] W fun e W' => (∃ v, e = .returned v) ∧ (J xs.length W' ∨ ∃ i, Jx i W') := by
  refine callsIn_of_wp Tryz.func131 rfl trivial ?_ rfl
  simp only [Tryz.ntmps131, List.size_toArray, List.length_cons, List.length_nil, Nat.reduceAdd, Nat.reduceSub, Array.replicate_succ, Array.replicate_zero, List.push_toArray, List.append_toArray, List.nil_append, List.cons_append]
  have hlen2 : (len : Int) ≤ 1099511627776 := by omega
  gi_wp2
  gi_loopw [] (fun wr => ∃ (k : Nat) (cur : Int), k ≤ xs.length ∧ qdN z len cur (xs.drop k) ∧ J k wr ∧ (∃ t, Boxed wr Bb t (.int .i64 cur)) ∧ wr.heap[Sb]? = W.heap[Sb]? ∧ wr.heap[b]? = W.heap[b]?)
    (fun wr => (qjW Bb wr + 1).toNat)
  case atStart => exact ⟨0, b0, Nat.zero_le _, by simpa using hch, h0, hBb, rfl, rfl⟩
  case round =>
    obtain ⟨k, cur, hk, hch, hJs, ⟨t, hB⟩, hkS, hkb⟩ := hrel
    have hcB := hB.cell
    have hfB := hB.frozen
    have hS' : wr.cell? ⟨Sb, so, none⟩ = some (.slice sa len cap) := (World.cell?_of_block (a := ⟨Sb, so, none⟩) hkS).trans hS
    have hN : k < xs.length := by
      rcases Nat.lt_or_ge k xs.length with h | h
      · exact h
      · rw [List.drop_eq_nil_of_le h] at hch
        cases hch
    have hget : ∀ y r, xs.drop k = y :: r → xs.getD k 0 = y ∧ xs.drop (k + 1) = r := by
      intro y r h
      rw [List.drop_eq_getElem_cons hN] at h
      injection h with h1 h2
      exact ⟨by rw [List.getD_eq_getElem?_getD, List.getElem?_eq_getElem hN]; exact h1, h2⟩
    obtain ⟨fn, tmps, assign, body, hy, hR⟩ := hY 0 k wr hN hJs
    by_cases hlt : cur < 0
    · have hx := hch.neg hlt
      obtain ⟨e1, e2⟩ := hget _ _ hx
      have hk1 : k + 1 = xs.length := by
        have := congrArg List.length hx
        rw [List.length_drop] at this
        simp at this
        omega
      rw [e1] at hy
      gi_wp2
      refine hR.mono ?_
      rintro e W3 (⟨rfl, hJ3, hk3⟩ | ⟨rfl, hJx3⟩)
      · gi_wp2
        go_end0
        exact ⟨⟨_, rfl⟩, .inl (hk1 ▸ hJ3)⟩
      · gi_wp2
        go_end0
        exact ⟨⟨_, rfl⟩, .inr ⟨_, hJx3⟩⟩
    · obtain ⟨r, hx, g0, g1, g2, hch2⟩ := hch.pos hlt
      obtain ⟨e1, e2⟩ := hget _ _ hx
      rw [e1] at hy
      gi_wp2
      refine hR.mono ?_
      rintro e W3 (⟨rfl, hJ3, hk3⟩ | ⟨rfl, hJx3⟩)
      · have hB3 : Boxed W3 Bb t (.int .i64 cur) := (hKc _ _ hk3 Bb (.inl rfl)).trans hB
        have hcB3 := hB3.cell
        have hfB3 := hB3.frozen
        have hS3 : W3.cell? ⟨Sb, so, none⟩ = some (.slice sa len cap) := (World.cell?_of_block (a := ⟨Sb, so, none⟩) (hKc _ _ hk3 Sb (.inr (.inl rfl)))).trans hS'
        obtain rfl : sa = some ⟨b, off, none⟩ := by
          rcases hsa with h | h
          · omega
          · exact h
        have hc3 : W3.cell? ⟨b, off + cur.toNat * 4, none⟩ = some (.int .i64 (z cur.toNat)) := (World.cell?_of_block (a := ⟨b, off + cur.toNat * 4, none⟩) ((hKc _ _ hk3 b (.inr (.inr rfl))).trans hkb)).trans (hc _ (by omega))
        gi_wp2
        go_roundw
        case rel =>
          exact ⟨k + 1, z cur.toNat, by omega, by rw [e2]; exact hch2, hst _ _ _ hJ3, ⟨t, hB3.set _⟩,
            (Below.heap_setCell _ _ _ Sb (fun e => hne.1 e)).trans ((hKc _ _ hk3 Sb (.inr (.inl rfl))).trans hkS), (Below.heap_setCell _ _ _ b (fun e => hne.2 e)).trans ((hKc _ _ hk3 b (.inr (.inr rfl))).trans hkb)⟩
        case measure =>
          have m1 : qjW Bb (W3.setCell ⟨Bb, 0, none⟩ (.int .i64 (z cur.toNat))) = z cur.toNat := by
            unfold qjW
            rw [(hB3.set _).cell]
          have m2 : qjW Bb wr = cur := by
            unfold qjW
            rw [hcB]
          rw [m1, m2]
          omega
      · gi_wp2
        refine bodyPost_ret (results_none rfl _ _ _) rfl ?_
        exact ⟨⟨_, rfl⟩, .inr ⟨_, hJx3⟩⟩
open Go.Vi in
theorem up_seq (Bb Sb so len cap : Nat) (sa : Option Addr) (z : Nat → Int) (xs : List Int) (b0 : Int) (hch : qdN z len b0 xs) (hlen : len ≤ 1099511627776) {H : FH} {w : World} (hok : HOk H w) {t : TypeId} (hB : Boxed w Bb t (.int .i64 b0)) (hBH : H Bb = none) {cS : Array Value} (hSH : H Sb = some cS)
    (hS : w.cell? ⟨Sb, so, none⟩ = some (.slice sa len cap)) (hent : len = 0 ∨ ∃ b off c, sa = some ⟨b, off, none⟩ ∧ H b = some c ∧ ∀ j, j < len → w.cell? ⟨b, off + j * 4, none⟩ = some (.int .i64 (z j))) {O0 : Nat → Prop} (hO : O0 Bb) (hO2 : ∀ b, O0 b → b < w.heap.size) :
    qkP Tryz.prog 131 #[.pointer (some ⟨Bb, 0, none⟩), .pointer (some ⟨Sb, so, none⟩)] xs.length (fun i => #[.int .i64 (xs.getD i 0)]) H O0 w := by
  intro l J Jx W hW hJ hJx hY h0
  obtain ⟨tS, fS, eS⟩ := hok Sb cS hSH
  have hSl := (Array.getElem?_eq_some_iff.1 eS).1
  have hne : Sb ≠ Bb := fun e => by rw [e, hBH] at hSH; cases hSH
  obtain ⟨b, off, hsa, hb, hbn, hc⟩ : ∃ b off, (len = 0 ∨ sa = some ⟨b, off, none⟩) ∧ (∃ c, H b = some c) ∧ b ≠ Bb ∧ ∀ j, j < len → W.cell? ⟨b, off + j * 4, none⟩ = some (.int .i64 (z j)) := by
    rcases hent with h | ⟨b, off, c, e, hb, hc⟩
    · exact ⟨Sb, 0, .inl h, ⟨_, hSH⟩, hne, fun j hj => by omega⟩
    · obtain ⟨t, f, e'⟩ := hok b c hb
      have hbl := (Array.getElem?_eq_some_iff.1 e').1
      exact ⟨b, off, .inr e, ⟨_, hb⟩, (fun e => by rw [e, hBH] at hb; cases hb), fun j hj => (hW.cell (p := ⟨b, off + j * 4, none⟩) hbl).trans (hc j hj)⟩
  have hgr : ∀ {β : Type} {K : β → (Nat → Prop) → World → Prop}, qfp W.heap.size K → ∀ i A v, W.heap.size ≤ A.heap.size → K i O0 A → K i O0 (A.setCell ⟨Bb, 0, none⟩ v) := fun hK i A v hA h => hK i O0 O0 A _ h ⟨some Bb, grownBy_setCell' A Bb v, fun r e => by cases e; exact .inl hO, fun x => ⟨.inl, fun hh => hh.elim id (fun hh => by
    have := (KeepsWalks.setCell A ⟨Bb, 0, none⟩ v).size
    have e : (A.setCell ⟨Bb, 0, none⟩ v).heap.size = A.heap.size := by simp [World.setCell]
    omega)⟩⟩
  refine (callsIn_wide (n := 1)).1 ((up1 l Bb Sb so b off len cap sa z xs b0 hch hlen (fun i A => W.heap.size ≤ A.heap.size ∧ J i O0 A) (fun i A => Jx i O0 A) (fun A B => qck H A B ∧ qeT O0 A B) ?_ ?_ ⟨hne, hbn⟩ ?_ W ⟨t, (hW.block Bb hB.lt).trans hB⟩ ((hW.cell (p := ⟨Sb, so, none⟩) hSl).trans hS) hsa hc ⟨Nat.le_refl _, h0⟩).mono ?_)
  · rintro A B ⟨h1, h2⟩ k (rfl | rfl | rfl)
    · exact h2 _ hO
    · exact h1 _ _ hSH
    · obtain ⟨c, hc⟩ := hb
      exact h1 _ _ hc
  · rintro i A v ⟨h1, h2⟩
    exact ⟨by have e : (A.setCell ⟨Bb, 0, none⟩ v).heap.size = A.heap.size := by simp [World.setCell]
              omega, hgr hJ i A v h1 h2⟩
  · rintro m i W1 hi ⟨hs, hj⟩
    obtain ⟨fn, tmps, assign, body, hy, hR⟩ := hY m i O0 W1 hi hj
    refine ⟨fn, tmps, assign, body, hy, hR.mono ?_⟩
    rintro e W' ⟨hk, ⟨h1, h2, h3, h4⟩ | h⟩
    · exact .inl ⟨h1, ⟨Nat.le_trans hs hk.size, h2⟩, h3, h4⟩
    · exact .inr h
  · rintro e W' ⟨he, ⟨_, hj⟩ | ⟨i, hj⟩⟩
    · exact ⟨he, .inl ⟨_, hj⟩⟩
    · exact ⟨he, .inr ⟨_, _, hj⟩⟩
end Go.Proofs.Tryz.It
