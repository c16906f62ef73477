/- Plain laws of layer 5, thirtieth part: the law that the nearest breaker opens. No condition beyond those typed in each theorem. -/
import Derived.Test.YtpjgcimbnhhndaaLw29
namespace Go.Proofs.Try.V
open Go.Vi
set_option maxRecDepth 100000

theorem alw_t {s : Sup} {l : List Swi} {b : Int} {a n : Nat} : alw s l b a n = true ↔ ∀ i : Nat, a ≤ i → i < a + n → ovr s (setT s l i) b = true := by
  unfold alw
  rw [List.all_eq_true]
  constructor
  · intro h i h1 h2
    have := h (i - a) (List.mem_range.2 (by omega))
    rwa [show a + (i - a) = i by omega] at this
  · intro h i hi
    exact h (a + i) (by omega) (by have := List.mem_range.1 hi; omega)
theorem L6_19_eq' {s : Sup} (T : Int) (rows : List Int) (tr : List (Int × Int)) (x : Int × Int) {i : Nat} (hi : i ≤ tr.length) (hll : tr.length ≤ 100000) (h : ∀ j : Nat, j < i → (gd tr (j : Int)).2 ≠ x.2) {N : Nat} (hN : 200000 ≤ N) :
    L6_19 N ((T, (i : Int), 0, ()), (s, x, rows, tr, ()), ()) = some (.inr ((T, (i : Int), ()), (s, x, rows, tr, ()), ())) :=
  loopF (L := L6_19) (fun (j : Nat) => ((T, (i : Int), (j : Int), ()), (s, x, rows, tr, ()), ())) (.inr ((T, (i : Int), ()), (s, x, rows, tr, ()), ())) 0 i (N := N) (by omega)
    (fun N => by
      simp only [L6_19, B6_19]
      rw [dec_f (by omega)]
      rfl)
    (fun N j _ hj => by
      simp only [L6_19, B6_19]
      rw [dec_t (by omega), cond_true, inR_in (by omega) (by omega), getI_gd (by omega) (by omega), show ((gd tr (j : Int)).2 == x.2) = false from beq_eq_false_iff_ne.2 (h j hj), wI (by omega) (by omega)]
      rfl)
theorem g33_at {s : Sup} (hs : okS s = true) {l : List Swi} {T : Nat} (hT : T ≤ 1000) {b : Int} (hb : b < s.1.length) {τ : Nat} {D : Int} (h0 : 0 ≤ D) (h1 : D ≤ τ) (h2 : τ < T) : g33 (s, (ply s l T).rows, b, (τ : Int) - D, (τ : Int), ()) = some ((alw s l b (τ - D.toNat) (D.toNat + 1), ()), ()) := by
  have := g33_eq hs (l := l) hT hb (a := τ - D.toNat) (n := D.toNat + 1) (by omega) (by omega)
  rwa [show ((τ - D.toNat : Nat) : Int) = (τ : Int) - D by omega, show ((τ - D.toNat + (D.toNat + 1) - 1 : Nat) : Int) = (τ : Int) by omega] at this
theorem L6_26_eq' {s : Sup} (hs : okS s = true) {l : List Swi} {T : Nat} (hT : T ≤ 500) (tr : List (Int × Int)) {τ k : Nat} (hk : k ≤ s.1.length) (hτ : τ < T) (hg : Good s l τ k) (i : Int) {N : Nat} (hN : 200000 ≤ N) :
    L6_26 N (((T : Int), i, 0, ()), (s, ((τ : Int), bO s.1.length k), (ply s l T).rows, tr, ()), ()) = some (.inr (((T : Int), i, ()), (s, (ply s l T).rows, tr, ()), ())) := by
  have hl := okS_le hs
  have hb : bO s.1.length k < s.1.length := by unfold bO; split <;> omega
  have hd := dly_bd hs hb
  have hle := hg.le
  exact loopF (L := L6_26) (fun (j : Nat) => (((T : Int), i, (j : Int), ()), (s, ((τ : Int), bO s.1.length k), (ply s l T).rows, tr, ()), ())) (.inr (((T : Int), i, ()), (s, (ply s l T).rows, tr, ()), ())) 0 s.1.length (N := N) (by omega)
    (fun N => by
      simp only [L6_26, B6_26]
      rw [dec_f (by omega)]
      rfl)
    (fun N j _ hj => by
      simp only [L6_26, B6_26]
      rw [dec_t (by omega), cond_true]
      simp only [getI_gd (l := s.1) (i := (j : Int)) (by omega) (by omega)]
      rw [wI (x := (j : Int) + 1) (by omega) (by omega), show (j : Int) + 1 = ((j + 1 : Nat) : Int) by omega, g26_eq s hb]
      simp only [derefK_some]
      rw [wI (x := (τ : Int) - dly s (bO s.1.length k)) (by omega) (by omega), g33_at hs (by omega) (b := (j : Int)) (by omega) hd.1 hle hτ, derefK_some]
      by_cases h1 : (gd s.1 (j : Int)).1 = bO s.1.length k
      case neg =>
        rw [show ((gd s.1 (j : Int)).1 == bO s.1.length k) = false from beq_eq_false_iff_ne.2 h1, cond_false]
      rw [show ((gd s.1 (j : Int)).1 == bO s.1.length k) = true by simp [h1], cond_true]
      by_cases h2 : (gd s.1 (j : Int)).2.2.1 < dly s (bO s.1.length k)
      case neg => rw [dec_f h2, cond_false]
      rw [dec_t h2, cond_true]
      obtain ⟨z, z1, z2, z3⟩ := hg.sel j hj h1 h2
      have hf : alw s l (j : Int) (τ - (dly s (bO s.1.length k)).toNat) ((dly s (bO s.1.length k)).toNat + 1) = false := by
        cases ha : alw s l (j : Int) (τ - (dly s (bO s.1.length k)).toNat) ((dly s (bO s.1.length k)).toNat + 1) with
        | false => rfl
        | true =>
          have := alw_t.1 ha z (by omega) (by omega)
          rw [z3] at this
          cases this
      rw [hf]
      rfl)
theorem nearest_law (s : Sup) (ticks : Int) (l : List Swi) : g6 (s, ticks, l, ()) = some ((true, ()), ()) := by
  show F6 fuel s ticks l = _
  unfold F6
  obtain ⟨b, hb⟩ := g21_eq ticks
  rw [hb, derefK_some]
  cases b with
  | true => exact works_k
  | false =>
  rw [cond_false, g22_eq, derefK_some]
  show (bif ckW s ticks l != 0 then _ else _) = _
  by_cases hc : ckW s ticks l = 0
  case neg =>
    rw [show (ckW s ticks l != 0) = true from bne_iff_ne.2 hc]
    exact works_k
  obtain ⟨hs, ht, hll, hx⟩ := ckW_0 hc
  have hl := okS_le hs
  have hf := fuel_ge
  obtain ⟨T, rfl⟩ : ∃ T : Nat, ticks = (T : Int) := ⟨ticks.toNat, by omega⟩
  rw [hc, bne_self_eq_false, cond_false]
  have e4 := loopIdx (L := L6_4) (fun i => (((T : Int), l, (i : Int), ()), (s, ()), ())) l (fun x => x.2.1 == 3 || x.2.1 == 4) (fun _ => .inl ((true, ()), (), ())) (.inr (((T : Int), l, ()), (s, ()), ())) 0 (N := fuel) (by omega)
    (fun N => by
      simp only [L6_4, B6_4]
      rw [dec_f (by omega)]
      rfl)
    (fun N i _ hi => by
      simp only [L6_4, B6_4]
      rw [dec_t (by omega), cond_true]
      simp only [getI_gd (l := l) (i := (i : Int)) (by omega) (by omega)]
      rw [works_eq, derefK_some, wI (by omega) (by omega)]
      cases (gd l (i : Int)).2.1 == 3 <;> cases (gd l (i : Int)).2.1 == 4 <;> rfl)
  have e4' : L6_4 fuel (((T : Int), l, 0, ()), (s, ()), ()) = _ := e4
  rw [e4', derefK_some]
  cases hi : l.findIdx? (fun x => x.2.1 == 3 || x.2.1 == 4) with
  | some i => rfl
  | none =>
  have hno : NoAgn l := fun x hx => by
    have := List.findIdx?_eq_none_iff.1 hi x hx
    rw [Bool.or_eq_false_iff] at this
    exact ⟨by simpa using this.1, by simpa using this.2⟩
  have e23 := g23_eq s (T : Int) l
  have e31 := g31_eq s (T : Int) l
  rw [hc, if_pos rfl, Int.toNat_natCast] at e23 e31
  have hrl := rows_len s l T
  have hne : (((ply s l T).rows.length : Int) != (T : Int)) = false := by rw [hrl]; simp
  show derefK (g23 (s, (T : Int), l, ())) _ = _
  simp only [e23, e31, derefK_some, bne_self_eq_false, cond_false, hne]
  have hinv := tInv_all hs hx hno T
  have htl := (ply_ok hl hx T).tl
  obtain ⟨tr, htr⟩ : ∃ tr, (ply s l T).trips = tr := ⟨_, rfl⟩
  rw [htr] at hinv htl ⊢
  have e := loopF (L := L6_13) (fun (i : Nat) => (((T : Int), (i : Int), ()), (s, (ply s l T).rows, tr, ()), ())) (.inr ((), (), ())) 200000 tr.length (N := fuel) (by omega)
    (fun N => by
      simp only [L6_13, B6_13]
      rw [dec_f (by omega)]
      rfl)
    (fun N i hN hi => by
      have hmem := gd_mem (l := tr) (i := (i : Int)) (by omega) (by omega)
      obtain ⟨τ, k, hxe, hτ, hk, _, hg⟩ := hinv.ok _ hmem
      have hbk : -1 ≤ bO s.1.length k ∧ bO s.1.length k < s.1.length := by unfold bO; split <;> omega
      have hd := dly_bd hs hbk.2
      have hle := hg.le
      have hdist : ∀ j : Nat, j < i → (gd tr (j : Int)).2 ≠ ((τ : Int), bO s.1.length k).2 := fun j hj => by
        have hp := List.pairwise_iff_getElem.1 hinv.pw j i (by omega) hi hj
        have g1 := gd_nat (l := tr) (i := j) (by omega)
        have g2 := gd_nat (l := tr) hi
        rw [List.getElem?_eq_getElem (by omega)] at g1 g2
        rw [← hxe, ← Option.some.inj g1, ← Option.some.inj g2]
        exact hp
      have e19 := L6_19_eq' (s := s) (T : Int) (ply s l T).rows tr ((τ : Int), bO s.1.length k) (i := i) (by omega) (by omega) hdist hN
      have e26 := L6_26_eq' hs (by omega) tr hk hτ hg (i : Int) hN
      have hall : alw s l (bO s.1.length k) (τ - (dly s (bO s.1.length k)).toNat) ((dly s (bO s.1.length k)).toNat + 1) = true := alw_t.2 fun z z1 z2 => hg.all z (by omega) (by omega)
      simp only [L6_13, B6_13]
      rw [dec_t (by omega), cond_true, inR_in (by omega) (by omega), getI_gd (by omega) (by omega), hxe]
      simp only []
      rw [dec_f (p := bO s.1.length k < -1) (by omega), cond_false, dec_f (p := bO s.1.length k ≥ (s.1.length : Int)) (by omega), cond_false, g26_eq s hbk.2, derefK_some]
      simp only []
      rw [dec_f (p := (τ : Int) < dly s (bO s.1.length k)) (by omega), cond_false, dec_f (p := (τ : Int) ≥ (T : Int)) (by omega), cond_false]
      refine (derefK_of e19 _).trans ?_
      rw [sumK_inr]
      show derefK (g26 (s, bO s.1.length k, ())) _ = _
      rw [g26_eq s hbk.2, derefK_some]
      show derefK (g33 (s, (ply s l T).rows, bO s.1.length k, IntKind.wrap .i64 ((τ : Int) - dly s (bO s.1.length k)), (τ : Int), ())) _ = _
      rw [wI (x := (τ : Int) - dly s (bO s.1.length k)) (by omega) (by omega), g33_at hs (by omega) hbk.2 hd.1 hle hτ, derefK_some, hall]
      show derefK (L6_26 N (((T : Int), (i : Int), 0, ()), (s, ((τ : Int), bO s.1.length k), (ply s l T).rows, tr, ()), ())) _ = _
      rw [e26, derefK_some, sumK_inr]
      show L6_13 N (((T : Int), IntKind.wrap .i64 ((i : Int) + 1), ()), _) = _
      rw [wI (x := (i : Int) + 1) (by omega) (by omega)]
      rfl)
  have e' : L6_13 fuel (((T : Int), 0, ()), (s, (ply s l T).rows, tr, ()), ()) = _ := e
  rw [e', derefK_some]
  exact works_k
end Go.Proofs.Try.V
