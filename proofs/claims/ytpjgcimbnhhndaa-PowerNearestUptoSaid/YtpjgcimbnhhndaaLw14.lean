/- Plain laws of layer 5, fourteenth part: the law that no board is overloaded for long. No condition beyond those typed in each theorem. -/
import Derived.Test.YtpjgcimbnhhndaaLw13
namespace Go.Proofs.Try.V
open Go.Vi
set_option maxRecDepth 100000

theorem g21_eq (t : Int) : ∃ b, g21 (t, ()) = some ((b, ()), ()) := by
  show ∃ b, F21 fuel t = _
  unfold F21
  cases decide (t > 50) <;> exact ⟨_, rfl⟩
theorem set_lt (s : Sup) (l : List Swi) (t : Int) (p : PSt) : tickSet s l t p < 2 ^ s.2.1.length := drwK_lt s _ _ _
theorem rows_gd (s : Sup) (l : List Swi) {t T : Nat} (h : t < T) : gd (ply s l T).rows (t : Int) = ((tickSet s l (t : Int) (ply s l t) : Nat) : Int) := by
  rw [ply_rows, gd_mapr _ h]
theorem rows_len (s : Sup) (l : List Swi) (T : Nat) : (ply s l T).rows.length = T := by rw [ply_rows]; simp
theorem agree2 {R : Type} (x : Option R) : agreeK [x, agreeK [x, x]] = x := by simp only [agreeK_two, agreeK_one]
theorem L4_11_eq' {s : Sup} (hs : okS s = true) {T : Nat} (hT : T ≤ 500) {l : List Swi} (hx : l.all (okX s (T : Int)) = true) (hll : l.length ≤ 100) {k : Nat} (hk : k ≤ s.1.length) {N : Nat} (hN : 2000 ≤ N) :
    L4_11 N (((T : Int), l, bO s.1.length k, 0, 0, ()), (s, (ply s l T).rows, ()), ()) = some (.inr (((T : Int), l, bO s.1.length k, ()), (s, (ply s l T).rows, ()), ())) := by
  have hl := okS_le hs
  have hp16 := pow16 hl.2
  have hb : bO s.1.length k < s.1.length := by unfold bO; split <;> omega
  have hd := dly_bd hs hb
  obtain ⟨r, e, rfl⟩ := loop0 (L := L4_11) (fun (t : Nat) (row : Int) => (((T : Int), l, bO s.1.length k, row, (t : Int), ()), (s, (ply s l T).rows, ()), ())) (fun t row => LInv s k (ply s l t) row)
    (fun r => r = .inr (((T : Int), l, bO s.1.length k, ()), (s, (ply s l T).rows, ()), ())) 0 T (N := N) (s := 0) (LInv.zero hs hk) (by omega)
    (fun N row _ => ⟨_, by
      simp only [L4_11, B4_11]
      rw [dec_f (by omega)]
      rfl, rfl⟩)
    (fun N t row _ ht hi => by
      left
      have hstep := hi.step hs hx (t : Int) (ply_ok hl hx t) hk
      refine ⟨_, hstep, ?_⟩
      have hlt := set_lt s l (t : Int) (ply s l t)
      have hle := hstep.le
      have hrl := rows_len s l T
      have h1 : ∀ {R : Type} (X : Option R), inR (t : Int) (ply s l T).rows.length X = X := fun X => inR_in (by omega) (by omega) X
      have h2 : ∀ {R : Type} (F : Int → Option R), getI (ply s l T).rows (t : Int) F = F ((tickSet s l (t : Int) (ply s l t) : Nat) : Int) := fun F => by
        rw [getI_gd (by omega) (by omega), rows_gd s l ht]
      have e24 := g24_eq hs (S := tickSet s l (t : Int) (ply s l t)) (by omega) hb
      have hnn := hi.nn
      have hle0 := hi.le
      simp only [L4_11, B4_11, h1, h2]
      rw [dec_t (by omega), cond_true, dec_f (by omega), cond_false, u64_in (n := (s.2.1.length : Int)) (by omega) (by omega), negK_in (by omega), shl_n (by omega), dec_f (by omega), cond_false, enumK_eq, agree2]
      rw [e24, derefK_some]
      simp only []
      rw [g26_eq s hb, wI (x := (t : Int) + 1) (by omega) (by omega), show (t : Int) + 1 = ((t + 1 : Nat) : Int) by omega]
      simp only [derefK_some]
      rw [wI (x := dly s (bO s.1.length k) + 1) (by omega) (by omega), wI (x := row + 1) (by omega) (by omega), g25_eq (by omega), derefK_some]
      simp only []
      unfold rowN at hle ⊢
      cases ho : ovr s (tickSet s l (t : Int) (ply s l t)) (bO s.1.length k) with
      | false =>
        rw [Bool.not_false, cond_true, dec_f (by omega), cond_false, if_neg (by simp)]
      | true =>
        rw [Bool.not_true, cond_false, if_pos rfl]
        rw [ho, if_pos rfl] at hle
        cases ha : agn l (t : Int) (bO s.1.length k) with
        | true =>
          rw [cond_true, dec_f (by omega), cond_false, if_pos rfl]
        | false =>
          rw [ha, if_neg (by simp)] at hle
          rw [cond_false, dec_f (by omega), cond_false, if_neg (by simp)])
  exact e
theorem long_law (s : Sup) (ticks : Int) (l : List Swi) : g4 (s, ticks, l, ()) = some ((true, ()), ()) := by
  show F4 fuel s ticks l = _
  unfold F4
  obtain ⟨b, hb⟩ := g21_eq ticks
  rw [hb, derefK_some]
  cases b with
  | true => exact works_k
  | false =>
  rw [cond_false, g22_eq, derefK_some]
  show (bif ckW s ticks l != 0 then _ else _) = _
  by_cases hc : ckW s ticks l = 0
  case neg =>
    rw [show (ckW s ticks l != 0) = true from bne_iff_ne.2 hc]
    exact works_k
  obtain ⟨hs, ht, hll, hx⟩ := ckW_0 hc
  have hl := okS_le hs
  have hf := fuel_ge
  obtain ⟨T, rfl⟩ : ∃ T : Nat, ticks = (T : Int) := ⟨ticks.toNat, by omega⟩
  have e23 := g23_eq s (T : Int) l
  rw [hc, if_pos rfl, Int.toNat_natCast] at e23
  rw [hc, bne_self_eq_false, cond_false, e23, derefK_some]
  have hrl := rows_len s l T
  have hne : (((ply s l T).rows.length : Int) != (T : Int)) = false := by rw [hrl]; simp
  rw [bne_self_eq_false, cond_false, hne, cond_false]
  have e := loopF (L := L4_7) (fun (i : Nat) => (((T : Int), l, (i : Int) - 1, ()), (s, (ply s l T).rows, ()), ())) (.inr ((), (), ())) 2000 (s.1.length + 1) (N := fuel) (by omega)
    (fun N => by
      simp only [L4_7, B4_7]
      rw [dec_f (by omega)]
      rfl)
    (fun N i hN hi => by
      simp only [L4_7, B4_7]
      have hkb : ∃ k, k ≤ s.1.length ∧ bO s.1.length k = (i : Int) - 1 := by
        by_cases h0 : i = 0
        · exact ⟨s.1.length, Nat.le_refl _, by unfold bO; rw [if_pos rfl]; omega⟩
        · exact ⟨i - 1, by omega, by unfold bO; rw [if_neg (by omega)]; omega⟩
      obtain ⟨k, hk, hkb⟩ := hkb
      have e11 := L4_11_eq' hs (T := T) (by omega) hx hll hk hN
      rw [hkb] at e11
      rw [dec_t (by omega), cond_true, e11, derefK_some, sumK_inr]
      simp only []
      rw [wI (by omega) (by omega), show (i : Int) - 1 + 1 = ((i + 1 : Nat) : Int) - 1 by omega])
  have e' : L4_7 fuel (((T : Int), l, -1, ()), (s, (ply s l T).rows, ()), ()) = _ := e
  rw [e', derefK_some]
  exact works_k
end Go.Proofs.Try.V
