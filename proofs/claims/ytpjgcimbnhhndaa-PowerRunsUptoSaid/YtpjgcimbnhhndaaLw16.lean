/- Plain laws of layer 5, sixteenth part: the stage's theorem: what fits together stays on. No condition beyond those typed in each theorem. -/
import Derived.Test.YtpjgcimbnhhndaaLw15
namespace Go.Proofs.Try.V
open Go.Vi
set_option maxRecDepth 100000

theorem shl_i {i : Int} (h0 : 0 ≤ i) (h1 : i ≤ 61) : shlI .i64 1 (IntKind.wrap .u64 i) = ((2 ^ i.toNat : Nat) : Int) := by
  rw [u64_in h0 (by omega)]
  have := shl_n (i := i.toNat) (by omega)
  rwa [show ((i.toNat : Nat) : Int) = i by omega] at this
theorem neg_i {R : Type} {i : Int} (h0 : 0 ≤ i) (h1 : i ≤ 61) (X : Option R) : negK (IntKind.wrap .u64 i) X = X := by
  rw [u64_in h0 (by omega), negK_in h0]
theorem pow_62 {i : Int} (h1 : i ≤ 15) : 2 ^ i.toNat < 4611686018427387904 := by
  have h16 : (2 : Nat) ^ i.toNat < 2 ^ 16 := Nat.pow_lt_pow_right (by omega) (by omega)
  omega
theorem L8_5_eq' {s : Sup} (hl : s.1.length ≤ 10 ∧ s.2.1.length ≤ 16) {ticks : Int} {l : List Swi} (hx : l.all (okX s ticks) = true) (hll : l.length ≤ 100) :
    L8_5 fuel ((ticks, l, 0, 0, ()), (s, ()), ()) = some ((ticks, l, ((tsK l l.length : Nat) : Int), ()), (s, ()), ()) := by
  have hf := fuel_ge
  have hp := pow16 hl.2
  exact loopF (L := L8_5) (fun (i : Nat) => ((ticks, l, ((tsK l i : Nat) : Int), (i : Int), ()), (s, ()), ())) ((ticks, l, ((tsK l l.length : Nat) : Int), ()), (s, ()), ()) 0 l.length (N := fuel) (by omega)
    (fun N => by
      simp only [L8_5, B8_5]
      rw [dec_f (by omega)]
      rfl)
    (fun N i _ hi => by
      have hlt := tsK_lt hx i (by omega)
      have hxi := List.all_eq_true.1 hx _ (gd_mem (l := l) (i := (i : Int)) (by omega) (by omega))
      simp only [L8_5, B8_5]
      rw [dec_t (by omega), cond_true]
      simp only [getI_gd (l := l) (i := (i : Int)) (by omega) (by omega)]
      rw [wI (x := (i : Int) + 1) (by omega) (by omega), show ((i : Int) + 1) = ((i + 1 : Nat) : Int) by omega]
      conv => rhs; unfold tsK
      by_cases hk : (gd l (i : Int)).2.1 = 1
      · have hn := okX_num hxi (.inl hk)
        have e1 : ((gd l (i : Int)).2.1 == 1) = true := by simp [hk]
        rw [e1, cond_true, if_pos hk, neg_i hn.1 (by omega), shl_i hn.1 (by omega), or_n (by omega) (pow_62 (by omega))]
      · have e1 : ((gd l (i : Int)).2.1 == 1) = false := beq_eq_false_iff_ne.2 hk
        rw [e1, cond_false, if_neg hk])
theorem L8_21_eq' {s : Sup} (hl : s.1.length ≤ 10 ∧ s.2.1.length ≤ 16) {ticks : Int} {l : List Swi} (hx : l.all (okX s ticks) = true) (hll : l.length ≤ 100) (t : Int) (rows : List Int) (trips : List (Int × Int)) {st : Nat × List Bool} (h : st.1 < 65536 ∧ st.2.length = s.1.length + 1) {N : Nat} (hN : 2000 ≤ N) :
    L8_21 N ((ticks, l, (st.1 : Int), gd st.2 (s.1.length : Int), t, 0, ()), (trips, rows, ()), ()) = some ((ticks, l, ((trnK s.1.length l t st l.length).1 : Int), gd (trnK s.1.length l t st l.length).2 (s.1.length : Int), t, ()), (trips, rows, ()), ()) := by
  exact loopF (L := L8_21) (fun (i : Nat) => ((ticks, l, ((trnK s.1.length l t st i).1 : Int), gd (trnK s.1.length l t st i).2 (s.1.length : Int), t, (i : Int), ()), (trips, rows, ()), ())) ((ticks, l, ((trnK s.1.length l t st l.length).1 : Int), gd (trnK s.1.length l t st l.length).2 (s.1.length : Int), t, ()), (trips, rows, ()), ()) 0 l.length (N := N) (by omega)
    (fun N => by
      simp only [L8_21, B8_21]
      rw [dec_f (by omega)]
      rfl)
    (fun N i _ hi => by
      have hok := trnK_ok hl hx t h i (by omega)
      have hxi := List.all_eq_true.1 hx _ (gd_mem (l := l) (i := (i : Int)) (by omega) (by omega))
      simp only [L8_21, B8_21]
      rw [dec_t (by omega), cond_true]
      simp only [getI_gd (l := l) (i := (i : Int)) (by omega) (by omega)]
      rw [wI (x := (i : Int) + 1) (by omega) (by omega), show ((i : Int) + 1) = ((i + 1 : Nat) : Int) by omega]
      conv => rhs; unfold trnK
      by_cases ht : (gd l (i : Int)).1 = t
      case neg =>
        rw [show ((gd l (i : Int)).1 != t) = true from bne_iff_ne.2 ht, cond_true, if_neg ht]
      have e0 : ((gd l (i : Int)).1 != t) = false := by rw [ht]; simp
      rw [e0, cond_false, if_pos ht]
      unfold trn
      by_cases h1 : (gd l (i : Int)).2.1 = 1
      · have hn := okX_num hxi (.inl h1)
        have e1 : ((gd l (i : Int)).2.1 == 1) = true := by simp [h1]
        rw [e1, cond_true, if_pos h1, neg_i hn.1 (by omega), shl_i hn.1 (by omega), or_n (by omega) (pow_62 (by omega))]
      · have e1 : ((gd l (i : Int)).2.1 == 1) = false := beq_eq_false_iff_ne.2 h1
        rw [e1, cond_false, if_neg h1]
        by_cases h2 : (gd l (i : Int)).2.1 = 2
        · have hn := okX_num hxi (.inr h2)
          have e2 : ((gd l (i : Int)).2.1 == 2) = true := by simp [h2]
          rw [e2, cond_true, if_pos h2, neg_i hn.1 (by omega), shl_i hn.1 (by omega), andNot_n (by omega) (pow_62 (by omega))]
        · have e2 : ((gd l (i : Int)).2.1 == 2) = false := beq_eq_false_iff_ne.2 h2
          rw [e2, cond_false, if_neg h2]
          unfold okX at hxi
          rw [Bool.and_eq_true, if_neg (fun hh => hh.elim h1 h2)] at hxi
          have hxi := hxi.2
          by_cases h3 : (gd l (i : Int)).2.1 = 3
          · rw [if_pos h3, rng_iff] at hxi
            have e4 : ((gd l (i : Int)).2.1 == 4) = false := beq_eq_false_iff_ne.2 (by omega)
            have e5 : ((gd l (i : Int)).2.1 == 5) = false := beq_eq_false_iff_ne.2 (by omega)
            have hg : gd ((trnK s.1.length l t st i).2.set (gd l (i : Int)).2.2.toNat true) (s.1.length : Int) = gd (trnK s.1.length l t st i).2 (s.1.length : Int) := by
              rw [gd_set_nat (by omega), if_neg (by omega)]
            rw [e4, e5, cond_false, cond_false, if_pos h3]
            simp only [hg]
          · rw [if_neg h3] at hxi
            have hg : ∀ v, gd ((trnK s.1.length l t st i).2.set s.1.length v) (s.1.length : Int) = v := fun v => by
              rw [gd_set_nat (by omega), if_pos rfl]
            rw [if_neg h3]
            by_cases h4 : (gd l (i : Int)).2.1 = 4
            · have e4 : ((gd l (i : Int)).2.1 == 4) = true := by simp [h4]
              simp only [e4, cond_true, hg]
            · have e4 : ((gd l (i : Int)).2.1 == 4) = false := beq_eq_false_iff_ne.2 h4
              by_cases h5 : (gd l (i : Int)).2.1 = 5
              · have e5 : ((gd l (i : Int)).2.1 == 5) = true := by simp [h5]
                simp only [e4, e5, cond_true, cond_false, hg]
              · rw [if_neg (fun hh => hh.elim h4 h5)] at hxi
                cases hxi)
theorem runs_law (s : Sup) (ticks : Int) (l : List Swi) : g8 (s, ticks, l, ()) = some ((true, ()), ()) := by
  show F8 fuel s ticks l = _
  unfold F8
  obtain ⟨b, hb⟩ := g21_eq ticks
  rw [hb, derefK_some]
  cases b with
  | true => exact works_k
  | false =>
  rw [cond_false, g22_eq, derefK_some]
  show (bif ckW s ticks l != 0 then _ else _) = _
  by_cases hc : ckW s ticks l = 0
  case neg =>
    rw [show (ckW s ticks l != 0) = true from bne_iff_ne.2 hc]
    exact works_k
  obtain ⟨hs, ht, hll, hx⟩ := ckW_0 hc
  have hl := okS_le hs
  have hf := fuel_ge
  obtain ⟨T, rfl⟩ : ∃ T : Nat, ticks = (T : Int) := ⟨ticks.toNat, by omega⟩
  have e23 := g23_eq s (T : Int) l
  have e31 := g31_eq s (T : Int) l
  rw [hc, if_pos rfl, Int.toNat_natCast] at e23 e31
  have hlt := tsK_lt hx l.length (Nat.le_refl _)
  have e34 := g34_ok hs hlt
  have hrl := rows_len s l T
  have hne : (((ply s l T).rows.length : Int) != (T : Int)) = false := by rw [hrl]; simp
  rw [hc, bne_self_eq_false, cond_false, L8_5_eq' hl hx hll, derefK_some]
  simp only [e34, e31, e23, derefK_some, bne_self_eq_false, cond_false, hne]
  cases hfo : fo s (tsK l l.length) with
  | some z => exact works_k
  | none =>
  rw [Option.isNone_none, Bool.not_true, cond_false]
  have hall := RInv.all hs hx hfo
  have e := loopF (L := L8_18) (fun (t : Nat) => (((T : Int), l, ((ply s l t).on : Int), gd (ply s l t).cl (s.1.length : Int), (t : Int), ()), ((ply s l T).trips, (ply s l T).rows, ()), ())) (.inr ((), ((ply s l T).trips, ()), ())) 2000 T (N := fuel) (by omega)
    (fun N => by
      simp only [L8_18, B8_18]
      rw [dec_f (by omega)]
      rfl)
    (fun N t hN ht => by
      have hok := ply_ok hl hx t
      obtain ⟨_, h2, h3, h4⟩ := RInv.step hs hx hfo (t : Int) hok (hall t)
      have e21 := L8_21_eq' hl hx hll (t : Int) (ply s l T).rows (ply s l T).trips (st := ((ply s l t).on, (ply s l t).cl)) ⟨hok.on, hok.cl⟩ hN
      have h1 : ∀ {R : Type} (X : Option R), inR (t : Int) (ply s l T).rows.length X = X := fun X => inR_in (by omega) (by omega) X
      have h5 : ∀ {R : Type} (F : Int → Option R), getI (ply s l T).rows (t : Int) F = F ((tickSet s l (t : Int) (ply s l t) : Nat) : Int) := fun F => by
        rw [getI_gd (by omega) (by omega), rows_gd s l ht]
      have hon : ((ply s l (t + 1)).on : Int) = ((trnK s.1.length l (t : Int) ((ply s l t).on, (ply s l t).cl) l.length).1 : Int) := congrArg _ h3
      have hcl : gd (ply s l (t + 1)).cl (s.1.length : Int) = gd (trnK s.1.length l (t : Int) ((ply s l t).on, (ply s l t).cl) l.length).2 (s.1.length : Int) := h4
      have hset : tickSet s l (t : Int) (ply s l t) = if gd (trnK s.1.length l (t : Int) ((ply s l t).on, (ply s l t).cl) l.length).2 (s.1.length : Int) = true then (trnK s.1.length l (t : Int) ((ply s l t).on, (ply s l t).cl) l.length).1 else 0 := h2
      simp only [L8_18, B8_18]
      rw [dec_t (by omega), cond_true, e21, derefK_some]
      simp only [h1, h5, hon, hcl]
      rw [wI (x := (t : Int) + 1) (by omega) (by omega), show (t : Int) + 1 = ((t + 1 : Nat) : Int) by omega, hset]
      cases gd (trnK s.1.length l (t : Int) ((ply s l t).on, (ply s l t).cl) l.length).2 (s.1.length : Int) with
      | true =>
        simp only [if_true, bne_self_eq_false, cond_true, cond_false, Bool.not_true]
      | false =>
        simp only [Bool.false_eq_true, if_false, cond_false, Bool.not_false, cond_true]
        rfl)
  have h0 : gd (ply s l 0).cl (s.1.length : Int) = true := by
    show gd (List.replicate (s.1.length + 1) true) (s.1.length : Int) = true
    rw [gd_replicate (by omega) (by omega)]
  rw [h0] at e
  have e' : L8_18 fuel (((T : Int), l, 0, true, 0, ()), ((ply s l T).trips, (ply s l T).rows, ()), ()) = _ := e
  rw [e', derefK_some, sumK_inr, (hall T).tr]
  exact works_k
end Go.Proofs.Try.V
