/- Plain laws of layer 1: TokensBuys, TokensNoWin. No condition beyond those typed in each theorem. -/
import Derived.Test.YtlhapfgcnfooeaaLw20
namespace Go.Proofs.Try.V
open Go.Vi
set_option maxRecDepth 100000

/-- What is bought. -/
noncomputable def buyOf (f : Fair) (n : Int) : (List Int) × Int × Int := Classical.epsilon (BuyR f n)
theorem BuyR.of {f : Fair} {n : Int} {x : (List Int) × Int × Int} (h : BuyR f n x) : buyOf f n = x := (Classical.epsilon_spec (p := BuyR f n) ⟨x, h⟩).uniq h
theorem g14_of (f : Fair) (hs : Sized f) (n : Int) : BuyR f n (buyOf f n) ∧ g14 (f, n, ()) = some (((buyOf f n).1, (buyOf f n).2.1, (buyOf f n).2.2, ()), ()) := by
  obtain ⟨x, h1, h2⟩ := g14_eq f hs n
  rw [h1.of]
  exact ⟨h1, h2⟩
theorem g15_of (f : Fair) (hs : Sized f) (n : Int) : g15 (f, n, ()) = some (((buyOf f n).1, (buyOf f n).2.1, (buyOf f n).2.2, ()), ()) := by
  obtain ⟨x, h1, h2⟩ := g15_eq f hs n
  rw [h1.of]
  exact h2
/-- What may be said of it. -/
theorem BuyR.ok {f : Fair} {n : Int} {x : (List Int) × Int × Int} (h : BuyR f n x) (h0 : x.2.2 = 0) : fairOK f = true ∧ 0 ≤ n ∧ n ≤ 1000 ∧ ¬ (f.2.2.2.2.1 = [] ∧ 0 < n) ∧ Buys f.2.2.2.2.1 n.toNat x.1 x.2.1 := by
  unfold BuyR at h
  split at h
  · rw [h] at h0; exact absurd h0 (by decide)
  rename_i h1
  split at h
  · rw [h] at h0; exact absurd h0 (by decide)
  rename_i h2
  split at h
  · rw [h] at h0; exact absurd h0 (by decide)
  rename_i h3
  have h2 : rng n 0 1000 = true := by simpa using h2
  rw [rng_iff] at h2
  exact ⟨by simpa using h1, h2.1, h2.2, h3, h.2⟩
theorem BuyR.made {f : Fair} {n : Int} {r : List Int} {p : Int} (h1 : fairOK f = true) (h2 : 0 ≤ n) (h3 : n ≤ 1000) (h : Buys f.2.2.2.2.1 n.toNat r p) : BuyR f n (r, p, 0) := by
  unfold BuyR
  rw [if_neg (by rw [h1]; decide), if_neg (by rw [rng_iff.2 ⟨h2, h3⟩]; decide), if_neg]
  · exact ⟨rfl, h⟩
  · rintro ⟨e1, e2⟩
    rw [e1] at h
    exact buys_noBuy h (noBuy_nil (by omega))
theorem BuyR.len {f : Fair} {n : Int} {x : (List Int) × Int × Int} (h : BuyR f n x) : x.1.length ≤ 6 := by
  unfold BuyR at h
  split at h
  · rw [h]; exact Nat.zero_le _
  rename_i hv
  split at h
  · rw [h]; exact Nat.zero_le _
  split at h
  · rw [h]; exact Nat.zero_le _
  obtain ⟨_, t, _, hb⟩ := h
  rw [hb.length]
  exact (Ok.of (by simpa using hv)).six
theorem BuyR.price {f : Fair} {n : Int} {x : (List Int) × Int × Int} (h : BuyR f n x) : 0 ≤ x.2.1 ∧ x.2.1 ≤ 2000000000 := by
  unfold BuyR at h
  split at h
  · rw [h]; exact ⟨by decide, by decide⟩
  rename_i hv
  split at h
  · rw [h]; exact ⟨by decide, by decide⟩
  rename_i hn
  split at h
  · rw [h]; exact ⟨by decide, by decide⟩
  obtain ⟨_, t, ho, hb⟩ := h
  have hn : rng n 0 1000 = true := by simpa using hn
  rw [rng_iff] at hn
  have := ho.2.2.1.le (Ok.of (by simpa using hv)).fine
  have := ho.2.1
  omega

/-- TokensBuys. -/
theorem law3 (f : Fair) (hs : Sized f) (n : Int) : g3 (f, n, ()) = some ((true, ()), ()) := by
  have e0 : g3 (f, n, ()) = F3 fuel f n := rfl
  rw [e0]
  unfold F3
  obtain ⟨h1, h2⟩ := g14_of f hs n
  have hl := h1.len
  rw [h2, g15_of f hs n, derefK_some, derefK_some]
  simp only [beq_self_eq_true, cond_true]
  rw [g16_eq _ _ (by omega), derefK_some, dec_t rfl]
  exact works_k

/-- TokensNoWin. -/
theorem law4 (f : Fair) (hs : Sized f) (r : List Int) (hr : r.length ≤ 1048576) (n : Int) : g4 (f, r, n, ()) = some ((true, ()), ()) := by
  have e0 : g4 (f, r, n, ()) = F4 fuel f r n := rfl
  rw [e0]
  unfold F4
  rw [g18_eq f hs, g19_eq f hs, derefK_some]
  cases hv : fairOK f with
  | false => exact works_k
  | true =>
  have hf := Ok.of hv
  rw [if_pos rfl]
  simp only
  rw [show ((0 : Int) != 0) = false from rfl, cond_false, derefK_some]
  simp only
  rw [show ((0 : Int) != 0) = false from rfl, cond_false, g20_eq hf r hr, derefK_some]
  obtain ⟨h1, h2⟩ := g14_of f hs n
  have hbuy : (derefK (g14 (f, n, ())) fun y10 => cond (y10.1.2.2.1 != 0) (derefK (g17 ()) fun y11 => some ((y11.1.1, ()), ())) (cond (decide (y10.1.2.1 ≥ (IntKind.wrap .i64 (n * f.2.2.2.2.2.1)))) (derefK (g17 ()) fun y12 => some ((y12.1.1, ()), ())) (some ((false, ()), ())))) = some ((true, ()), ()) := by
    rw [h2, derefK_some]
    simp only
    by_cases h0 : (buyOf f n).2.2 = 0
    · obtain ⟨_, n0, n1, _, t, ho, hb⟩ := h1.ok h0
      rw [h0, bne_self_eq_false, cond_false]
      have hr0 := hf.r0
      have hr1 := hf.r1
      have m0 : 0 ≤ n * f.2.2.2.2.2.1 := Int.mul_nonneg n0 hr0
      have m1 : n * f.2.2.2.2.2.1 ≤ 1000 * 1000 := Int.mul_le_mul n1 hr1 hr0 (by omega)
      have hw := ho.2.2.1.win (r := f.2.2.2.2.2.1) hf.win
      have hle : n * f.2.2.2.2.2.1 ≤ f.2.2.2.2.2.1 * (t : Int) := by
        rw [Int.mul_comm]
        exact Int.mul_le_mul_of_nonneg_left (by have := ho.1; omega) hr0
      rw [wI (by omega) (by omega), dec_t (by omega), cond_true]
      exact works_k
    · rw [bne_iff_ne.2 h0, cond_true]
      exact works_k
  by_cases hfit : fitsC f.2.2.2.2.1 r = true
  · rw [if_pos hfit]
    simp only [cond_true]
    have hfit' := hfit
    unfold fitsC at hfit'
    rw [Bool.and_eq_true, beq_iff_eq, List.all_eq_true] at hfit'
    have hp := pays_counts (l := f.2.2.2.2.1) (r := r) (by omega) fun k hk => (rng_iff.1 (hfit'.2 k hk)).1
    have hw := hp.win (r := f.2.2.2.2.2.1) hf.win
    have hle := hp.le hf.fine
    have hr0 := hf.r0
    have hr1 := hf.r1
    have hlen6 := hf.six
    have hb : (tks f.2.2.2.2.1 r).sum ≤ 6000000 := by
      have h3 := sum_le (l := tks f.2.2.2.2.1 r) (m := 1000000) fun x hx => by
        obtain ⟨i, hi⟩ := List.mem_iff_getElem?.1 hx
        unfold tks at hi
        rw [List.getElem?_zipWith] at hi
        cases hb : f.2.2.2.2.1[i]? with
        | none => rw [hb] at hi; simp at hi
        | some b =>
          cases hk : r[i]? with
          | none => rw [hb, hk] at hi; simp at hi
          | some k =>
            rw [hb, hk] at hi
            have e : k * b.1 = x := by simpa using hi
            have hbb := hf.fine b (List.mem_of_getElem? hb)
            have hkk := rng_iff.1 (hfit'.2 k (List.mem_of_getElem? hk))
            have := Int.mul_le_mul hkk.2 hbb.2.1 (by omega) (by omega)
            omega
      have h4 : (tks f.2.2.2.2.1 r).length ≤ 6 := by unfold tks; rw [List.length_zipWith]; omega
      omega
    have m0 : 0 ≤ (tks f.2.2.2.2.1 r).sum * f.2.2.2.2.2.1 := Int.mul_nonneg hle.1 hr0
    have m1 : (tks f.2.2.2.2.1 r).sum * f.2.2.2.2.2.1 ≤ 6000000 * 1000 := Int.mul_le_mul hb hr1 hr0 (by omega)
    rw [Int.mul_comm] at hw
    rw [wI (by omega) (by omega), dec_f (by omega), cond_false]
    exact hbuy
  · rw [if_neg hfit]
    exact hbuy
end Go.Proofs.Try.V
