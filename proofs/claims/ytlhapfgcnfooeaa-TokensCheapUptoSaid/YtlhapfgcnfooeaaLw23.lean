/- Plain laws of layer 1: TokensCheap. No condition beyond those typed in each theorem. -/
import Derived.Test.YtlhapfgcnfooeaaLw22
namespace Go.Proofs.Try.V
open Go.Vi
set_option maxRecDepth 100000

theorem sum_two (a b : Int) : ([a, b] : List Int).sum = a + b := by
  rw [List.sum_cons, List.sum_cons, List.sum_nil]
  omega
/-- Both together. -/
theorem cheap2 (f : Fair) (hs : Sized f) (n m : Int) (hA : (buyOf f n).2.2 = 0) (hB : (buyOf f m).2.2 = 0) :
    (derefK (g14 (f, IntKind.wrap .i64 (n + m), ())) fun y7 => cond (y7.1.2.2.1 != 0) (derefK (g17 ()) fun y8 => some ((y8.1.1, ()), ())) (derefK (g33 (f, [n, m], ())) fun y9 => cond (y9.1.2.2.1 == 0) (cond (y9.1.1 == y7.1.2.1) (cond (decide (y7.1.2.1 ≤ (IntKind.wrap .i64 ((buyOf f n).2.1 + (buyOf f m).2.1)))) (cond (y9.1.2.1 == (IntKind.wrap .i64 ((IntKind.wrap .i64 ((buyOf f n).2.1 + (buyOf f m).2.1)) - y7.1.2.1))) (derefK (g17 ()) fun y10 => some ((y10.1.1, ()), ())) (some ((false, ()), ()))) (some ((false, ()), ()))) (some ((false, ()), ()))) (some ((false, ()), ())))) = some ((true, ()), ()) := by
  obtain ⟨a1, _⟩ := g14_of f hs n
  obtain ⟨b1, _⟩ := g14_of f hs m
  have pA := a1.price
  have pB := b1.price
  obtain ⟨hv, n0, n1, _, tA, oA, bA⟩ := a1.ok hA
  obtain ⟨_, m0, m1, _, tB, oB, bB⟩ := b1.ok hB
  rw [wI (by omega) (by omega)]
  obtain ⟨c1, c2⟩ := g14_of f hs (n + m)
  have pC := c1.price
  rw [c2, derefK_some]
  simp only
  by_cases hC : (buyOf f (n + m)).2.2 = 0
  case neg =>
    rw [bne_iff_ne.2 hC, cond_true]
    exact works_k
  rw [hC, bne_self_eq_false, cond_false, g33_eq f hs [n, m] (by simp), derefK_some]
  obtain ⟨_, s0, s1, _, tC, oC, bC⟩ := c1.ok hC
  have hsh : shareR f [n, m] = ((buyOf f (n + m)).2.1, (buyOf f n).2.1 + (buyOf f m).2.1 - (buyOf f (n + m)).2.1, 0, ()) := by
    unfold shareR
    have e1 : ([n, m] : List Int).all (rng · 0 1000) = true := by
      rw [List.all_cons, List.all_cons, List.all_nil, rng_iff.2 ⟨n0, n1⟩, rng_iff.2 ⟨m0, m1⟩]
      rfl
    have e2 : rng ((([n, m] : List Int).length : Nat) : Int) 1 20 = true := (by decide : rng ((2 : Nat) : Int) 1 20 = true)
    rw [if_neg (by rw [hv]; decide), e1, e2, sum_two, dec_t s1, if_neg (by decide), if_neg (by rw [hC]; simp)]
    show ((buyOf f (n + m)).2.1, ([(buyOf f n).2.1, (buyOf f m).2.1] : List Int).sum - (buyOf f (n + m)).2.1, (0 : Int), ()) = _
    rw [sum_two]
  have hle : (buyOf f (n + m)).2.1 ≤ (buyOf f n).2.1 + (buyOf f m).2.1 := by
    have h := oA.2.2.1.add oB.2.2.1
    exact (oC.every (Ok.of hv).fine (by have := oA.1; have := oB.1; omega) h).1
  rw [hsh]
  simp only
  rw [beq_self_eq_true, cond_true, beq_self_eq_true, cond_true, wI (x := (buyOf f n).2.1 + (buyOf f m).2.1) (by omega) (by omega), dec_t hle, cond_true, wI (by omega) (by omega), beq_self_eq_true, cond_true]
  exact works_k
/-- The price of more. -/
theorem cheap1 (f : Fair) (hs : Sized f) (n m : Int) (hA : (buyOf f n).2.2 = 0) {R2 : ((List Int × Int × Int × Unit) × Unit) → Option ((Bool × Unit) × Unit)}
    (h2 : (buyOf f m).2.2 = 0 → R2 (((buyOf f m).1, (buyOf f m).2.1, (buyOf f m).2.2, ()), ()) = some ((true, ()), ())) :
    (derefK (g14 (f, m, ())) fun y5 => cond (y5.1.2.2.1 != 0) (derefK (g17 ()) fun y6 => some ((y6.1.1, ()), ())) (cond (decide (m ≥ n)) (cond (decide (y5.1.2.1 < (buyOf f n).2.1)) (some ((false, ()), ())) (cond (decide (m ≤ n)) (cond (decide (y5.1.2.1 > (buyOf f n).2.1)) (some ((false, ()), ())) (R2 y5)) (R2 y5))) (cond (decide (m ≤ n)) (cond (decide (y5.1.2.1 > (buyOf f n).2.1)) (some ((false, ()), ())) (R2 y5)) (R2 y5)))) = some ((true, ()), ()) := by
  obtain ⟨a1, _⟩ := g14_of f hs n
  obtain ⟨b1, b2⟩ := g14_of f hs m
  obtain ⟨hv, n0, n1, _, tA, oA, bA⟩ := a1.ok hA
  rw [b2, derefK_some]
  simp only
  by_cases hB : (buyOf f m).2.2 = 0
  case neg =>
    rw [bne_iff_ne.2 hB, cond_true]
    exact works_k
  have h2 := h2 hB
  obtain ⟨_, m0, m1, _, tB, oB, bB⟩ := b1.ok hB
  have u1 : m ≥ n → (buyOf f n).2.1 ≤ (buyOf f m).2.1 := fun h => (oA.every (Ok.of hv).fine (by have := oB.1; omega) oB.2.2.1).1
  have u2 : m ≤ n → (buyOf f m).2.1 ≤ (buyOf f n).2.1 := fun h => (oB.every (Ok.of hv).fine (by have := oA.1; omega) oA.2.2.1).1
  rw [show ((buyOf f m).2.2 != 0) = false by rw [hB, bne_self_eq_false], cond_false, h2]
  by_cases h1 : m ≥ n
  · rw [dec_t h1, cond_true, dec_f (by have := u1 h1; omega), cond_false]
    by_cases h3 : m ≤ n
    · rw [dec_t h3, cond_true, dec_f (by have := u2 h3; omega), cond_false]
    · rw [dec_f h3, cond_false]
  · rw [dec_f h1, cond_false]
    by_cases h3 : m ≤ n
    · rw [dec_t h3, cond_true, dec_f (by have := u2 h3; omega), cond_false]
    · rw [dec_f h3, cond_false]

/-- TokensCheap. -/
theorem law10 (f : Fair) (hs : Sized f) (p : Int × Int × List Int) (hr : p.2.2.length ≤ 1048576) : g10 (f, p, ()) = some ((true, ()), ()) := by
  have e0 : g10 (f, p, ()) = F10 fuel f p := rfl
  rw [e0]
  obtain ⟨n, m, r⟩ := p
  unfold F10
  obtain ⟨a1, a2⟩ := g14_of f hs n
  simp only
  rw [a2, derefK_some]
  simp only
  by_cases hA : (buyOf f n).2.2 = 0
  case neg =>
    rw [bne_iff_ne.2 hA, cond_true]
    exact works_k
  rw [hA, bne_self_eq_false, cond_false]
  obtain ⟨hv, n0, n1, _, hb⟩ := a1.ok hA
  have hf := Ok.of hv
  have hl := a1.len
  have hsm := hb.small hf.fine (by omega)
  obtain ⟨tA, oA, bA⟩ := hb
  have hfit : fitsC f.2.2.2.2.1 (buyOf f n).1 = true := by
    unfold fitsC
    rw [bA.length, beq_self_eq_true, Bool.true_and, List.all_eq_true]
    exact fun k hk => rng_iff.2 (hsm k hk)
  rw [g20_eq hf _ (by omega), if_pos hfit, derefK_some, bA.sums.1, bA.sums.2]
  simp only [Bool.not_true, cond_false]
  rw [dec_f (p := (tA : Int) < n) (by have := oA.1; omega), cond_false, bne_self_eq_false, cond_false, g20_eq hf r hr, derefK_some]
  have h1 := cheap1 f hs n m hA (R2 := fun y5 => derefK (g14 (f, IntKind.wrap .i64 (n + m), ())) fun y7 => cond (y7.1.2.2.1 != 0) (derefK (g17 ()) fun y8 => some ((y8.1.1, ()), ())) (derefK (g33 (f, [n, m], ())) fun y9 => cond (y9.1.2.2.1 == 0) (cond (y9.1.1 == y7.1.2.1) (cond (decide (y7.1.2.1 ≤ (IntKind.wrap .i64 ((buyOf f n).2.1 + y5.1.2.1)))) (cond (y9.1.2.1 == (IntKind.wrap .i64 ((IntKind.wrap .i64 ((buyOf f n).2.1 + y5.1.2.1)) - y7.1.2.1))) (derefK (g17 ()) fun y10 => some ((y10.1.1, ()), ())) (some ((false, ()), ()))) (some ((false, ()), ()))) (some ((false, ()), ()))) (some ((false, ()), ())))) (fun hB => cheap2 f hs n m hA hB)
  by_cases hc : fitsC f.2.2.2.2.1 r = true
  case neg =>
    rw [if_neg hc]
    exact h1
  rw [if_pos hc]
  simp only [cond_true]
  unfold fitsC at hc
  rw [Bool.and_eq_true, beq_iff_eq, List.all_eq_true] at hc
  have hp := pays_counts (l := f.2.2.2.2.1) (r := r) (by omega) fun k hk => (rng_iff.1 (hc.2 k hk)).1
  by_cases hge : (tks f.2.2.2.2.1 r).sum ≥ n
  · have hev := oA.every hf.fine (t' := (tks f.2.2.2.2.1 r).sum) (by omega) hp
    rw [dec_t hge, cond_true, dec_f (by omega), cond_false]
    by_cases heq : (cts f.2.2.2.2.1 r).sum = (buyOf f n).2.1
    · rw [heq, beq_self_eq_true, cond_true, dec_f (by have := hev.2 heq; omega), cond_false]
      exact h1
    · rw [beq_false_of_ne heq, cond_false]
      exact h1
  · rw [dec_f hge, cond_false]
    exact h1
end Go.Proofs.Try.V
