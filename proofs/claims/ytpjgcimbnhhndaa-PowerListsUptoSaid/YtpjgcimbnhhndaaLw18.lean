/- Plain laws of layer 5, eighteenth part: the law of the sums. No condition beyond those typed in each theorem. -/
import Derived.Test.YtpjgcimbnhhndaaLw17
namespace Go.Proofs.Try.V
open Go.Vi
set_option maxRecDepth 100000

theorem and_any' (x : Int) {S : Nat} (hS : S < 4611686018427387904) : ∃ T : Nat, bitsI .and .i64 (S : Int) x = (T : Int) ∧ T &&& S = T := by
  refine ⟨S &&& (BitVec.ofInt 64 x).toNat, ?_, by rw [Nat.and_comm, ← Nat.and_assoc, Nat.and_self]⟩
  show IntKind.wrap .i64 ((BitVec.ofInt 64 (S : Int) &&& BitVec.ofInt 64 x).toNat : Int) = _
  rw [BitVec.toNat_and, ofN S hS]
  have := Nat.and_le_left (n := S) (m := (BitVec.ofInt 64 x).toNat)
  exact wI (by omega) (by omega)
theorem sub_of_and {T S : Nat} (h : T &&& S = T) : Sub T S := fun i hi => by
  rw [← h, Nat.testBit_and, Bool.and_eq_true] at hi
  exact hi.2
theorem rootS_bd {s : Sup} (hs : okS s = true) (S : Nat) (ph : Int) : ∀ k, k ≤ s.1.length → 0 ≤ rootS s.1 (fun b => cur s S (b : Int) ph) k ∧ rootS s.1 (fun b => cur s S (b : Int) ph) k ≤ 16000 * k
  | 0, _ => ⟨Int.le_refl _, by simp [rootS]⟩
  | k + 1, hk => by
    have ih := rootS_bd hs S ph k (by omega)
    have := cur_bd hs S (k : Int) ph
    unfold rootS
    split <;> omega
theorem L9_13_eq' {s : Sup} (hs : okS s = true) {S : Nat} (part : Int) {ph : Nat} (hph : ph < 3) {N : Nat} (hN : 2000 ≤ N) :
    L9_13 N (((S : Int), part, (ph : Int), 0, 0, ()), (s, curs s S s.2.1.length, ()), ()) = some (.inr (((S : Int), part, (ph : Int), cur s S (-1) (ph : Int), ()), (s, curs s S s.2.1.length, ()), ())) := by
  have hl := okS_le hs
  have hcl := curs_len s S s.2.1.length
  have hroots : rootS s.1 (fun b => cur s S (b : Int) (ph : Int)) s.1.length = cur s S (-1) (ph : Int) := cur_roots hs S (ph : Int) s.2.1.length (Nat.le_refl _)
  have hrow : ∀ b : Int, 0 ≤ b → b < s.1.length → gd (gd (curs s S s.2.1.length) b) (ph : Int) = cur s S b (ph : Int) := fun b h0 h1 => by
    have := curs_gd s S s.2.1.length (k := b.toNat) (by omega)
    rw [show ((b.toNat : Nat) : Int) = b by omega] at this
    rw [this, row3_gd s S _ _ ⟨by omega, by omega⟩]
    unfold bO
    rw [if_neg (by omega), show ((b.toNat : Nat) : Int) = b by omega]
    rfl
  have hlen3 : ∀ b : Int, 0 ≤ b → b < s.1.length → (gd (curs s S s.2.1.length) b).length = 3 := fun b h0 h1 => by
    have := curs_gd s S s.2.1.length (k := b.toNat) (by omega)
    rw [show ((b.toNat : Nat) : Int) = b by omega] at this
    rw [this]
    rfl
  exact loopF (L := L9_13) (fun (i : Nat) => (((S : Int), part, (ph : Int), rootS s.1 (fun b => cur s S (b : Int) (ph : Int)) i, (i : Int), ()), (s, curs s S s.2.1.length, ()), ())) (.inr (((S : Int), part, (ph : Int), cur s S (-1) (ph : Int), ()), (s, curs s S s.2.1.length, ()), ())) 0 s.1.length (N := N) (by omega)
    (fun N => by
      simp only [L9_13, B9_13]
      rw [dec_f (by omega), hroots]
      rfl)
    (fun N i _ hi => by
      have hb := okS_bd hs (b := (i : Int)) (by omega) (by omega)
      have hr := rootS_bd hs S (ph : Int) i (by omega)
      have hc := cur_bd hs S (i : Int) (ph : Int)
      simp only [L9_13, B9_13]
      rw [dec_t (by omega), cond_true, getI_gd (by omega) (by omega)]
      simp only [inR_in (i := (i : Int)) (n := (curs s S s.2.1.length).length) (by omega) (by omega), inR_in (i := (ph : Int)) (n := 3) (by omega) (by omega), getI_gd (l := curs s S s.2.1.length) (i := (i : Int)) (by omega) (by omega)]
      rw [getI_gd (l := gd (curs s S s.2.1.length) (i : Int)) (by omega) (by rw [hlen3 _ (by omega) (by omega)]; omega), hrow _ (by omega) (by omega), wI (x := (i : Int) + 1) (by omega) (by omega), wI (x := rootS _ _ i + _) (by omega) (by omega), show ((i : Int) + 1) = ((i + 1 : Nat) : Int) by omega]
      conv => rhs; unfold rootS
      by_cases h : (gd s.1 (i : Int)).1 < 0
      · rw [dec_t h, cond_true, if_pos h]
      · rw [dec_f h, cond_false, if_neg h, Int.add_zero, inR_in (by omega) (by omega), getI_gd (l := curs s S s.2.1.length) (by omega) (by omega), getI_gd (l := gd (curs s S s.2.1.length) (gd s.1 (i : Int)).1) (by omega) (by rw [hlen3 _ (by omega) (by omega)]; omega), hrow _ (by omega) (by omega)]
        rw [getI_gd (l := gd (curs s S s.2.1.length) (i : Int)) (by omega) (by rw [hlen3 _ (by omega) (by omega)]; omega), hrow _ (by omega) (by omega)]
        have := cur_up hs S (b := (i : Int)) (by omega) (by omega) (by omega) (ph : Int) s.2.1.length (Nat.le_refl _)
        rw [dec_f (by unfold cur; omega)]
        rfl)
theorem sums_law (s : Sup) (set part : Int) : g9 (s, set, part, ()) = some ((true, ()), ()) := by
  show F9 fuel s set part = _
  unfold F9
  have hf := fuel_ge
  rw [g28_eq, derefK_some]
  by_cases hs : okS s = true
  case neg =>
    rw [if_neg hs]
    exact works_k
  rw [if_pos hs]
  show derefK (g36 (s, set, ())) _ = _
  have hl := okS_le hs
  have hp := pow16 hl.2
  by_cases hc : okC s set = 0
  case neg =>
    rw [g36_bad hc, derefK_some]
    refine (okC_2 hc _ _).trans ?_
    exact works_k
  obtain ⟨_, S, rfl, hS⟩ := okC_0 hc
  obtain ⟨T, hT, hTS⟩ := and_any' part (S := S) (by omega)
  have hTl := sub_le hTS
  rw [g36_ok hs hS, derefK_some]
  have hcl := curs_len s S s.2.1.length
  have hne : (((curs s S s.2.1.length).length : Int) != IntKind.wrap .i64 ((s.1.length : Int) + 1)) = false := by
    rw [wI (by omega) (by omega), hcl]
    simp
  show (bif (((curs s S s.2.1.length).length : Int) != IntKind.wrap .i64 ((s.1.length : Int) + 1)) then _ else _) = _
  rw [hne, cond_false]
  have e := loopF (L := L9_9) (fun (ph : Nat) => (((S : Int), part, (ph : Int), ()), (s, curs s S s.2.1.length, ()), ())) (.inr (((S : Int), part, ()), (s, ()), ())) 2000 3 (N := fuel) (by omega)
    (fun N => by
      simp only [L9_9, B9_9]
      rw [dec_f (by omega)]
      rfl)
    (fun N ph hN hph => by
      simp only [L9_9, B9_9]
      rw [dec_t (by omega), cond_true, L9_13_eq' hs part hph hN, derefK_some, sumK_inr]
      simp only []
      have hg := curs_gd s S s.2.1.length (Nat.le_refl s.1.length)
      have hbo : bO s.1.length s.1.length = -1 := by unfold bO; rw [if_pos rfl]
      rw [inR_in (by omega) (by omega), inR_in (by omega) (by omega), getI_gd (by omega) (by omega), hg, hbo, getI_gd (by omega) (by show (ph : Int) < 3; omega), row3_gd s S _ _ ⟨by omega, by omega⟩, wI (x := (ph : Int) + 1) (by omega) (by omega)]
      have : (cur s S (-1) (ph : Int) != curK s S (-1) (ph : Int) s.2.1.length) = false := by
        unfold cur
        simp
      rw [this]
      rfl)
  have e' : L9_9 fuel (((S : Int), part, 0, ()), (s, curs s S s.2.1.length, ()), ()) = _ := e
  have e34 := g34_ok hs hS
  have e34T := g34_ok hs (S := T) (by omega)
  rw [e', derefK_some, sumK_inr]
  simp only [e34, hT, e34T, derefK_some, beq_self_eq_true, cond_true]
  cases hfo : fo s S with
  | some z => exact works_k
  | none =>
    have hfT : fo s T = none := fo_none.2 fun i hi => ovr_mono hs (sub_of_and hTS) (fo_none.1 hfo i hi)
    rw [hfT]
    exact works_k
end Go.Proofs.Try.V
