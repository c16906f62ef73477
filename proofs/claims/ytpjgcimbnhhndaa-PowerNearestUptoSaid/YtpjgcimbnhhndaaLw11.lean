/- Plain laws of layer 5, eleventh part: Fits; the law that Shed sheds least. No condition beyond those typed in each theorem. -/
import Derived.Test.YtpjgcimbnhhndaaLw10
namespace Go.Proofs.Try.V
open Go.Vi
set_option maxRecDepth 100000

theorem okC_in {s : Sup} {S : Nat} (h : okS s = true) (hS : S < 2 ^ s.2.1.length) : okC s (S : Int) = 0 := by
  unfold okC
  rw [if_pos h, if_pos (rng_iff.2 ⟨by omega, by omega⟩)]
theorem g34_ok {s : Sup} {S : Nat} (h : okS s = true) (hS : S < 2 ^ s.2.1.length) : g34 (s, (S : Int), ()) = some (((foR s S).1, (fo s S).isNone, 0, ()), ()) := by
  show F34 fuel s (S : Int) = _
  unfold F34
  have hp := pow16 (okS_le h).2
  rw [g53_eq, derefK_some, okC_in h hS, g55_eq h (by omega)]
  show some (((foR s S).1, !(foR s S).2.1, 0, ()), ()) = _
  rw [foR_1]
  cases fo s S <;> rfl
theorem g34_bad {s : Sup} {set : Int} (h : okC s set ≠ 0) : g34 (s, set, ()) = some ((0, false, okC s set, ()), ()) := by
  show F34 fuel s set = _
  unfold F34
  have : (okC s set != 0) = true := bne_iff_ne.2 h
  rw [g53_eq, derefK_some]
  show (bif okC s set != 0 then _ else _) = _
  rw [this]
  rfl
theorem and_any (x : Int) {S : Nat} (hS : S < 4611686018427387904) : ∃ T : Nat, bitsI .and .i64 x (S : Int) = (T : Int) ∧ T &&& S = T := by
  refine ⟨(BitVec.ofInt 64 x).toNat &&& S, ?_, by rw [Nat.and_assoc, Nat.and_self]⟩
  show IntKind.wrap .i64 ((BitVec.ofInt 64 x &&& BitVec.ofInt 64 (S : Int)).toNat : Int) = _
  rw [BitVec.toNat_and, ofN S hS]
  have := Nat.and_le_right (n := (BitVec.ofInt 64 x).toNat) (m := S)
  exact wI (by omega) (by omega)
set_option maxHeartbeats 1000000 in
theorem least_law (s : Sup) (set other : Int) : g7 (s, set, other, ()) = some ((true, ()), ()) := by
  show F7 fuel s set other = _
  unfold F7
  obtain ⟨b, hb⟩ := g17_eq set
  rw [hb, derefK_some]
  cases b with
  | true => exact works_k
  | false =>
  rw [cond_false]
  rcases g19_eq s set with ⟨hc, e⟩ | ⟨S, rfl, hc, h, hS, ⟨h12, e⟩ | ⟨h12, m, hm, e⟩⟩
  · rw [e, derefK_some]
    show (bif okC s set != 0 then _ else _) = _
    rw [show (okC s set != 0) = true from bne_iff_ne.2 hc]
    exact works_k
  · rw [e, derefK_some]
    exact works_k
  · have hp := pow16 (okS_le h).2
    have hml := sub_le hm.fe.1
    have hd := sub_dif S m hm.fe.1
    have hdl := dif_le S m
    obtain ⟨T, hT, hTS⟩ := and_any other (S := S) (by omega)
    have hTl := sub_le hTS
    have hdT := sub_dif S T hTS
    have hdTl := dif_le S T
    have w1 : IntKind.wrap .i64 ((S : Int) - (m : Int)) = ((dif S m : Nat) : Int) := by rw [wI (by omega) (by omega)]; omega
    have w2 : IntKind.wrap .i64 ((S : Int) - (T : Int)) = ((dif S T : Nat) : Int) := by rw [wI (by omega) (by omega)]; omega
    have e35 := g35_eq h (S := m) (by omega)
    have e34 := g34_ok h (S := dif S m) (by omega)
    have e35T := g35_eq h (S := T) (by omega)
    have e34T := g34_ok h (S := dif S T) (by omega)
    have hf1 : (fo s (dif S m)).isNone = true := by rw [hm.fe.2]; rfl
    rw [e, derefK_some]
    simp only [w1, e34, e35, derefK_some, hT, w2, e34T, e35T, hf1, and_n (show m < 4611686018427387904 by omega) (show S < 4611686018427387904 by omega), hm.fe.1, bne_self_eq_false, cond_false, Bool.not_true, dec_f (show ¬ (m : Int) < 0 by omega)]
    cases hfT : fo s (dif S T) with
    | some z => exact works_k
    | none =>
      have hle := hm.min T ⟨hTS, hfT⟩
      rw [Option.isNone_none, Bool.not_true, cond_false]
      rcases hle with h1 | ⟨h1, h2⟩
      · rw [dec_t (p := rk s T > rk s m) h1]
        exact works_k
      · have e1 : (rk s T == rk s m) = true := by simp [h1]
        rw [dec_f (p := rk s T > rk s m) (by omega), cond_false, e1, cond_true]
        rcases h2 with h2 | ⟨h2, h3⟩
        · rw [dec_t (p := (ct T : Int) > (ct m : Int)) (by omega)]
          exact works_k
        · have e2 : ((ct T : Int) == (ct m : Int)) = true := by simp [h2]
          rw [dec_f (p := (ct T : Int) > (ct m : Int)) (by omega), cond_false, e2, cond_true, dec_t (p := (T : Int) ≥ (m : Int)) (by omega)]
          exact works_k
end Go.Proofs.Try.V
