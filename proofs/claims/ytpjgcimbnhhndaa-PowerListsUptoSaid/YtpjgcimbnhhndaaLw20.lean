/- Plain laws of layer 5, twentieth part: Amps by the document; the law of Amps, Fits and Margin. No condition beyond those typed in each theorem. -/
import Derived.Test.YtpjgcimbnhhndaaLw19
namespace Go.Proofs.Try.V
open Go.Vi
set_option maxRecDepth 100000

theorem g72_eq (s : Sup) {b : Int} (h0 : -1 ≤ b) (h1 : b < s.1.length) : g72 (s, b, ()) = some ((((if b < 0 then s.1.length else b.toNat : Nat) : Int), ()), ()) := by
  show F72 fuel s b = _
  unfold F72
  by_cases h : b < 0
  · rw [dec_t h, if_pos h]; rfl
  · rw [dec_f h, if_neg h, show ((b.toNat : Nat) : Int) = b by omega]; rfl
/-- The first phases of a row. -/
def part3 (s : Sup) (S : Nat) (b : Int) : Nat → List Int
  | 0 => [0, 0, 0]
  | 1 => [cur s S b 0, 0, 0]
  | 2 => [cur s S b 0, cur s S b 1, 0]
  | _ => row3 s S b s.2.1.length
theorem part3_len (s : Sup) (S : Nat) (b : Int) : ∀ j, (part3 s S b j).length = 3
  | 0 => rfl
  | 1 => rfl
  | 2 => rfl
  | _ + 3 => rfl
theorem part3_step (s : Sup) (S : Nat) (b : Int) {j : Nat} (h : j < 3) : (part3 s S b j).set j (cur s S b (j : Int)) = part3 s S b (j + 1) := by
  obtain rfl | rfl | rfl : j = 0 ∨ j = 1 ∨ j = 2 := by omega
  all_goals rfl
theorem L41_9_eq' {s : Sup} (hs : okS s = true) {S : Nat} (hS : S < 4611686018427387904) {b : Int} (h0 : -1 ≤ b) (h1 : b < s.1.length) {out : List (List Int)} (ho : out.length = s.1.length + 1) {k : Nat} (hk : k = if b < 0 then s.1.length else b.toNat) (hk0 : gd out (k : Int) = part3 s S b 0) {N : Nat} (hN : 2000 ≤ N) :
    ∃ out', L41_9 N (((S : Int), b, 0, ()), (s, out, ()), ()) = some (((S : Int), b, ()), (s, out', ()), ()) ∧ out'.length = s.1.length + 1 ∧ (∀ j : Nat, j ≠ k → gd out' (j : Int) = gd out (j : Int)) ∧ gd out' (k : Int) = row3 s S b s.2.1.length := by
  have hl := okS_le hs
  have hkl : k ≤ s.1.length := by rw [hk]; split <;> omega
  obtain ⟨r, e, o', ⟨p1, p2, p3⟩, rfl⟩ := loop0 (L := L41_9) (fun (ph : Nat) (o : List (List Int)) => (((S : Int), b, (ph : Int), ()), (s, o, ()), ())) (fun ph o => o.length = s.1.length + 1 ∧ (∀ j : Nat, j ≠ k → gd o (j : Int) = gd out (j : Int)) ∧ gd o (k : Int) = part3 s S b ph)
    (fun r => ∃ o', (o'.length = s.1.length + 1 ∧ (∀ j : Nat, j ≠ k → gd o' (j : Int) = gd out (j : Int)) ∧ gd o' (k : Int) = row3 s S b s.2.1.length) ∧ r = (((S : Int), b, ()), (s, o', ()), ())) 0 3 (N := N) (s := out) ⟨ho, fun _ _ => rfl, hk0⟩ (by omega)
    (fun N o hP => ⟨_, by
      simp only [L41_9, B41_9]
      rw [dec_f (by omega)]
      rfl, o, hP, rfl⟩)
    (fun N ph o _ hph hP => by
      left
      obtain ⟨q1, q2, q3⟩ := hP
      have e72 := g72_eq s h0 h1
      rw [← hk] at e72
      have e60 := g60_eq hs hS (b := b) (ph : Int)
      have a1 : ∀ {R : Type} (X : Option R), inR (k : Int) o.length X = X := fun X => inR_in (by omega) (by omega) X
      have a2 : ∀ {R : Type} (X : Option R), inR (ph : Int) 3 X = X := fun X => inR_in (by omega) (by omega) X
      have a3 : ∀ {R : Type} (F : List Int → Option R), getI o (k : Int) F = F (part3 s S b ph) := fun F => by rw [getI_gd (by omega) (by omega), q3]
      have a4 : ∀ {R : Type} (F : Int → Option R), getI (part3 s S b ph) (ph : Int) F = F (gd (part3 s S b ph) (ph : Int)) := fun F => getI_gd (by omega) (by rw [part3_len]; omega) F
      refine ⟨o.set k ((part3 s S b ph).set ph (cur s S b (ph : Int))), ⟨by simp [q1], fun j hj => ?_, ?_⟩, ?_⟩
      · rw [gd_set_nat (by omega), if_neg hj, q2 j hj]
      · rw [gd_set_nat (by omega), if_pos rfl, part3_step s S b hph]
      · simp only [L41_9, B41_9]
        rw [dec_t (by omega), cond_true]
        simp only [enumK_eq, e72, e60, a1, a2, a3, a4, derefK_some, agreeK_two, agreeK_one, Int.toNat_natCast]
        rw [wI (x := (ph : Int) + 1) (by omega) (by omega), show (ph : Int) + 1 = ((ph + 1 : Nat) : Int) by omega])
  exact ⟨o', e, p1, p2, p3⟩
theorem g41_bad {s : Sup} {set : Int} (h : okC s set ≠ 0) : g41 (s, set, ()) = some (([], okC s set, ()), ()) := by
  show F41 fuel s set = _
  unfold F41
  rw [g56_eq, derefK_some]
  exact okC_2 h _ _
theorem g41_ok {s : Sup} (hs : okS s = true) {S : Nat} (hS : S < 2 ^ s.2.1.length) : g41 (s, (S : Int), ()) = some ((curs s S s.2.1.length, 0, ()), ()) := by
  show F41 fuel s (S : Int) = _
  unfold F41
  have hl := okS_le hs
  have hp := pow16 hl.2
  have hf := fuel_ge
  rw [g56_eq, derefK_some]
  refine (okC_1 (okC_in hs hS) _ _).trans ?_
  rw [wI (by omega) (by omega), leK_in (by omega), leK_in (by omega), lenK_in (by omega) (by omega)]
  obtain ⟨o0, ho0⟩ : ∃ o, List.replicate ((s.1.length : Int) + 1).toNat (List.replicate 3 (0 : Int)) = o := ⟨_, rfl⟩
  have hl0 : o0.length = s.1.length + 1 := by rw [← ho0, List.length_replicate]; omega
  have hg0 : ∀ k : Nat, k ≤ s.1.length → gd o0 (k : Int) = [0, 0, 0] := fun k hk => by
    rw [← ho0, gd_replicate (by omega) (by omega)]
    rfl
  rw [ho0]
  have hslot : ∀ i : Nat, i < s.1.length + 1 → (if (i : Int) - 1 < 0 then s.1.length else ((i : Int) - 1).toNat) = if i = 0 then s.1.length else i - 1 := fun i _ => by
    by_cases h : i = 0
    · rw [if_pos h, if_pos (by omega)]
    · rw [if_neg h, if_neg (by omega)]; omega
  obtain ⟨r, e, o', hP, rfl⟩ := loop0 (L := L41_6) (fun (i : Nat) (o : List (List Int)) => (((S : Int), (i : Int) - 1, ()), (s, o, ()), ())) (fun i o => o.length = s.1.length + 1 ∧ ∀ k : Nat, k ≤ s.1.length → gd o (k : Int) = if (if k = s.1.length then 0 else k + 1) < i then row3 s S (bO s.1.length k) s.2.1.length else [0, 0, 0])
    (fun r => ∃ o', (o'.length = s.1.length + 1 ∧ ∀ k : Nat, k ≤ s.1.length → gd o' (k : Int) = if (if k = s.1.length then 0 else k + 1) < s.1.length + 1 then row3 s S (bO s.1.length k) s.2.1.length else [0, 0, 0]) ∧ r = ((), (o', ()), ())) 2000 (s.1.length + 1) (N := fuel) (s := o0)
    ⟨hl0, fun k hk => by rw [if_neg (by omega)]; exact hg0 k hk⟩ (by omega)
    (fun N o hP => ⟨_, by
      simp only [L41_6, B41_6]
      rw [dec_f (by omega)]
      rfl, o, hP, rfl⟩)
    (fun N i o hN hi hP => by
      left
      obtain ⟨q1, q2⟩ := hP
      obtain ⟨k, hk⟩ : ∃ k, k = if (i : Int) - 1 < 0 then s.1.length else ((i : Int) - 1).toNat := ⟨_, rfl⟩
      have hk' := hk
      rw [hslot i hi] at hk'
      have hkl : k ≤ s.1.length := by rw [hk']; split <;> omega
      have hki : (if k = s.1.length then 0 else k + 1) = i := by
        by_cases h : i = 0
        · rw [if_pos h] at hk'
          rw [if_pos hk', h]
        · rw [if_neg h] at hk'
          rw [if_neg (by omega)]; omega
      have hbO : bO s.1.length k = (i : Int) - 1 := by
        unfold bO
        by_cases h : i = 0
        · rw [if_pos h] at hk'
          rw [if_pos hk']; omega
        · rw [if_neg h] at hk'
          rw [if_neg (by omega)]; omega
      obtain ⟨o2, e1, e2, e3, e4⟩ := L41_9_eq' hs (S := S) (by omega) (b := (i : Int) - 1) (by omega) (by omega) q1 hk (by rw [q2 k hkl, hki, if_neg (by omega)]; rfl) hN
      refine ⟨o2, ⟨e2, fun j hj => ?_⟩, ?_⟩
      · by_cases hjk : j = k
        · rw [hjk, e4, hki, if_pos (by omega), hbO]
        · rw [e3 j hjk, q2 j hj]
          have hne : (if j = s.1.length then 0 else j + 1) ≠ i := fun h => by
            apply hjk
            by_cases h1 : j = s.1.length <;> by_cases h2 : k = s.1.length <;> simp only [h1, h2, if_true, if_false] at h hki <;> omega
          by_cases h : (if j = s.1.length then 0 else j + 1) < i
          · rw [if_pos h, if_pos (by omega)]
          · rw [if_neg h, if_neg (by omega)]
      · simp only [L41_6, B41_6]
        rw [dec_t (by omega), cond_true, e1, derefK_some]
        simp only []
        rw [wI (by omega) (by omega), show (i : Int) - 1 + 1 = ((i + 1 : Nat) : Int) - 1 by omega])
  have e' : L41_6 fuel (((S : Int), -1, ()), (s, o0, ()), ()) = _ := e
  rw [e', derefK_some]
  have : o' = curs s S s.2.1.length := by
    refine ext_gd (by rw [hP.1, curs_len]) fun k hk => ?_
    rw [hP.1] at hk
    rw [hP.2 k (by omega), curs_gd s S _ (by omega), if_pos]
    split <;> omega
  rw [this]
theorem g42_eq (s : Sup) (set : Int) : g42 (s, set, ()) = g34 (s, set, ()) := by
  by_cases hc : okC s set = 0
  · obtain ⟨hs, S, rfl, hS⟩ := okC_0 hc
    have hp := pow16 (okS_le hs).2
    rw [g34_ok hs hS]
    show F42 fuel s (S : Int) = _
    unfold F42
    rw [g56_eq, derefK_some]
    refine (okC_1 hc _ _).trans ?_
    rw [g57_eq hs (by omega)]
    show some (((foR s S).1, !(foR s S).2.1, 0, ()), ()) = _
    rw [foR_1]
    cases fo s S <;> rfl
  · rw [g34_bad hc]
    show F42 fuel s set = _
    unfold F42
    rw [g56_eq, derefK_some]
    exact okC_2 hc _ _
theorem amps_tail (s : Sup) (set b ph : Int) : (derefK (g34 (s, set, ())) fun y8 => derefK (g42 (s, set, ())) fun y9 => bif y8.1.1 != y9.1.1 then some ((false, ()), ()) else bif !(y8.1.2.1 == y9.1.2.1) then some ((false, ()), ()) else bif y8.1.2.2.1 != y9.1.2.2.1 then some ((false, ()), ()) else
    derefK (g37 (s, set, b, ph, ())) fun y10 => derefK (g43 (s, set, b, ph, ())) fun y11 => bif y10.1.1 == y11.1.1 then bif y10.1.2.1 == y11.1.2.1 then derefK (g18 ()) fun y12 => some ((y12.1.1, ()), ()) else some ((false, ()), ()) else some ((false, ()), ())) = some ((true, ()), ()) := by
  rw [g42_eq]
  obtain ⟨y, hy⟩ : ∃ y, g34 (s, set, ()) = some y := by
    by_cases hc : okC s set = 0
    · obtain ⟨hs, S, rfl, hS⟩ := okC_0 hc
      exact ⟨_, g34_ok hs hS⟩
    · exact ⟨_, g34_bad hc⟩
  rw [hy, derefK_some, derefK_some, bne_self_eq_false, bne_self_eq_false, beq_self_eq_true]
  have hgo : ∀ x e : Int, g37 (s, set, b, ph, ()) = some ((x, e, ()), ()) → g43 (s, set, b, ph, ()) = some ((x, e, ()), ()) → (derefK (g37 (s, set, b, ph, ())) fun y10 => derefK (g43 (s, set, b, ph, ())) fun y11 => bif y10.1.1 == y11.1.1 then bif y10.1.2.1 == y11.1.2.1 then derefK (g18 ()) fun y12 => some ((y12.1.1, ()), ()) else some ((false, ()), ()) else some ((false, ()), ())) = some ((true, ()), ()) := fun x e h1 h2 => by
    rw [h1, h2, derefK_some, derefK_some, beq_self_eq_true, beq_self_eq_true]
    exact works_k
  show (derefK (g37 (s, set, b, ph, ())) fun y10 => derefK (g43 (s, set, b, ph, ())) fun y11 => _) = _
  rcases g37_eq s set b ph with ⟨h, e⟩ | ⟨S, rfl, hc, _, _, _, _, e⟩
  · rcases g43_eq s set b ph with ⟨_, e2⟩ | ⟨_, _, h2, _⟩
    · exact hgo _ _ e e2
    · exact absurd h2 h
  · rcases g43_eq s (S : Int) b ph with ⟨h2, _⟩ | ⟨S', h2, _, e2⟩
    · exact absurd hc h2
    · obtain rfl : S = S' := by omega
      exact hgo _ _ e e2
theorem amps_law (s : Sup) (set : Int) (p : Int × Int) : g13 (s, set, p, ()) = some ((true, ()), ()) := by
  show F13 fuel s set p = _
  unfold F13
  have hf := fuel_ge
  have hgo : ∀ (o : List (List Int)) (e : Int), o.length ≤ 1000 → g36 (s, set, ()) = some ((o, e, ()), ()) → g41 (s, set, ()) = some ((o, e, ()), ()) → F13 fuel s set p = some ((true, ()), ()) := fun o e ho h1 h2 => by
    unfold F13
    rw [h1, h2, derefK_some, derefK_some, bne_self_eq_false, bne_self_eq_false, cond_false, cond_false]
    have hL := loopF (L := L13_6) (fun (i : Nat) => ((set, (i : Int), ()), (s, p, o, o, ()), ())) (.inr ((set, ()), (s, p, ()), ())) 0 o.length (N := fuel) (by omega)
      (fun N => by
        simp only [L13_6, B13_6]
        rw [dec_f (by omega)]
        rfl)
      (fun N i _ hi => by
        have he : eqL (gd o (i : Int)) (gd o (i : Int)) = true := by unfold eqL; simp
        simp only [L13_6, B13_6]
        rw [dec_t (by omega), cond_true, inR_in (by omega) (by omega), getI_gd (by omega) (by omega), inR_in (by omega) (by omega), getI_gd (by omega) (by omega), he, wI (by omega) (by omega)]
        rfl)
    have hL' : L13_6 fuel ((set, 0, ()), (s, p, o, o, ()), ()) = _ := hL
    show derefK (L13_6 fuel ((set, 0, ()), (s, p, o, o, ()), ())) _ = _
    rw [hL', derefK_some, sumK_inr]
    exact amps_tail s set p.1 p.2
  by_cases hc : okC s set = 0
  · obtain ⟨hs, S, rfl, hS⟩ := okC_0 hc
    exact hgo _ _ (by rw [curs_len]; have := okS_le hs; omega) (g36_ok hs hS) (g41_ok hs hS)
  · exact hgo _ _ (by simp) (g36_bad hc) (g41_bad hc)
end Go.Proofs.Try.V
