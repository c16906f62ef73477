/- Plain laws of layer 5, twelfth part: the errors of a play by the document; what a tick does to one board. No condition beyond those typed in each theorem. -/
import Derived.Test.YtpjgcimbnhhndaaLw10
namespace Go.Proofs.Try.V
open Go.Vi
set_option maxRecDepth 100000

theorem okX_c {R : Type} (s : Sup) (ticks : Int) (x : Swi) (bad good : R) :
    (bif x.2.1 == 1 then (bif x.2.1 == 1 then (bif !rng x.2.2 0 ((s.2.1.length : Int) - 1) then bad else bif !rng x.1 0 (ticks - 1) then bad else good) else bif x.2.1 == 3 then (bif !rng x.2.2 0 ((s.1.length : Int) - 1) then bad else bif !rng x.1 0 (ticks - 1) then bad else good) else bif x.2.1 == 4 then (bif x.2.1 == 4 then (bif !(x.2.2 == 0) then bad else bif !rng x.1 0 (ticks - 1) then bad else good) else bad) else bif x.2.1 == 5 then (bif !(x.2.2 == 0) then bad else bif !rng x.1 0 (ticks - 1) then bad else good) else bad)
    else (bif x.2.1 == 2 then (bif !rng x.2.2 0 ((s.2.1.length : Int) - 1) then bad else bif !rng x.1 0 (ticks - 1) then bad else good) else bif x.2.1 == 3 then (bif !rng x.2.2 0 ((s.1.length : Int) - 1) then bad else bif !rng x.1 0 (ticks - 1) then bad else good) else bif x.2.1 == 4 then (bif x.2.1 == 4 then (bif !(x.2.2 == 0) then bad else bif !rng x.1 0 (ticks - 1) then bad else good) else bad) else bif x.2.1 == 5 then (bif !(x.2.2 == 0) then bad else bif !rng x.1 0 (ticks - 1) then bad else good) else bad)) = if okX s ticks x then good else bad := by
  have fin : ∀ p q : Bool, (bif !p then bad else bif !q then bad else good) = if (q && p) = true then good else bad := fun p q => by cases p <;> cases q <;> rfl
  unfold okX
  simp only [fin]
  by_cases h1 : x.2.1 = 1
  · simp [h1]
  · have e1 : (x.2.1 == 1) = false := beq_eq_false_iff_ne.2 h1
    rw [e1]
    by_cases h2 : x.2.1 = 2
    · simp [h2]
    · have e2 : (x.2.1 == 2) = false := beq_eq_false_iff_ne.2 h2
      rw [e2, if_neg (show ¬ (x.2.1 = 1 ∨ x.2.1 = 2) from fun h => h.elim h1 h2)]
      by_cases h3 : x.2.1 = 3
      · simp [h3]
      · have e3 : (x.2.1 == 3) = false := beq_eq_false_iff_ne.2 h3
        rw [e3, if_neg (show ¬ x.2.1 = 3 from h3)]
        by_cases h4 : x.2.1 = 4
        · simp [h4]
        · have e4 : (x.2.1 == 4) = false := beq_eq_false_iff_ne.2 h4
          rw [e4]
          by_cases h5 : x.2.1 = 5
          · simp [h5]
          · have e5 : (x.2.1 == 5) = false := beq_eq_false_iff_ne.2 h5
            rw [e5, if_neg (show ¬ (x.2.1 = 4 ∨ x.2.1 = 5) from fun h => h.elim h4 h5)]
            simp
theorem g22_eq (s : Sup) (ticks : Int) (l : List Swi) : g22 (s, ticks, l, ()) = some ((ckW s ticks l, ()), ()) := by
  show F22 fuel s ticks l = _
  unfold F22 ckW
  rw [g28_eq, derefK_some]
  by_cases hs : okS s = true
  case neg => rw [if_neg hs, if_neg hs]; rfl
  rw [if_pos hs, if_pos hs, g58_eq, derefK_some]
  show (bif !rng ticks 0 500 then _ else _) = _
  have hl := okS_le hs
  by_cases ht : rng ticks 0 500 = true
  case neg =>
    rw [if_neg ht]
    rw [Bool.not_eq_true] at ht
    rw [ht]
    rfl
  have ht' := rng_iff.1 ht
  rw [if_pos ht, ht, Bool.not_true, cond_false]
  by_cases h1 : l.length ≤ 100
  case neg => rw [dec_t (by omega), dec_f h1]; rfl
  rw [dec_f (by omega), cond_false, dec_t h1, Bool.true_and]
  have hf := fuel_ge
  have e := loopNum (L := L22_9) (fun i => ((ticks, l, (i : Int), ()), (s, ()), ())) l.length (fun i => okX s ticks (gd l (i : Int))) (.inl ((51, ()), (), ())) (.inr ((), (), ())) 0 (N := fuel) (by omega)
    (fun N => by simp [L22_9, B22_9])
    (fun N i _ hi => by
      simp only [L22_9, B22_9, g58_eq, derefK_some]
      rw [dec_t (by omega), cond_true, getI_gd (by omega) (by omega), wI (x := (i : Int) + 1) (by omega) (by omega), wI (x := ticks - 1) (by omega) (by omega), wI (x := (s.1.length : Int) - 1) (by omega) (by omega), wI (x := (s.2.1.length : Int) - 1) (by omega) (by omega), okX_c]
      rfl)
  have e' : L22_9 fuel ((ticks, l, 0, ()), (s, ()), ()) = _ := e
  rw [e', derefK_some, all_gd]
  cases l.all (okX s ticks) <;> rfl
theorem g26_eq (s : Sup) {b : Int} (hb : b < s.1.length) : g26 (s, b, ()) = some ((dly s b, ()), ()) := by
  show F26 fuel s b = _
  unfold F26 dly
  by_cases h : b < 0
  · rw [dec_t h, if_pos h]; rfl
  · rw [dec_f h, if_neg h, cond_false, getI_gd (by omega) hb]
/-- Whether a switch closes a board (-1: starts the generator) in a tick. -/
def agn1 (t b : Int) (x : Swi) : Bool := x.1 == t && (if 0 ≤ b then x.2.1 == 3 && x.2.2 == b else x.2.1 == 4)
def agn (l : List Swi) (t b : Int) : Bool := l.any (agn1 t b)
theorem g25_eq {l : List Swi} (hl : l.length ≤ 1000) (t b : Int) : g25 (l, t, b, ()) = some ((agn l t b, ()), ()) := by
  show F25 fuel l t b = _
  unfold F25
  have hf := fuel_ge
  have e := loopNum (L := L25_2) (fun i => ((l, t, b, (i : Int), ()), (), ())) l.length (fun i => !agn1 t b (gd l (i : Int))) (.inl ((true, ()), (), ())) (.inr ((), (), ())) 0 (N := fuel) (by omega)
    (fun N => by simp [L25_2, B25_2])
    (fun N i _ hi => by
      simp only [L25_2, B25_2]
      rw [dec_t (by omega), cond_true]
      simp only [getI_gd (l := l) (i := (i : Int)) (by omega) (by omega)]
      rw [wI (x := (i : Int) + 1) (by omega) (by omega)]
      unfold agn1
      cases (gd l (i : Int)).1 == t with
      | false => rfl
      | true =>
        by_cases hb : 0 ≤ b
        · rw [dec_t (p := b ≥ 0) hb, dec_f (p := b < 0) (by omega), if_pos hb]
          cases (gd l (i : Int)).2.1 == 3 <;> cases (gd l (i : Int)).2.2 == b <;> rfl
        · rw [dec_f (p := b ≥ 0) hb, dec_t (p := b < 0) (by omega), if_neg hb]
          cases (gd l (i : Int)).2.1 == 4 <;> rfl)
  have e' : L25_2 fuel ((l, t, b, 0, ()), (), ()) = _ := e
  rw [e', derefK_some, all_gd l (fun x => !agn1 t b x)]
  have e0 : (l.all fun x => !agn1 t b x) = !l.any (agn1 t b) := by rw [List.all_eq_not_any_not]; simp
  rw [e0]
  unfold agn
  cases l.any (agn1 t b) <;> rfl
end Go.Proofs.Try.V
