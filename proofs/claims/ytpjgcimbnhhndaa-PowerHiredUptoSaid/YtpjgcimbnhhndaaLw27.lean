/- Plain laws of layer 5, twenty-seventh part: the law that what Hire hires is the cheapest. No condition beyond those typed in each theorem. -/
import Derived.Test.YtpjgcimbnhhndaaLw26
namespace Go.Proofs.Try.V
open Go.Vi
set_option maxRecDepth 100000

/-- What Hire returns, and why. -/
theorem hr_cases (pw pr : List Int) (need : Int) : (∃ e : Int, e ≠ 0 ∧ e ≠ 3 ∧ hrR pw pr need = ([], 0, e, ())) ∨ (HOK5 pw pr need ∧ hst pw pr need (2 ^ pw.length) = none ∧ hrR pw pr need = ([], 0, 3, ())) ∨
    ∃ w s, HOK5 pw pr need ∧ hst pw pr need (2 ^ pw.length) = some (w, s) ∧ hrR pw pr need = (w, s, 0, ()) := by
  unfold hrR
  by_cases hn : pw.length ≤ 10
  case neg => rw [if_neg hn]; exact .inl ⟨2, by decide, by decide, rfl⟩
  rw [if_pos hn]
  by_cases hb : hrB pw pr need = true
  case neg => rw [if_neg hb]; exact .inl ⟨1, by decide, by decide, rfl⟩
  rw [if_pos hb]
  right
  have hok := hrB_ok hn hb
  cases hs : hst pw pr need (2 ^ pw.length) with
  | none => exact .inl ⟨hok, rfl, rfl⟩
  | some x => exact .inr ⟨x.1, x.2, hok, rfl, rfl⟩
/-- Any choice is dear enough. -/
theorem hr_min {pw pr : List Int} {need : Int} {w : List Int} {s : Int} (hs : hst pw pr need (2 ^ pw.length) = some (w, s)) {l : List Int} (hl : Asc pw.length l) (hn : need ≤ aL pw l) : s < aL pr l ∨ (s = aL pr l ∧ w.length ≤ l.length) := by
  have h := hInv_all pw pr need (2 ^ pw.length)
  rw [hs] at h
  obtain ⟨S, h1, h2⟩ := asc_set hl
  have := h.2 S h1 (by rw [h2]; exact hn)
  rwa [h2] at this
theorem hr_none {pw pr : List Int} {need : Int} (hs : hst pw pr need (2 ^ pw.length) = none) {l : List Int} (hl : Asc pw.length l) : aL pw l < need := by
  have h := hInv_all pw pr need (2 ^ pw.length)
  rw [hs] at h
  obtain ⟨S, h1, h2⟩ := asc_set hl
  have := h S h1
  rwa [h2] at this
theorem hr_some {pw pr : List Int} {need : Int} {w : List Int} {s : Int} (hs : hst pw pr need (2 ^ pw.length) = some (w, s)) : Asc pw.length w ∧ s = aL pr w ∧ need ≤ aL pw w := by
  have h := hInv_all pw pr need (2 ^ pw.length)
  rw [hs] at h
  exact h.1
/-- A greater need is no cheaper. -/
theorem hired_tail {pw pr : List Int} {need mr : Int} (e s : Int) (hR : (e = 3 ∧ hst pw pr need (2 ^ pw.length) = none) ∨ (e = 0 ∧ ∃ w, hst pw pr need (2 ^ pw.length) = some (w, s))) :
    (derefK (g48 (pw, pr, mr, ())) fun y5 => bif y5.1.2.2.1 != 0 then derefK (g18 ()) fun y6 => some ((y6.1.1, ()), ()) else bif decide (mr < need) then derefK (g18 ()) fun y7 => some ((y7.1.1, ()), ()) else bif e == 0 then bif decide (y5.1.2.1 ≥ s) then derefK (g18 ()) fun y8 => some ((y8.1.1, ()), ()) else some ((false, ()), ()) else some ((false, ()), ())) = some ((true, ()), ()) := by
  rw [g48_eq, derefK_some]
  rcases hr_cases pw pr mr with ⟨e2, h1, _, h3⟩ | ⟨_, _, h3⟩ | ⟨w2, s2, _, hs2, h3⟩
  · rw [h3]
    show (bif e2 != 0 then _ else _) = _
    rw [show (e2 != 0) = true from bne_iff_ne.2 h1]
    exact works_k
  · rw [h3]
    exact works_k
  · rw [h3]
    show (bif (0 : Int) != 0 then _ else bif decide (mr < need) then _ else bif e == 0 then bif decide (s2 ≥ s) then _ else _ else _) = _
    rw [bne_self_eq_false, cond_false]
    by_cases hlt : mr < need
    · rw [dec_t hlt]; exact works_k
    rw [dec_f hlt, cond_false]
    obtain ⟨a1, a2, a3⟩ := hr_some hs2
    rcases hR with ⟨_, hs⟩ | ⟨rfl, w, hs⟩
    · have := hr_none hs a1
      omega
    · rw [beq_self_eq_true, cond_true]
      have := hr_min hs a1 (by omega)
      rw [dec_t (by omega)]
      exact works_k
set_option maxHeartbeats 1000000 in
theorem hired_law (pw pr : List Int) (h : Int × (Int × List Int)) (hl : h.2.2.length ≤ 1000000000) : g16 (pw, pr, h, ()) = some ((true, ()), ()) := by
  show F16 fuel pw pr h = _
  unfold F16
  have e1 := g48_eq pw pr h.1
  rcases hr_cases pw pr h.1 with ⟨e, h1, h2, h3⟩ | ⟨hok, hs, h3⟩ | ⟨w, s, hok, hs, h3⟩
  · rw [h3] at e1
    refine (derefK_of e1 _).trans ?_
    show (bif e != 0 then bif e != 3 then _ else _ else _) = _
    rw [show (e != 0) = true from bne_iff_ne.2 h1, show (e != 3) = true from bne_iff_ne.2 h2]
    exact works_k
  · rw [h3] at e1
    refine (derefK_of e1 _).trans ?_
    have htail := hired_tail (mr := h.2.1) (need := h.1) (pw := pw) (pr := pr) 3 0 (.inl ⟨rfl, hs⟩)
    rcases g50_eq hok ([] : List Int) (by simp) with ⟨ha, _⟩ | ⟨_, e50⟩
    · exact absurd ⟨List.Pairwise.nil, fun x h => by cases h⟩ ha
    · show (bif (3 : Int) != 0 then bif (3 : Int) != 3 then _ else derefK (g50 (pw, pr, [], ())) _ else _) = _
      rw [show ((3 : Int) != 0) = true from rfl, cond_true, bne_self_eq_false, cond_false]
      refine (derefK_of e50 _).trans ?_
      show (bif (3 : Int) == 0 then _ else derefK (g50 (pw, pr, h.2.2, ())) _) = _
      rw [show ((3 : Int) == 0) = false from rfl, cond_false]
      rcases g50_eq hok h.2.2 hl with ⟨_, a2, b2, e2⟩ | ⟨hasc, e2⟩
      · refine (derefK_of e2 _).trans ?_
        exact htail
      · refine (derefK_of e2 _).trans ?_
        have hlt := hr_none hs hasc
        show (bif true then bif decide (aL pw h.2.2 ≥ h.1) then _ else _ else _) = _
        rw [cond_true, dec_f (by omega), cond_false]
        exact htail
  · rw [h3] at e1
    refine (derefK_of e1 _).trans ?_
    have htail := hired_tail (mr := h.2.1) (need := h.1) (pw := pw) (pr := pr) 0 s (.inr ⟨rfl, w, hs⟩)
    obtain ⟨a1, a2, a3⟩ := hr_some hs
    have hwl := a1.len
    have hn := hok.n
    rcases g50_eq hok w (by omega) with ⟨ha, _⟩ | ⟨_, e50⟩
    · exact absurd a1 ha
    · show (bif (0 : Int) != 0 then _ else derefK (g50 (pw, pr, w, ())) _) = _
      rw [bne_self_eq_false, cond_false]
      refine (derefK_of e50 _).trans ?_
      show (bif (0 : Int) == 0 then bif !true then _ else bif decide (aL pw w < h.1) then _ else bif aL pr w != s then _ else derefK (g50 (pw, pr, h.2.2, ())) _ else _) = _
      rw [beq_self_eq_true, cond_true, Bool.not_true, cond_false, dec_f (by omega), cond_false, a2, bne_self_eq_false, cond_false]
      rw [a2] at htail
      rcases g50_eq hok h.2.2 hl with ⟨_, a2, b2, e2⟩ | ⟨hasc, e2⟩
      · refine (derefK_of e2 _).trans ?_
        exact htail
      · refine (derefK_of e2 _).trans ?_
        show (bif true then bif decide (aL pw h.2.2 ≥ h.1) then bif (0 : Int) != 0 then _ else bif decide (aL pr h.2.2 < aL pr w) then _ else bif aL pr h.2.2 == aL pr w then bif decide ((h.2.2.length : Int) < (w.length : Int)) then _ else _ else _ else _ else _) = _
        rw [cond_true]
        by_cases hge : aL pw h.2.2 ≥ h.1
        · have hm := hr_min hs hasc hge
          rw [dec_t hge, cond_true, bne_self_eq_false, cond_false, dec_f (by omega), cond_false]
          by_cases heq : aL pr h.2.2 = aL pr w
          · rw [show (aL pr h.2.2 == aL pr w) = true by simp [heq], cond_true, dec_f (by omega), cond_false]
            exact htail
          · rw [show (aL pr h.2.2 == aL pr w) = false from beq_eq_false_iff_ne.2 heq, cond_false]
            exact htail
        · rw [dec_f hge, cond_false]
          exact htail
end Go.Proofs.Try.V
