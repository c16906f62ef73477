/- Plain laws of layer 1: deals up to a time; TokensPlays. No condition beyond those typed in each theorem. -/
import Derived.Test.YtlhapfgcnfooeaaLw19
namespace Go.Proofs.Try.V
open Go.Vi
set_option maxRecDepth 100000

theorem g75_eq (l : List Deal) (hl : l.length ≤ 1000000) (f : Deal → Option Bool) (q : Deal → Bool) (hf : ∀ x, f x = some (q x)) : g75 (l, f, ()) = some (((match first l.length (fun i => q (gd l (i : Int))) with | some i => (i : Int) | none => -1), ()), ()) := by
  show F75 fuel l f = _
  unfold F75
  have h := loopFirst (L := L75_2) (fun i => ((l, f, (l.length : Int), (i : Int), ()), (), ())) l.length (fun i => q (gd l (i : Int))) (fun i => .inl (((i : Int), ()), (), ())) (.inr ((), (), ())) 0 (N := fuel) (by have := fuel_ge; omega)
    (fun N _ => by simp [L75_2, B75_2])
    (fun N i _ hi _ => by
      simp only [L75_2, B75_2]
      rw [dec_t (by omega), cond_true, getI_gd (by omega) (by omega), hf, derefK_some, wI (by omega) (by omega)]
      cases q (gd l (i : Int)) <;> rfl)
  have h' : L75_2 fuel ((l, f, (l.length : Int), 0, ()), (), ()) = _ := h
  rw [h', derefK_some]
  cases first l.length (fun i => q (gd l (i : Int))) <;> rfl
theorem g66_eq (l : List Deal) (h : l.length ≤ 1000000) : g66 (l, ()) = some ((l, ()), ()) := by
  show F66 fuel l = _
  unfold F66
  refine nilK_of (fun h0 => ?_) ?_
  · rw [List.length_eq_zero_iff.1 h0]; rfl
  · rw [cond_false, lenK_in (by simp <;> omega) (by simp <;> omega), List.nil_append]
/-- What does not hold at first and holds from a number on is cut off there. -/
theorem g65_mono (l : List Deal) (hl : l.length ≤ 1000000) (f : Deal → Option Bool) (q : Deal → Bool) (hf : ∀ x, f x = some (q x)) (m : Nat) (hm : m ≤ l.length) (h1 : ∀ j : Nat, j < m → q (gd l (j : Int)) = false) (h2 : ∀ j : Nat, m ≤ j → j < l.length → q (gd l (j : Int)) = true) :
    g65 (l, f, ()) = some ((l.take m, ()), ()) := by
  have hfu := fuel_ge
  have e0 : g65 (l, f, ()) = F65 fuel l f := rfl
  rw [e0]
  unfold F65
  rw [g75_eq l hl f q hf, derefK_some]
  by_cases hml : m = l.length
  · rw [first_none.2 fun j hj => h1 j (by omega)]
    simp only
    rw [beq_self_eq_true, cond_true, hml, List.take_length]
  · rw [(first_some (i := m)).2 ⟨by omega, h2 m (Nat.le_refl _) (by omega), h1⟩]
    simp only
    rw [beq_false_of_ne (by omega), cond_false, wI (by omega) (by omega)]
    have h := loopF (L := L65_5) (fun i => ((f, (m : Int), (((m + 1 + i : Nat)) : Int), ()), (l, ()), ())) (((m : Int), ()), (l, ()), ()) 0 (l.length - (m + 1)) (N := fuel) (by omega)
      (fun N => by simp only [L65_5, B65_5]; rw [dec_f (by omega), cond_false])
      (fun N i _ hi => by
        simp only [L65_5, B65_5]
        rw [dec_t (by omega), cond_true, inR_in (by omega) (by omega), getI_gd (by omega) (by omega), hf, derefK_some, h2 _ (by omega) (by omega), Bool.not_true, cond_false, wI (by omega) (by omega)]
        rfl)
    have h' : L65_5 fuel ((f, (m : Int), (m : Int) + 1, ()), (l, ()), ()) = _ := h
    rw [h', derefK_some]
    simp only
    have hlen : (l.take m ++ List.replicate (l.length - m) ((0 : Int), ((0 : Int), ((0 : Int), ((0 : Int), (0 : Int)))))).length = l.length := by
      rw [List.length_append, List.length_take, List.length_replicate]; omega
    rw [leK_in (by omega), leK_in (by omega), leK_in (by omega), leK_in (by rw [Int.toNat_natCast, hlen]; omega), bindV_eq, Int.toNat_natCast, List.take_append_of_le_length (by rw [List.length_take]; omega), List.take_take, Nat.min_self]

/-- How many deals are not behind a time. -/
def upTo (l : List Deal) (t : Int) : Nat := match first l.length (fun i => decide ((gd l (i : Int)).1 > t)) with | some i => i | none => l.length
theorem upTo_le (l : List Deal) (t : Int) : upTo l t ≤ l.length := by
  unfold upTo
  cases h : first l.length (fun i => decide ((gd l (i : Int)).1 > t)) with
  | none => exact Nat.le_refl _
  | some i => exact Nat.le_of_lt (first_some.1 h).1
theorem upTo_lo {l : List Deal} {t : Int} {j : Nat} (hj : j < upTo l t) : (gd l (j : Int)).1 ≤ t := by
  unfold upTo at hj
  revert hj
  cases h : first l.length (fun i => decide ((gd l (i : Int)).1 > t)) with
  | none =>
    intro hj
    have := first_none.1 h j hj
    rw [decide_eq_false_iff_not] at this
    omega
  | some i =>
    intro hj
    have := (first_some.1 h).2.2 j hj
    rw [decide_eq_false_iff_not] at this
    omega
theorem upTo_hi {l : List Deal} {t : Int} (hj : upTo l t < l.length) : (gd l (upTo l t : Int)).1 > t := by
  have e : ∀ m, upTo l t = m → m < l.length → (gd l (m : Int)).1 > t := by
    intro m hm hlt
    unfold upTo at hm
    revert hm
    cases h : first l.length (fun i => decide ((gd l (i : Int)).1 > t)) with
    | none =>
      intro hm
      have hm' : l.length = m := hm
      omega
    | some i =>
      intro hm
      obtain rfl : i = m := hm
      exact of_decide_eq_true (first_some.1 h).2.1
  exact e _ rfl hj
theorem times {f : Fair} {l : List Deal} (hb : ∀ j, j < l.length → bad f l j = false) : ∀ {i j : Nat}, i ≤ j → j < l.length → (gd l (i : Int)).1 ≤ (gd l (j : Int)).1 := by
  intro i j hij
  obtain ⟨d, rfl⟩ : ∃ d, j = i + d := ⟨j - i, by omega⟩
  clear hij
  induction d with
  | zero => intro _; exact Int.le_refl _
  | succ d ih =>
    intro hj
    have h1 := ih (by omega)
    have h2 := (rng_iff.1 (bad_ok (hb (i + (d + 1)) hj)).1).1
    have h3 : lastT l (i + (d + 1)) = (gd l ((i + d : Nat) : Int)).1 := rfl
    omega
theorem wrong_take {f : Fair} {l : List Deal} (h : wrong f l = none) (m : Nat) (hm : m ≤ l.length) : wrong f (l.take m) = none ∧ stC f (l.take m) (l.take m).length = stC f l m := by
  obtain ⟨_, hv, hl, hb⟩ := wrong_none h
  have hlen : (l.take m).length = m := by rw [List.length_take]; omega
  refine ⟨wrong_of hv (by omega) fun j hj => ?_, ?_⟩
  · rw [bad_congr (l' := l) fun i hi => gd_take' (by omega)]
    exact hb j (by omega)
  · rw [hlen, stC_congr fun j hj => gd_take' hj]
theorem g36_eq (f : Fair) (hs : Sized f) (l : List Deal) (t : Int) : g36 (f, l, t, ()) = some ((match wrong f l with | some x => (cnil, x.2, ()) | none => (stC f l (upTo l t), 0, ())), ()) := by
  have e0 : g36 (f, l, t, ()) = F36 fuel f l t := rfl
  rw [e0]
  unfold F36
  rw [g52_eq f hs l, derefK_some]
  cases h : wrong f l with
  | some x =>
    simp only
    rw [bne_iff_ne.2 (wrong_ne h), cond_true]
    rfl
  | none =>
    obtain ⟨hf, _, hl, hb⟩ := wrong_none h
    simp only
    rw [show ((0 : Int) != 0) = false from rfl, cond_false, g66_eq l (by omega), derefK_some]
    have hm := upTo_le l t
    have e1 := g65_mono l (by omega) (fun v4 => derefK (g67 (v4, t, ())) fun y5 => some y5.1.1) (fun d => decide (d.1 > t)) (fun _ => rfl) (upTo l t) hm
      (fun j hj => by
        have := upTo_lo hj
        rw [decide_eq_false_iff_not]
        omega)
      (fun j hj hj2 => by
        have h1 := upTo_hi (l := l) (t := t) (by omega)
        have h2 := times hb hj hj2
        exact decide_eq_true (by omega))
    obtain ⟨w1, w2⟩ := wrong_take h (upTo l t) hm
    have e2 := g22_eq f hs (l.take (upTo l t))
    rw [w1] at e2
    simp only at e2
    rw [w2] at e2
    simp only
    rw [e1, derefK_some]
    simp only
    rw [e2, derefK_some]
theorem g37_eq (f : Fair) (hs : Sized f) (l : List Deal) (t : Int) : g37 (f, l, t, ()) = some ((match wrong f l with | some x => (cnil, x.2, ()) | none => (stC f l (upTo l t), 0, ())), ()) := by
  have hfu := fuel_ge
  have e0 : g37 (f, l, t, ()) = F37 fuel f l t := rfl
  rw [e0]
  unfold F37
  rw [g34_eq f hs l, derefK_some]
  cases h : wrong f l with
  | some x =>
    simp only
    rw [bne_iff_ne.2 (wrong_ne h), cond_true]
    rfl
  | none =>
    obtain ⟨hf, _, hl, hb⟩ := wrong_none h
    simp only
    rw [show ((0 : Int) != 0) = false from rfl, cond_false]
    have h1 := loopFirst (L := L37_5) (fun i => ((l, t, (i : Int), ()), (f, cnil, ()), ())) l.length (fun i => decide ((gd l (i : Int)).1 > t)) (fun i => ((l, (i : Int), ()), (f, cnil, ()), ())) ((l, (l.length : Int), ()), (f, cnil, ()), ()) 0 (N := fuel) (by omega)
      (fun N _ => by simp only [L37_5, B37_5]; rw [dec_f (by omega), cond_false])
      (fun N i _ hi _ => by
        simp only [L37_5, B37_5]
        rw [dec_t (by omega), cond_true, getI_gd (by omega) (by omega), wI (by omega) (by omega)]
        by_cases c : (gd l (i : Int)).1 ≤ t
        · rw [dec_t c, dec_f (p := (gd l (i : Int)).1 > t) (by omega)]; rfl
        · rw [dec_f c, dec_t (p := (gd l (i : Int)).1 > t) (by omega)]; rfl)
    have hm := upTo_le l t
    have h1' : L37_5 fuel ((l, t, 0, ()), (f, ([], ([], (([] : List (Int × Int)), ([], (0 : Int))))), ()), ()) = some ((l, (upTo l t : Int), ()), (f, cnil, ()), ()) := by
      refine h1.trans ?_
      unfold upTo
      cases first l.length (fun i => decide ((gd l (i : Int)).1 > t)) <;> rfl
    rw [h1', derefK_some]
    simp only
    rw [leK_in (by omega), leK_in (by omega), Int.toNat_natCast, g56_take hf l hl hb _ hm, derefK_some]
theorem play_len {f : Fair} {l : List Deal} {c : Cnt} (h : wrong f l = none) {i : Nat} (hi : i ≤ l.length) (hc : stC f l i = c) : c.1.length ≤ 1000000000 ∧ c.2.1.length ≤ 1000000000 ∧ c.2.2.1.length ≤ 1000000000 ∧ c.2.2.2.1.length ≤ 1000000000 := by
  obtain ⟨hf, _, hl, hb⟩ := wrong_none h
  have hI := Inv.all hf l i fun j hj => hb j (by omega)
  rw [hc] at hI
  have l1 := hI.ls
  have l0 := hI.lc
  have l2 := hI.lp
  have l3 := hI.lb
  have m1 := hf.s8
  have m2 := hf.p1
  have m3 := hf.b1
  exact ⟨by omega, by omega, by omega, by omega⟩
theorem same_cnt {c : Cnt} (h : c.1.length ≤ 1000000000 ∧ c.2.1.length ≤ 1000000000 ∧ c.2.2.1.length ≤ 1000000000 ∧ c.2.2.2.1.length ≤ 1000000000) : g25 (c, c, ()) = some ((true, ()), ()) := by
  rw [g25_eq c c h.1 h.2.1 h.2.2.1 h.2.2.2, dec_t rfl]
/-- TokensPlays. -/
theorem law11 (f : Fair) (hs : Sized f) (l : List Deal) (t : Int) : g11 (f, l, t, ()) = some ((true, ()), ()) := by
  have e0 : g11 (f, l, t, ()) = F11 fuel f l t := rfl
  rw [e0]
  unfold F11
  rw [g21_eq, derefK_some]
  simp only
  cases decide (40 < l.length) && decide (l.length ≤ 200) with
  | true => exact works_k
  | false =>
  rw [cond_false, g18_eq f hs, g19_eq f hs, g28_eq f hs l, g34_eq f hs l, g22_eq f hs l, g35_eq f hs l, g36_eq f hs l t, g37_eq f hs l t]
  simp only [derefK_some, bne_self_eq_false, beq_self_eq_true, cond_false, cond_true]
  cases hw : wrong f l with
  | some x =>
    simp only
    rw [same_cnt (c := cnil) ⟨by decide, by decide, by decide, by decide⟩]
    simp only [derefK_some, bne_self_eq_false, Bool.not_true, cond_false, cond_true]
    exact works_k
  | none =>
    simp only
    rw [same_cnt (play_len hw (Nat.le_refl _) rfl), same_cnt (play_len hw (upTo_le l t) rfl)]
    simp only [derefK_some, bne_self_eq_false, Bool.not_true, cond_false, cond_true]
    exact works_k
end Go.Proofs.Try.V
