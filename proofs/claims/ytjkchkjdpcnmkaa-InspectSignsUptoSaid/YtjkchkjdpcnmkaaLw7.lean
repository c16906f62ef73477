/- Plain laws of layer 10, seventh part: Due, Open, Released, Why, by the program and by the document. No condition beyond those typed in each theorem. -/
import Derived.Test.YtjkchkjdpcnmkaaLw6
namespace Go.Proofs.Try.V
open Go.Vi
set_option maxRecDepth 100000

theorem g24_eq (a : List Int) (hl : a.length ≤ 1099511627776) : g24 (a, a, ()) = some ((true, ()), ()) := by
  show F24 fuel a a = _
  unfold F24
  rw [show ((a.length : Int) != (a.length : Int)) = false by simp, cond_false]
  have e := loopF (L := L24_4) (fun i => ((a, a, (i : Int), ()), (), ())) (.inr ((), (), ())) 0 a.length (N := fuel) (by have := fuel_ge; omega)
    (fun N => by simp [L24_4, B24_4])
    (fun N i _ hi => by
      simp only [L24_4, B24_4]
      rw [dec_t (by omega), cond_true, getI_gd (by omega) (by omega), getI_gd (by omega) (by omega), wI (by omega) (by omega), show (gd a (i : Int) != gd a (i : Int)) = false by simp]
      rfl)
  have e' : L24_4 fuel ((a, a, 0, ()), (), ()) = _ := e
  rw [e']
  rfl

theorem dayErr_ok {b : Book} {l : List Ent} {day : Int} (h : dayErr b l day = 0) : Good b l ∧ 0 ≤ day ∧ day ≤ 10000 := by
  unfold dayErr at h
  split at h
  · rename_i hc
    split at h
    · rename_i hr
      exact ⟨good_of hc, rng_iff.1 hr⟩
    · cases h
  · rename_i hc
    exact absurd h hc
theorem upto_day (l : List Ent) (day : Int) (i : Nat) (hi : i < (upto l day).length) : (gd (upto l day) (i : Int)).1 ≤ day := by
  have hm := gd_mem (l := upto l day) (i := (i : Int)) (by omega) (by omega)
  have key : ∀ {r : List Ent} {x : Ent}, x ∈ upto r day → x.1 ≤ day := by
    intro r
    induction r with
    | nil => intro x hx; cases hx
    | cons y r ih =>
      intro x hx
      unfold upto at hx ih
      rw [List.takeWhile_cons] at hx
      split at hx
      · rename_i hy
        rcases List.mem_cons.1 hx with rfl | hx
        · exact of_decide_eq_true hy
        · exact ih hx
      · cases hx
  exact key hm

def dueL (b : Book) (l : List Ent) (day : Int) : List Int := fil (fun i => !forceB b l (i : Int) day) b.1.length
theorem g29_eq (b : Book) (l : List Ent) (day : Int) : g29 (b, l, day, ()) = some ((if dayErr b l day = 0 then dueL b (upto l day) day else [], dayErr b l day, ()), ()) := by
  show F29 fuel b l day = _
  unfold F29
  by_cases h : dayErr b l day = 0
  · obtain ⟨hg, hd⟩ := dayErr_ok h
    have hs := (sized_of hg.book).rules
    have hu := (hg.upto day).fit
    rw [g47_ok h, derefK_some, if_pos h, h]
    have e := loopFil (L := L29_5) (fun i s => ((day, (b.1.length : Int), (i : Int), ()), (s, (b, upto l day), ()), ())) (fun i => !forceB b (upto l day) (i : Int) day) b.1.length 0 (fun s => ((), (s, ()), ())) (N := fuel) (by have := fuel_ge; omega)
      (fun N s _ => by simp [L29_5, B29_5])
      (fun N i s _ hi hl => by
        simp only [L29_5, B29_5]
        rw [dec_t (by omega), cond_true, g55_eq b _ hu _ (ruleB_of hi), derefK_some, until_lt hd.1, lenK_in (by simp; omega) (by simp; omega), wI (by omega) (by omega)]
        cases forceB b (upto l day) (i : Int) day <;> rfl)
    have e' : L29_5 fuel ((day, (b.1.length : Int), 0, ()), ([], (b, upto l day), ()), ()) = _ := e
    show derefK (L29_5 fuel ((day, (b.1.length : Int), 0, ()), ([], (b, upto l day), ()), ())) _ = _
    rw [e']
    rfl
  · obtain ⟨z, e⟩ := g47_err h
    rw [e, derefK_some, if_neg h]
    show cond (dayErr b l day != 0) _ _ = _
    rw [neq_t h]
    rfl
theorem g31_eq (b : Book) (l : List Ent) (day : Int) : g31 (b, l, day, ()) = some ((if dayErr b l day = 0 then dueL b (upto l day) day else [], dayErr b l day, ()), ()) := by
  show F31 fuel b l day = _
  unfold F31
  rw [g57_eq, derefK_some]
  by_cases h : dayErr b l day = 0
  · obtain ⟨hg, hd⟩ := dayErr_ok h
    have hs := (sized_of hg.book).rules
    have hll := hg.len
    have hu := (hg.upto day).fit
    rw [if_pos h, h]
    have e := loopFil (L := L31_6) (fun i s => ((l, day, (i : Int), ()), (b, s, ()), ())) (fun i => !forceB b (upto l day) (i : Int) day) b.1.length 0 (fun s => ((), (s, ()), ())) (N := fuel) (by have := fuel_ge; omega)
      (fun N s _ => by simp [L31_6, B31_6])
      (fun N i s _ hi hl => by
        simp only [L31_6, B31_6]
        rw [dec_t (by omega), cond_true]
        simp only [enumK_eq, agreeK_one, agreeK_two, g28_eq l day (by omega), derefK_some, g58_eq b _ hu _ day hd (ruleB_of hi)]
        rw [lenK_in (by simp; omega) (by simp; omega), wI (by omega) (by omega)]
        cases forceB b (upto l day) (i : Int) day <;> rfl)
    have e' : L31_6 fuel ((l, day, 0, ()), (b, [], ()), ()) = _ := e
    show derefK (L31_6 fuel ((l, day, 0, ()), (b, [], ()), ())) _ = _
    rw [e']
    rfl
  · rw [if_neg h]
    show cond (dayErr b l day != 0) _ _ = _
    rw [neq_t h]
    rfl

theorem g30_eq (b : Book) (l : List Ent) (day : Int) : g30 (b, l, day, ()) = some ((if dayErr b l day = 0 then openL (upto l day) else [], dayErr b l day, ()), ()) := by
  show F30 fuel b l day = _
  unfold F30
  by_cases h : dayErr b l day = 0
  · obtain ⟨hg, hd⟩ := dayErr_ok h
    have hu := (hg.upto day).len
    rw [g47_ok h, derefK_some, if_pos h, h]
    show derefK (g56 ((b, upto l day), ())) _ = _
    rw [g56_eq b _ (by omega)]
    rfl
  · obtain ⟨z, e⟩ := g47_err h
    rw [e, derefK_some, if_neg h]
    show cond (dayErr b l day != 0) _ _ = _
    rw [neq_t h]
    rfl
theorem g32_eq (b : Book) (l : List Ent) (day : Int) : g32 (b, l, day, ()) = some ((if dayErr b l day = 0 then openL (upto l day) else [], dayErr b l day, ()), ()) := by
  show F32 fuel b l day = _
  unfold F32
  rw [g57_eq, derefK_some]
  by_cases h : dayErr b l day = 0
  · obtain ⟨hg, hd⟩ := dayErr_ok h
    have hl := hg.len
    have hu := (hg.upto day).len
    rw [if_pos h, h]
    have e := loopFil (L := L32_7) (fun i s => ((upto l day, (i : Int), ()), (s, ()), ())) (fun i => openB (upto l day) (i : Int)) (upto l day).length 0 (fun s => ((), (s, ()), ())) (N := fuel) (by have := fuel_ge; omega)
      (fun N s _ => by simp [L32_7, B32_7])
      (fun N i s _ hi hl => by
        simp only [L32_7, B32_7]
        rw [dec_t (by omega), cond_true, g59_eq _ _ (by omega), derefK_some, lenK_in (by simp; omega) (by simp; omega), wI (by omega) (by omega)]
        cases openB (upto l day) (i : Int) <;> rfl)
    have e' : L32_7 fuel ((upto l day, 0, ()), ([], ()), ()) = _ := e
    show derefK (g28 (l, day, ())) _ = _
    rw [g28_eq l day (by omega), derefK_some]
    show derefK (L32_7 fuel ((upto l day, 0, ()), ([], ()), ())) _ = _
    rw [e']
    rfl
  · rw [if_neg h]
    show cond (dayErr b l day != 0) _ _ = _
    rw [neq_t h]
    rfl

def relB (b : Book) (l : List Ent) (day : Int) (i : Nat) : Bool := ((whyL b l (i : Int) day).length : Int) == 0
def relL (b : Book) (l : List Ent) (day : Int) : List Int := fil (relB b l day) b.2.2.length
theorem rideB_of {b : Book} {i : Nat} (h : i < b.2.2.length) : rideB b (i : Int) = true := rng_iff.2 ⟨by omega, by omega⟩
theorem g20_eq (b : Book) (l : List Ent) (day : Int) : g20 (b, l, day, ()) = some ((if dayErr b l day = 0 then relL b (upto l day) day else [], dayErr b l day, ()), ()) := by
  show F20 fuel b l day = _
  unfold F20
  by_cases h : dayErr b l day = 0
  · obtain ⟨hg, hd⟩ := dayErr_ok h
    have hs := (sized_of hg.book).rides
    have hu := (hg.upto day).fit
    rw [g47_ok h, derefK_some, if_pos h, h]
    have e := loopFil (L := L20_5) (fun i s => ((day, (b.2.2.length : Int), (i : Int), ()), (s, (b, upto l day), ()), ())) (relB b (upto l day) day) b.2.2.length 0 (fun s => ((), (s, ()), ())) (N := fuel) (by have := fuel_ge; omega)
      (fun N s _ => by simp [L20_5, B20_5])
      (fun N i s _ hi hl => by
        simp only [L20_5, B20_5]
        rw [dec_t (by omega), cond_true, g48_eq b _ hu _ day hd (rideB_of hi), derefK_some, lenK_in (by simp; omega) (by simp; omega), wI (by omega) (by omega)]
        unfold relB
        cases ((whyL b (upto l day) (i : Int) day).length : Int) == 0 <;> rfl)
    have e' : L20_5 fuel ((day, (b.2.2.length : Int), 0, ()), ([], (b, upto l day), ()), ()) = _ := e
    show derefK (L20_5 fuel ((day, (b.2.2.length : Int), 0, ()), ([], (b, upto l day), ()), ())) _ = _
    rw [e']
    rfl
  · obtain ⟨z, e⟩ := g47_err h
    rw [e, derefK_some, if_neg h]
    show cond (dayErr b l day != 0) _ _ = _
    rw [neq_t h]
    rfl
theorem g33_eq (b : Book) (l : List Ent) (day : Int) : g33 (b, l, day, ()) = some ((if dayErr b l day = 0 then relL b (upto l day) day else [], dayErr b l day, ()), ()) := by
  show F33 fuel b l day = _
  unfold F33
  rw [g57_eq, derefK_some]
  by_cases h : dayErr b l day = 0
  · obtain ⟨hg, hd⟩ := dayErr_ok h
    have hs := (sized_of hg.book).rides
    have hll := hg.len
    have hu := (hg.upto day).fit
    rw [if_pos h, h]
    have e := loopFil (L := L33_6) (fun i s => ((l, day, (i : Int), ()), (b, s, ()), ())) (relB b (upto l day) day) b.2.2.length 0 (fun s => ((), (s, ()), ())) (N := fuel) (by have := fuel_ge; omega)
      (fun N s _ => by simp [L33_6, B33_6])
      (fun N i s _ hi hl => by
        simp only [L33_6, B33_6]
        rw [dec_t (by omega), cond_true]
        simp only [enumK_eq, agreeK_one, agreeK_two, g28_eq l day (by omega), derefK_some, g51_eq b _ hu _ day hd (rideB_of hi) (upto_day l day)]
        rw [lenK_in (by simp; omega) (by simp; omega), wI (by omega) (by omega)]
        unfold relB
        cases ((whyL b (upto l day) (i : Int) day).length : Int) == 0 <;> rfl)
    have e' : L33_6 fuel ((l, day, 0, ()), (b, [], ()), ()) = _ := e
    show derefK (L33_6 fuel ((l, day, 0, ()), (b, [], ()), ())) _ = _
    rw [e']
    rfl
  · rw [if_neg h]
    show cond (dayErr b l day != 0) _ _ = _
    rw [neq_t h]
    rfl
theorem rideErr_ok {b : Book} {l : List Ent} {ride day : Int} (h : rideErr b l ride day = 0) : Good b l ∧ (0 ≤ day ∧ day ≤ 10000) ∧ rideB b ride = true := by
  obtain ⟨h1, h2⟩ := rideErr_day h
  obtain ⟨h3, h4⟩ := dayErr_ok h1
  exact ⟨h3, h4, h2⟩
theorem g22_eq (b : Book) (l : List Ent) (ride day : Int) : g22 (b, l, ride, day, ()) = some ((if rideErr b l ride day = 0 then whyL b (upto l day) ride day else [], rideErr b l ride day, ()), ()) := by
  show F22 fuel b l ride day = _
  unfold F22
  by_cases h : rideErr b l ride day = 0
  · obtain ⟨hg, hd, hr⟩ := rideErr_ok h
    rw [g49_ok h, derefK_some, if_pos h, h]
    show derefK (g48 ((b, upto l day), ride, day, ())) _ = _
    rw [g48_eq b _ (hg.upto day).fit _ day hd hr]
    rfl
  · obtain ⟨z, e⟩ := g49_err h
    rw [e, derefK_some, if_neg h]
    show cond (rideErr b l ride day != 0) _ _ = _
    rw [neq_t h]
    rfl
theorem g23_eq (b : Book) (l : List Ent) (ride day : Int) : g23 (b, l, ride, day, ()) = some ((if rideErr b l ride day = 0 then whyL b (upto l day) ride day else [], rideErr b l ride day, ()), ()) := by
  show F23 fuel b l ride day = _
  unfold F23
  rw [g50_eq, derefK_some]
  by_cases h : rideErr b l ride day = 0
  · obtain ⟨hg, hd, hr⟩ := rideErr_ok h
    have hl := hg.len
    rw [if_pos h, h]
    simp only [enumK_eq, agreeK_one, agreeK_two, g28_eq l day (by omega), derefK_some, g51_eq b _ (hg.upto day).fit _ day hd hr (upto_day l day)]
    rfl
  · rw [if_neg h]
    show cond (rideErr b l ride day != 0) _ _ = _
    rw [neq_t h]
    rfl
end Go.Proofs.Try.V
