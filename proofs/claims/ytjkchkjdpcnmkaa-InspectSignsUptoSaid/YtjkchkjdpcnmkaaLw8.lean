/- Plain laws of layer 10, eighth part: Until, by the program and by the document; the look at the examples. No condition beyond those typed in each theorem. -/
import Derived.Test.YtjkchkjdpcnmkaaLw7
namespace Go.Proofs.Try.V
open Go.Vi
set_option maxRecDepth 100000

theorem gd_snoc {α : Type} [Inhabited α] {l : List α} {x : α} {i : Nat} (hi : i < l.length) : gd (l ++ [x]) (i : Int) = gd l (i : Int) := gd_app_l (by omega) (by omega)
theorem gd_last {α : Type} [Inhabited α] {l : List α} {x : α} : gd (l ++ [x]) (l.length : Int) = x := gd_app_end rfl
theorem Fit.snoc {b : Book} {l : List Ent} (h : Fit b l) {x : Ent} (hl : l.length < 1000) (hx : lastDay l ≤ x.1 ∧ x.1 ≤ 10000) (hk : (x.2.1 == 2) = false) : Fit b (l ++ [x]) := by
  refine ⟨h.book, by simp; omega, fun i hi => ?_, fun i hi h2 => ?_⟩
  · rw [List.length_append] at hi
    simp only [List.length_cons, List.length_nil] at hi
    by_cases hil : i < l.length
    · rw [gd_snoc hil, List.take_append_of_le_length (by omega)]
      exact h.day i hil
    · obtain rfl : i = l.length := by omega
      rw [gd_last, List.take_left' rfl]
      exact hx
  · rw [List.length_append] at hi
    simp only [List.length_cons, List.length_nil] at hi
    by_cases hil : i < l.length
    · rw [gd_snoc hil] at h2 ⊢
      exact h.sev i hil h2
    · obtain rfl : i = l.length := by omega
      rw [gd_last, hk] at h2
      cases h2
theorem lastE_app (want : Ent → Bool) (ride : Int) (l : List Ent) (x : Ent) : lastE want ride (l ++ [x]) = if want x then x.1 else if x.2.1 == 6 && x.2.2.1 == ride then -1 else lastE want ride l := by
  unfold lastE
  rw [List.foldl_append]
  rfl
theorem insR_app (b : Book) (l : List Ent) (x : Ent) (ride : Int) : insR b (l ++ [x]) ride = if x.2.1 == 5 && x.2.2.1 == ride then x.2.2.2.1 else insR b l ride := by
  unfold insR
  rw [List.foldl_append]
  rfl
theorem openL_tested {l : List Ent} {x : Ent} (h2 : (x.2.1 == 2) = false) (h3 : (x.2.1 == 3) = false) : openL (l ++ [x]) = openL l := by
  have hm : ∀ n, mendedB (l ++ [x]) n = mendedB l n := fun n => by
    unfold mendedB
    rw [List.any_append]
    simp [h3]
  unfold openL
  rw [List.length_append, List.length_singleton, fil_succ]
  have e : openB (l ++ [x]) (l.length : Int) = false := by
    unfold openB
    rw [gd_last, h2, Bool.and_false]
    rfl
  rw [e, if_neg (by simp)]
  refine fil_congr fun i hi => ?_
  unfold openB
  rw [gd_snoc hi, hm]
  congr 2
  rw [Bool.eq_iff_iff, rng_iff, rng_iff]
  simp
  omega
theorem soundB_tested {l : List Ent} {x : Ent} (h2 : (x.2.1 == 2) = false) (h3 : (x.2.1 == 3) = false) (ride : Int) : soundB (l ++ [x]) ride = soundB l ride := by
  unfold soundB
  have e : ∀ s, cntL (l ++ [x]) ride (openL l) s = cntL l ride (openL l) s := fun s => by
    unfold cntL
    congr 2
    refine List.filter_congr fun i hi => ?_
    obtain ⟨j, hj, _, rfl⟩ := fil_mem hi
    rw [gd_snoc hj]
  rw [openL_tested h2 h3, e, e]
def testE (d ride : Int) : Ent := (d, 4, ride, 0, 0)
theorem why_tested (b : Book) (l : List Ent) (ride d : Int) (hd : 0 ≤ d ∧ d ≤ 10000) : decide (((whyL b (l ++ [testE d ride]) ride d).length : Int) > 0) = !(decide (d ≤ min (chkR b l ride b.1.length) (insR b l ride)) && soundB l ride) := by
  have e1 : chkB b (l ++ [testE d ride]) ride d b.1.length = chkB b l ride d b.1.length := by
    unfold chkB
    refine List.all_congr rfl fun i => ?_
    unfold forceB lastC
    rw [lastE_app]
    rfl
  have e2 : lastE (wantT ride) ride (l ++ [testE d ride]) = d := by
    rw [lastE_app]
    have : wantT ride (testE d ride) = true := by simp [wantT, testE]
    rw [if_pos this]
    rfl
  have e3 : insR b (l ++ [testE d ride]) ride = insR b l ride := by
    rw [insR_app]
    rfl
  have e4 := chk_lt (b := b) (l := l) (ride := ride) hd b.1.length
  unfold whyL
  rw [e1, soundB_tested rfl rfl, e2, e3, if_pos (show (d == d) = true by simp)]
  by_cases h1 : chkR b l ride b.1.length < d
  · rw [dec_t h1] at e4
    have : chkB b l ride d b.1.length = false := by
      cases h : chkB b l ride d b.1.length with
      | false => rfl
      | true => rw [h] at e4; cases e4
    rw [this, dec_f (p := d ≤ min _ _) (by omega), if_neg (by simp), dec_t (by simp <;> omega)]
    rfl
  · rw [dec_f h1] at e4
    have : chkB b l ride d b.1.length = true := by
      cases h : chkB b l ride d b.1.length with
      | true => rfl
      | false => rw [h] at e4; cases e4
    rw [this, if_pos rfl]
    by_cases h2 : insR b l ride < d
    · rw [dec_f (p := d ≤ min _ _) (by omega), if_pos h2, dec_t (by simp <;> omega)]
      rfl
    · rw [dec_t (p := d ≤ min _ _) (by omega), if_neg h2]
      cases soundB l ride <;> rfl

def untilA (b : Book) (l : List Ent) (ride day : Int) : Int × Int :=
  if rideErr b l ride day = 0 then
    (if decide (day ≤ min (chkR b (upto l day) ride b.1.length) (insR b (upto l day) ride)) && soundB (upto l day) ride then (min (chkR b (upto l day) ride b.1.length) (insR b (upto l day) ride), 0) else (0, 3))
  else (0, rideErr b l ride day)
theorem g26_eq (b : Book) (l : List Ent) (ride day : Int) : g26 (b, l, ride, day, ()) = some (((untilA b l ride day).1, (untilA b l ride day).2, ()), ()) := by
  show F26 fuel b l ride day = _
  unfold F26 untilA
  by_cases h : rideErr b l ride day = 0
  · obtain ⟨hg, hd, hr⟩ := rideErr_ok h
    have hu := (hg.upto day).fit
    have hl := hu.len
    rw [g49_ok h, derefK_some, if_pos h]
    show derefK (g52 ((b, upto l day), ride, ())) _ = _
    rw [g52_eq b _ hu, derefK_some, g53_eq b _ (by omega) ride hr, derefK_some]
    by_cases h1 : day ≤ min (chkR b (upto l day) ride b.1.length) (insR b (upto l day) ride)
    · rw [dec_t h1]
      show cond (decide (min (chkR b (upto l day) ride b.1.length) (insR b (upto l day) ride) < day)) _ _ = _
      rw [dec_f (by omega), cond_false, g54_eq b _ hu, derefK_some]
      cases soundB (upto l day) ride <;> rfl
    · rw [dec_f h1]
      show cond (decide (min (chkR b (upto l day) ride b.1.length) (insR b (upto l day) ride) < day)) _ _ = _
      rw [dec_t (by omega)]
      rfl
  · obtain ⟨z, e⟩ := g49_err h
    rw [e, derefK_some, if_neg h]
    show cond (rideErr b l ride day != 0) _ _ = _
    rw [neq_t h]
    rfl
theorem chkR_le (b : Book) (l : List Ent) (ride : Int) : ∀ n, chkR b l ride n ≤ 10000
  | 0 => Int.le_refl _
  | n + 1 => by
    have := chkR_le b l ride n
    rw [chkR_succ]
    split <;> omega
theorem lastDay_le {l : List Ent} {day : Int} (h0 : 0 ≤ day) (h : ∀ i : Nat, i < l.length → (gd l (i : Int)).1 ≤ day) : lastDay l ≤ day := by
  unfold lastDay
  split
  · exact h0
  · rename_i hl
    have := h (l.length - 1) (by omega)
    rwa [show ((l.length - 1 : Nat) : Int) = (l.length : Int) - 1 by omega] at this
theorem g27_eq (b : Book) (l : List Ent) (ride day : Int) : g27 (b, l, ride, day, ()) = some (((untilA b l ride day).1, (untilA b l ride day).2, ()), ()) := by
  show F27 fuel b l ride day = _
  unfold F27 untilA
  rw [g50_eq, derefK_some]
  by_cases h : rideErr b l ride day = 0
  case neg =>
    rw [if_neg h]
    show cond (rideErr b l ride day != 0) _ _ = _
    rw [neq_t h]
    rfl
  obtain ⟨hg, hd, hr⟩ := rideErr_ok h
  have hu := (hg.upto day).fit
  have hul := (hg.upto day).len
  have hl := hg.len
  have hlast := lastDay_le hd.1 (upto_day l day)
  have hck := chkR_le b (upto l day) ride b.1.length
  rw [if_pos h, h]
  show derefK (g28 (l, day, ())) _ = _
  rw [g28_eq l day (by omega), derefK_some]
  show lenK ((upto l day).length : Int) _ = _
  rw [lenK_in (by omega) (by omega)]
  obtain ⟨m, hm⟩ : ∃ m, min (chkR b (upto l day) ride b.1.length) (insR b (upto l day) ride) = m := ⟨_, rfl⟩
  have hm10 : m ≤ 10000 := by omega
  rw [hm]
  have hround : ∀ N d, day ≤ d → d ≤ 10000 → L27_6 (N + 1) ((ride, day, d, ()), (b, upto l day, ()), ()) = if decide (d ≤ m) && soundB (upto l day) ride then L27_6 N ((ride, day, d + 1, ()), (b, upto l day, ()), ()) else some ((day, d, ()), (), ()) := by
    intro N d h1 h2
    simp only [L27_6, B27_6]
    have hfit : Fit b (upto l day ++ [testE d ride]) := hu.snoc (by omega) ⟨by show _ ≤ d; omega, h2⟩ rfl
    have e1 : ∀ {R : Type} (k : Option R), lenK ((upto l day).length : Int) k = k := fun k => lenK_in (by omega) (by omega) k
    have e3 : g51 (b, (upto l day ++ [(d, 4, ride, 0, 0)]), ride, d, ()) = some ((whyL b (upto l day ++ [testE d ride]) ride d, ()), ()) := g51_eq b _ hfit ride d (by omega) hr (fun i hi => by
      rw [List.length_append] at hi
      simp only [List.length_cons, List.length_nil] at hi
      by_cases hil : i < (upto l day).length
      · rw [gd_snoc hil]
        have := upto_day l day i hil
        omega
      · obtain rfl : i = (upto l day).length := by omega
        rw [gd_last]
        exact Int.le_refl _)
    rw [dec_t h2, cond_true]
    simp only [enumK_eq, e1, e3, derefK_some, agreeK_one, agreeK_two]
    rw [lenK_in (by simp; omega) (by simp; omega), why_tested b _ ride d (by omega), hm, wI (by omega) (by omega)]
    cases decide (d ≤ m) && soundB (upto l day) ride <;> rfl
  by_cases hok : (decide (day ≤ m) && soundB (upto l day) ride) = true
  · rw [if_pos hok]
    rw [Bool.and_eq_true, decide_eq_true_eq] at hok
    have e := loopF (L := L27_6) (fun i => ((ride, day, day + (i : Int), ()), (b, upto l day, ()), ())) ((day, m + 1, ()), (), ()) 0 (m + 1 - day).toNat (N := fuel) (by have := fuel_ge; omega)
      (fun N => by
        rw [show day + (((m + 1 - day).toNat : Nat) : Int) = m + 1 by omega]
        by_cases h1 : m + 1 ≤ 10000
        · rw [hround N (m + 1) (by omega) h1, dec_f (by omega)]
          rfl
        · simp only [L27_6, B27_6]
          rw [dec_f h1]
          rfl)
      (fun N i _ hi => by
        rw [hround N (day + (i : Int)) (by omega) (by omega), dec_t (by omega), hok.2, if_pos (by rfl)]
        rw [show day + (i : Int) + 1 = day + ((i + 1 : Nat) : Int) by omega])
    have e' : L27_6 fuel ((ride, day, day + ((0 : Nat) : Int), ()), (b, upto l day, ()), ()) = _ := e
    rw [show day + ((0 : Nat) : Int) = day by omega] at e'
    rw [e', derefK_some]
    show cond (m + 1 == day) _ _ = _
    rw [show (m + 1 == day) = false by rw [beq_eq_false_iff_ne]; omega]
    show some ((IntKind.wrap .i64 (m + 1 - 1), 0, ()), ()) = _
    rw [wI (by omega) (by omega), show m + 1 - 1 = m by omega]
  · rw [if_neg hok]
    obtain ⟨k, hk⟩ : ∃ k, fuel = k + 1 := ⟨fuel - 1, by have := fuel_ge; omega⟩
    have e : L27_6 fuel ((ride, day, day, ()), (b, upto l day, ()), ()) = some ((day, day, ()), (), ()) := by
      rw [hk, hround k day (by omega) hd.2, if_neg hok]
    rw [e, derefK_some]
    show cond (day == day) _ _ = _
    rw [show (day == day) = true by simp]
    rfl
theorem works_eq : g17 () = some ((true, ()), ()) := by
  show F17 fuel = _
  unfold F17
  rw [show g43 () = some ((([(0, 30, 2, false), (0, 7, 1, true)], [2, 1, 1], [100, 50]), [(1, 1, 0, 0, (-1)), (1, 1, 1, 1, 2), (3, 2, 0, 2, 0), (4, 4, 0, 1, 0), (5, 3, 2, 0, 0)], ()), ()) from rfl, derefK_some, g20_eq, derefK_some, g26_eq, derefK_some]
  have e1 : dayErr ([(0, 30, 2, false), (0, 7, 1, true)], [2, 1, 1], [100, 50]) [(1, 1, 0, 0, (-1)), (1, 1, 1, 1, 2), (3, 2, 0, 2, 0), (4, 4, 0, 1, 0), (5, 3, 2, 0, 0)] 4 = 0 := by decide +kernel
  have e2 : relL ([(0, 30, 2, false), (0, 7, 1, true)], [2, 1, 1], [100, 50]) (upto [(1, 1, 0, 0, (-1)), (1, 1, 1, 1, 2), (3, 2, 0, 2, 0), (4, 4, 0, 1, 0), (5, 3, 2, 0, 0)] 4) 4 = [0] := by decide +kernel
  have e3 : untilA ([(0, 30, 2, false), (0, 7, 1, true)], [2, 1, 1], [100, 50]) [(1, 1, 0, 0, (-1)), (1, 1, 1, 1, 2), (3, 2, 0, 2, 0), (4, 4, 0, 1, 0), (5, 3, 2, 0, 0)] 0 4 = (7, 0) := by decide +kernel
  dsimp only
  rw [e1, if_pos rfl, e2, e3, g24_eq [0] (by simp)]
  rfl
end Go.Proofs.Try.V
