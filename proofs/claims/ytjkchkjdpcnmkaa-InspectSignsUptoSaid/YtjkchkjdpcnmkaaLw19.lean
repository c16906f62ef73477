/- Plain laws of layer 10, nineteenth part: InspectUntil. No condition beyond those typed in each theorem. -/
import Derived.Test.YtjkchkjdpcnmkaaLw18
import Derived.Test.YtjkchkjdpcnmkaaFn5
namespace Go.Proofs.Try.V
open Go.Vi
set_option maxRecDepth 100000

theorem g10048_eq : g10048 = g48 := rfl
theorem g10022_eq (b : Book) (l : List Ent) (ride day : Int) : g10022 (b, l, ride, day, ()) = some ((if rideErr b l ride day = 0 then whyL b (upto l day) ride day else [], rideErr b l ride day, ()), ()) := by
  rw [← g22_eq]
  show F10022 fuel b l ride day = F22 fuel b l ride day
  unfold F10022 F22
  rw [g10048_eq]
theorem Good.snoc {b : Book} {l : List Ent} (h : Good b l) {x : Ent} (hl : l.length < 100) (hx : rightB b l x = true) : Good b (l ++ [x]) := by
  refine ⟨h.book, by simp; omega, fun i hi => ?_⟩
  rw [List.length_append, List.length_singleton] at hi
  by_cases hil : i < l.length
  · rw [gd_snoc hil, List.take_append_of_le_length (by omega)]
    exact h.right i hil
  · obtain rfl : i = l.length := by omega
    rw [gd_last, List.take_left' rfl]
    exact hx
theorem chkR_tested (b : Book) (l : List Ent) (d ride : Int) : ∀ n, chkR b (l ++ [testE d ride]) ride n = chkR b l ride n
  | 0 => rfl
  | n + 1 => by
    have : untilR b (l ++ [testE d ride]) (n : Int) = untilR b l (n : Int) := by
      unfold untilR lastC
      rw [lastE_app]
      rfl
    rw [chkR_succ, chkR_succ, chkR_tested b l d ride n, this]
theorem L6_12_at (b : Book) (now : List Ent) (hg : Good b now) (w : Int × Int) (hw : 0 ≤ w.2 ∧ w.2 ≤ 10000) (hr : rideB b w.1 = true) (hp : 0 < b.2.1.length) (hn : now.length ≤ 40) (hd : ∀ x ∈ now, x.1 ≤ w.2) (last : Int) (hl : -1 ≤ last ∧ last ≤ 10000)
    (hlast : ∀ d, w.2 ≤ d → d ≤ last + 1 → (decide (d ≤ min (chkR b now w.1 b.1.length) (insR b now w.1)) && soundB now w.1) = decide (d ≤ last)) :
    ∃ r, L6_12 fuel ((last, w.2, ()), (b, w, now, ()), ()) = some r ∧ (r = .inl ((true, ()), (), ()) ∨ r = .inr ((last, ()), (w, ()), ())) := by
  have e := loop0 (L := L6_12) (fun i (s : List Ent) => ((last, w.2 + (i : Int), ()), (b, w, s, ()), ()))
    (fun i s => Good b s ∧ s.length = now.length + i ∧ (∀ x ∈ s, x.1 ≤ w.2 + (i : Int)) ∧ chkR b s w.1 b.1.length = chkR b now w.1 b.1.length ∧ insR b s w.1 = insR b now w.1 ∧ soundB s w.1 = soundB now w.1)
    (fun r => r = .inl ((true, ()), (), ()) ∨ r = .inr ((last, ()), (w, ()), ())) 0 61 (N := fuel) (s := now) ⟨hg, rfl, fun x hx => by have := hd x hx; omega, rfl, rfl, rfl⟩ (by have := fuel_ge; omega)
    (fun N s _ => ⟨_, by
      simp only [L6_12, B6_12]
      rw [wI (x := w.2 + 60) (by omega) (by omega), dec_f (by omega)]
      rfl, .inr rfl⟩)
    (fun N i s _ hi hs => by
      obtain ⟨h1, h2, h3, h4, h5, h6⟩ := hs
      simp only [L6_12, B6_12]
      rw [wI (x := w.2 + 60) (by omega) (by omega), dec_t (p := w.2 + (i : Int) ≤ w.2 + 60) (by omega), cond_true, wI (x := last + 1) (by omega) (by omega)]
      by_cases hlt : w.2 + (i : Int) ≤ last + 1
      case neg =>
        rw [dec_f hlt]
        exact .inr ⟨_, rfl, .inr rfl⟩
      rw [dec_t hlt, cond_true]
      by_cases hmax : w.2 + (i : Int) ≤ 10000
      case neg =>
        rw [dec_f hmax]
        exact .inr ⟨_, rfl, .inr rfl⟩
      rw [dec_t hmax, cond_true, lenK_in (by simp; omega) (by simp; omega)]
      have hlen : (s ++ [testE (w.2 + (i : Int)) w.1]).length = s.length + 1 := by simp
      by_cases hlong : s.length + 1 > 100
      · refine .inr ⟨.inl ((true, ()), (), ()), ?_, .inl rfl⟩
        show derefK (g10022 (b, (s ++ [testE (w.2 + (i : Int)) w.1]), w.1, w.2 + (i : Int), ())) _ = _
        rw [g10022_eq, derefK_some]
        show cond (decide (((s ++ [testE (w.2 + (i : Int)) w.1]).length : Int) > 100)) _ _ = _
        rw [dec_t (by omega), works_eq]
        rfl
      · have hlastday : lastDay s ≤ w.2 + (i : Int) := by
          unfold lastDay
          split
          · omega
          · exact h3 _ (gd_mem (by omega) (by omega))
        have hright : rightB b s (testE (w.2 + (i : Int)) w.1) = true := by
          have q1 : rng (w.2 + (i : Int)) (lastDay s) 10000 = true := rng_iff.2 ⟨hlastday, hmax⟩
          have q2 : personB b 0 = true := rng_iff.2 ⟨by omega, by omega⟩
          show (rng (w.2 + (i : Int)) (lastDay s) 10000 && (rideB b w.1 && personB b 0 && ((0 : Int) == 0))) = true
          rw [q1, q2, hr]
          rfl
        have hg2 := h1.snoc (by omega) hright
        have hdays : ∀ x ∈ s ++ [testE (w.2 + (i : Int)) w.1], x.1 ≤ w.2 + (i : Int) := fun x hx => by
          rcases List.mem_append.1 hx with hx | hx
          · exact h3 x hx
          · rw [List.mem_singleton.1 hx]
            exact Int.le_refl _
        have hwt := why_tested b s w.1 (w.2 + (i : Int)) (by omega)
        rw [h4, h5, h6, hlast _ (by omega) hlt] at hwt
        have hu := upto_all hdays
        have hz : (((whyL b (s ++ [testE (w.2 + (i : Int)) w.1]) w.1 (w.2 + (i : Int))).length : Int) == 0) = decide (w.2 + (i : Int) ≤ last) := by
          by_cases hq : w.2 + (i : Int) ≤ last
          · rw [dec_t hq] at hwt ⊢
            have := of_decide_eq_false hwt
            rw [show ((whyL b (s ++ [testE (w.2 + (i : Int)) w.1]) w.1 (w.2 + (i : Int))).length : Int) = 0 by omega]
            rfl
          · rw [dec_f hq] at hwt ⊢
            have := of_decide_eq_true hwt
            exact beq_eq_false_iff_ne.2 (by omega)
        refine .inl ⟨s ++ [testE (w.2 + (i : Int)) w.1], ⟨hg2, by omega, fun x hx => by have := hdays x hx; omega, by rw [chkR_tested, h4], by rw [insR_app, ← h5]; rfl, by rw [soundB_tested rfl rfl, h6]⟩, ?_⟩
        show derefK (g10022 (b, (s ++ [testE (w.2 + (i : Int)) w.1]), w.1, w.2 + (i : Int), ())) _ = _
        rw [g10022_eq, derefK_some, rideErr_good hg2 hr (by omega) hmax, hu, if_pos rfl]
        show cond (decide (((s ++ [testE (w.2 + (i : Int)) w.1]).length : Int) > 100)) _ _ = _
        rw [dec_f (by omega), cond_false]
        show cond (!((((whyL b (s ++ [testE (w.2 + (i : Int)) w.1]) w.1 (w.2 + (i : Int))).length : Int) == 0) == decide (w.2 + (i : Int) ≤ last))) _ _ = _
        rw [hz, wI (by omega) (by omega), show w.2 + (i : Int) + 1 = w.2 + ((i + 1 : Nat) : Int) by omega]
        cases decide (w.2 + (i : Int) ≤ last) <;> rfl)
  obtain ⟨r, h, hr2⟩ := e
  have h' : L6_12 fuel ((last, w.2 + ((0 : Nat) : Int), ()), (b, w, now, ()), ()) = some r := h
  rw [show w.2 + ((0 : Nat) : Int) = w.2 by simp] at h'
  exact ⟨r, h', hr2⟩
theorem rideErr_not3 (b : Book) (l : List Ent) (ride day : Int) : rideErr b l ride day ≠ 3 := by
  unfold rideErr
  by_cases h : (checkR b l).2 = 0
  · rw [if_pos h]
    cases rideB b ride && rng day 0 10000 <;> decide
  · rw [if_neg h]
    unfold checkR
    cases bookOK b with
    | false => show (100 : Int) ≠ 3; decide
    | true =>
      by_cases hl : l.length ≤ 100
      · rw [if_pos rfl, if_pos hl]
        cases badAt b l with
        | none => decide
        | some i => show (101 : Int) ≠ 3; decide
      · rw [if_pos rfl, if_neg hl]
        decide
theorem law6 (b : Book) (l : List Ent) (w : Int × Int) (hb : Sized b) (hl : l.length ≤ 1048576) : g6 (b, l, w, ()) = some ((true, ()), ()) := by
  show F6 fuel b l w = _
  unfold F6
  obtain ⟨y, hy⟩ := g25_some b l w.2 hb hl
  rw [g16_eq, derefK_some, works_eq, hy]
  simp only [derefK_some]
  cases decide (30 < l.length ∧ l.length ≤ 100) with
  | true => rfl
  | false =>
  cases y with
  | true => rfl
  | false =>
  rw [cond_false, cond_false]
  cases hp : (b.2.1.length : Int) == 0 with
  | true => rfl
  | false =>
  have hp0 : 0 < b.2.1.length := by
    have : ¬ (b.2.1.length : Int) = 0 := fun h => by rw [h] at hp; cases hp
    omega
  rw [cond_false, g26_eq, derefK_some]
  dsimp only
  by_cases hre : rideErr b l w.1 w.2 = 0
  case neg =>
    have : (untilA b l w.1 w.2).2 = rideErr b l w.1 w.2 := by unfold untilA; rw [if_neg hre]
    rw [this, neq_t hre, neq_t (rideErr_not3 b l w.1 w.2)]
    rfl
  obtain ⟨hg, hd, hr⟩ := rideErr_ok hre
  have hgn := hg.upto w.2
  have hgl := hgn.len
  have hul := upto_len l w.2
  have hdays : ∀ x ∈ upto l w.2, x.1 ≤ w.2 := fun x hx => by
    obtain ⟨i, hi, he⟩ := List.mem_iff_getElem.1 hx
    have := upto_day l w.2 i hi
    rw [gd_of (by rw [List.getElem?_eq_getElem hi, he])] at this
    exact this
  rw [g28_eq l w.2 hl]
  simp only [derefK_some]
  rw [lenK_in (n := ((upto l w.2).length : Int)) (by omega) (by omega), wI (x := ((upto l w.2).length : Int) + 60) (by omega) (by omega)]
  have hlim := chkR_le b (upto l w.2) w.1 b.1.length
  have hu : untilA b l w.1 w.2 = (if decide (w.2 ≤ min (chkR b (upto l w.2) w.1 b.1.length) (insR b (upto l w.2) w.1)) && soundB (upto l w.2) w.1 then (min (chkR b (upto l w.2) w.1 b.1.length) (insR b (upto l w.2) w.1), 0) else (0, 3)) := by
    unfold untilA
    rw [if_pos hre]
  rw [hu, wI (x := w.2 - 1) (by omega) (by omega)]
  by_cases hlong : ((upto l w.2).length : Int) + 60 > 100
  · rw [dec_t hlong]
    split <;> rfl
  rw [dec_f hlong]
  cases hok : decide (w.2 ≤ min (chkR b (upto l w.2) w.1 b.1.length) (insR b (upto l w.2) w.1)) && soundB (upto l w.2) w.1 with
  | true =>
    rw [Bool.and_eq_true, decide_eq_true_iff] at hok
    obtain ⟨r, e, hr2⟩ := L6_12_at b (upto l w.2) hgn w hd hr hp0 (by omega) hdays (min (chkR b (upto l w.2) w.1 b.1.length) (insR b (upto l w.2) w.1)) (by omega) (fun d _ _ => by rw [hok.2, Bool.and_true])
    rw [if_pos rfl]
    dsimp only
    rw [e]
    rcases hr2 with rfl | rfl
    · rfl
    · show cond (decide (min (chkR b (upto l w.2) w.1 b.1.length) (insR b (upto l w.2) w.1) ≥ IntKind.wrap .i64 (w.2 - 1))) _ _ = _
      rw [wI (x := w.2 - 1) (by omega) (by omega), dec_t (by omega), cond_true]
      show cond (decide (min (chkR b (upto l w.2) w.1 b.1.length) (insR b (upto l w.2) w.1) ≤ 10000)) _ _ = _
      rw [dec_t (by omega)]
      rfl
  | false =>
    obtain ⟨r, e, hr2⟩ := L6_12_at b (upto l w.2) hgn w hd hr hp0 (by omega) hdays (w.2 - 1) (by omega) (fun d h1 h2 => by
      obtain rfl : d = w.2 := by omega
      rw [hok, dec_f (by omega)])
    rw [if_neg (by simp)]
    dsimp only
    rw [e]
    rcases hr2 with rfl | rfl
    · rfl
    · show cond (decide (w.2 - 1 ≥ IntKind.wrap .i64 (w.2 - 1))) _ _ = _
      rw [wI (x := w.2 - 1) (by omega) (by omega), dec_t (by omega), cond_true]
      show cond (decide (w.2 - 1 ≤ 10000)) _ _ = _
      rw [dec_t (by omega)]
      rfl
end Go.Proofs.Try.V
