/- Plain laws of layer 10, sixteenth part: InspectForce. No condition beyond those typed in each theorem. -/
import Derived.Test.YtjkchkjdpcnmkaaLw15
namespace Go.Proofs.Try.V
open Go.Vi
set_option maxRecDepth 100000

/-! ## The entry that decides -/
def accB (ride : Int) (x : Ent) : Bool := x.2.1 == 6 && x.2.2.1 == ride
structure Hit (want : Ent → Bool) (ride : Int) (l : List Ent) (n i : Nat) : Prop where
  lt : i < n
  yes : want (gd l (i : Int)) = true
  no : ∀ j : Nat, i < j → j < n → want (gd l (j : Int)) = false ∧ accB ride (gd l (j : Int)) = false
theorem hit_last {want : Ent → Bool} {ride : Int} {l : List Ent} {i : Nat} : ∀ n, n ≤ l.length → Hit want ride l n i → lastE want ride (l.take n) = (gd l (i : Int)).1
  | 0, _, h => absurd h.lt (Nat.not_lt_zero _)
  | n + 1, hn, h => by
    rw [lastE_succ want ride (by omega)]
    by_cases hi : i = n
    · rw [← hi, if_pos h.yes]
    · have hl := h.lt
      obtain ⟨h1, h2⟩ := h.no n (by omega) (by omega)
      unfold accB at h2
      rw [h1, h2, if_neg (by simp), if_neg (by simp)]
      exact hit_last n (by omega) ⟨by omega, h.yes, fun j h3 h4 => h.no j h3 (by omega)⟩
theorem last_hit {want : Ent → Bool} {ride : Int} {l : List Ent} : ∀ n, n ≤ l.length → lastE want ride (l.take n) ≠ -1 → ∃ i, Hit want ride l n i
  | 0, _, h => absurd rfl h
  | n + 1, hn, h => by
    rw [lastE_succ want ride (by omega)] at h
    cases hw : want (gd l (n : Int)) with
    | true => exact ⟨n, by omega, hw, fun j h1 h2 => absurd h1 (by omega)⟩
    | false =>
      rw [hw, if_neg (by simp)] at h
      cases ha : accB ride (gd l (n : Int)) with
      | true =>
        unfold accB at ha
        rw [ha, if_pos rfl] at h
        exact absurd rfl h
      | false =>
        have ha' := ha
        unfold accB at ha
        rw [ha, if_neg (by simp)] at h
        obtain ⟨i, hi⟩ := last_hit n (by omega) h
        refine ⟨i, by have := hi.lt; omega, hi.yes, fun j h1 h2 => ?_⟩
        by_cases hj : j = n
        · rw [hj]
          exact ⟨hw, ha'⟩
        · exact hi.no j h1 (by omega)

/-! ## How many entries there are up to a day -/
theorem tw_stop {α : Type} [Inhabited α] (p : α → Bool) : ∀ l : List α, (l.takeWhile p).length < l.length → p (gd l ((l.takeWhile p).length : Int)) = false
  | [], h => absurd h (Nat.lt_irrefl _)
  | x :: r, h => by
    rw [List.takeWhile_cons] at h ⊢
    cases hp : p x with
    | false => exact hp
    | true =>
      rw [hp] at h
      simp only [if_true, List.length_cons] at h ⊢
      have e : gd (x :: r) (((r.takeWhile p).length + 1 : Nat) : Int) = gd r ((r.takeWhile p).length : Int) := by
        unfold gd
        rw [Int.toNat_natCast, Int.toNat_natCast]
        rfl
      rw [e]
      exact tw_stop p r (by omega)
def cnt (l : List Ent) (day : Int) : Nat := (upto l day).length
theorem cnt_le (l : List Ent) (day : Int) : cnt l day ≤ l.length := upto_len l day
theorem upto_cnt (l : List Ent) (day : Int) : upto l day = l.take (cnt l day) := by
  obtain ⟨k, e⟩ := upto_take l day
  unfold cnt
  rw [e, List.length_take, ← List.take_eq_take_min]
theorem gd_upto {l : List Ent} {day : Int} {j : Nat} (h : j < cnt l day) : gd (upto l day) (j : Int) = gd l (j : Int) := by
  have := cnt_le l day
  rw [upto_cnt, gd_take h (by omega)]
theorem cnt_iff {b : Book} {l : List Ent} (hf : Fit b l) (day : Int) {j : Nat} (hj : j < l.length) : j < cnt l day ↔ (gd l (j : Int)).1 ≤ day := by
  constructor
  · intro h
    have := upto_day l day j h
    rwa [gd_upto h] at this
  · intro h
    by_cases hc : j < cnt l day
    · exact hc
    · have h1 := tw_stop (fun x : Ent => decide (x.1 ≤ day)) l (by show cnt l day < _; omega)
      have h2 : ¬ (gd l ((cnt l day : Nat) : Int)).1 ≤ day := of_decide_eq_false h1
      have := hf.sorted (cnt l day) j (by omega) hj
      omega
theorem cnt_mono {b : Book} {l : List Ent} (hf : Fit b l) {d e : Int} (h : d ≤ e) : cnt l d ≤ cnt l e := by
  by_cases hc : cnt l d ≤ cnt l e
  · exact hc
  · have h1 := cnt_le l d
    have h2 := (cnt_iff hf d (j := cnt l e) (by omega)).1 (by omega)
    have h3 := (cnt_iff hf e (j := cnt l e) (by omega)).2 (by omega)
    exact absurd h3 (Nat.lt_irrefl _)

/-! ## Checks in force -/
theorem force_hit {b : Book} {l : List Ent} {rule day d : Int} (h : forceB b (upto l d) rule day = true) :
    ∃ i, Hit (wantC rule) (gd b.1 rule).1 l (cnt l d) i ∧ day - (gd l (i : Int)).1 < (gd b.1 rule).2.1 := by
  unfold forceB lastC at h
  rw [Bool.and_eq_true, decide_eq_true_iff, decide_eq_true_iff, upto_cnt] at h
  obtain ⟨i, hi⟩ := last_hit (want := wantC rule) (ride := (gd b.1 rule).1) (cnt l d) (cnt_le l d) (by omega)
  refine ⟨i, hi, ?_⟩
  rw [← hit_last _ (cnt_le l d) hi]
  exact h.2
theorem hit_force {b : Book} {l : List Ent} (hf : Fit b l) {rule day d : Int} {i : Nat} (hi : Hit (wantC rule) (gd b.1 rule).1 l (cnt l d) i) (h : day - (gd l (i : Int)).1 < (gd b.1 rule).2.1) : forceB b (upto l d) rule day = true := by
  unfold forceB lastC
  have := cnt_le l d
  have h1 := hi.lt
  have h2 := hf.day0 i (by omega)
  rw [upto_cnt, hit_last _ (cnt_le l d) hi, dec_t h2.1, dec_t h]
  rfl
theorem Hit.le {want : Ent → Bool} {ride : Int} {l : List Ent} {n m i : Nat} (h : Hit want ride l n i) (hm : m ≤ n) (hi : i < m) : Hit want ride l m i := ⟨hi, h.yes, fun j h1 h2 => h.no j h1 (by omega)⟩
/-- What is due, and not on the next day, has been checked on that. -/
theorem due_next {b : Book} {l : List Ent} (hf : Fit b l) {rule day : Int} (h1 : forceB b (upto l day) rule day = false) (h2 : forceB b (upto l (day + 1)) rule (day + 1) = true) :
    ∃ j : Nat, j < l.length ∧ wantC rule (gd l (j : Int)) = true ∧ (gd l (j : Int)).1 = day + 1 := by
  obtain ⟨i, hi, hd⟩ := force_hit h2
  have h3 := cnt_le l (day + 1)
  have h4 := hi.lt
  have h5 := (cnt_iff hf (day + 1) (j := i) (by omega)).1 h4
  refine ⟨i, by omega, hi.yes, ?_⟩
  by_cases h : (gd l (i : Int)).1 ≤ day
  · have h6 := (cnt_iff hf day (j := i) (by omega)).2 h
    have := hit_force hf (rule := rule) (day := day) (hi.le (cnt_mono hf (by omega)) h6) (by omega)
    rw [this] at h1
    cases h1
  · omega

/-! ## The loops -/
def sinceF (l : List Ent) (k : Nat) (rule : Int) : Nat → Int
  | 0 => -1
  | i + 1 => if decide (i < k) && wantC rule (gd l (i : Int)) then (gd l (i : Int)).1 else sinceF l k rule i
theorem since_hit {l : List Ent} {k : Nat} {rule ride : Int} {i : Nat} (h : Hit (wantC rule) ride l k i) : ∀ n, i < n → sinceF l k rule n = (gd l (i : Int)).1
  | 0, hn => absurd hn (Nat.not_lt_zero _)
  | n + 1, hn => by
    unfold sinceF
    by_cases hi : n = i
    · rw [hi, h.yes, dec_t h.lt]
      rfl
    · by_cases hk : n < k
      · rw [(h.no n (by omega) hk).1, Bool.and_false, if_neg (by simp)]
        exact since_hit h n (by omega)
      · rw [dec_f hk, Bool.false_and, if_neg (by simp)]
        exact since_hit h n (by omega)
theorem sinceF_succ (l : List Ent) (k : Nat) (rule : Int) (i : Nat) : sinceF l k rule (i + 1) = if decide (i < k) && wantC rule (gd l (i : Int)) then (gd l (i : Int)).1 else sinceF l k rule i := rfl
def nextB (l : List Ent) (rule day : Int) (i : Nat) : Bool := wantC rule (gd l (i : Int)) && (gd l (i : Int)).1 == day + 1
theorem L7_13_at (b : Book) (l : List Ent) (hl : l.length ≤ 100) (rule day : Int) (hd : 0 ≤ day ∧ day ≤ 10000) (u v : List Int) (N : Nat) (hN : l.length < N) :
    ∃ last : Int, L7_13 N ((l, day, upto l day, rule, -1, -1, 0, ()), (b, u, v, ()), ()) = some ((l, day, upto l day, rule, last, sinceF l (cnt l day) rule l.length, ()), (b, u, v, ()), ()) ∧ (last < 0 → ∀ j, j < l.length → nextB l rule day j = false) := by
  have hc := cnt_le l day
  obtain ⟨r, e, last, rfl, hlast⟩ := loop0 (L := L7_13) (fun i (s : Int) => ((l, day, upto l day, rule, s, sinceF l (cnt l day) rule i, (i : Int), ()), (b, u, v, ()), ()))
    (fun i s => s < 0 → ∀ j, j < i → nextB l rule day j = false) (fun r => ∃ last : Int, r = ((l, day, upto l day, rule, last, sinceF l (cnt l day) rule l.length, ()), (b, u, v, ()), ()) ∧ (last < 0 → ∀ j, j < l.length → nextB l rule day j = false)) 0 l.length (N := N) (s := -1)
    (fun _ j hj => absurd hj (Nat.not_lt_zero _)) (by omega)
    (fun N s hs => ⟨_, by simp only [L7_13, B7_13]; rw [dec_f (by omega)]; rfl, s, rfl, hs⟩)
    (fun N i s _ hi hs => by
      refine .inl ⟨if nextB l rule day i then (i : Int) else s, ?_, ?_⟩
      · intro h j hj
        by_cases hji : j = i
        · rw [hji]
          cases hn : nextB l rule day i with
          | false => rfl
          | true => rw [hn, if_pos rfl] at h; omega
        · refine hs ?_ j (by omega)
          split at h
          · omega
          · exact h
      · simp only [L7_13, B7_13]
        rw [dec_t (by omega), cond_true, getI_gd (by omega) (by omega), getI_gd (by omega) (by omega), getI_gd (by omega) (by omega), wI (x := (i : Int) + 1) (by omega) (by omega), wI (x := day + 1) (by omega) (by omega)]
        show _ = L7_13 N ((l, day, upto l day, rule, if nextB l rule day i then (i : Int) else s, sinceF l (cnt l day) rule (i + 1), ((i : Int) + 1), ()), (b, u, v, ()), ())
        by_cases hk : i < cnt l day
        · have hk' : (i : Int) < ((upto l day).length : Int) := by have : (upto l day).length = cnt l day := rfl; omega
          have g1 : ∀ {R : Type} (k : Ent → Option R), getI (upto l day) (i : Int) k = k (gd l (i : Int)) := fun k => by rw [getI_gd (by omega) hk', gd_upto hk]
          rw [dec_t hk']
          simp only [g1, cond_true]
          rw [sinceF_succ]
          generalize sinceF l (cnt l day) rule i = sv
          unfold nextB wantC
          rw [dec_t hk]
          cases (gd l (i : Int)).2.1 == 1 with
          | false => rfl
          | true =>
            cases (gd l (i : Int)).2.2.1 == rule with
            | false => rfl
            | true => cases (gd l (i : Int)).1 == day + 1 <;> rfl
        · have hk' : ¬ (i : Int) < ((upto l day).length : Int) := by have : (upto l day).length = cnt l day := rfl; omega
          rw [dec_f hk']
          rw [sinceF_succ]
          generalize sinceF l (cnt l day) rule i = sv
          unfold nextB wantC
          rw [dec_f hk]
          cases (gd l (i : Int)).2.1 == 1 with
          | false => rfl
          | true =>
            cases (gd l (i : Int)).2.2.1 == rule with
            | false => rfl
            | true => cases (gd l (i : Int)).1 == day + 1 <;> rfl)
  exact ⟨last, e, hlast⟩
theorem L7_25_at (b : Book) (l : List Ent) (hg : Good b l) (i : Nat) (hi : i < b.1.length) (day since : Int) (hd : day ≤ 9999) (hs : 0 ≤ since ∧ since ≤ day) (hf : ∀ d, since ≤ d → d < day → forceB b (upto l d) (i : Int) d = true) (u v : List Int) (N : Nat) (hN : 21 < N) :
    L7_25 N ((l, day, upto l day, (i : Int), since, since, ()), (b, u, v, ()), ()) = some (.inr ((l, day, upto l day, (i : Int), ()), (b, u, v, ()), ())) := by
  have hsz := (sized_of hg.book).rules
  obtain ⟨n, hn⟩ : ∃ n : Nat, (n : Int) = min day (since + 20) - since := ⟨(min day (since + 20) - since).toNat, by omega⟩
  have e := loopF (L := L7_25) (fun k => ((l, day, upto l day, (i : Int), since, since + (k : Int), ()), (b, u, v, ()), ())) (.inr ((l, day, upto l day, (i : Int), ()), (b, u, v, ()), ())) 0 n (N := N) (by omega)
    (fun N => by
      simp only [L7_25, B7_25]
      rw [wI (x := since + 20) (by omega) (by omega)]
      by_cases h : since + (n : Int) < day
      · rw [dec_t h, dec_f (p := since + (n : Int) < since + 20) (by omega)]
        rfl
      · rw [dec_f h]
        rfl)
    (fun N k _ hk => by
      have v1 := due_len b (upto l (since + (k : Int))) (since + (k : Int))
      simp only [L7_25, B7_25]
      rw [wI (x := since + 20) (by omega) (by omega), dec_t (by omega), cond_true, dec_t (by omega), cond_true, g29_eq, derefK_some, dayErr_good hg (by omega) (by omega), if_pos rfl]
      dsimp only
      rw [g21_eq _ (by omega), derefK_some, has_due _ _ _ hi, hf _ (by omega) (by omega), wI (by omega) (by omega), show since + (k : Int) + 1 = since + ((k + 1 : Nat) : Int) by omega]
      rfl)
  have e' : L7_25 N ((l, day, upto l day, (i : Int), since, since + ((0 : Nat) : Int), ()), (b, u, v, ()), ()) = _ := e
  rwa [show since + ((0 : Nat) : Int) = since by simp] at e'
theorem law7 (b : Book) (l : List Ent) (day : Int) : g7 (b, l, day, ()) = some ((true, ()), ()) := by
  show F7 fuel b l day = _
  unfold F7
  rw [g16_eq, derefK_some, works_eq]
  simp only [derefK_some]
  cases decide (30 < l.length ∧ l.length ≤ 100) with
  | true => rfl
  | false =>
  rw [cond_false]
  by_cases hn : day ≥ 10000
  · rw [dec_t hn]; rfl
  rw [dec_f hn, cond_false, g29_eq, derefK_some, g29_eq, derefK_some]
  by_cases hc : dayErr b l day = 0
  case neg =>
    show cond (dayErr b l day != 0) _ _ = _
    rw [neq_t hc]
    rfl
  obtain ⟨hg, hd⟩ := dayErr_ok hc
  have hlen := hg.len
  have hs := (sized_of hg.book).rules
  rw [wI (x := day + 1) (by omega) (by omega), hc, dayErr_good hg (day := day + 1) (by omega) (by omega), g28_eq l day (by omega)]
  simp only [if_true, derefK_some]
  show derefK (L7_9 fuel ((l, day, upto l day, 0, ()), (b, dueL b (upto l day) day, dueL b (upto l (day + 1)) (day + 1), ()), ())) _ = _
  have v1 := due_len b (upto l day) day
  have v2 := due_len b (upto l (day + 1)) (day + 1)
  have hf := hg.fit
  have e := loopF (L := L7_9) (fun i => ((l, day, upto l day, (i : Int), ()), (b, dueL b (upto l day) day, dueL b (upto l (day + 1)) (day + 1), ()), ())) (.inr ((), (), ())) 200 b.1.length (N := fuel) (by have := fuel_ge; omega)
    (fun N => by simp [L7_9, B7_9])
    (fun N i hN hi => by
      simp only [L7_9, B7_9]
      obtain ⟨last, e, hlast⟩ := L7_13_at b l hlen (i : Int) day (by omega) (dueL b (upto l day) day) (dueL b (upto l (day + 1)) (day + 1)) N (by omega)
      rw [dec_t (by omega), cond_true, e, derefK_some]
      dsimp only
      rw [g21_eq _ (by omega), g21_eq _ (by omega), has_due _ _ _ hi, has_due _ _ _ hi]
      simp only [derefK_some]
      rw [wI (x := (i : Int) + 1) (by omega) (by omega)]
      cases h1 : forceB b (upto l day) (i : Int) day with
      | false =>
        cases h2 : forceB b (upto l (day + 1)) (i : Int) (day + 1) with
        | false => rfl
        | true =>
          obtain ⟨j, hj, hw, hj1⟩ := due_next hf h1 h2
          have : ¬ last < 0 := fun h => by
            have := hlast h j hj
            unfold nextB at this
            rw [hw, hj1] at this
            simp at this
          rw [dec_f this]
          rfl
      | true =>
        obtain ⟨q, hq, hqd⟩ := force_hit h1
        have hq1 := hq.lt
        have hq2 := cnt_le l day
        have hq3 := (cnt_iff hf day (j := q) (by omega)).1 hq1
        have hq4 := hf.day0 q (by omega)
        rw [since_hit hq _ (by omega)]
        have e2 := L7_25_at b l hg i hi day (gd l (q : Int)).1 (by omega) ⟨hq4.1, hq3⟩ (fun d h3 h4 => hit_force hf (hq.le (cnt_mono hf (by omega)) ((cnt_iff hf d (by omega)).2 h3)) (by omega)) (dueL b (upto l day) day) (dueL b (upto l (day + 1)) (day + 1)) N (by omega)
        simp only [Bool.not_true, cond_false, Bool.not_false]
        rw [dec_f (p := (gd l (q : Int)).1 < 0) (by omega), getI_gd (by omega) (by omega), wI (x := day - (gd l (q : Int)).1) (by omega) (by omega), dec_f (p := day - (gd l (q : Int)).1 ≥ (gd b.1 (i : Int)).2.1) (by omega), e2, cond_false, cond_false, derefK_some, sumK_inr]
        dsimp only
        rw [wI (x := (i : Int) + 1) (by omega) (by omega)]
        rfl)
  have e' : L7_9 fuel ((l, day, upto l day, 0, ()), (b, dueL b (upto l day) day, dueL b (upto l (day + 1)) (day + 1), ()), ()) = _ := e
  rw [e']
  rfl
end Go.Proofs.Try.V
