/- Plain laws of layer 10, eighteenth part: InspectFewest. No condition beyond those typed in each theorem. -/
import Derived.Test.YtjkchkjdpcnmkaaLw17
namespace Go.Proofs.Try.V
open Go.Vi
set_option maxRecDepth 100000

/-! ## The least Every -/
theorem everyF_min {b : Book} (hb : bookOK b = true) (ride : Int) : ∀ n, n ≤ b.1.length → ∀ r : Nat, r < n → (gd b.1 (r : Int)).1 = ride → 0 < everyF b ride n ∧ everyF b ride n ≤ (gd b.1 (r : Int)).2.1
  | 0, _, r, h, _ => absurd h (Nat.not_lt_zero _)
  | n + 1, hn, r, h, he => by
    have hr := rule_in hb (ruleB_of (b := b) (i := n) (by omega))
    have hin := everyF_in hb ride n (by omega)
    rw [everyF_succ]
    by_cases hrn : r = n
    · rw [hrn] at he ⊢
      have he' : ((gd b.1 (n : Int)).1 == ride) = true := by rw [he]; simp
      rw [he']
      cases h0 : everyF b ride n == 0 with
      | true =>
        rw [if_pos (by simp)]
        omega
      | false =>
        by_cases hlt : (gd b.1 (n : Int)).2.1 < everyF b ride n
        · rw [dec_t hlt, if_pos (by simp)]
          omega
        · rw [dec_f hlt, if_neg (by simp)]
          have : ¬ everyF b ride n = 0 := fun h => by rw [h] at h0; cases h0
          omega
    · have ih := everyF_min hb ride n (by omega) r (by omega) he
      cases h1 : (gd b.1 (n : Int)).1 == ride with
      | false =>
        rw [if_neg (by simp)]
        exact ih
      | true =>
        have h0 : (everyF b ride n == 0) = false := by simp; omega
        rw [h0]
        by_cases hlt : (gd b.1 (n : Int)).2.1 < everyF b ride n
        · rw [dec_t hlt, if_pos (by simp)]
          omega
        · rw [dec_f hlt, if_neg (by simp)]
          exact ih
theorem everyF_is {b : Book} (ride : Int) : ∀ n, everyF b ride n = 0 ∨ ∃ r : Nat, r < n ∧ (gd b.1 (r : Int)).1 = ride ∧ (gd b.1 (r : Int)).2.1 = everyF b ride n
  | 0 => .inl rfl
  | n + 1 => by
    rw [everyF_succ]
    split
    · rename_i h
      simp only [Bool.and_eq_true] at h
      exact .inr ⟨n, by omega, eq_of_beq h.1, rfl⟩
    · rcases everyF_is (b := b) ride n with h | ⟨r, h1, h2, h3⟩
      · exact .inl h
      · exact .inr ⟨r, by omega, h2, h3⟩

/-! ## Days that cover -/
def inB (a d every : Int) (x : Int) : Bool := decide (a ≤ x) && (decide (x ≤ d) && decide (d - x < every))
def covB (b : Book) (ride a t : Int) (days : List Int) (r : Nat) : Bool := (gd b.1 (r : Int)).1 != ride || (List.range (t - a + 1).toNat).all fun k => days.any (inB a (a + (k : Int)) (gd b.1 (r : Int)).2.1)
def coverB (b : Book) (ride a t : Int) (days : List Int) : Bool := (List.range b.1.length).all (covB b ride a t days)
theorem coverB_iff {b : Book} {ride a t : Int} {days : List Int} : coverB b ride a t days = true ↔ ∀ r : Nat, r < b.1.length → (gd b.1 (r : Int)).1 = ride → ∀ d, a ≤ d → d ≤ t → ∃ x ∈ days, a ≤ x ∧ x ≤ d ∧ d - x < (gd b.1 (r : Int)).2.1 := by
  unfold coverB
  rw [List.all_eq_true]
  constructor
  · intro h r hr he d h1 h2
    have := h r (List.mem_range.2 hr)
    unfold covB at this
    rw [he, bne_self_eq_false, Bool.false_or, List.all_eq_true] at this
    have := this (d - a).toNat (List.mem_range.2 (by omega))
    rw [List.any_eq_true] at this
    obtain ⟨x, hx, hi⟩ := this
    unfold inB at hi
    simp only [Bool.and_eq_true, decide_eq_true_eq] at hi
    exact ⟨x, hx, by omega, by omega, by omega⟩
  · intro h r hr
    have hr := List.mem_range.1 hr
    unfold covB
    by_cases he : (gd b.1 (r : Int)).1 = ride
    · rw [he, bne_self_eq_false, Bool.false_or, List.all_eq_true]
      intro k hk
      have hk := List.mem_range.1 hk
      obtain ⟨x, hx, h1, h2, h3⟩ := h r hr he (a + (k : Int)) (by omega) (by omega)
      rw [List.any_eq_true]
      refine ⟨x, hx, ?_⟩
      unfold inB
      rw [dec_t h1, dec_t h2, dec_t h3]
      rfl
    · rw [neq_t he, Bool.true_or]
theorem L38_9_at (b : Book) (s : Int × (Int × Int)) (days : List Int) (hl : days.length ≤ 1048576) (r : Nat) (hr : r < b.1.length) (d : Int) (ha : 0 ≤ s.2.1) (hd : d ≤ 20000) (N : Nat) (hN : 1048576 < N) :
    L38_9 N ((days, (r : Int), d, false, 0, ()), (b, s, ()), ()) = some ((days, (r : Int), d, days.any (inB s.2.1 d (gd b.1 (r : Int)).2.1), ()), (b, s, ()), ()) := by
  have e := loopF (L := L38_9) (fun i => ((days, (r : Int), d, (days.take i).any (inB s.2.1 d (gd b.1 (r : Int)).2.1), (i : Int), ()), (b, s, ()), ())) ((days, (r : Int), d, days.any (inB s.2.1 d (gd b.1 (r : Int)).2.1), ()), (b, s, ()), ()) 0 days.length (N := N) (by omega)
    (fun N => by simp [L38_9, B38_9])
    (fun N i _ hi => by
      simp only [L38_9, B38_9]
      have g1 : ∀ {R : Type} (k : Int → Option R), getI days (i : Int) k = k (gd days (i : Int)) := fun k => getI_gd (by omega) (by omega) k
      simp only [g1]
      rw [dec_t (by omega), cond_true, wI (x := (i : Int) + 1) (by omega) (by omega), take_nat hi, List.any_append, List.any_cons, List.any_nil, Bool.or_false, getI_gd (by omega) (by omega)]
      cases (days.take i).any (inB s.2.1 d (gd b.1 (r : Int)).2.1) with
      | true => rfl
      | false =>
        rw [Bool.false_or]
        unfold inB
        by_cases h1 : s.2.1 ≤ gd days (i : Int)
        · rw [dec_t (p := gd days (i : Int) ≥ s.2.1) h1]
          by_cases h2 : gd days (i : Int) ≤ d
          · rw [dec_t h2, wI (x := d - gd days (i : Int)) (by omega) (by omega)]
            rfl
          · rw [dec_f h2]
            rfl
        · rw [dec_f (p := gd days (i : Int) ≥ s.2.1) h1]
          rfl)
  exact e
theorem g38_eq (b : Book) (hb : Sized b) (s : Int × (Int × Int)) (days : List Int) (hl : days.length ≤ 1048576) (ha : 0 ≤ s.2.1) (hat : s.2.1 ≤ s.2.2) (ht : s.2.2 ≤ 10000) :
    g38 (b, s, days, ()) = some ((coverB b s.1 s.2.1 s.2.2 days, ()), ()) := by
  show F38 fuel b s days = _
  unfold F38
  have hs := hb.rules
  have e := loopAll (L := L38_2) (fun i => ((days, (i : Int), ()), (b, s, ()), ())) (List.range b.1.length) (covB b s.1 s.2.1 s.2.2 days) (.inl ((false, ()), (), ())) (.inr ((), (), ())) 2097152 (N := fuel) (by have := fuel_ge; rw [List.length_range]; omega)
    (fun N => by simp [L38_2, B38_2])
    (fun N i hN hi => by
      rw [List.length_range] at hi
      rw [gd_range hi]
      simp only [L38_2, B38_2]
      rw [dec_t (by omega), cond_true]
      unfold covB
      cases he : (gd b.1 (i : Int)).1 == s.1 with
      | false =>
        obtain ⟨m, rfl⟩ : ∃ m, N = m + 1 := ⟨N - 1, by omega⟩
        have : L38_5 (m + 1) ((days, (i : Int), s.2.1, ()), (b, s, ()), ()) = some (.inr ((days, (i : Int), ()), (b, s, ()), ())) := by
          simp only [L38_5, B38_5]
          rw [dec_t hat, cond_true, getI_gd (by omega) (by omega), he]
          rfl
        rw [this]
        unfold bne
        rw [he, derefK_some, sumK_inr, wI (x := (i : Int) + 1) (by omega) (by omega)]
        rfl
      | true =>
        have e5 := loopAll (L := L38_5) (fun k => ((days, (i : Int), s.2.1 + (k : Int), ()), (b, s, ()), ())) (List.range (s.2.2 - s.2.1 + 1).toNat) (fun k => days.any (inB s.2.1 (s.2.1 + (k : Int)) (gd b.1 (i : Int)).2.1)) (.inl ((false, ()), (), ())) (.inr ((days, (i : Int), ()), (b, s, ()), ())) 1048577 (N := N) (by rw [List.length_range]; omega)
          (fun M => by
            simp only [L38_5, B38_5, List.length_range]
            rw [dec_f (by omega)]
            rfl)
          (fun M k hM hk => by
            rw [List.length_range] at hk
            rw [gd_range hk]
            simp only [L38_5, B38_5]
            rw [dec_t (by omega), cond_true, getI_gd (by omega) (by omega), he, cond_true, L38_9_at b s days hl i hi _ ha (by omega) M (by omega), derefK_some]
            dsimp only
            rw [wI (by omega) (by omega), show s.2.1 + (k : Int) + 1 = s.2.1 + ((k + 1 : Nat) : Int) by omega]
            cases days.any (inB s.2.1 (s.2.1 + (k : Int)) (gd b.1 (i : Int)).2.1) <;> rfl)
        have e5' : L38_5 N ((days, (i : Int), s.2.1 + ((0 : Nat) : Int), ()), (b, s, ()), ()) = _ := e5
        rw [show s.2.1 + ((0 : Nat) : Int) = s.2.1 by simp] at e5'
        rw [e5']
        unfold bne
        rw [he, Bool.not_true, Bool.false_or]
        cases (List.range (s.2.2 - s.2.1 + 1).toNat).all fun k => days.any (inB s.2.1 (s.2.1 + (k : Int)) (gd b.1 (i : Int)).2.1) with
        | false => rfl
        | true =>
          rw [if_pos rfl, if_pos rfl, derefK_some, sumK_inr]
          dsimp only
          rw [wI (x := (i : Int) + 1) (by omega) (by omega)]
          rfl)
  have e' : L38_2 fuel ((days, 0, ()), (b, s, ()), ()) = _ := e
  rw [e', derefK_some]
  unfold coverB
  cases (List.range b.1.length).all (covB b s.1 s.2.1 s.2.2 days) <;> rfl

/-! ## Enough, and not fewer -/
theorem vis_cover {b : Book} (hb : bookOK b = true) {ride a t : Int} (h : a ≤ t) : coverB b ride a t (vis a (everyF b ride b.1.length) (many a t (everyF b ride b.1.length))) = true := by
  rw [coverB_iff]
  intro r hr he d h1 h2
  obtain ⟨h0, h3⟩ := everyF_min hb ride _ (Nat.le_refl _) r hr he
  generalize everyF b ride b.1.length = ev at h0 h3 ⊢
  have h4 : 0 ≤ (d - a) / ev := Int.ediv_nonneg (by omega) (by omega)
  have h5 := Int.mul_ediv_add_emod (d - a) ev
  have h6 := Int.emod_nonneg (d - a) (show ev ≠ 0 by omega)
  have h7 := Int.emod_lt_of_pos (d - a) h0
  have h8 : (((d - a) / ev).toNat : Int) = (d - a) / ev := by omega
  refine ⟨a + ev * (((d - a) / ev).toNat : Int), ?_, ?_, ?_, ?_⟩
  · unfold vis
    refine List.mem_map.2 ⟨((d - a) / ev).toNat, List.mem_range.2 ((many_iff h h0 _).1 ?_), rfl⟩
    rw [h8]
    omega
  · rw [h8]
    have : 0 ≤ ev * ((d - a) / ev) := Int.mul_nonneg (by omega) h4
    omega
  · rw [h8]
    omega
  · rw [h8]
    omega
theorem apart_le {ev lo : Int} (h0 : 0 < ev) : ∀ (m : Nat) (o : List Int), (∀ k : Nat, k < m → ∃ x ∈ o, lo + ev * (k : Int) - ev < x ∧ x ≤ lo + ev * (k : Int)) → m ≤ o.length
  | 0, _, _ => Nat.zero_le _
  | m + 1, o, h => by
    have ih := apart_le h0 m (o.filter fun x => decide (x ≤ lo + ev * (m : Int) - ev)) (fun k hk => by
      obtain ⟨x, hx, h1, h2⟩ := h k (by omega)
      refine ⟨x, List.mem_filter.2 ⟨hx, decide_eq_true ?_⟩, h1, h2⟩
      have : ev * (k : Int) + ev ≤ ev * (m : Int) := by
        have := Int.mul_le_mul_of_nonneg_left (show (k : Int) + 1 ≤ (m : Int) by omega) (show 0 ≤ ev by omega)
        rw [Int.mul_add, Int.mul_one] at this
        exact this
      omega)
    obtain ⟨x, hx, h1, h2⟩ := h m (by omega)
    have : (o.filter fun x => decide (x ≤ lo + ev * (m : Int) - ev)).length < o.length := List.length_filter_lt_length_iff_exists.2 ⟨x, hx, by simp; omega⟩
    omega
theorem cover_many {b : Book} {ride a t : Int} {o : List Int} (h : a ≤ t) (hc : coverB b ride a t o = true) : many a t (everyF b ride b.1.length) ≤ o.length := by
  rw [coverB_iff] at hc
  by_cases h0 : 0 < everyF b ride b.1.length
  · rcases everyF_is (b := b) ride b.1.length with h1 | ⟨r, hr, he, hev⟩
    · omega
    · refine apart_le (ev := everyF b ride b.1.length) (lo := a) h0 _ o fun k hk => ?_
      have hk2 := (many_iff h h0 k).2 hk
      have : 0 ≤ everyF b ride b.1.length * (k : Int) := Int.mul_nonneg (by omega) (by omega)
      obtain ⟨x, hx, h1, h2, h3⟩ := hc r hr he (a + everyF b ride b.1.length * (k : Int)) (by omega) hk2
      exact ⟨x, hx, by omega, h2⟩
  · unfold many
    rw [if_neg h0]
    exact Nat.zero_le _
theorem law12 (b : Book) (s : Int × (Int × Int)) (o : List Int) (hl : o.length ≤ 1048576) : g12 (b, s, o, ()) = some ((true, ()), ()) := by
  show F12 fuel b s o = _
  unfold F12
  rw [works_eq]
  simp only [derefK_some]
  by_cases hw : s.2.2 > IntKind.wrap .i64 (s.2.1 + 100)
  · rw [dec_t hw]; rfl
  rw [dec_f hw, cond_false, g34_eq, derefK_some]
  by_cases hv : (visitsR b s.1 s.2.1 s.2.2).2 = 0
  case neg =>
    show cond ((visitsR b s.1 s.2.1 s.2.2).2 != 0) _ _ = _
    rw [neq_t hv]
    rfl
  unfold visitsR at hv ⊢
  cases hb : bookOK b with
  | false => rw [hb, if_neg (by simp)] at hv; cases hv
  | true =>
  rw [hb, if_pos rfl] at hv
  cases hr : rideB b s.1 && rng s.2.2 0 10000 && rng s.2.1 0 s.2.2 with
  | false => rw [hr, if_neg (by simp)] at hv; cases hv
  | true =>
  rw [hr, if_pos rfl] at hv
  rw [if_pos rfl, if_pos rfl]
  by_cases hm : many s.2.1 s.2.2 (everyF b s.1 b.1.length) ≤ 1000
  case neg => rw [if_neg hm] at hv; cases hv
  rw [if_pos hm]
  simp only [Bool.and_eq_true] at hr
  have h1 := rng_iff.1 hr.1.2
  have h2 := rng_iff.1 hr.2
  have hsz := sized_of hb
  have hvl := vis_len s.2.1 (everyF b s.1 b.1.length) (many s.2.1 s.2.2 (everyF b s.1 b.1.length))
  show derefK (g38 (b, s, vis s.2.1 (everyF b s.1 b.1.length) (many s.2.1 s.2.2 (everyF b s.1 b.1.length)), ())) _ = _
  rw [g38_eq b hsz s _ (by omega) h2.1 h2.2 h1.2, derefK_some, vis_cover hb h2.2, g38_eq b hsz s o hl h2.1 h2.2 h1.2, derefK_some]
  dsimp only
  rw [cond_true]
  cases hc : coverB b s.1 s.2.1 s.2.2 o with
  | false => rfl
  | true =>
    have := cover_many h2.2 hc
    rw [dec_t (by omega)]
    rfl
end Go.Proofs.Try.V
