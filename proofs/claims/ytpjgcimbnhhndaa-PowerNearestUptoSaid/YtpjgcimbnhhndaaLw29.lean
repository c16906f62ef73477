/- Plain laws of layer 5, twenty-ninth part: what is told of the breakers that open. No condition beyond those typed in each theorem. -/
import Derived.Test.YtpjgcimbnhhndaaLw28
namespace Go.Proofs.Try.V
open Go.Vi
set_option maxRecDepth 100000

theorem bO_inj {n k j : Nat} (hk : k ≤ n) (hj : j ≤ n) (h : bO n k = bO n j) : k = j := by
  unfold bO at h
  by_cases h1 : k = n <;> by_cases h2 : j = n <;> simp only [h1, h2, if_true, if_false] at h <;> omega
theorem fil_pw (q : Nat → Bool) : ∀ n, (fil q n).Pairwise (· < ·) ∧ ∀ x ∈ fil q n, ∃ k : Nat, x = (k : Int) ∧ k < n ∧ q k = true
  | 0 => ⟨List.Pairwise.nil, fun x h => by cases h⟩
  | n + 1 => by
    obtain ⟨h1, h2⟩ := fil_pw q n
    rw [fil_step]
    by_cases hq : q n = true
    · rw [if_pos hq]
      refine ⟨List.pairwise_append.2 ⟨h1, List.pairwise_singleton _ _, fun x hx y hy => ?_⟩, fun x hx => ?_⟩
      · obtain ⟨k, rfl, hk, _⟩ := h2 x hx
        obtain rfl : y = (n : Int) := by simpa using hy
        omega
      · rcases List.mem_append.1 hx with h | h
        · obtain ⟨k, rfl, hk, hqk⟩ := h2 x h
          exact ⟨k, rfl, by omega, hqk⟩
        · obtain rfl : x = (n : Int) := by simpa using h
          exact ⟨n, rfl, by omega, hq⟩
    · rw [if_neg hq]
      exact ⟨h1, fun x hx => by
        obtain ⟨k, rfl, hk, hqk⟩ := h2 x hx
        exact ⟨k, rfl, by omega, hqk⟩⟩
/-- Who is told in a tick. -/
def told (q : Nat → Bool) (n : Nat) : List Int := if q n = true then -1 :: fil q n else fil q n
theorem told_mem {q : Nat → Bool} {n : Nat} : ∀ x ∈ told q n, ∃ k : Nat, x = bO n k ∧ k ≤ n ∧ q k = true := fun x hx => by
  unfold told at hx
  have hf : x ∈ fil q n → ∃ k : Nat, x = bO n k ∧ k ≤ n ∧ q k = true := fun h => by
    obtain ⟨k, rfl, hk, hq⟩ := (fil_pw q n).2 x h
    exact ⟨k, by unfold bO; rw [if_neg (by omega)], by omega, hq⟩
  by_cases h : q n = true
  · rw [if_pos h] at hx
    rcases List.mem_cons.1 hx with rfl | hx
    · exact ⟨n, by unfold bO; rw [if_pos rfl], Nat.le_refl _, h⟩
    · exact hf hx
  · rw [if_neg h] at hx
    exact hf hx
theorem told_pw (q : Nat → Bool) (n : Nat) : (told q n).Pairwise (· ≠ ·) := by
  obtain ⟨h1, h2⟩ := fil_pw q n
  have h3 : (fil q n).Pairwise (· ≠ ·) := h1.imp fun h => by omega
  unfold told
  split
  · refine List.pairwise_cons.2 ⟨fun x hx => ?_, h3⟩
    obtain ⟨k, rfl, _, _⟩ := h2 x hx
    omega
  · exact h3
/-- What is so whenever a breaker opens. -/
structure Good (s : Sup) (l : List Swi) (τ k : Nat) : Prop where
  le : dly s (bO s.1.length k) ≤ τ
  all : ∀ i : Nat, (τ : Int) - dly s (bO s.1.length k) ≤ i → i ≤ τ → ovr s (setT s l i) (bO s.1.length k) = true
  sel : ∀ j : Nat, j < s.1.length → (gd s.1 (j : Int)).1 = bO s.1.length k → (gd s.1 (j : Int)).2.2.1 < dly s (bO s.1.length k) → ∃ i : Nat, (τ : Int) - dly s (bO s.1.length k) ≤ i ∧ i ≤ τ ∧ ovr s (setT s l i) (j : Int) = false
theorem opn_good {s : Sup} (hs : okS s = true) {ticks : Int} {l : List Swi} (hx : l.all (okX s ticks) = true) (hno : NoAgn l) {t k : Nat} (hk : k ≤ s.1.length) (ho : opn s (setT s l t) (ply s l t).ov k = true) :
    ovr s (setT s l t) (bO s.1.length k) = true ∧ Good s l t k := by
  have hb : bO s.1.length k < s.1.length := by unfold bO; split <;> omega
  have hd := dly_bd hs hb
  obtain ⟨⟨i1, i2, i3⟩, i4⟩ := cnt_inv hs hx hk t
  unfold opn at ho
  rw [decide_eq_true_iff, ov1_ovr] at ho
  have hv : ovr s (setT s l t) (bO s.1.length k) = true := by
    cases h : ovr s (setT s l t) (bO s.1.length k) with
    | true => rfl
    | false => rw [h, if_neg (by simp)] at ho; omega
  rw [if_pos hv] at ho
  refine ⟨hv, by omega, fun i h1 h2 => ?_, fun j hj hp hdj => ?_⟩
  · by_cases e : i = t
    · rw [e]; exact hv
    · exact i4 i (by omega) (by omega)
  · refine Classical.byContradiction fun hne => ?_
    have hall : ∀ i : Nat, (t : Int) - dly s (bO s.1.length k) ≤ i → i ≤ t → ovr s (setT s l i) (j : Int) = true := fun i h1 h2 => by
      cases h : ovr s (setT s l i) (j : Int) with
      | true => rfl
      | false => exact absurd ⟨i, h1, h2, h⟩ hne
    have hbj : bO s.1.length j = (j : Int) := by unfold bO; rw [if_neg (by omega)]
    have hdl : dly s (j : Int) = (gd s.1 (j : Int)).2.2.1 := by unfold dly; rw [if_neg (by omega)]
    obtain ⟨D, hD⟩ : ∃ D : Nat, dly s (bO s.1.length k) = (D : Int) := ⟨(dly s (bO s.1.length k)).toNat, by omega⟩
    have hge := cnt_ge hs hx hno (k := j) (by omega) (t - D) D (fun i h1 h2 => by rw [hbj]; exact hall i (by omega) (by omega))
    rw [show t - D + D = t by omega] at hge
    have hc := (ovr_closed hs hx hno (k := j) (by omega) (by rw [hbj]; exact hall t (by omega) (Nat.le_refl _))).1
    have hcj := (cnt_inv hs hx (k := j) (by omega) t).1.2.1
    rw [hbj] at hcj
    rcases hge with h | h
    · rw [hc] at h; cases h
    · omega
structure TInv (s : Sup) (l : List Swi) (t : Nat) (tr : List (Int × Int)) : Prop where
  ok : ∀ x ∈ tr, ∃ τ k : Nat, x = ((τ : Int), bO s.1.length k) ∧ τ < t ∧ k ≤ s.1.length ∧ gd (ply s l t).cl (k : Int) = false ∧ Good s l τ k
  pw : tr.Pairwise fun x y => x.2 ≠ y.2
theorem trips_succ {s : Sup} (hs : okS s = true) {ticks : Int} {l : List Swi} (hx : l.all (okX s ticks) = true) (t : Nat) : (ply s l (t + 1)).trips = (ply s l t).trips ++ (told (opn s (setT s l t) (ply s l t).ov) s.1.length).map fun b => ((t : Int), b) := by
  show (ply s l t).trips ++ (fixO s.1.length (tickB s l (t : Int) (ply s l t)).2.2).map (fun b => ((t : Int), b)) = _
  rw [tickB_op (okS_le hs) hx t, fixO_fil]
  rfl
theorem tInv_zero (s : Sup) (l : List Swi) : TInv s l 0 (ply s l 0).trips := ⟨fun x h => absurd h (by show x ∉ ([] : List (Int × Int)); simp), List.Pairwise.nil⟩
theorem tInv_all {s : Sup} (hs : okS s = true) {ticks : Int} {l : List Swi} (hx : l.all (okX s ticks) = true) (hno : NoAgn l) : ∀ t, TInv s l t (ply s l t).trips
  | 0 => tInv_zero s l
  | t + 1 => by
    have ih := tInv_all hs hx hno t
    have hl := okS_le hs
    have hp := ply_ok hl hx t
    rw [trips_succ hs hx t]
    have hnew : ∀ x ∈ (told (opn s (setT s l t) (ply s l t).ov) s.1.length).map (fun b => ((t : Int), b)), ∃ k : Nat, x = ((t : Int), bO s.1.length k) ∧ k ≤ s.1.length ∧ opn s (setT s l t) (ply s l t).ov k = true := fun x h => by
      obtain ⟨b, hb, rfl⟩ := List.mem_map.1 h
      obtain ⟨k, rfl, hk, hq⟩ := told_mem b hb
      exact ⟨k, rfl, hk, hq⟩
    refine ⟨fun x h => ?_, List.pairwise_append.2 ⟨ih.pw, ?_, fun x h y hy => ?_⟩⟩
    · rcases List.mem_append.1 h with h | h
      · obtain ⟨τ, k, e, h1, h2, h3, h4⟩ := ih.ok x h
        refine ⟨τ, k, e, by omega, h2, ?_, h4⟩
        rw [(at_succ hs hx t h2).1]
        split
        · rfl
        · cases hc : gd (tickSt s l (t : Int) (ply s l t)).2 (k : Int) with
          | false => rfl
          | true =>
            rcases trnK_close hl hx (t : Int) (st := ((ply s l t).on, (ply s l t).cl)) ⟨hp.on, hp.cl⟩ h2 l.length (Nat.le_refl _) hc with h5 | h5
            · have h5 : gd (ply s l t).cl (k : Int) = true := h5
              rw [h3] at h5; cases h5
            · rw [noAgn hno] at h5; cases h5
      · obtain ⟨k, e, hk, hq⟩ := hnew x h
        exact ⟨t, k, e, by omega, hk, by rw [(at_succ hs hx t hk).1, if_pos hq], (opn_good hs hx hno hk hq).2⟩
    · rw [List.pairwise_map]
      exact told_pw _ _
    · obtain ⟨τ, k, rfl, _, hk, hc, _⟩ := ih.ok x h
      obtain ⟨j, rfl, hj, hq⟩ := hnew y hy
      intro e
      obtain rfl := bO_inj hk hj e
      have := (ovr_closed hs hx hno hk (opn_good hs hx hno hk hq).1).1
      rw [hc] at this
      cases this
/-- Whether a board is overloaded in all ticks from one to another one. -/
def alw (s : Sup) (l : List Swi) (b : Int) (a n : Nat) : Bool := (List.range n).all fun i => ovr s (setT s l (a + i)) b
theorem g33_eq {s : Sup} (hs : okS s = true) {l : List Swi} {T : Nat} (hT : T ≤ 1000) {b : Int} (hb : b < s.1.length) {a n : Nat} (h : a + n ≤ T) (h0 : 0 < n) : g33 (s, (ply s l T).rows, b, (a : Int), ((a + n - 1 : Nat) : Int), ()) = some ((alw s l b a n, ()), ()) := by
  show F33 fuel s (ply s l T).rows b (a : Int) ((a + n - 1 : Nat) : Int) = _
  unfold F33
  have hf := fuel_ge
  have hp := pow16 (okS_le hs).2
  have hrl := rows_len s l T
  have e := loopNum (L := L33_2) (fun i => (((ply s l T).rows, b, ((a + n - 1 : Nat) : Int), ((a + i : Nat) : Int), ()), (s, ()), ())) n (fun i => ovr s (setT s l (a + i)) b) (.inl ((false, ()), (), ())) (.inr ((), (), ())) 0 (N := fuel) (by omega)
    (fun N => by
      simp only [L33_2, B33_2]
      rw [dec_f (by omega)]
      rfl)
    (fun N i _ hi => by
      have hlt := set_lt s l ((a + i : Nat) : Int) (ply s l (a + i))
      simp only [L33_2, B33_2]
      rw [dec_t (by omega), cond_true, getI_gd (by omega) (by omega), rows_gd s l (show a + i < T by omega), g24_eq hs (by omega) hb, derefK_some, wI (by omega) (by omega), show ((a + i : Nat) : Int) + 1 = ((a + (i + 1) : Nat) : Int) by omega]
      show (bif !ovr s (setT s l (a + i)) b then _ else _) = _
      cases ovr s (setT s l (a + i)) b <;> rfl)
  have e' : L33_2 fuel (((ply s l T).rows, b, ((a + n - 1 : Nat) : Int), (a : Int), ()), (s, ()), ()) = _ := e
  rw [e', derefK_some]
  unfold alw
  cases (List.range n).all fun i => ovr s (setT s l (a + i)) b <;> rfl
end Go.Proofs.Try.V
