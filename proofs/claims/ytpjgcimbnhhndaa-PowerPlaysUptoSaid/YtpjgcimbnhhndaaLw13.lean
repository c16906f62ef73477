/- Plain laws of layer 5, thirteenth part: what a tick does to one board; no board is overloaded for long. No condition beyond those typed in each theorem. -/
import Derived.Test.YtpjgcimbnhhndaaLw12
namespace Go.Proofs.Try.V
open Go.Vi
set_option maxRecDepth 100000

/-- Whether a board's breaker opens. -/
def opn (s : Sup) (S : Nat) (ov : List Int) (k : Nat) : Bool := decide (ov1 s S ov k > dly s (bO s.1.length k))
theorem ov1_eq {s : Sup} {S : Nat} {ov ov' : List Int} {k : Nat} (h : gd ov (k : Int) = gd ov' (k : Int)) : ov1 s S ov k = ov1 s S ov' k := by
  unfold ov1
  rw [h]
theorem brdK_at {s : Sup} {S : Nat} {q : (List Bool) × ((List Int) × (List Int))} (h1 : q.1.length = s.1.length + 1) (h2 : q.2.1.length = s.1.length + 1) : ∀ m, m ≤ s.1.length + 1 →
    (brdK s S q m).1.length = s.1.length + 1 ∧ (brdK s S q m).2.1.length = s.1.length + 1 ∧
    (∀ j : Nat, gd (brdK s S q m).1 (j : Int) = if j < m ∧ opn s S q.2.1 j = true then false else gd q.1 (j : Int)) ∧
    (∀ j : Nat, gd (brdK s S q m).2.1 (j : Int) = if j < m then (if opn s S q.2.1 j = true then 0 else ov1 s S q.2.1 j) else gd q.2.1 (j : Int)) ∧
    (brdK s S q m).2.2 = q.2.2 ++ ((List.range m).filter (opn s S q.2.1)).map (fun (k : Nat) => (k : Int))
  | 0, _ => ⟨h1, h2, fun j => by rw [if_neg (by omega)]; rfl, fun j => by rw [if_neg (by omega)]; rfl, by simp [brdK]⟩
  | m + 1, hm => by
    obtain ⟨i1, i2, i3, i4, i5⟩ := brdK_at (S := S) h1 h2 m (by omega)
    have ho : ov1 s S (brdK s S q m).2.1 m = ov1 s S q.2.1 m := ov1_eq (by rw [i4, if_neg (by omega)])
    have hs : brdK s S q (m + 1) = brd s S (brdK s S q m) m := rfl
    rw [hs]
    unfold brd
    rw [ho, List.range_succ, List.filter_append]
    by_cases hop : ov1 s S q.2.1 m > dly s (bO s.1.length m)
    · have hopn : opn s S q.2.1 m = true := dec_t hop
      rw [if_pos hop]
      refine ⟨by simp [i1], by simp [i2], fun j => ?_, fun j => ?_, ?_⟩
      · show gd ((brdK s S q m).1.set m false) (j : Int) = _
        rw [gd_set_nat (by omega), i3]
        by_cases e : j = m
        · rw [if_pos e, if_pos ⟨by omega, by rw [e]; exact hopn⟩]
        · rw [if_neg e]
          by_cases h : j < m ∧ opn s S q.2.1 j = true
          · rw [if_pos h, if_pos ⟨by omega, h.2⟩]
          · rw [if_neg h, if_neg (fun hh => h ⟨by omega, hh.2⟩)]
      · show gd ((brdK s S q m).2.1.set m 0) (j : Int) = _
        rw [gd_set_nat (by omega), i4]
        by_cases e : j = m
        · rw [if_pos e, if_pos (show j < m + 1 by omega), e, if_pos hopn]
        · rw [if_neg e]
          by_cases h : j < m
          · rw [if_pos h, if_pos (show j < m + 1 by omega)]
          · rw [if_neg h, if_neg (show ¬ j < m + 1 by omega)]
      · show (brdK s S q m).2.2 ++ [(m : Int)] = _
        rw [i5]
        simp [hopn]
    · have hopn : opn s S q.2.1 m = false := dec_f hop
      rw [if_neg hop]
      refine ⟨i1, by simp [i2], fun j => ?_, fun j => ?_, ?_⟩
      · show gd (brdK s S q m).1 (j : Int) = _
        rw [i3]
        by_cases h : j < m ∧ opn s S q.2.1 j = true
        · rw [if_pos h, if_pos ⟨by omega, h.2⟩]
        · rw [if_neg h, if_neg]
          rintro ⟨a, b⟩
          refine h ⟨?_, b⟩
          by_cases e : j = m
          · rw [e, hopn] at b; cases b
          · omega
      · show gd ((brdK s S q m).2.1.set m _) (j : Int) = _
        rw [gd_set_nat (by omega), i4]
        by_cases e : j = m
        · rw [if_pos e, if_pos (show j < m + 1 by omega), e, if_neg (by rw [hopn]; decide)]
        · rw [if_neg e]
          by_cases h : j < m
          · rw [if_pos h, if_pos (show j < m + 1 by omega)]
          · rw [if_neg h, if_neg (show ¬ j < m + 1 by omega)]
      · show (brdK s S q m).2.2 = _
        rw [i5]
        simp [hopn]
theorem trnK_close {s : Sup} (hl : s.1.length ≤ 10 ∧ s.2.1.length ≤ 16) {ticks : Int} {l : List Swi} (hx : l.all (okX s ticks) = true) (t : Int) {st : Nat × List Bool} (h : st.1 < 65536 ∧ st.2.length = s.1.length + 1) {k : Nat} (hk : k ≤ s.1.length) :
    ∀ i, i ≤ l.length → gd (trnK s.1.length l t st i).2 (k : Int) = true → gd st.2 (k : Int) = true ∨ agn l t (bO s.1.length k) = true
  | 0, _, hc => .inl hc
  | i + 1, hi, hc => by
    have hok := trnK_ok hl hx t h i (by omega)
    have ih := trnK_close hl hx t h hk i (by omega)
    have hmem : gd l (i : Int) ∈ l := gd_mem (by omega) (by omega)
    have hxi := List.all_eq_true.1 hx _ hmem
    have hagn : agn1 t (bO s.1.length k) (gd l (i : Int)) = true → agn l t (bO s.1.length k) = true := fun ha => List.any_eq_true.2 ⟨_, hmem, ha⟩
    unfold trnK at hc
    split at hc
    case isFalse => exact ih hc
    rename_i ht
    unfold trn at hc
    split at hc
    · exact ih hc
    split at hc
    · exact ih hc
    rename_i hk1 hk2
    unfold okX at hxi
    rw [Bool.and_eq_true, if_neg (fun hh => hh.elim hk1 hk2)] at hxi
    have hxi := hxi.2
    split at hc
    · rename_i h3
      rw [if_pos h3, rng_iff] at hxi
      have hc : gd ((trnK s.1.length l t st i).2.set (gd l (i : Int)).2.2.toNat true) (k : Int) = true := hc
      rw [gd_set_nat (by omega)] at hc
      split at hc
      · rename_i e
        right
        refine hagn ?_
        unfold agn1 bO
        rw [if_neg (show ¬ k = s.1.length by omega), if_pos (show (0 : Int) ≤ (k : Int) by omega)]
        simp only [Bool.and_eq_true, beq_iff_eq]
        exact ⟨ht, h3, by omega⟩
      · exact ih hc
    · have hc : gd ((trnK s.1.length l t st i).2.set s.1.length ((gd l (i : Int)).2.1 == 4)) (k : Int) = true := hc
      rw [gd_set_nat (by omega)] at hc
      split at hc
      · rename_i e
        right
        refine hagn ?_
        unfold agn1 bO
        rw [if_pos e, if_neg (show ¬ (0 : Int) ≤ -1 by omega), hc]
        simp [ht]
      · exact ih hc
theorem closed_cur {s : Sup} (hs : okS s = true) (on : Nat) {cl : List Bool} {k : Nat} (hk : k ≤ s.1.length) (hc : gd cl (k : Int) = false) (ph : Int) : ∀ i, i ≤ s.2.1.length → curK s (drw s on cl) (bO s.1.length k) ph i = 0
  | 0, _ => rfl
  | i + 1, hi => by
    have hx := okL_1 (okS_ld hs (k := i) (by omega))
    unfold curK
    rw [closed_cur hs on hk hc ph i (by omega), if_neg, Int.zero_add]
    rw [Bool.and_eq_true, Bool.and_eq_true]
    rintro ⟨h1, _, h2⟩
    unfold drw at h1
    rw [drw_bit, Bool.and_eq_true, Bool.and_eq_true] at h1
    have h3 := h1.2.2
    unfold live at h3
    rw [List.all_eq_true] at h3
    have hm := (ix_mem hs hx.1.1 hx.1.2 hk).2 h2
    obtain ⟨x, hx1, hx2⟩ := List.mem_map.1 hm
    have := h3 x hx1
    rw [hx2, hc] at this
    cases this
theorem closed_ovr {s : Sup} (hs : okS s = true) (on : Nat) {cl : List Bool} {k : Nat} (hk : k ≤ s.1.length) (hc : gd cl (k : Int) = false) : ovr s (drw s on cl) (bO s.1.length k) = false := by
  have hb : bO s.1.length k < s.1.length := by unfold bO; split <;> omega
  have := brs_pos hs hb
  unfold ovr mx3 cur
  rw [closed_cur hs on hk hc _ _ (Nat.le_refl _), closed_cur hs on hk hc _ _ (Nat.le_refl _), closed_cur hs on hk hc _ _ (Nat.le_refl _), dec_f]
  omega
theorem ply_rows (s : Sup) (l : List Swi) : ∀ T, (ply s l T).rows = (List.range T).map fun (t : Nat) => ((tickSet s l (t : Int) (ply s l t) : Nat) : Int)
  | 0 => rfl
  | T + 1 => by
    show (ply s l T).rows ++ [_] = _
    rw [ply_rows s l T, List.range_succ, List.map_append]
    rfl
theorem dly_bd {s : Sup} (h : okS s = true) {b : Int} (hb : b < s.1.length) : 0 ≤ dly s b ∧ dly s b ≤ 20 := by
  unfold dly
  split
  · unfold okS at h
    simp only [Bool.and_eq_true, decide_eq_true_iff] at h
    exact rng_iff.1 h.2.2.2.1
  · exact (okS_bd h (b := b) (by omega) hb).2.2.1
theorem tick_at {s : Sup} (hl : s.1.length ≤ 10 ∧ s.2.1.length ≤ 16) {ticks : Int} {l : List Swi} (hx : l.all (okX s ticks) = true) (t : Int) {n : Nat} {p : PSt} (h : POK s n p) {k : Nat} (hk : k ≤ s.1.length) :
    gd (tick s l t p).cl (k : Int) = (if opn s (tickSet s l t p) p.ov k = true then false else gd (tickSt s l t p).2 (k : Int)) ∧
    gd (tick s l t p).ov (k : Int) = (if opn s (tickSet s l t p) p.ov k = true then 0 else ov1 s (tickSet s l t p) p.ov k) := by
  have h1 := trnK_ok hl hx t (st := (p.on, p.cl)) ⟨h.on, h.cl⟩ l.length (Nat.le_refl _)
  obtain ⟨_, _, a3, a4, _⟩ := brdK_at (s := s) (S := tickSet s l t p) (q := ((tickSt s l t p).2, p.ov, [])) h1.2 h.ol (s.1.length + 1) (Nat.le_refl _)
  have b3 := a3 k
  have b4 := a4 k
  refine ⟨b3.trans ?_, b4.trans ?_⟩
  · by_cases e : opn s (tickSet s l t p) p.ov k = true
    · rw [if_pos e, if_pos ⟨by omega, e⟩]
    · rw [if_neg e, if_neg (fun hh => e hh.2)]
  · rw [if_pos (by omega)]

/-! ## No board is overloaded for long -/
structure LInv (s : Sup) (k : Nat) (p : PSt) (row : Int) : Prop where
  nn : 0 ≤ row
  le : row ≤ dly s (bO s.1.length k) + 1
  ov : gd p.ov (k : Int) ≤ dly s (bO s.1.length k)
  cl : gd p.cl (k : Int) = true → row ≤ gd p.ov (k : Int)
/-- For how many ticks in a row. -/
def rowN (s : Sup) (l : List Swi) (t : Int) (S : Nat) (b row : Int) : Int := if ovr s S b = true then (if agn l t b = true then 1 else row + 1) else 0
theorem LInv.step {s : Sup} (hs : okS s = true) {ticks : Int} {l : List Swi} (hx : l.all (okX s ticks) = true) (t : Int) {n : Nat} {p : PSt} (h : POK s n p) {k : Nat} (hk : k ≤ s.1.length) {row : Int} (hi : LInv s k p row) :
    LInv s k (tick s l t p) (rowN s l t (tickSet s l t p) (bO s.1.length k) row) := by
  have hl := okS_le hs
  obtain ⟨c1, c2⟩ := tick_at hl hx t h hk
  have hb : bO s.1.length k < s.1.length := by unfold bO; split <;> omega
  have hd := dly_bd hs hb
  have hov := h.bd k hk
  have hov2 := hi.ov
  have hnn := hi.nn
  unfold rowN
  by_cases ho : ovr s (tickSet s l t p) (bO s.1.length k) = true
  · have ho1 : ov1 s (tickSet s l t p) p.ov k = gd p.ov (k : Int) + 1 := by
      unfold ovr at ho
      have := of_decide_eq_true ho
      unfold ov1
      rw [if_neg (by omega)]
    rw [if_pos ho]
    have hcl : gd (tickSt s l t p).2 (k : Int) = true := by
      cases hc : gd (tickSt s l t p).2 (k : Int) with
      | true => rfl
      | false =>
        have := closed_ovr hs (tickSt s l t p).1 hk hc
        unfold tickSet at ho
        rw [this] at ho
        cases ho
    have hrow : 0 ≤ (if agn l t (bO s.1.length k) = true then 1 else row + 1) ∧ (if agn l t (bO s.1.length k) = true then 1 else row + 1) ≤ gd p.ov (k : Int) + 1 := by
      by_cases ha : agn l t (bO s.1.length k) = true
      · rw [if_pos ha]; omega
      · rw [if_neg ha]
        rcases trnK_close hl hx t (st := (p.on, p.cl)) ⟨h.on, h.cl⟩ hk l.length (Nat.le_refl _) hcl with hc | hc
        · have := hi.cl hc
          omega
        · exact absurd hc ha
    refine ⟨hrow.1, by omega, ?_, fun hc => ?_⟩
    · rw [c2]
      by_cases hop : opn s (tickSet s l t p) p.ov k = true
      · rw [if_pos hop]; exact hd.1
      · rw [if_neg hop]
        unfold opn at hop
        rw [decide_eq_true_iff] at hop
        omega
    · rw [c2]
      by_cases hop : opn s (tickSet s l t p) p.ov k = true
      · rw [c1, if_pos hop] at hc
        cases hc
      · rw [if_neg hop, ho1]
        exact hrow.2
  · rw [if_neg ho]
    have ho1 : ov1 s (tickSet s l t p) p.ov k = 0 := by
      unfold ovr at ho
      rw [decide_eq_true_iff] at ho
      unfold ov1
      rw [if_pos (by omega)]
    have : gd (tick s l t p).ov (k : Int) = 0 := by
      rw [c2, ho1]
      split <;> rfl
    exact ⟨Int.le_refl _, by omega, by omega, fun _ => by omega⟩
theorem LInv.zero {s : Sup} (hs : okS s = true) {k : Nat} (hk : k ≤ s.1.length) : LInv s k (ply0 s) 0 := by
  have hb : bO s.1.length k < s.1.length := by unfold bO; split <;> omega
  have hd := dly_bd hs hb
  have : gd (ply0 s).ov (k : Int) = 0 := by
    show gd (List.replicate (s.1.length + 1) (0 : Int)) (k : Int) = 0
    rw [gd_replicate (by omega) (by omega)]
  exact ⟨Int.le_refl _, by omega, by omega, fun _ => by omega⟩
end Go.Proofs.Try.V
