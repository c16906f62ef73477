/- Plain laws of layer 5, twenty-eighth part: which breakers open, and when. No condition beyond those typed in each theorem. -/
import Derived.Test.YtpjgcimbnhhndaaLw22
import Derived.Test.YtpjgcimbnhhndaaLw14
namespace Go.Proofs.Try.V
open Go.Vi
set_option maxRecDepth 100000

/-- The loads that draw in a tick. -/
def setT (s : Sup) (l : List Swi) (t : Nat) : Nat := tickSet s l (t : Int) (ply s l t)
theorem fil_no (q : Nat → Bool) (n : Nat) : (fil q n).findIdx? (· == (n : Int)) = none := by
  rw [List.findIdx?_eq_none_iff]
  intro x hx
  have : 0 ≤ x ∧ x < n := by
    unfold fil at hx
    obtain ⟨k, hk, rfl⟩ := List.mem_map.1 hx
    have := List.mem_range.1 (List.mem_filter.1 hk).1
    omega
  exact beq_eq_false_iff_ne.2 (by omega)
theorem fixO_fil (q : Nat → Bool) (n : Nat) : fixO n (fil q (n + 1)) = if q n = true then -1 :: fil q n else fil q n := by
  rw [fil_step]
  unfold fixO
  by_cases h : q n = true
  · rw [if_pos h, if_pos h, List.findIdx?_append, fil_no]
    have : ([(n : Int)].findIdx? fun x => x == (n : Int)) = some 0 := by simp
    rw [this]
    simp
  · rw [if_neg h, if_neg h, fil_no]
theorem tickB_op {s : Sup} (hl : s.1.length ≤ 10 ∧ s.2.1.length ≤ 16) {ticks : Int} {l : List Swi} (hx : l.all (okX s ticks) = true) (t : Nat) : (tickB s l (t : Int) (ply s l t)).2.2 = fil (opn s (setT s l t) (ply s l t).ov) (s.1.length + 1) := by
  have h := ply_ok hl hx t
  have h1 := trnK_ok hl hx (t : Int) (st := ((ply s l t).on, (ply s l t).cl)) ⟨h.on, h.cl⟩ l.length (Nat.le_refl _)
  have h5 := (brdK_at (s := s) (S := setT s l t) (q := ((tickSt s l (t : Int) (ply s l t)).2, (ply s l t).ov, [])) h1.2 h.ol (s.1.length + 1) (Nat.le_refl _)).2.2.2.2
  exact h5.trans (by
    show [] ++ _ = _
    rw [List.nil_append]
    rfl)
/-- Nothing is closed again. -/
def NoAgn (l : List Swi) : Prop := ∀ x ∈ l, x.2.1 ≠ 3 ∧ x.2.1 ≠ 4
theorem noAgn {l : List Swi} (h : NoAgn l) (t b : Int) : agn l t b = false := by
  unfold agn
  rw [List.any_eq_false]
  intro x hx
  have := h x hx
  unfold agn1
  rw [show (x.2.1 == 3) = false from beq_eq_false_iff_ne.2 this.1, show (x.2.1 == 4) = false from beq_eq_false_iff_ne.2 this.2]
  split <;> simp
/-- Who is overloaded was closed. -/
theorem ovr_closed {s : Sup} (hs : okS s = true) {ticks : Int} {l : List Swi} (hx : l.all (okX s ticks) = true) (hno : NoAgn l) {t k : Nat} (hk : k ≤ s.1.length) (ho : ovr s (setT s l t) (bO s.1.length k) = true) :
    gd (ply s l t).cl (k : Int) = true ∧ gd (tickSt s l (t : Int) (ply s l t)).2 (k : Int) = true := by
  have hl := okS_le hs
  have h := ply_ok hl hx t
  have hcl : gd (tickSt s l (t : Int) (ply s l t)).2 (k : Int) = true := by
    cases hc : gd (tickSt s l (t : Int) (ply s l t)).2 (k : Int) with
    | true => rfl
    | false =>
      have := closed_ovr hs (tickSt s l (t : Int) (ply s l t)).1 hk hc
      unfold setT tickSet at ho
      rw [this] at ho
      cases ho
  refine ⟨?_, hcl⟩
  rcases trnK_close hl hx (t : Int) (st := ((ply s l t).on, (ply s l t).cl)) ⟨h.on, h.cl⟩ hk l.length (Nat.le_refl _) hcl with hc | hc
  · exact hc
  · rw [noAgn hno] at hc; cases hc
theorem at_succ {s : Sup} (hs : okS s = true) {ticks : Int} {l : List Swi} (hx : l.all (okX s ticks) = true) (t : Nat) {k : Nat} (hk : k ≤ s.1.length) :
    gd (ply s l (t + 1)).cl (k : Int) = (if opn s (setT s l t) (ply s l t).ov k = true then false else gd (tickSt s l (t : Int) (ply s l t)).2 (k : Int)) ∧
    gd (ply s l (t + 1)).ov (k : Int) = (if opn s (setT s l t) (ply s l t).ov k = true then 0 else ov1 s (setT s l t) (ply s l t).ov k) :=
  tick_at (okS_le hs) hx (t : Int) (ply_ok (okS_le hs) hx t) hk
theorem ov1_ovr {s : Sup} {S : Nat} {ov : List Int} {k : Nat} : ov1 s S ov k = if ovr s S (bO s.1.length k) = true then gd ov (k : Int) + 1 else 0 := by
  unfold ov1 ovr
  by_cases h : mx3 s S (bO s.1.length k) ≤ brs s (bO s.1.length k)
  · rw [if_pos h, if_neg (by rw [decide_eq_true_iff]; omega)]
  · rw [if_neg h, if_pos (by rw [decide_eq_true_iff]; omega)]
/-- What a counter says. -/
theorem cnt_inv {s : Sup} (hs : okS s = true) {ticks : Int} {l : List Swi} (hx : l.all (okX s ticks) = true) {k : Nat} (hk : k ≤ s.1.length) : ∀ t : Nat,
    (0 ≤ gd (ply s l t).ov (k : Int) ∧ gd (ply s l t).ov (k : Int) ≤ dly s (bO s.1.length k) ∧ gd (ply s l t).ov (k : Int) ≤ t) ∧ ∀ i : Nat, i < t → (t : Int) - gd (ply s l t).ov (k : Int) ≤ i → ovr s (setT s l i) (bO s.1.length k) = true
  | 0 => by
    have h0 := LInv.zero hs hk
    have hb := (ply0_ok s).bd k hk
    exact ⟨⟨hb.1, h0.ov, hb.2⟩, fun i hi => by omega⟩
  | t + 1 => by
    obtain ⟨⟨i1, i2, i3⟩, i4⟩ := cnt_inv hs hx hk t
    have hb : bO s.1.length k < s.1.length := by unfold bO; split <;> omega
    have hd := dly_bd hs hb
    rw [(at_succ hs hx t hk).2]
    by_cases ho : opn s (setT s l t) (ply s l t).ov k = true
    · rw [if_pos ho]
      exact ⟨⟨Int.le_refl _, hd.1, by omega⟩, fun i hi h => by omega⟩
    · rw [if_neg ho]
      unfold opn at ho
      rw [decide_eq_true_iff] at ho
      rw [ov1_ovr] at ho ⊢
      by_cases hv : ovr s (setT s l t) (bO s.1.length k) = true
      · rw [if_pos hv] at ho ⊢
        refine ⟨⟨by omega, by omega, by omega⟩, fun i hi h => ?_⟩
        by_cases e : i = t
        · rw [e]; exact hv
        · exact i4 i (by omega) (by omega)
      · rw [if_neg hv]
        exact ⟨⟨Int.le_refl _, hd.1, by omega⟩, fun i hi h => by omega⟩
/-- Who is overloaded for so long counts so far. -/
theorem cnt_ge {s : Sup} (hs : okS s = true) {ticks : Int} {l : List Swi} (hx : l.all (okX s ticks) = true) (hno : NoAgn l) {k : Nat} (hk : k ≤ s.1.length) (a : Nat) : ∀ d : Nat, (∀ i : Nat, a ≤ i → i < a + d → ovr s (setT s l i) (bO s.1.length k) = true) →
    gd (ply s l (a + d)).cl (k : Int) = false ∨ (d : Int) ≤ gd (ply s l (a + d)).ov (k : Int)
  | 0, _ => .inr (by have := (cnt_inv hs hx hk a).1.1; simpa using this)
  | d + 1, h => by
    have ih := cnt_ge hs hx hno hk a d fun i h1 h2 => h i h1 (by omega)
    have hv := h (a + d) (by omega) (by omega)
    have hc := (ovr_closed hs hx hno hk hv).1
    have h2 := at_succ hs hx (a + d) hk
    rcases ih with ih | ih
    · rw [hc] at ih; cases ih
    · show gd (ply s l (a + d + 1)).cl (k : Int) = false ∨ ((d + 1 : Nat) : Int) ≤ gd (ply s l (a + d + 1)).ov (k : Int)
      by_cases ho : opn s (setT s l (a + d)) (ply s l (a + d)).ov k = true
      · left
        rw [h2.1, if_pos ho]
      · right
        rw [h2.2, if_neg ho, ov1_ovr, if_pos hv]
        omega
end Go.Proofs.Try.V
