/- Plain laws of layer 5, fifth part: a tick of a play: switches, which loads draw, which breakers open. No condition beyond those typed in each theorem. -/
import Derived.Test.YtpjgcimbnhhndaaLw4
namespace Go.Proofs.Try.V
open Go.Vi
set_option maxRecDepth 100000

abbrev Plant := Sup × (Int × ((List Bool) × (List Int)))
/-- For how many ticks a board bears more (-1: the generator). -/
def dly (s : Sup) (b : Int) : Int := if b < 0 then s.2.2.2.1 else (gd s.1 b).2.2.1
theorem g89_eq (p : Plant) {k : Nat} (hk : k ≤ p.1.1.length) : g89 (p, (k : Int), ()) = some ((dly p.1 (bO p.1.1.length k), ()), ()) := by
  show F89 fuel p (k : Int) = _
  unfold F89 dly bO
  by_cases h : k = p.1.1.length
  · have : ((k : Int) == (p.1.1.length : Int)) = true := by simp [h]
    rw [this, if_pos h, if_pos (by omega)]; rfl
  · have h1 : ((k : Int) == (p.1.1.length : Int)) = false := beq_eq_false_iff_ne.2 (by omega)
    rw [h1, if_neg h, if_neg (by omega), cond_false, getI_gd (by omega) (by omega)]
/-- For how many ticks a board has been overloaded. -/
def ov1 (s : Sup) (S : Nat) (ov : List Int) (k : Nat) : Int := if mx3 s S (bO s.1.length k) ≤ brs s (bO s.1.length k) then 0 else gd ov (k : Int) + 1
/-- A board's turn: breakers, ticks, what has opened. -/
def brd (s : Sup) (S : Nat) (q : (List Bool) × ((List Int) × (List Int))) (k : Nat) : (List Bool) × ((List Int) × (List Int)) :=
  if ov1 s S q.2.1 k > dly s (bO s.1.length k) then (q.1.set k false, q.2.1.set k 0, q.2.2 ++ [(k : Int)]) else (q.1, q.2.1.set k (ov1 s S q.2.1 k), q.2.2)
def brdK (s : Sup) (S : Nat) (q : (List Bool) × ((List Int) × (List Int))) : Nat → (List Bool) × ((List Int) × (List Int))
  | 0 => q
  | k + 1 => brd s S (brdK s S q k) k
structure QOK (n : Nat) (B : Int) (q : (List Bool) × ((List Int) × (List Int))) (k : Nat) : Prop where
  l1 : q.1.length = n + 1
  l2 : q.2.1.length = n + 1
  bd : ∀ j : Nat, j ≤ n → 0 ≤ gd q.2.1 (j : Int) ∧ gd q.2.1 (j : Int) ≤ (if j < k then B + 1 else B)
  op : q.2.2.length ≤ k
theorem ov1_bd {s : Sup} {S : Nat} {ov : List Int} {k : Nat} {B : Int} (h : 0 ≤ gd ov (k : Int) ∧ gd ov (k : Int) ≤ B) : 0 ≤ ov1 s S ov k ∧ ov1 s S ov k ≤ B + 1 := by
  unfold ov1
  split <;> omega
theorem gd_set_nat {α : Type} [Inhabited α] {l : List α} {i j : Nat} {c : α} (h : i < l.length) : gd (l.set i c) (j : Int) = if j = i then c else gd l (j : Int) := by
  by_cases e : j = i
  · subst e
    rw [if_pos rfl]
    have := gd_set_self (l := l) (i := (j : Int)) (c := c) (by omega) (by omega)
    rwa [Int.toNat_natCast] at this
  · rw [if_neg e]
    have := gd_set_ne (l := l) (i := (i : Int)) (j := (j : Int)) (c := c) (by omega) (by omega) (by omega)
    rwa [Int.toNat_natCast] at this
theorem brd_ok {s : Sup} {S : Nat} {B : Int} {q : (List Bool) × ((List Int) × (List Int))} {k : Nat} (hB : 0 ≤ B) (hk : k ≤ s.1.length) (h : QOK s.1.length B q k) : QOK s.1.length B (brd s S q k) (k + 1) := by
  have hb := h.bd k hk
  rw [if_neg (by omega)] at hb
  have ho := ov1_bd (s := s) (S := S) hb
  unfold brd
  split
  · refine ⟨by simp [h.l1], by simp [h.l2], fun j hj => ?_, by have := h.op; simp; omega⟩
    show 0 ≤ gd (q.2.1.set k 0) (j : Int) ∧ _
    rw [gd_set_nat (by have := h.l2; omega)]
    have := h.bd j hj
    split
    · split <;> omega
    · by_cases h1 : j < k
      · rw [if_pos h1] at this; rw [if_pos (by omega)]; exact this
      · rw [if_neg h1] at this; rw [if_neg (by omega)]; exact this
  · refine ⟨h.l1, by simp [h.l2], fun j hj => ?_, by have := h.op; simp; omega⟩
    show 0 ≤ gd (q.2.1.set k _) (j : Int) ∧ _
    rw [gd_set_nat (by have := h.l2; omega)]
    have := h.bd j hj
    by_cases e : j = k
    · rw [if_pos e, if_pos (by omega)]; exact ho
    · rw [if_neg e]
      by_cases h1 : j < k
      · rw [if_pos h1] at this; rw [if_pos (by omega)]; exact this
      · rw [if_neg h1] at this; rw [if_neg (by omega)]; exact this
theorem brdK_ok {s : Sup} {S : Nat} {B : Int} {q : (List Bool) × ((List Int) × (List Int))} (hB : 0 ≤ B) (h : QOK s.1.length B q 0) : ∀ k, k ≤ s.1.length + 1 → QOK s.1.length B (brdK s S q k) k
  | 0, _ => h
  | k + 1, hk => brd_ok hB (by omega) (brdK_ok hB h k (by omega))

set_option maxHeartbeats 1000000 in
theorem L59_23_step {s : Sup} {S : Nat} {B : Int} (hB : 0 ≤ B ∧ B ≤ 1000000) (hl : s.1.length ≤ 10) (l : List Swi) (t1 t2 t3 : Int) (rows : List Int) (trips : List (Int × Int)) (on : Int) {q : (List Bool) × ((List Int) × (List Int))} {k : Nat} (hk : k ≤ s.1.length) (h : QOK s.1.length B q k) (N : Nat) :
    L59_23 (N + 1) ((l, s, (s.1.length : Int), t1, t2, t3, ((curs s S s.2.1.length).length : Int), (k : Int), ()), (rows, trips, q.2.2, (s, on, q.1, q.2.1), curs s S s.2.1.length, ()), ()) =
      L59_23 N ((l, s, (s.1.length : Int), t1, t2, t3, ((curs s S s.2.1.length).length : Int), ((k + 1 : Nat) : Int), ()), (rows, trips, (brd s S q k).2.2, (s, on, (brd s S q k).1, (brd s S q k).2.1), curs s S s.2.1.length, ()), ()) := by
  have hb := h.bd k hk
  rw [if_neg (by omega)] at hb
  have hop := h.op
  obtain ⟨cl, ov, op⟩ := q
  have l1 : cl.length = s.1.length + 1 := h.l1
  have l2 : ov.length = s.1.length + 1 := h.l2
  simp only at hb hop ⊢
  have a1 : ∀ {R : Type} (X : Option R), inR (k : Int) (s.1.length + 1) X = X := fun X => inR_in (by omega) (by omega) X
  have a2 : ∀ {R : Type} (m : List Int) (hm : m.length = s.1.length + 1) (F : Int → Option R), getI m (k : Int) F = F (gd m (k : Int)) := fun m hm F => getI_gd (by omega) (by omega) F
  have a3 : ∀ {R : Type} (m : List Bool) (hm : m.length = s.1.length + 1) (F : Bool → Option R), getI m (k : Int) F = F (gd m (k : Int)) := fun m hm F => getI_gd (by omega) (by omega) F
  have a4 : ∀ {R : Type} (F : List Int → Option R), getI (curs s S s.2.1.length) (k : Int) F = F (row3 s S (bO s.1.length k) s.2.1.length) := fun F => by
    rw [getI_gd (by omega) (by rw [curs_len]; omega), curs_gd s S _ hk]
  have a5 : ∀ (m : List Int) (hm : m.length = s.1.length + 1) (v : Int), gd (m.set k v) (k : Int) = v := fun m hm v => by
    rw [gd_set_nat (by omega), if_pos rfl]
  have a6 : ∀ (a : Int) (b : List Bool) (c : List Int), g89 ((s, a, b, c), (k : Int), ()) = some ((dly s (bO s.1.length k), ()), ()) := fun a b c => g89_eq (s, a, b, c) hk
  have a7 : IntKind.wrap .i64 (gd ov (k : Int) + 1) = gd ov (k : Int) + 1 := wI (by omega) (by omega)
  have a8 : IntKind.wrap .i64 ((k : Int) + 1) = ((k + 1 : Nat) : Int) := by rw [wI (by omega) (by omega)]; omega
  have a9 : ∀ {R : Type} (X : Option R), lenK ((op.length : Int) + ([(k : Int)].length : Nat)) X = X := fun X => lenK_in (by simp; omega) (by simp; omega) X
  have hcl : (curs s S s.2.1.length).length = s.1.length + 1 := curs_len _ _ _
  have a10 : decide ((k : Int) < ((s.1.length + 1 : Nat) : Int)) = true := dec_t (by omega)
  simp only [L59_23, B59_23, hcl, a10, cond_true, bindV_eq, enumK_eq, List.length_set, l1, l2, a1, a4, a2, a3, a5, a6, a7, a8, a9, g70_row, g66_eq s hk, derefK_some, Int.toNat_natCast, agreeK_two, agreeK_one]
  have ho : ov1 s S ov k = if mx3 s S (bO s.1.length k) ≤ brs s (bO s.1.length k) then 0 else gd ov (k : Int) + 1 := rfl
  by_cases h1 : mx3 s S (bO s.1.length k) ≤ brs s (bO s.1.length k)
  · rw [if_pos h1] at ho
    rw [dec_t h1, cond_true]
    unfold brd
    simp only [ho, List.set_set]
    by_cases h2 : 0 > dly s (bO s.1.length k)
    · rw [dec_t h2, if_pos h2]; rfl
    · rw [dec_f h2, if_neg h2]; rfl
  · rw [if_neg h1] at ho
    rw [dec_f h1, cond_false]
    unfold brd
    simp only [ho, List.set_set]
    by_cases h2 : gd ov (k : Int) + 1 > dly s (bO s.1.length k)
    · rw [dec_t h2, if_pos h2]; rfl
    · rw [dec_f h2, if_neg h2]; rfl
theorem L59_23_eq' {s : Sup} {S : Nat} {B : Int} (hB : 0 ≤ B ∧ B ≤ 1000000) (hl : s.1.length ≤ 10) (l : List Swi) (t1 t2 t3 : Int) (rows : List Int) (trips : List (Int × Int)) (on : Int) {q : (List Bool) × ((List Int) × (List Int))} (h : QOK s.1.length B q 0) {N : Nat} (hN : 2000 ≤ N) :
    L59_23 N ((l, s, (s.1.length : Int), t1, t2, t3, ((curs s S s.2.1.length).length : Int), 0, ()), (rows, trips, q.2.2, (s, on, q.1, q.2.1), curs s S s.2.1.length, ()), ()) =
      some ((l, s, (s.1.length : Int), t1, t2, t3, ()), (rows, trips, (brdK s S q (s.1.length + 1)).2.2, (s, on, (brdK s S q (s.1.length + 1)).1, (brdK s S q (s.1.length + 1)).2.1), ()), ()) := by
  exact loopF (L := L59_23) (fun i => ((l, s, (s.1.length : Int), t1, t2, t3, ((curs s S s.2.1.length).length : Int), (i : Int), ()), (rows, trips, (brdK s S q i).2.2, (s, on, (brdK s S q i).1, (brdK s S q i).2.1), curs s S s.2.1.length, ()), ()))
    ((l, s, (s.1.length : Int), t1, t2, t3, ()), (rows, trips, (brdK s S q (s.1.length + 1)).2.2, (s, on, (brdK s S q (s.1.length + 1)).1, (brdK s S q (s.1.length + 1)).2.1), ()), ()) 0 (s.1.length + 1) (N := N) (by omega)
    (fun N => by
      simp only [L59_23, B59_23, curs_len]
      rw [dec_f (by omega)]
      rfl)
    (fun N i _ hi => L59_23_step hB hl l t1 t2 t3 rows trips on (by omega) (brdK_ok hB.1 h i (by omega)) N)

/-! ## Switches -/
/-- Whether a switch is valid. -/
def okX (s : Sup) (ticks : Int) (x : Swi) : Bool :=
  rng x.1 0 (ticks - 1) && (if x.2.1 = 1 ∨ x.2.1 = 2 then rng x.2.2 0 ((s.2.1.length : Int) - 1) else if x.2.1 = 3 then rng x.2.2 0 ((s.1.length : Int) - 1) else if x.2.1 = 4 ∨ x.2.1 = 5 then x.2.2 == 0 else false)
theorem g85_eq {s : Sup} (hl : s.1.length ≤ 10 ∧ s.2.1.length ≤ 16) {ticks : Int} (ht : 0 ≤ ticks ∧ ticks ≤ 500) (x : Swi) : g85 (s, ticks, x, ()) = some ((okX s ticks x, ()), ()) := by
  show F85 fuel s ticks x = _
  unfold F85 okX
  rw [wI (x := ticks - 1) (by omega) (by omega), wI (x := (s.1.length : Int) - 1) (by omega) (by omega), wI (x := (s.2.1.length : Int) - 1) (by omega) (by omega)]
  simp only [g62_eq, derefK_some]
  cases rng x.1 0 (ticks - 1) with
  | false => rfl
  | true =>
  simp only [Bool.not_true, cond_false, Bool.true_and]
  by_cases h1 : x.2.1 = 1
  · simp [h1]
  · have e1 : (x.2.1 == 1) = false := beq_eq_false_iff_ne.2 h1
    rw [e1]
    by_cases h2 : x.2.1 = 2
    · simp [h2]
    · have e2 : (x.2.1 == 2) = false := beq_eq_false_iff_ne.2 h2
      rw [e2, if_neg (by omega)]
      by_cases h3 : x.2.1 = 3
      · simp [h3]
      · have e3 : (x.2.1 == 3) = false := beq_eq_false_iff_ne.2 h3
        rw [e3, if_neg h3]
        by_cases h4 : x.2.1 = 4
        · simp [h4]
        · have e4 : (x.2.1 == 4) = false := beq_eq_false_iff_ne.2 h4
          rw [e4]
          by_cases h5 : x.2.1 = 5
          · simp [h5]
          · have e5 : (x.2.1 == 5) = false := beq_eq_false_iff_ne.2 h5
            rw [e5, if_neg (by omega)]
            rfl
/-- What a switch does: which loads are on, which breakers are closed. -/
def trn (n : Nat) (st : Nat × List Bool) (x : Swi) : Nat × List Bool :=
  if x.2.1 = 1 then (st.1 ||| 2 ^ x.2.2.toNat, st.2) else if x.2.1 = 2 then (dif st.1 (2 ^ x.2.2.toNat), st.2) else if x.2.1 = 3 then (st.1, st.2.set x.2.2.toNat true) else (st.1, st.2.set n (x.2.1 == 4))
theorem trn_ok {s : Sup} (hl : s.1.length ≤ 10 ∧ s.2.1.length ≤ 16) {ticks : Int} {x : Swi} (hx : okX s ticks x = true) {st : Nat × List Bool} (h : st.1 < 65536 ∧ st.2.length = s.1.length + 1) : (trn s.1.length st x).1 < 65536 ∧ (trn s.1.length st x).2.length = s.1.length + 1 := by
  unfold okX at hx
  rw [Bool.and_eq_true] at hx
  have hx := hx.2
  unfold trn
  split
  · rename_i h1
    rw [if_pos (.inl h1), rng_iff] at hx
    exact ⟨Nat.or_lt_two_pow (n := 16) h.1 (Nat.pow_lt_pow_right (by omega) (by omega)), h.2⟩
  · split
    · exact ⟨Nat.lt_of_le_of_lt (dif_le _ _) h.1, h.2⟩
    · split
      · exact ⟨h.1, by simp [h.2]⟩
      · exact ⟨h.1, by simp [h.2]⟩
theorem g87_eq {s : Sup} (hl : s.1.length ≤ 10 ∧ s.2.1.length ≤ 16) {ticks : Int} {x : Swi} (hx : okX s ticks x = true) {st : Nat × List Bool} (h : st.1 < 65536 ∧ st.2.length = s.1.length + 1) (ov : List Int) :
    g87 ((s, (st.1 : Int), st.2, ov), x, ()) = some ((), ((s, ((trn s.1.length st x).1 : Int), (trn s.1.length st x).2, ov), ())) := by
  show F87 fuel (s, (st.1 : Int), st.2, ov) x = _
  unfold okX at hx
  rw [Bool.and_eq_true] at hx
  have hx := hx.2
  unfold F87 trn
  have hp : ∀ i : Int, 0 ≤ i → i ≤ 15 → shlI .i64 1 i = ((2 ^ i.toNat : Nat) : Int) ∧ 2 ^ i.toNat < 4611686018427387904 := fun i h0 h1 => by
    have := shl_n (i := i.toNat) (by omega)
    rw [show ((i.toNat : Nat) : Int) = i by omega] at this
    have h16 : (2 : Nat) ^ i.toNat < 2 ^ 16 := Nat.pow_lt_pow_right (by omega) (by omega)
    exact ⟨this, by omega⟩
  by_cases h1 : x.2.1 = 1
  · rw [if_pos (.inl h1), rng_iff] at hx
    have e1 : (x.2.1 == 1) = true := by simp [h1]
    obtain ⟨p1, p2⟩ := hp x.2.2 hx.1 (by omega)
    rw [e1, if_pos h1, cond_true, negK_in hx.1, p1, or_n (by omega) p2]
  · have e1 : (x.2.1 == 1) = false := beq_eq_false_iff_ne.2 h1
    rw [e1, if_neg h1, cond_false]
    by_cases h2 : x.2.1 = 2
    · rw [if_pos (.inr h2), rng_iff] at hx
      have e2 : (x.2.1 == 2) = true := by simp [h2]
      obtain ⟨p1, p2⟩ := hp x.2.2 hx.1 (by omega)
      rw [e2, if_pos h2, cond_true, negK_in hx.1, p1, andNot_n (by omega) p2]
      rfl
    · have e2 : (x.2.1 == 2) = false := beq_eq_false_iff_ne.2 h2
      rw [e2, if_neg h2, cond_false]
      rw [if_neg (by omega)] at hx
      by_cases h3 : x.2.1 = 3
      · rw [if_pos h3, rng_iff] at hx
        have e3 : (x.2.1 == 3) = true := by simp [h3]
        rw [e3, if_pos h3, cond_true]
        show inR x.2.2 st.2.length (getI st.2 x.2.2 _) = _
        rw [inR_in hx.1 (by omega), getI_gd hx.1 (by omega)]
      · have e3 : (x.2.1 == 3) = false := beq_eq_false_iff_ne.2 h3
        rw [e3, if_neg h3, cond_false]
        rw [if_neg h3] at hx
        by_cases h4 : x.2.1 = 4
        · have e4 : (x.2.1 == 4) = true := by simp [h4]
          rw [e4, cond_true, cond_true]
          show inR (s.1.length : Int) st.2.length (getI st.2 (s.1.length : Int) _) = _
          rw [inR_in (by omega) (by omega), getI_gd (by omega) (by omega)]
          rfl
        · have e4 : (x.2.1 == 4) = false := beq_eq_false_iff_ne.2 h4
          by_cases h5 : x.2.1 = 5
          · have e5 : (x.2.1 == 5) = true := by simp [h5]
            rw [e4, e5, cond_false, cond_true]
            show inR (s.1.length : Int) st.2.length (getI st.2 (s.1.length : Int) _) = _
            rw [inR_in (by omega) (by omega), getI_gd (by omega) (by omega)]
            rfl
          · rw [if_neg (by omega)] at hx
            cases hx
end Go.Proofs.Try.V
