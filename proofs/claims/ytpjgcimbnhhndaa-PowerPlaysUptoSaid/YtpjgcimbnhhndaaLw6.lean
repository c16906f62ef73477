/- Plain laws of layer 5, sixth part: a play. No condition beyond those typed in each theorem. -/
import Derived.Test.YtpjgcimbnhhndaaLw5
namespace Go.Proofs.Try.V
open Go.Vi
set_option maxRecDepth 100000

/-! ## Which loads draw -/
/-- Whether a board is live. -/
def live (s : Sup) (cl : List Bool) (b : Int) : Bool := (chn s.1 b ++ [-1]).all fun x => gd cl ((ix s.1.length x : Nat) : Int)
def drwK (s : Sup) (on : Nat) (cl : List Bool) : Nat → Nat
  | 0 => 0
  | i + 1 => if on.testBit i && live s cl (gd s.2.1 (i : Int)).1 then drwK s on cl i ||| 2 ^ i else drwK s on cl i
def drw (s : Sup) (on : Nat) (cl : List Bool) : Nat := drwK s on cl s.2.1.length
theorem drwK_lt (s : Sup) (on : Nat) (cl : List Bool) : ∀ i, drwK s on cl i < 2 ^ i
  | 0 => by show 0 < 1; omega
  | i + 1 => by
    have ih := drwK_lt s on cl i
    have h2 : 2 ^ i < 2 ^ (i + 1) := Nat.pow_lt_pow_right (by omega) (by omega)
    unfold drwK
    split
    · exact Nat.or_lt_two_pow (by omega) h2
    · omega
theorem drw_bit (s : Sup) (on : Nat) (cl : List Bool) : ∀ n i, (drwK s on cl n).testBit i = (decide (i < n) && (on.testBit i && live s cl (gd s.2.1 (i : Int)).1))
  | 0, i => by simp [drwK]
  | n + 1, i => by
    have ih := drw_bit s on cl n i
    unfold drwK
    by_cases hi : i = n
    · subst hi
      rw [dec_f (by omega), Bool.false_and] at ih
      rw [dec_t (by omega), Bool.true_and]
      cases on.testBit i && live s cl (gd s.2.1 (i : Int)).1 with
      | false => rw [if_neg (by simp), ih]
      | true => rw [if_pos rfl, Nat.testBit_or, Nat.testBit_two_pow_self, Bool.or_true]
    · have hd : decide (i < n + 1) = decide (i < n) := by
        by_cases h : i < n
        · rw [dec_t h, dec_t (by omega)]
        · rw [dec_f h, dec_f (by omega)]
      rw [hd, ← ih]
      split
      · rw [Nat.testBit_or, Nat.testBit_two_pow_of_ne (by omega), Bool.or_false]
      · rfl
theorem R88_eq {s : Sup} (on : Int) {cl : List Bool} (hc : cl.length = s.1.length + 1) (ov : List Int) (N : Nat) : ∀ (xs : List Int), (∀ x ∈ xs, x = -1 ∨ (0 ≤ x ∧ x < s.1.length)) → ∀ lv : Bool,
    R88_6 N xs (some (s, on, cl, ov), lv, ()) = some (.norm, (lv && xs.all fun x => gd cl ((ix s.1.length x : Nat) : Int), ()))
  | [], _, lv => by
    show some (X.norm, (lv, ())) = _
    simp
  | x :: xs, hx, lv => by
    show Q88_6 N (R88_6 N xs) x (some (s, on, cl, ov)) lv = _
    unfold Q88_6
    have ih := R88_eq (s := s) on hc ov N xs fun y hy => hx y (List.mem_cons_of_mem _ hy)
    have hx0 := hx x List.mem_cons_self
    rw [List.all_cons]
    by_cases hx1 : x = -1
    · have hb1 : (x == -1) = true := by simp [hx1]
      have hi : ix s.1.length x = s.1.length := by unfold ix; rw [if_pos hx1]
      rw [hb1, cond_true, derefK_some, hi]
      cases lv with
      | false => rw [cond_false, ih]; rfl
      | true =>
        rw [cond_true, derefK_some]
        show getI cl (s.1.length : Int) _ = _
        rw [getI_gd (by omega) (by omega), ih, Bool.true_and]
    · have hb1 : (x == -1) = false := beq_eq_false_iff_ne.2 hx1
      have hi : ((ix s.1.length x : Nat) : Int) = x := by unfold ix; rw [if_neg hx1]; omega
      rw [hb1, cond_false, hi]
      cases lv with
      | false => rw [cond_false, ih]; rfl
      | true =>
        rw [cond_true, derefK_some]
        show getI cl x _ = _
        rw [getI_gd (by omega) (by omega), ih, Bool.true_and]
theorem g88_eq {s : Sup} (h : okS s = true) {on : Nat} (hon : on < 65536) {cl : List Bool} (hc : cl.length = s.1.length + 1) (ov : List Int) : g88 ((s, (on : Int), cl, ov), ()) = some ((((drw s on cl : Nat) : Int), ()), ()) := by
  show F88 fuel (s, (on : Int), cl, ov) = _
  unfold F88
  have hl := okS_le h
  have hf := fuel_ge
  have hu := okS_up h
  have e := loopF (L := L88_2) (fun i => ((some (s, (on : Int), cl, ov), ((drwK s on cl i : Nat) : Int), s.2.1, (s.2.1.length : Int), (i : Int), ()), (), ())) ((((drw s on cl : Nat) : Int), ()), (), ()) 0 s.2.1.length (N := fuel) (by omega)
    (fun N => by
      simp only [L88_2, B88_2]
      rw [dec_f (by omega)]
      rfl)
    (fun N i _ hi => by
      have hx := okL_1 (okS_ld h hi)
      simp only [L88_2, B88_2, derefK_some]
      rw [dec_t (by omega), cond_true, getI_gd (by omega) (by omega), negK_in (by omega), wI (x := (i : Int) + 1) (by omega) (by omega), show ((i : Int) + 1) = ((i + 1 : Nat) : Int) by omega]
      refine (up_k hu (by omega) (by omega) (by omega) (fun l8 => derefK (R88_6 N l8 (some (s, (on : Int), cl, ov), ((bitsI .and .i64 (shrI .i64 (on : Int) (i : Int)) 1) == 1), ())) fun o7 => cond (X.same .norm o7.1) (cond o7.2.1 (negK (i : Int) (L88_2 N ((some (s, (on : Int), cl, ov), (bitsI .or .i64 ((drwK s on cl i : Nat) : Int) (shlI .i64 1 (i : Int))), s.2.1, (s.2.1.length : Int), ((i + 1 : Nat) : Int), ()), (), ()))) (L88_2 N ((some (s, (on : Int), cl, ov), ((drwK s on cl i : Nat) : Int), s.2.1, (s.2.1.length : Int), ((i + 1 : Nat) : Int), ()), (), ()))) none)).trans ?_
      rw [R88_eq (on : Int) hc ov N _ (fun x hm => by
        rcases List.mem_append.1 hm with h1 | h1
        · have := chn_mem hu _ (by omega) hx.1.2 x h1
          right; omega
        · left; simpa using h1), derefK_some, bit_n (by omega) (by omega)]
      have hlt := drwK_lt s on cl i
      have hp : (2 : Nat) ^ i < 2 ^ 16 := Nat.pow_lt_pow_right (by omega) (by omega)
      rw [negK_in (by omega), shl_n (by omega), or_n (by omega) (by omega)]
      show (bif (((if on.testBit i then (1 : Int) else 0) == 1) && live s cl (gd s.2.1 (i : Int)).1) then _ else _) = _
      conv => rhs; unfold drwK
      cases on.testBit i with
      | false => simp
      | true =>
        cases live s cl (gd s.2.1 (i : Int)).1 with
        | false => simp
        | true => rfl)
  have e' : L88_2 fuel ((some (s, (on : Int), cl, ov), 0, s.2.1, (s.2.1.length : Int), 0, ()), (), ()) = _ := e
  rw [derefK_some]
  show derefK (L88_2 fuel ((some (s, (on : Int), cl, ov), 0, s.2.1, (s.2.1.length : Int), 0, ()), (), ())) _ = _
  rw [e', derefK_some]

/-! ## What is told of the breakers that open -/
/-- The generator is told first. -/
def fixO (n : Nat) (op : List Int) : List Int := match op.findIdx? (· == (n : Int)) with
  | some i => -1 :: (op.take i ++ op.drop (i + 1))
  | none => op
theorem fixO_len (n : Nat) (op : List Int) : (fixO n op).length = op.length := by
  unfold fixO
  split
  · rename_i i hi
    have := (List.findIdx?_eq_some_iff_getElem.1 hi).1
    simp
    omega
  · rfl
theorem L59_33_eq' {s : Sup} {n : Nat} (l : List Swi) (t1 t2 t3 : Int) (rows : List Int) (trips : List (Int × Int)) (p : Plant) (op : List Int) (ho : op.length ≤ 1000) {N : Nat} (hN : 2000 ≤ N) :
    L59_33 N ((l, s, (n : Int), t1, t2, t3, (op.length : Int), 0, ()), (rows, trips, op, p, ()), ()) = some ((l, s, (n : Int), t1, t2, t3, ()), (rows, trips, fixO n op, p, ()), ()) := by
  have e := loopIdx (L := L59_33) (fun i => ((l, s, (n : Int), t1, t2, t3, (op.length : Int), (i : Int), ()), (rows, trips, op, p, ()), ())) op (fun x => x == (n : Int))
    (fun i => ((l, s, (n : Int), t1, t2, t3, ()), (rows, trips, -1 :: (op.take i ++ op.drop (i + 1)), p, ()), ())) ((l, s, (n : Int), t1, t2, t3, ()), (rows, trips, op, p, ()), ()) 0 (N := N) (by omega)
    (fun N => by
      simp only [L59_33, B59_33]
      rw [dec_f (by omega)]
      rfl)
    (fun N i _ hi => by
      have hd : g91 (op, (i : Int), ((i + 1 : Nat) : Int), ()) = some ((op.take i ++ op.drop (i + 1), ()), ()) := by
        show It.g91 _ = _
        unfold It.g91
        rw [if_pos (by show 0 ≤ (i : Int) ∧ (i : Int) < ((i + 1 : Nat) : Int) ∧ ((i + 1 : Nat) : Int) ≤ op.length; omega)]
        rfl
      have hins : ∀ m : List Int, m.length < 1000000 → g90 (m, 0, [-1], ()) = some ((-1 :: m, ()), ()) := fun m hm => by
        show It.g90 _ = _
        unfold It.g90
        rw [if_pos ⟨rfl, rfl, hm⟩]
        rfl
      simp only [L59_33, B59_33]
      rw [dec_t (by omega), cond_true, inR_in (by omega) (by omega), getI_gd (by omega) (by omega), wI (x := (i : Int) + 1) (by omega) (by omega), show ((i : Int) + 1) = ((i + 1 : Nat) : Int) by omega, hd, derefK_some, hins _ (by simp; omega), derefK_some]
      cases gd op (i : Int) == (n : Int) <;> rfl)
  have e' : L59_33 N ((l, s, (n : Int), t1, t2, t3, (op.length : Int), 0, ()), (rows, trips, op, p, ()), ()) = _ := e
  rw [e']
  unfold fixO
  cases op.findIdx? (fun x => x == (n : Int)) <;> rfl
theorem L59_39_eq' {s : Sup} {n : Nat} (l : List Swi) (t t2 t3 : Int) (rows : List Int) (trips : List (Int × Int)) (p : Plant) (op : List Int) (ho : op.length ≤ 1000) (ht : trips.length ≤ 1000000) {N : Nat} (hN : 2000 ≤ N) :
    L59_39 N ((l, s, (n : Int), t, t2, t3, (op.length : Int), 0, ()), (rows, trips, op, p, ()), ()) = some ((l, s, (n : Int), t2, t3, ()), (rows, trips ++ op.map (fun b => (t, b)), p, ()), ()) := by
  have e := loopF (L := L59_39) (fun i => ((l, s, (n : Int), t, t2, t3, (op.length : Int), (i : Int), ()), (rows, trips ++ (op.take i).map (fun b => (t, b)), op, p, ()), ())) ((l, s, (n : Int), t2, t3, ()), (rows, trips ++ op.map (fun b => (t, b)), p, ()), ()) 0 op.length (N := N) (by omega)
    (fun N => by
      simp only [L59_39, B59_39]
      rw [dec_f (by omega), List.take_length]
      rfl)
    (fun N i _ hi => by
      simp only [L59_39, B59_39]
      rw [dec_t (by omega), cond_true, inR_in (by omega) (by omega), getI_gd (by omega) (by omega), lenK_in (by omega) (by simp; omega), wI (x := (i : Int) + 1) (by omega) (by omega), show ((i : Int) + 1) = ((i + 1 : Nat) : Int) by omega, List.append_assoc, take_nat hi, List.map_append]
      rfl)
  have e0 : trips ++ (op.take 0).map (fun b => (t, b)) = trips := by simp
  rw [e0] at e
  exact e
/-- The switches of a tick, one after the other. -/
def trnK (n : Nat) (l : List Swi) (t : Int) (st : Nat × List Bool) : Nat → Nat × List Bool
  | 0 => st
  | i + 1 => if (gd l (i : Int)).1 = t then trn n (trnK n l t st i) (gd l (i : Int)) else trnK n l t st i
theorem trnK_ok {s : Sup} (hl : s.1.length ≤ 10 ∧ s.2.1.length ≤ 16) {ticks : Int} {l : List Swi} (hx : l.all (okX s ticks) = true) (t : Int) {st : Nat × List Bool} (h : st.1 < 65536 ∧ st.2.length = s.1.length + 1) : ∀ i, i ≤ l.length → (trnK s.1.length l t st i).1 < 65536 ∧ (trnK s.1.length l t st i).2.length = s.1.length + 1
  | 0, _ => h
  | i + 1, hi => by
    have ih := trnK_ok hl hx t h i (by omega)
    unfold trnK
    split
    · exact trn_ok hl (List.all_eq_true.1 hx _ (gd_mem (by omega) (by omega))) ih
    · exact ih
theorem L59_14_eq' {s : Sup} (hl : s.1.length ≤ 10 ∧ s.2.1.length ≤ 16) {ticks : Int} {l : List Swi} (hx : l.all (okX s ticks) = true) (hll : l.length ≤ 1000) (t t2 t3 : Int) (rows : List Int) (trips : List (Int × Int)) {st : Nat × List Bool} (h : st.1 < 65536 ∧ st.2.length = s.1.length + 1) (ov : List Int) {N : Nat} (hN : 2000 ≤ N) :
    L59_14 N ((l, s, (s.1.length : Int), t, t2, t3, l, (l.length : Int), 0, ()), (rows, trips, (s, (st.1 : Int), st.2, ov), ()), ()) =
      some ((l, s, (s.1.length : Int), t, t2, t3, ()), (rows, trips, (s, ((trnK s.1.length l t st l.length).1 : Int), (trnK s.1.length l t st l.length).2, ov), ()), ()) := by
  exact loopF (L := L59_14) (fun i => ((l, s, (s.1.length : Int), t, t2, t3, l, (l.length : Int), (i : Int), ()), (rows, trips, (s, ((trnK s.1.length l t st i).1 : Int), (trnK s.1.length l t st i).2, ov), ()), ()))
    ((l, s, (s.1.length : Int), t, t2, t3, ()), (rows, trips, (s, ((trnK s.1.length l t st l.length).1 : Int), (trnK s.1.length l t st l.length).2, ov), ()), ()) 0 l.length (N := N) (by omega)
    (fun N => by
      simp only [L59_14, B59_14]
      rw [dec_f (by omega)]
      rfl)
    (fun N i _ hi => by
      simp only [L59_14, B59_14]
      rw [dec_t (by omega), cond_true, getI_gd (by omega) (by omega), wI (x := (i : Int) + 1) (by omega) (by omega), show ((i : Int) + 1) = ((i + 1 : Nat) : Int) by omega,
        g87_eq hl (List.all_eq_true.1 hx _ (gd_mem (by omega) (by omega))) (trnK_ok hl hx t h i (by omega)), derefK_some]
      conv => rhs; unfold trnK
      by_cases ht : (gd l (i : Int)).1 = t
      · have : ((gd l (i : Int)).1 == t) = true := by simp [ht]
        rw [this, if_pos ht]
        rfl
      · have : ((gd l (i : Int)).1 == t) = false := beq_eq_false_iff_ne.2 ht
        rw [this, if_neg ht]
        rfl)

/-! ## A play -/
structure PSt where
  rows : List Int
  trips : List (Int × Int)
  on : Nat
  cl : List Bool
  ov : List Int
/-- A tick. -/
def tickSt (s : Sup) (l : List Swi) (t : Int) (p : PSt) : Nat × List Bool := trnK s.1.length l t (p.on, p.cl) l.length
def tickSet (s : Sup) (l : List Swi) (t : Int) (p : PSt) : Nat := drw s (tickSt s l t p).1 (tickSt s l t p).2
def tickB (s : Sup) (l : List Swi) (t : Int) (p : PSt) : (List Bool) × ((List Int) × (List Int)) := brdK s (tickSet s l t p) ((tickSt s l t p).2, p.ov, []) (s.1.length + 1)
def tick (s : Sup) (l : List Swi) (t : Int) (p : PSt) : PSt :=
  ⟨p.rows ++ [((tickSet s l t p : Nat) : Int)], p.trips ++ (fixO s.1.length (tickB s l t p).2.2).map (fun b => (t, b)), (tickSt s l t p).1, (tickB s l t p).1, (tickB s l t p).2.1⟩
def ply0 (s : Sup) : PSt := ⟨[], [], 0, List.replicate (s.1.length + 1) true, List.replicate (s.1.length + 1) 0⟩
def ply (s : Sup) (l : List Swi) : Nat → PSt
  | 0 => ply0 s
  | t + 1 => tick s l (t : Int) (ply s l t)
structure POK (s : Sup) (t : Nat) (p : PSt) : Prop where
  rl : p.rows.length = t
  tl : p.trips.length ≤ 11 * t
  on : p.on < 65536
  cl : p.cl.length = s.1.length + 1
  ol : p.ov.length = s.1.length + 1
  bd : ∀ j : Nat, j ≤ s.1.length → 0 ≤ gd p.ov (j : Int) ∧ gd p.ov (j : Int) ≤ t
theorem POK.q {s : Sup} {l : List Swi} {t : Int} {n : Nat} {p : PSt} (h : POK s n p) (hst : (tickSt s l t p).2.length = s.1.length + 1) : QOK s.1.length n ((tickSt s l t p).2, p.ov, []) 0 :=
  ⟨hst, h.ol, fun j hj => by have := h.bd j hj; rw [if_neg (by omega)]; exact this, Nat.le_refl _⟩
theorem tick_ok {s : Sup} (hl : s.1.length ≤ 10 ∧ s.2.1.length ≤ 16) {ticks : Int} {l : List Swi} (hx : l.all (okX s ticks) = true) (t : Int) {n : Nat} {p : PSt} (h : POK s n p) : POK s (n + 1) (tick s l t p) := by
  have h1 := trnK_ok hl hx t (st := (p.on, p.cl)) ⟨h.on, h.cl⟩ l.length (Nat.le_refl _)
  have hq := brdK_ok (S := tickSet s l t p) (B := (n : Int)) (by omega) (h.q (l := l) (t := t) h1.2) (s.1.length + 1) (Nat.le_refl _)
  refine ⟨by show (p.rows ++ [_]).length = _; simp [h.rl], ?_, h1.1, hq.l1, hq.l2, fun j hj => ?_⟩
  · show (p.trips ++ _).length ≤ _
    have := hq.op
    rw [List.length_append, List.length_map, fixO_len]
    have := h.tl
    show p.trips.length + (brdK s (tickSet s l t p) ((tickSt s l t p).2, p.ov, []) (s.1.length + 1)).2.2.length ≤ _
    omega
  · have := hq.bd j hj
    rw [if_pos (by omega)] at this
    exact ⟨this.1, by have := this.2; show _ ≤ ((n + 1 : Nat) : Int); exact Int.le_trans this (by omega)⟩
theorem ply0_ok (s : Sup) : POK s 0 (ply0 s) := ⟨rfl, Nat.zero_le _, by show 0 < 65536; omega, by simp [ply0], by simp [ply0], fun j hj => by
  show 0 ≤ gd (List.replicate (s.1.length + 1) (0 : Int)) (j : Int) ∧ gd (List.replicate (s.1.length + 1) (0 : Int)) (j : Int) ≤ 0
  rw [gd_replicate (by omega) (by omega)]
  omega⟩
theorem ply_ok {s : Sup} (hl : s.1.length ≤ 10 ∧ s.2.1.length ≤ 16) {ticks : Int} {l : List Swi} (hx : l.all (okX s ticks) = true) : ∀ t, POK s t (ply s l t)
  | 0 => ply0_ok s
  | t + 1 => tick_ok hl hx t (ply_ok hl hx t)
end Go.Proofs.Try.V
