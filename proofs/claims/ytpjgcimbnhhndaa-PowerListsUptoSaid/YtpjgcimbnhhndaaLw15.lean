/- Plain laws of layer 5, fifteenth part: what fits together stays on. No condition beyond those typed in each theorem. -/
import Derived.Test.YtpjgcimbnhhndaaLw14
namespace Go.Proofs.Try.V
open Go.Vi
set_option maxRecDepth 100000

def Sub (x S : Nat) : Prop := ∀ i, x.testBit i = true → S.testBit i = true
theorem curK_mono {s : Sup} (hs : okS s = true) {x S : Nat} (h : Sub x S) (b ph : Int) : ∀ k, k ≤ s.2.1.length → curK s x b ph k ≤ curK s S b ph k
  | 0, _ => Int.le_refl _
  | k + 1, hk => by
    have ih := curK_mono hs h b ph k (by omega)
    have ha := okL_1 (okS_ld hs (k := k) (by omega))
    unfold curK
    by_cases hx : x.testBit k = true
    · rw [hx, h k hx]
      split <;> omega
    · rw [Bool.not_eq_true] at hx
      rw [hx, Bool.false_and, if_neg (by simp)]
      split <;> omega
theorem ovr_mono {s : Sup} (hs : okS s = true) {x S : Nat} (h : Sub x S) {b : Int} (ho : ovr s S b = false) : ovr s x b = false := by
  unfold ovr at *
  rw [decide_eq_false_iff_not] at *
  have m0 := curK_mono hs h b 0 _ (Nat.le_refl _)
  have m1 := curK_mono hs h b 1 _ (Nat.le_refl _)
  have m2 := curK_mono hs h b 2 _ (Nat.le_refl _)
  unfold mx3 cur at *
  omega
theorem fo_bO {s : Sup} {S : Nat} (h : fo s S = none) {k : Nat} (hk : k ≤ s.1.length) : ovr s S (bO s.1.length k) = false := by
  unfold bO
  by_cases e : k = s.1.length
  · rw [if_pos e]
    exact fo_none.1 h 0 (Nat.zero_le _)
  · rw [if_neg e]
    have := fo_none.1 h (k + 1) (by omega)
    rwa [show (((k + 1 : Nat) : Int) - 1) = (k : Int) by omega] at this
/-- All loads that are ever turned on. -/
def tsK (l : List Swi) : Nat → Nat
  | 0 => 0
  | i + 1 => if (gd l (i : Int)).2.1 = 1 then tsK l i ||| 2 ^ (gd l (i : Int)).2.2.toNat else tsK l i
theorem tsK_sub (l : List Swi) : ∀ (d i : Nat), Sub (tsK l i) (tsK l (i + d))
  | 0, _ => fun _ h => h
  | d + 1, i => fun b h => by
    have ih := tsK_sub l d i b h
    show (tsK l (i + d + 1)).testBit b = true
    unfold tsK
    split
    · rw [Nat.testBit_or, ih]; rfl
    · exact ih
theorem tsK_in (l : List Swi) {i n : Nat} (h : i < n) (hk : (gd l (i : Int)).2.1 = 1) : (tsK l n).testBit (gd l (i : Int)).2.2.toNat = true := by
  have := tsK_sub l (n - (i + 1)) (i + 1) (gd l (i : Int)).2.2.toNat (by
    unfold tsK
    rw [if_pos hk, Nat.testBit_or, Nat.testBit_two_pow_self, Bool.or_true])
  rwa [show i + 1 + (n - (i + 1)) = n by omega] at this
theorem okX_num {s : Sup} {ticks : Int} {x : Swi} (h : okX s ticks x = true) (hk : x.2.1 = 1 ∨ x.2.1 = 2) : 0 ≤ x.2.2 ∧ x.2.2 ≤ (s.2.1.length : Int) - 1 := by
  unfold okX at h
  rw [Bool.and_eq_true, if_pos hk] at h
  exact rng_iff.1 h.2
theorem tsK_lt {s : Sup} {ticks : Int} {l : List Swi} (hx : l.all (okX s ticks) = true) : ∀ i, i ≤ l.length → tsK l i < 2 ^ s.2.1.length
  | 0, _ => Nat.two_pow_pos _
  | i + 1, hi => by
    have ih := tsK_lt hx i (by omega)
    unfold tsK
    split
    · rename_i hk
      have := okX_num (List.all_eq_true.1 hx _ (gd_mem (l := l) (i := (i : Int)) (by omega) (by omega))) (.inl hk)
      exact Nat.or_lt_two_pow ih (Nat.pow_lt_pow_right (by omega) (by omega))
    · exact ih
theorem trnK_sub {n : Nat} {l : List Swi} (t : Int) {st : Nat × List Bool} (h : Sub st.1 (tsK l l.length)) : ∀ i, i ≤ l.length → Sub (trnK n l t st i).1 (tsK l l.length)
  | 0, _ => h
  | i + 1, hi => by
    have ih := trnK_sub (n := n) t h i (by omega)
    unfold trnK
    split
    case isFalse => exact ih
    unfold trn
    split
    · rename_i hk
      intro b hb
      have hb : ((trnK n l t st i).1 ||| 2 ^ (gd l (i : Int)).2.2.toNat).testBit b = true := hb
      rw [Nat.testBit_or, Bool.or_eq_true] at hb
      rcases hb with hb | hb
      · exact ih b hb
      · by_cases e : (gd l (i : Int)).2.2.toNat = b
        · rw [← e]
          exact tsK_in l (by omega) hk
        · rw [Nat.testBit_two_pow_of_ne e] at hb
          cases hb
    · split
      · intro b hb
        have hb : (dif (trnK n l t st i).1 (2 ^ (gd l (i : Int)).2.2.toNat)).testBit b = true := hb
        rw [dif_bit, Bool.and_eq_true] at hb
        exact ih b hb.1
      · split <;> exact ih
/-- All breakers but the generator's stay closed. -/
theorem trnK_cl {s : Sup} (hl : s.1.length ≤ 10 ∧ s.2.1.length ≤ 16) {ticks : Int} {l : List Swi} (hx : l.all (okX s ticks) = true) (t : Int) {st : Nat × List Bool} (h : st.1 < 65536 ∧ st.2.length = s.1.length + 1) {k : Nat} (hk : k < s.1.length) (hc : gd st.2 (k : Int) = true) :
    ∀ i, i ≤ l.length → gd (trnK s.1.length l t st i).2 (k : Int) = true
  | 0, _ => hc
  | i + 1, hi => by
    have hok := trnK_ok hl hx t h i (by omega)
    have ih := trnK_cl hl hx t h hk hc i (by omega)
    unfold trnK
    split
    case isFalse => exact ih
    unfold trn
    split
    · exact ih
    split
    · exact ih
    split
    · show gd ((trnK s.1.length l t st i).2.set _ true) (k : Int) = true
      by_cases hn : (gd l (i : Int)).2.2.toNat < (trnK s.1.length l t st i).2.length
      · rw [gd_set_nat hn]
        split
        · rfl
        · exact ih
      · rw [List.set_eq_of_length_le (by omega)]
        exact ih
    · show gd ((trnK s.1.length l t st i).2.set _ _) (k : Int) = true
      rw [gd_set_nat (by omega), if_neg (by omega)]
      exact ih
theorem live_gen {s : Sup} (hs : okS s = true) {cl : List Bool} (hc : ∀ k : Nat, k < s.1.length → gd cl (k : Int) = true) {b : Int} (h0 : 0 ≤ b) (h1 : b < s.1.length) : live s cl b = gd cl (s.1.length : Int) := by
  have hm := chn_mem (okS_up hs) b (by omega) h1
  unfold live
  rw [List.all_append]
  have e1 : (chn s.1 b).all (fun x => gd cl ((ix s.1.length x : Nat) : Int)) = true := List.all_eq_true.2 fun x hx => by
    have := hm x hx
    have hi : ix s.1.length x = x.toNat := by unfold ix; rw [if_neg (by omega)]
    rw [hi]
    exact hc _ (by omega)
  have hi : ix s.1.length (-1) = s.1.length := by unfold ix; rw [if_pos rfl]
  rw [e1, Bool.true_and, List.all_cons, hi, List.all_nil, Bool.and_true]
theorem drw_gen {s : Sup} (hs : okS s = true) {on : Nat} {cl : List Bool} (hc : ∀ k : Nat, k < s.1.length → gd cl (k : Int) = true) (hon : on < 2 ^ s.2.1.length) : drw s on cl = if gd cl (s.1.length : Int) = true then on else 0 := by
  refine Nat.eq_of_testBit_eq fun i => ?_
  unfold drw
  rw [drw_bit]
  by_cases hi : i < s.2.1.length
  · have hx := okL_1 (okS_ld hs hi)
    rw [dec_t hi, Bool.true_and, live_gen hs hc hx.1.1 hx.1.2]
    cases gd cl (s.1.length : Int) with
    | true => rw [if_pos rfl, Bool.and_true]
    | false => rw [if_neg (by simp), Bool.and_false, Nat.zero_testBit]
  · rw [dec_f hi, Bool.false_and]
    have h1 : on.testBit i = false := Nat.testBit_lt_two_pow (Nat.lt_of_lt_of_le hon (Nat.pow_le_pow_right (by omega) (by omega)))
    split
    · exact h1.symm
    · exact (Nat.zero_testBit i).symm
structure RInv (s : Sup) (l : List Swi) (p : PSt) : Prop where
  cl : ∀ k : Nat, k < s.1.length → gd p.cl (k : Int) = true
  tr : p.trips = []
  on : Sub p.on (tsK l l.length)
theorem sub_lt {x S n : Nat} (h : Sub x S) (hS : S < 2 ^ n) : x < 2 ^ n := by
  refine Nat.lt_pow_two_of_testBit x fun i hi => ?_
  cases hb : x.testBit i with
  | false => rfl
  | true =>
    have h1 := h i hb
    rw [Nat.testBit_lt_two_pow (Nat.lt_of_lt_of_le hS (Nat.pow_le_pow_right (by omega) hi))] at h1
    cases h1
theorem RInv.step {s : Sup} (hs : okS s = true) {ticks : Int} {l : List Swi} (hx : l.all (okX s ticks) = true) (hfit : fo s (tsK l l.length) = none) (t : Int) {n : Nat} {p : PSt} (h : POK s n p) (hi : RInv s l p) :
    RInv s l (tick s l t p) ∧ tickSet s l t p = (if gd (tickSt s l t p).2 (s.1.length : Int) = true then (tickSt s l t p).1 else 0) ∧ (tick s l t p).on = (tickSt s l t p).1 ∧ gd (tick s l t p).cl (s.1.length : Int) = gd (tickSt s l t p).2 (s.1.length : Int) := by
  have hl := okS_le hs
  have hlt := tsK_lt hx l.length (Nat.le_refl _)
  have hsub : Sub (tickSt s l t p).1 (tsK l l.length) := trnK_sub t hi.on l.length (Nat.le_refl _)
  have hcl : ∀ k : Nat, k < s.1.length → gd (tickSt s l t p).2 (k : Int) = true := fun k hk => trnK_cl hl hx t (st := (p.on, p.cl)) ⟨h.on, h.cl⟩ hk (hi.cl k hk) l.length (Nat.le_refl _)
  have hset : tickSet s l t p = (if gd (tickSt s l t p).2 (s.1.length : Int) = true then (tickSt s l t p).1 else 0) := drw_gen hs hcl (sub_lt hsub hlt)
  have hsub2 : Sub (tickSet s l t p) (tsK l l.length) := by
    rw [hset]
    split
    · exact hsub
    · intro i hh
      rw [Nat.zero_testBit] at hh
      cases hh
  have hop : ∀ k : Nat, k ≤ s.1.length → opn s (tickSet s l t p) p.ov k = false := fun k hk => by
    have ho := ovr_mono hs hsub2 (fo_bO hfit hk)
    have hb : bO s.1.length k < s.1.length := by unfold bO; split <;> omega
    have hd := dly_bd hs hb
    unfold ovr at ho
    rw [decide_eq_false_iff_not] at ho
    unfold opn ov1
    rw [if_pos (by omega), dec_f]
    omega
  have hgen := (tick_at hl hx t h (Nat.le_refl s.1.length)).1
  rw [if_neg (by rw [hop _ (Nat.le_refl _)]; decide)] at hgen
  refine ⟨⟨fun k hk => ?_, ?_, hsub⟩, hset, rfl, hgen⟩
  · rw [(tick_at hl hx t h (show k ≤ s.1.length by omega)).1, if_neg (by rw [hop k (by omega)]; decide)]
    exact hcl k hk
  · have h1 := trnK_ok hl hx t (st := (p.on, p.cl)) ⟨h.on, h.cl⟩ l.length (Nat.le_refl _)
    have h5 := (brdK_at (s := s) (S := tickSet s l t p) (q := ((tickSt s l t p).2, p.ov, [])) h1.2 h.ol (s.1.length + 1) (Nat.le_refl _)).2.2.2.2
    have hnil : (List.range (s.1.length + 1)).filter (opn s (tickSet s l t p) p.ov) = [] := by
      rw [List.filter_eq_nil_iff]
      intro k hk
      rw [hop k (by have := List.mem_range.1 hk; omega)]
      decide
    have h6 : (tickB s l t p).2.2 = [] := h5.trans (by
      show [] ++ ((List.range (s.1.length + 1)).filter (opn s (tickSet s l t p) p.ov)).map (fun (k : Nat) => (k : Int)) = []
      rw [hnil]
      rfl)
    show p.trips ++ (fixO s.1.length (tickB s l t p).2.2).map (fun b => (t, b)) = []
    rw [h6, hi.tr]
    rfl
theorem RInv.zero (s : Sup) (l : List Swi) : RInv s l (ply0 s) :=
  ⟨fun k hk => by
    show gd (List.replicate (s.1.length + 1) true) (k : Int) = true
    rw [gd_replicate (by omega) (by omega)], rfl, fun i h => by
    have h : (0 : Nat).testBit i = true := h
    rw [Nat.zero_testBit] at h
    cases h⟩
theorem RInv.all {s : Sup} (hs : okS s = true) {ticks : Int} {l : List Swi} (hx : l.all (okX s ticks) = true) (hfit : fo s (tsK l l.length) = none) : ∀ t, RInv s l (ply s l t)
  | 0 => RInv.zero s l
  | t + 1 => (RInv.step hs hx hfit (t : Int) (ply_ok (okS_le hs) hx t) (RInv.all hs hx hfit t)).1
end Go.Proofs.Try.V
