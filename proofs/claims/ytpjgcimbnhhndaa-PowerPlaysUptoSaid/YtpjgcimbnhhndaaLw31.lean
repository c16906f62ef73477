/- Plain laws of layer 5, thirty-first part: a night by the document. No condition beyond those typed in each theorem. -/
import Derived.Test.YtpjgcimbnhhndaaLw13
namespace Go.Proofs.Try.V
open Go.Vi
set_option maxRecDepth 100000

abbrev Ngt := (List Bool) × ((List Bool) × (List Int))
/-! ## Switches -/
/-- A set as truth values. -/
def bl (m S : Nat) : List Bool := (List.range m).map fun i => S.testBit i
theorem bl_len (m S : Nat) : (bl m S).length = m := by simp [bl]
theorem bl_at {m S i : Nat} (hi : i < m) : gd (bl m S) (i : Int) = S.testBit i := gd_mapr _ hi
theorem bl_or {m S i : Nat} : (bl m S).set i true = bl m (S ||| 2 ^ i) := by
  apply List.ext_getElem
  · simp [bl]
  · intro j h1 h2
    rw [List.getElem_set]
    simp only [bl, List.getElem_map, List.getElem_range, Nat.testBit_or, Nat.testBit_two_pow]
    by_cases e : i = j
    · simp [e]
    · simp [e]
theorem bl_dif {m S i : Nat} : (bl m S).set i false = bl m (dif S (2 ^ i)) := by
  apply List.ext_getElem
  · simp [bl]
  · intro j h1 h2
    rw [List.getElem_set]
    simp only [bl, List.getElem_map, List.getElem_range, dif_bit, Nat.testBit_two_pow]
    by_cases e : i = j
    · simp [e]
    · simp [e]
theorem bl_zero (m : Nat) : bl m 0 = List.replicate m false := by
  apply List.ext_getElem
  · simp [bl]
  · intro j h1 h2
    simp [bl]
theorem g93_eq {s : Sup} {ticks : Int} {x : Swi} (hx : okX s ticks x = true) {st : Nat × List Bool} (h : st.2.length = s.1.length + 1) (ov : List Int) :
    g93 (s, x, ()) (bl s.2.1.length st.1, st.2, ov) = some (bl s.2.1.length (trn s.1.length st x).1, (trn s.1.length st x).2, ov) := by
  show F93 fuel s (bl s.2.1.length st.1, st.2, ov) x = _
  unfold okX at hx
  rw [Bool.and_eq_true] at hx
  have hx := hx.2
  unfold F93 trn
  by_cases h1 : x.2.1 = 1
  · rw [if_pos (.inl h1), rng_iff] at hx
    have e1 : (x.2.1 == 1) = true := by simp [h1]
    rw [e1, if_pos h1, cond_true, cond_true]
    show inR x.2.2 (bl s.2.1.length st.1).length (getI (bl s.2.1.length st.1) x.2.2 _) = _
    rw [inR_in hx.1 (by rw [bl_len]; omega), getI_gd hx.1 (by rw [bl_len]; omega), bl_or]
  · have e1 : (x.2.1 == 1) = false := beq_eq_false_iff_ne.2 h1
    rw [e1, if_neg h1, cond_false]
    by_cases h2 : x.2.1 = 2
    · rw [if_pos (.inr h2), rng_iff] at hx
      have e2 : (x.2.1 == 2) = true := by simp [h2]
      rw [e2, if_pos h2, cond_true]
      show inR x.2.2 (bl s.2.1.length st.1).length (getI (bl s.2.1.length st.1) x.2.2 _) = _
      rw [inR_in hx.1 (by rw [bl_len]; omega), getI_gd hx.1 (by rw [bl_len]; omega), bl_dif]
    · have e2 : (x.2.1 == 2) = false := beq_eq_false_iff_ne.2 h2
      rw [e2, if_neg h2, cond_false]
      rw [if_neg (by omega)] at hx
      by_cases h3 : x.2.1 = 3
      · rw [if_pos h3, rng_iff] at hx
        have e3 : (x.2.1 == 3) = true := by simp [h3]
        rw [e3, if_pos h3, cond_true]
        show inR x.2.2 st.2.length (getI st.2 x.2.2 _) = _
        rw [inR_in hx.1 (by omega), getI_gd hx.1 (by omega)]
      · have e3 : (x.2.1 == 3) = false := beq_eq_false_iff_ne.2 h3
        rw [e3, if_neg h3, cond_false]
        rw [if_neg h3] at hx
        by_cases h4 : x.2.1 = 4
        · have e4 : (x.2.1 == 4) = true := by simp [h4]
          rw [e4, cond_true, cond_true]
          show inR (s.1.length : Int) st.2.length (getI st.2 (s.1.length : Int) _) = _
          rw [inR_in (by omega) (by omega), getI_gd (by omega) (by omega), Int.toNat_natCast]
          rfl
        · have e4 : (x.2.1 == 4) = false := beq_eq_false_iff_ne.2 h4
          by_cases h5 : x.2.1 = 5
          · have e5 : (x.2.1 == 5) = true := by simp [h5]
            rw [e4, e5, cond_false, cond_true]
            show inR (s.1.length : Int) st.2.length (getI st.2 (s.1.length : Int) _) = _
            rw [inR_in (by omega) (by omega), getI_gd (by omega) (by omega), Int.toNat_natCast]
            rfl
          · rw [if_neg (by omega)] at hx
            cases hx
theorem L63_12_q {s : Sup} (hl : s.1.length ≤ 10 ∧ s.2.1.length ≤ 16) {ticks : Int} {l : List Swi} (hx : l.all (okX s ticks) = true) (hll : l.length ≤ 1000) (t : Int) (rows : List Int) (trips : List (Int × Int)) {st : Nat × List Bool} (h : st.1 < 65536 ∧ st.2.length = s.1.length + 1) (ov : List Int) {N : Nat} (hN : 2000 ≤ N) :
    L63_12 N ((ticks, l, s, t, 0, ()), ((bl s.2.1.length st.1, st.2, ov), rows, trips, ()), ()) =
      some ((ticks, l, s, t, ()), ((bl s.2.1.length (trnK s.1.length l t st l.length).1, (trnK s.1.length l t st l.length).2, ov), rows, trips, ()), ()) := by
  exact loopF (L := L63_12) (fun i => ((ticks, l, s, t, (i : Int), ()), ((bl s.2.1.length (trnK s.1.length l t st i).1, (trnK s.1.length l t st i).2, ov), rows, trips, ()), ()))
    ((ticks, l, s, t, ()), ((bl s.2.1.length (trnK s.1.length l t st l.length).1, (trnK s.1.length l t st l.length).2, ov), rows, trips, ()), ()) 0 l.length (N := N) (by omega)
    (fun N => by
      simp only [L63_12, B63_12]
      rw [dec_f (by omega)]
      rfl)
    (fun N i _ hi => by
      simp only [L63_12, B63_12]
      have hok := trnK_ok hl hx t h i (by omega)
      rw [dec_t (by omega), cond_true, getI_gd (by omega) (by omega), wI (x := (i : Int) + 1) (by omega) (by omega), show ((i : Int) + 1) = ((i + 1 : Nat) : Int) by omega]
      simp only [getI_gd (l := l) (i := (i : Int)) (by omega) (by omega)]
      rw [g93_eq (List.all_eq_true.1 hx _ (gd_mem (by omega) (by omega))) hok.2, derefK_some]
      conv => rhs; unfold trnK
      by_cases ht : (gd l (i : Int)).1 = t
      · have : ((gd l (i : Int)).1 == t) = true := by simp [ht]
        rw [this, if_pos ht]
        rfl
      · have : ((gd l (i : Int)).1 == t) = false := beq_eq_false_iff_ne.2 ht
        rw [this, if_neg ht]
        rfl)

/-! ## Which loads draw -/
theorem live_neg (s : Sup) (cl : List Bool) {b : Int} (hb : b < 0) : live s cl b = gd cl (s.1.length : Int) := by
  unfold live
  rw [chn_neg hb]
  simp [ix]
theorem live_pos {s : Sup} (hu : UpOK s.1) (cl : List Bool) {b : Int} (h0 : 0 ≤ b) (h1 : b < s.1.length) : live s cl b = (gd cl b && live s cl (gd s.1 b).1) := by
  unfold live
  rw [chn_pos hu h0 h1]
  have : ((ix s.1.length b : Nat) : Int) = b := by unfold ix; rw [if_neg (by omega)]; omega
  simp [this]
theorem G94_eq {s : Sup} (hu : UpOK s.1) {on cl : List Bool} (hc : cl.length = s.1.length + 1) (ov : List Int) : ∀ (n : Nat) (b : Int), -1 ≤ b → b < s.1.length → b < n → G94 (n + 1) (s, (on, cl, ov), b, ()) = some ((live s cl b, ()), ())
  | 0, b, h0, h1, h2 => by
    show F94 _ fuel s (on, cl, ov) b = _
    unfold F94
    rw [dec_t (by omega), cond_true]
    show getI cl (s.1.length : Int) _ = _
    rw [getI_gd (by omega) (by omega), live_neg s cl (by omega)]
  | n + 1, b, h0, h1, h2 => by
    show F94 _ fuel s (on, cl, ov) b = _
    unfold F94
    by_cases hb : b < 0
    · rw [dec_t hb, cond_true]
      show getI cl (s.1.length : Int) _ = _
      rw [getI_gd (by omega) (by omega), live_neg s cl (by omega)]
    · rw [dec_f hb, cond_false]
      show getI cl b _ = _
      rw [getI_gd (by omega) (by omega), live_pos hu cl (by omega) h1]
      cases hg : gd cl b with
      | false => rfl
      | true =>
        have := hu.at (b := b) (by omega) h1
        rw [cond_true, getI_gd (by omega) h1, G94_eq hu hc ov n _ (by omega) (by omega) (by omega), derefK_some, Bool.true_and]
theorem g94_eq {s : Sup} (hu : UpOK s.1) (hl : s.1.length ≤ 1000) {on cl : List Bool} (hc : cl.length = s.1.length + 1) (ov : List Int) {b : Int} (h0 : -1 ≤ b) (h1 : b < s.1.length) : g94 (s, (on, cl, ov), b, ()) = some ((live s cl b, ()), ()) := by
  have hf := fuel_ge
  obtain ⟨m, hm⟩ : ∃ m, fuel = m + 1 := ⟨fuel - 1, by omega⟩
  show G94 fuel _ = _
  rw [hm]
  exact G94_eq hu hc ov m b h0 h1 (by omega)
theorem pow16' {i : Nat} (h : i < 16) : 2 ^ i < 65536 := Nat.pow_lt_pow_right (n := 16) (by omega) h
theorem L63_18_q {s : Sup} (hs : okS s = true) (ticks : Int) (l : List Swi) (t : Int) (rows : List Int) (trips : List (Int × Int)) (on : Nat) {cl : List Bool} (hc : cl.length = s.1.length + 1) (ov : List Int) {N : Nat} (hN : 2000 ≤ N) :
    L63_18 N ((ticks, l, s, t, 0, 0, ()), ((bl s.2.1.length on, cl, ov), rows, trips, ()), ()) =
      some ((ticks, l, s, t, ((drw s on cl : Nat) : Int), ()), ((bl s.2.1.length on, cl, ov), rows, trips, ()), ()) := by
  have hl := okS_le hs
  have hu := okS_up hs
  exact loopF (L := L63_18) (fun i => ((ticks, l, s, t, ((drwK s on cl i : Nat) : Int), (i : Int), ()), ((bl s.2.1.length on, cl, ov), rows, trips, ()), ()))
    ((ticks, l, s, t, ((drw s on cl : Nat) : Int), ()), ((bl s.2.1.length on, cl, ov), rows, trips, ()), ()) 0 s.2.1.length (N := N) (by omega)
    (fun N => by
      simp only [L63_18, B63_18]
      rw [dec_f (by omega)]
      rfl)
    (fun N i _ hi => by
      have hld := okL_1 (okS_ld hs hi)
      have hlt := drwK_lt s on cl i
      have h16 := pow16' (i := i) (by omega)
      simp only [L63_18, B63_18]
      rw [dec_t (by omega), cond_true]
      show inR (i : Int) (bl s.2.1.length on).length (getI (bl s.2.1.length on) (i : Int) _) = _
      rw [inR_in (by omega) (by rw [bl_len]; omega), getI_gd (by omega) (by rw [bl_len]; omega), bl_at hi, getI_gd (by omega) (by omega), g94_eq hu (by omega) hc ov (by omega) (by omega), derefK_some, u64_in (by omega) (by omega), negK_in (by omega), shl_n (by omega), or_n (by omega) (by omega), wI (x := (i : Int) + 1) (by omega) (by omega), show ((i : Int) + 1) = ((i + 1 : Nat) : Int) by omega]
      conv => rhs; unfold drwK
      cases on.testBit i with
      | false => rfl
      | true =>
        cases live s cl (gd s.2.1 (i : Int)).1 with
        | false => rfl
        | true => rfl)
end Go.Proofs.Try.V
