/- Plain laws of layer 8 (for buildChecks). No condition beyond those typed in each theorem. -/
import Derived.Test.YtjhphibadndkcaaLw8
import Derived.Test.YtjhphibadndkcaaLw11
namespace Go.Proofs.Try.V
open Go.Vi
set_option maxRecDepth 100000

def errS (k : Kit) (s : List Bool) : Int := cond (valid k) (cond (decide (s.length = k.1.length)) 0 1) 80
theorem len_ne {a b : Nat} : ((a : Int) != (b : Int)) = !decide (a = b) := by
  by_cases h : a = b
  · subst h; simp
  · rw [dec_f h]
    simp only [bne, Bool.not_false, Bool.not_eq_true', beq_eq_false_iff_ne, ne_eq]
    omega
theorem g32_eq (k : Kit) (hk : Small k) : g32 (k, ()) = some ((cond (valid k) 0 80, ()), ()) := by
  have hF : g32 (k, ()) = F32 fuel k := rfl
  rw [hF]
  unfold F32
  rcases g48_eq k hk with ⟨hv, q, h⟩ | ⟨hv, y, hy, h⟩ <;> rw [h, hv] <;> rfl
theorem g67_eq (k : Kit) (hk : Small k) (s : List Bool) : g67 (k, s, ()) = some ((errS k s, ()), ()) := by
  have hF : g67 (k, s, ()) = F67 fuel k s := rfl
  rw [hF]
  unfold F67 errS
  rw [g33_eq k hk, derefK_some, len_ne]
  cases valid k with
  | false => rfl
  | true => cases decide (s.length = k.1.length) <;> rfl
theorem g65_eq (k : Kit) (hk : Small k) (s : List Bool) : (errS k s ≠ 0 ∧ g65 (k, s, ()) = some ((none, errS k s, ()), ())) ∨ (errS k s = 0 ∧ valid k = true ∧ s.length = k.1.length ∧ ∃ y, Yards k y ∧ g65 (k, s, ()) = some ((some y, 0, ()), ())) := by
  have hF : g65 (k, s, ()) = F65 fuel k s := rfl
  rw [hF]
  unfold F65 errS
  rcases g48_eq k hk with ⟨hv, q, h⟩ | ⟨hv, y, hy, h⟩
  · rw [h, hv]; exact .inl ⟨by simp, rfl⟩
  · rw [h, hv, derefK_some, len_ne]
    by_cases hl : s.length = k.1.length
    · rw [dec_t hl]; exact .inr ⟨rfl, rfl, hl, y, hy, rfl⟩
    · rw [dec_f hl]; exact .inl ⟨by simp, rfl⟩
theorem g70_eq {k : Kit} (hk : Small k) (h : Fine k) {s : List Bool} (hs : s.length = k.1.length) {p : Int} (h0 : 0 ≤ p) (hp : p < k.1.length) : g70 (k, s, p, ()) = some (((needsOf k p).all (has s), ()), ()) := by
  have hq : k.1[p.toNat]? = some (k.1[p.toNat]'(by omega)) := List.getElem?_eq_getElem (by omega)
  generalize k.1[p.toNat]'(by omega) = q at hq
  have hnl := hk.needs q (List.mem_of_getElem? hq)
  have hnq : needsOf k p = q.2.2.2 := by unfold needsOf; rw [hq]
  have hG : g70 (k, s, p, ()) = F70 fuel k s p := rfl
  rw [hG, hnq]
  unfold F70
  rw [getI_some h0 hq]
  have hl := L70_3_eq' s q.2.2.2 hnl (fun x hx => by have := needs_in h h0 hp x (by rw [hnq]; exact hx); omega) q.2.2.2 [] fuel rfl (by have := fuel_big; omega)
  have hl' : L70_3 fuel ((s, q.2.2.2, 0, ()), (), ()) = _ := hl
  rw [hl', derefK_some]
  cases q.2.2.2.all (has s) <;> rfl
def fallsB (k : Kit) (s : List Bool) (p : Int) : Bool := has s p && !(needsOf k p).all (has s)

theorem L35_6_eq' {k : Kit} (hk : Small k) (hf : Fine k) (s : List Bool) (hs : s.length = k.1.length) : ∀ (d t : Nat) (l : List Int) (N : Nat), t + d = s.length → l.length + d ≤ 1048576 → d < N →
    L35_6 N ((s, (t : Int), ()), (k, l, ()), ()) = some ((), (l ++ ((List.range' t d).map Int.ofNat).filter (canB k s), ()), ())
  | 0, t, l, N, ht, hl, hN => by
    obtain ⟨n, rfl⟩ := pos_of_lt hN
    simp only [L35_6, B35_6]
    rw [dec_f (by omega)]
    simp
  | d + 1, t, l, N, ht, hl, hN => by
    obtain ⟨n, rfl⟩ := pos_of_lt hN
    have h16 := hf.parts
    simp only [L35_6, B35_6]
    rw [dec_t (by omega), cond_true, g58_eq hk hf hs (by omega) (by omega), derefK_some, w64 (by omega) (by omega), show (t : Int) + 1 = ((t + 1 : Nat) : Int) by omega, List.range'_succ, List.map_cons, List.filter_cons]
    cases hb : canB k s (t : Int) with
    | true =>
      rw [cond_true, lenK_in (by simp; omega) (by simp; omega), L35_6_eq' hk hf s hs d (t + 1) (l ++ [(t : Int)]) n (by omega) (by simp; omega) (by omega)]
      simp []
    | false =>
      rw [cond_false, L35_6_eq' hk hf s hs d (t + 1) l n (by omega) (by omega) (by omega)]
      simp []
theorem L37_6_eq' {k : Kit} (hk : Small k) (hf : Fine k) (s : List Bool) (hs : s.length = k.1.length) : ∀ (d t : Nat) (l : List Int) (N : Nat), t + d = s.length → l.length + d ≤ 1048576 → d < N →
    L37_6 N ((s, (t : Int), ()), (k, l, ()), ()) = some ((), (l ++ ((List.range' t d).map Int.ofNat).filter (fallsB k s), ()), ())
  | 0, t, l, N, ht, hl, hN => by
    obtain ⟨n, rfl⟩ := pos_of_lt hN
    simp only [L37_6, B37_6]
    rw [dec_f (by omega)]
    simp
  | d + 1, t, l, N, ht, hl, hN => by
    obtain ⟨n, rfl⟩ := pos_of_lt hN
    have h16 := hf.parts
    simp only [L37_6, B37_6]
    rw [dec_t (by omega), cond_true, getI_has (by omega) (by omega), g70_eq hk hf hs (by omega) (by omega), derefK_some, w64 (by omega) (by omega), show (t : Int) + 1 = ((t + 1 : Nat) : Int) by omega, List.range'_succ, List.map_cons, List.filter_cons]
    have e : fallsB k s (Int.ofNat t) = (has s (t : Int) && !(needsOf k (t : Int)).all (has s)) := rfl
    rw [e]
    cases has s (t : Int) with
    | false =>
      rw [cond_false, L37_6_eq' hk hf s hs d (t + 1) l n (by omega) (by omega) (by omega)]
      simp
    | true =>
      rw [cond_true]
      cases (needsOf k (t : Int)).all (has s) with
      | true =>
        rw [Bool.not_true, cond_false, L37_6_eq' hk hf s hs d (t + 1) l n (by omega) (by omega) (by omega)]
        simp
      | false =>
        rw [Bool.not_false, cond_true, lenK_in (by simp; omega) (by simp; omega), L37_6_eq' hk hf s hs d (t + 1) (l ++ [(t : Int)]) n (by omega) (by simp; omega) (by omega)]
        simp

def canR (k : Kit) (s : List Bool) : List Int := cond (errS k s == 0) ((rangeI k.1.length).filter (canB k s)) []
def fallsR (k : Kit) (s : List Bool) : List Int := cond (errS k s == 0) ((rangeI k.1.length).filter (fallsB k s)) []
theorem g34_eq (k : Kit) (hk : Small k) (s : List Bool) : g34 (k, s, ()) = some ((canR k s, errS k s, ()), ()) := by
  have hF : g34 (k, s, ()) = F34 fuel k s := rfl
  rw [hF]
  unfold F34 canR
  rcases g65_eq k hk s with ⟨he, h⟩ | ⟨he, hv, hl, y, hy, h⟩
  · rw [h, derefK_some]
    have : (errS k s != 0) = true := by simpa using he
    have h2 : (errS k s == 0) = false := by simpa using he
    simp only [this, h2, cond_true, cond_false]
  · have hf := fine_of k hv
    have hyk := hy.1
    have h16 := hf.parts
    rw [h, he, derefK_some]
    simp only [bne_self_eq_false, beq_self_eq_true, cond_false, cond_true, derefK_some]
    rw [g51_eq (b := canB k s) (by rw [hyk]; omega) (fun i hi => by
      have hG : g66 ((i : Int), some y, s, ()) = F66 fuel (i : Int) (some y) s := rfl
      rw [hyk] at hi
      rw [hG]
      unfold F66
      rw [derefK_some, g56_eq hk hf hy hl (by omega) (by omega)]
      rfl), derefK_some, hyk]
theorem g36_eq (k : Kit) (hk : Small k) (s : List Bool) : g36 (k, s, ()) = some ((fallsR k s, errS k s, ()), ()) := by
  have hF : g36 (k, s, ()) = F36 fuel k s := rfl
  rw [hF]
  unfold F36 fallsR
  rcases g65_eq k hk s with ⟨he, h⟩ | ⟨he, hv, hl, y, hy, h⟩
  · rw [h, derefK_some]
    have : (errS k s != 0) = true := by simpa using he
    have h2 : (errS k s == 0) = false := by simpa using he
    simp only [this, h2, cond_true, cond_false]
  · have hf := fine_of k hv
    have hyk := hy.1
    have h16 := hf.parts
    rw [h, he, derefK_some]
    simp only [bne_self_eq_false, beq_self_eq_true, cond_false, cond_true, derefK_some]
    rw [g51_eq (b := fallsB k s) (by rw [hyk]; omega) (fun i hi => by
      have hG : g68 ((i : Int), s, some y, ()) = F68 fuel (i : Int) s (some y) := rfl
      rw [hyk] at hi
      rw [hG]
      unfold F68 fallsB
      rw [getI_has (by omega) (by omega)]
      have hq : k.1[((i : Int)).toNat]? = some (k.1[((i : Int)).toNat]'(by omega)) := List.getElem?_eq_getElem (by omega)
      generalize k.1[((i : Int)).toNat]'(by omega) = q at hq
      have hnq : needsOf k (i : Int) = q.2.2.2 := by unfold needsOf; rw [hq]
      have hnl := hk.needs q (List.mem_of_getElem? hq)
      cases has s (i : Int) with
      | false => rfl
      | true =>
        rw [cond_true, derefK_some, hyk, getI_some (by omega) hq, g69_eq hnl (fun x hx => by have := needs_in hf (p := (i : Int)) (by omega) (by omega) x (by rw [hnq]; exact hx); omega), hnq]
        rfl), derefK_some, hyk]
theorem g35_eq (k : Kit) (hk : Small k) (s : List Bool) : g35 (k, s, ()) = some ((canR k s, errS k s, ()), ()) := by
  have hF : g35 (k, s, ()) = F35 fuel k s := rfl
  rw [hF]
  unfold F35 canR
  rw [g67_eq k hk, derefK_some]
  rcases g65_eq k hk s with ⟨he, _⟩ | ⟨he, hv, hl, _⟩
  · have : (errS k s != 0) = true := by simpa using he
    have h2 : (errS k s == 0) = false := by simpa using he
    simp only [this, h2, cond_true, cond_false]
  · have hf := fine_of k hv
    have h16 := hf.parts
    simp only [he, bne_self_eq_false, beq_self_eq_true, cond_false, cond_true]
    have hh := L35_6_eq' hk hf s hl s.length 0 [] fuel (by omega) (by simp; omega) (by have := fuel_big; omega)
    have hh' : L35_6 fuel ((s, 0, ()), (k, [], ()), ()) = _ := hh
    rw [hh', derefK_some, List.nil_append, hl, ← List.range_eq_range']
    rfl
theorem g37_eq (k : Kit) (hk : Small k) (s : List Bool) : g37 (k, s, ()) = some ((fallsR k s, errS k s, ()), ()) := by
  have hF : g37 (k, s, ()) = F37 fuel k s := rfl
  rw [hF]
  unfold F37 fallsR
  rw [g67_eq k hk, derefK_some]
  rcases g65_eq k hk s with ⟨he, _⟩ | ⟨he, hv, hl, _⟩
  · have : (errS k s != 0) = true := by simpa using he
    have h2 : (errS k s == 0) = false := by simpa using he
    simp only [this, h2, cond_true, cond_false]
  · have hf := fine_of k hv
    have h16 := hf.parts
    simp only [he, bne_self_eq_false, beq_self_eq_true, cond_false, cond_true]
    have hh := L37_6_eq' hk hf s hl s.length 0 [] fuel (by omega) (by simp; omega) (by have := fuel_big; omega)
    have hh' : L37_6 fuel ((s, 0, ()), (k, [], ()), ()) = _ := hh
    rw [hh', derefK_some, List.nil_append, hl, ← List.range_eq_range']
    rfl
theorem filter_len (k : Kit) (hk : Small k) (b : Bool) (f : Int → Bool) : (cond b ((rangeI k.1.length).filter f) []).length ≤ 1048576 := by
  have h1 := List.length_filter_le f (rangeI k.1.length)
  rw [rangeI_length] at h1
  have := hk.parts
  cases b with
  | true => rw [cond_true]; omega
  | false => simp

theorem law8 (k : Kit) (hk : Small k) (s : List Bool) : g8 (k, s, ()) = some ((true, ()), ()) := by
  have hF : g8 (k, s, ()) = F8 fuel k s := rfl
  rw [hF]
  unfold F8
  rw [g32_eq k hk, g33_eq k hk, derefK_some, derefK_some]
  simp only [bne_self_eq_false, cond_false]
  rw [g34_eq k hk, g35_eq k hk, derefK_some, derefK_some]
  simp only [bne_self_eq_false, cond_false]
  rw [g18_self (canR k s) (filter_len k hk _ _), derefK_some]
  simp only [Bool.not_true, cond_false]
  rw [g36_eq k hk, g37_eq k hk, derefK_some, derefK_some]
  simp only [beq_self_eq_true, cond_true]
  rw [g18_self (fallsR k s) (filter_len k hk _ _), derefK_some]
  simp only [cond_true]
  rw [works_eq]
  rfl
end Go.Proofs.Try.V
