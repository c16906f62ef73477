/- Plain laws of layer 5, twenty-sixth part: choices as sets; what Hire hires is the cheapest. No condition beyond those typed in each theorem. -/
import Derived.Test.YtpjgcimbnhhndaaLw25
namespace Go.Proofs.Try.V
open Go.Vi
set_option maxRecDepth 100000

theorem fil_congr {p q : Nat → Bool} : ∀ n, (∀ k, k < n → p k = q k) → fil p n = fil q n
  | 0, _ => rfl
  | n + 1, h => by
    rw [fil_step, fil_step, h n (by omega), fil_congr n fun k hk => h k (by omega)]
theorem bits_of (q : Nat → Bool) : ∀ n, ∃ S : Nat, S < 2 ^ n ∧ ∀ k, k < n → S.testBit k = q k
  | 0 => ⟨0, by decide, fun k h => by omega⟩
  | n + 1 => by
    obtain ⟨S, h1, h2⟩ := bits_of q n
    have hp : (2 : Nat) ^ n < 2 ^ (n + 1) := Nat.pow_lt_pow_right (by omega) (by omega)
    by_cases hq : q n = true
    · refine ⟨S ||| 2 ^ n, Nat.or_lt_two_pow (by omega) hp, fun k hk => ?_⟩
      by_cases e : k = n
      · rw [e, Nat.testBit_or, Nat.testBit_two_pow_self, Bool.or_true, hq]
      · rw [Nat.testBit_or, Nat.testBit_two_pow_of_ne (by omega), Bool.or_false, h2 k (by omega)]
    · refine ⟨S, by omega, fun k hk => ?_⟩
      by_cases e : k = n
      · rw [e, Nat.testBit_lt_two_pow h1]
        exact (Bool.not_eq_true _ ▸ hq : q n = false).symm
      · exact h2 k (by omega)
/-- Numbers that ascend. -/
structure Asc (n : Nat) (l : List Int) : Prop where
  pw : l.Pairwise (· < ·)
  rg : ∀ x ∈ l, 0 ≤ x ∧ x < n
theorem asc_fil : ∀ {n : Nat} {l : List Int}, Asc n l → fil (fun k => decide ((k : Int) ∈ l)) n = l
  | 0, l, h => by
    cases l with
    | nil => rfl
    | cons x l => have := h.rg x List.mem_cons_self; omega
  | n + 1, l, h => by
    rw [fil_step]
    by_cases hm : (n : Int) ∈ l
    · rw [dec_t hm, if_pos rfl]
      rcases List.eq_nil_or_concat l with rfl | ⟨i, x, rfl⟩
      · cases hm
      · rw [List.concat_eq_append] at h hm ⊢
        have hpw := List.pairwise_append.1 h.pw
        have hx := h.rg x (by simp)
        have hxn : x = (n : Int) := by
          rcases List.mem_append.1 hm with h1 | h1
          · have := hpw.2.2 _ h1 x (by simp)
            omega
          · have : (n : Int) = x := by simpa using h1
            exact this.symm
        have hi : Asc n i := ⟨hpw.1, fun y hy => by
          have h1 := hpw.2.2 y hy x (by simp)
          have h2 := h.rg y (List.mem_append_left _ hy)
          omega⟩
        rw [fil_congr (q := fun k => decide ((k : Int) ∈ i)) n (fun k hk => by
          have : ((k : Int) ∈ i ++ [x]) ↔ (k : Int) ∈ i := by
            rw [List.mem_append, List.mem_singleton]
            exact ⟨fun h => h.elim id (fun h => by omega), .inl⟩
          simp only [this]), asc_fil hi, hxn]
    · rw [dec_f hm, if_neg (by simp)]
      exact asc_fil ⟨h.pw, fun y hy => by
        have h1 := h.rg y hy
        have : y ≠ (n : Int) := fun e => hm (e ▸ hy)
        omega⟩
theorem asc_set {n : Nat} {l : List Int} (h : Asc n l) : ∃ S : Nat, S < 2 ^ n ∧ fil S.testBit n = l := by
  obtain ⟨S, h1, h2⟩ := bits_of (fun k => decide ((k : Int) ∈ l)) n
  exact ⟨S, h1, (fil_congr n h2).trans (asc_fil h)⟩
theorem Asc.len {n : Nat} {l : List Int} (h : Asc n l) : l.length ≤ n := by
  have := fil_len (fun k => decide ((k : Int) ∈ l)) n
  rwa [asc_fil h] at this
theorem fil_asc (q : Nat → Bool) : ∀ n, Asc n (fil q n)
  | 0 => ⟨List.Pairwise.nil, fun x h => by cases h⟩
  | n + 1 => by
    have ih := fil_asc q n
    rw [fil_step]
    split
    · refine ⟨List.pairwise_append.2 ⟨ih.pw, List.pairwise_singleton _ _, fun x hx y hy => ?_⟩, fun x hx => ?_⟩
      · have := ih.rg x hx
        obtain rfl : y = (n : Int) := by simpa using hy
        omega
      · rcases List.mem_append.1 hx with h | h
        · have := ih.rg x h; omega
        · obtain rfl : x = (n : Int) := by simpa using h
          omega
    · exact ⟨ih.pw, fun x hx => by have := ih.rg x hx; omega⟩
theorem asc_take {n : Nat} {l : List Int} {i : Nat} (hi : i < l.length) (h : Asc n (l.take i)) (hm : ∀ y ∈ l.take i, y ≤ gd l ((i : Int) - 1)) (hx : 0 ≤ gd l (i : Int) ∧ gd l (i : Int) < n) (hlt : 0 < i → gd l ((i : Int) - 1) < gd l (i : Int)) :
    Asc n (l.take (i + 1)) ∧ ∀ y ∈ l.take (i + 1), y ≤ gd l (((i + 1 : Nat) : Int) - 1) := by
  have hall : ∀ y ∈ l.take i, y < gd l (i : Int) := fun y hy => by
    have h0 : 0 < i := by
      rcases Nat.eq_zero_or_pos i with e | e
      · rw [e] at hy; cases hy
      · exact e
    have := hm y hy
    have := hlt h0
    omega
  rw [take_nat hi, show (((i + 1 : Nat) : Int) - 1) = (i : Int) by omega]
  refine ⟨⟨List.pairwise_append.2 ⟨h.pw, List.pairwise_singleton _ _, fun y hy z hz => ?_⟩, fun y hy => ?_⟩, fun y hy => ?_⟩
  · obtain rfl : z = gd l (i : Int) := by simpa using hz
    exact hall y hy
  · rcases List.mem_append.1 hy with h1 | h1
    · exact h.rg y h1
    · obtain rfl : y = gd l (i : Int) := by simpa using h1
      exact hx
  · rcases List.mem_append.1 hy with h1 | h1
    · have := hall y h1; omega
    · obtain rfl : y = gd l (i : Int) := by simpa using h1
      omega
theorem asc_lt {n : Nat} {l : List Int} (h : Asc n l) {i : Nat} (h0 : 0 < i) (hi : i < l.length) : gd l ((i : Int) - 1) < gd l (i : Int) := by
  obtain ⟨j, rfl⟩ : ∃ j, i = j + 1 := ⟨i - 1, by omega⟩
  have hp := List.pairwise_iff_getElem.1 h.pw j (j + 1) (by omega) hi (by omega)
  have e1 := gd_nat (l := l) (i := j) (by omega)
  have e2 := gd_nat (l := l) (i := j + 1) hi
  rw [List.getElem?_eq_getElem (by omega)] at e1 e2
  rw [show (((j + 1 : Nat) : Int) - 1) = (j : Int) by omega, ← Option.some.inj e1, ← Option.some.inj e2]
  exact hp
theorem g50_eq {pw pr : List Int} {need : Int} (h : HOK5 pw pr need) (l : List Int) (hll : l.length ≤ 1000000000) : (¬ Asc pw.length l ∧ ∃ a b : Int, g50 (pw, pr, l, ()) = some ((a, b, false, ()), ())) ∨ (Asc pw.length l ∧ g50 (pw, pr, l, ()) = some ((aL pw l, aL pr l, true, ()), ())) := by
  have e0 : g50 (pw, pr, l, ()) = F50 fuel pw pr l := rfl
  rw [e0]
  unfold F50
  have hf := fuel_ge
  have hn := h.n
  have he := h.e
  obtain ⟨r, e, hr⟩ := loop0 (L := L50_3) (fun (i : Nat) (_ : Unit) => ((pw, pr, l, aL pw (l.take i), aL pr (l.take i), (i : Int), ()), (), ())) (fun i _ => Asc pw.length (l.take i) ∧ ∀ y ∈ l.take i, y ≤ gd l ((i : Int) - 1)) (fun r => (¬ Asc pw.length l ∧ r = .inl ((0, 0, false, ()), (), ())) ∨ (Asc pw.length l ∧ r = .inr ((aL pw l, aL pr l, ()), (), ()))) 0 l.length (N := fuel) (s := ()) ⟨⟨List.Pairwise.nil, fun x h => by cases h⟩, fun y h => by cases h⟩ (by omega)
    (fun N _ hP => ⟨_, by
      simp only [L50_3, B50_3]
      rw [dec_f (by omega), List.take_length]
      rfl, .inr ⟨by have := hP.1; rwa [List.take_length] at this, rfl⟩⟩)
    (fun N i _ _ hi hP => by
      have hlen := hP.1.len
      have b1 := aL_bd (B := 1000) (fun x hx => by have := h.pw x hx; omega) (l.take i) hP.1.rg
      have b2 := aL_bd h.pr (l.take i) (fun x hx => by have := hP.1.rg x hx; omega)
      simp only [L50_3, B50_3]
      rw [dec_t (by omega), cond_true]
      simp only [getI_gd (l := l) (i := (i : Int)) (by omega) (by omega)]
      rw [wI (x := (i : Int) - 1) (by omega) (by omega), wI (x := (i : Int) + 1) (by omega) (by omega)]
      by_cases h1 : gd l (i : Int) < 0
      · right; rw [dec_t h1]; exact ⟨_, rfl, .inl ⟨fun ha => by have := ha.rg _ (gd_mem (l := l) (i := (i : Int)) (by omega) (by omega)); omega, rfl⟩⟩
      rw [dec_f h1, cond_false]
      by_cases h2 : gd l (i : Int) ≥ (pw.length : Int)
      · right; rw [dec_t h2]; exact ⟨_, rfl, .inl ⟨fun ha => by have := ha.rg _ (gd_mem (l := l) (i := (i : Int)) (by omega) (by omega)); omega, rfl⟩⟩
      rw [dec_f h2, cond_false, dec_f (p := gd l (i : Int) ≥ (pr.length : Int)) (by omega), cond_false]
      have c1 := h.pw _ (gd_mem (l := pw) (i := gd l (i : Int)) (by omega) (by omega))
      have c2 := h.pr _ (gd_mem (l := pr) (i := gd l (i : Int)) (by omega) (by omega))
      have hnext : (0 < i → gd l ((i : Int) - 1) < gd l (i : Int)) → ∃ s' : Unit, (Asc pw.length (l.take (i + 1)) ∧ ∀ y ∈ l.take (i + 1), y ≤ gd l (((i + 1 : Nat) : Int) - 1)) ∧
          L50_3 N ((pw, pr, l, IntKind.wrap .i64 (aL pw (l.take i) + gd pw (gd l (i : Int))), IntKind.wrap .i64 (aL pr (l.take i) + gd pr (gd l (i : Int))), (i : Int) + 1, ()), (), ()) = L50_3 N ((pw, pr, l, aL pw (l.take (i + 1)), aL pr (l.take (i + 1)), ((i + 1 : Nat) : Int), ()), (), ()) := fun hlt => by
        refine ⟨(), asc_take hi hP.1 hP.2 ⟨by omega, by omega⟩ hlt, ?_⟩
        rw [wI (by omega) (by omega), wI (by omega) (by omega), take_nat hi, aL_snoc, aL_snoc, show (i : Int) + 1 = ((i + 1 : Nat) : Int) by omega]
      rw [getI_gd (l := pw) (by omega) (by omega), getI_gd (l := pr) (by omega) (by omega)]
      by_cases h0 : 0 < i
      · rw [dec_t (p := (i : Int) > 0) (by omega), cond_true, getI_gd (l := l) (by omega) (by omega)]
        by_cases h3 : gd l (i : Int) ≤ gd l ((i : Int) - 1)
        · right; rw [dec_t h3]; exact ⟨_, rfl, .inl ⟨fun ha => by have := asc_lt ha h0 hi; omega, rfl⟩⟩
        · left
          rw [dec_f h3, cond_false]
          exact hnext fun _ => by omega
      · left
        rw [dec_f (p := (i : Int) > 0) (by omega), cond_false]
        exact hnext fun hh => absurd hh h0)
  have e' : L50_3 fuel ((pw, pr, l, 0, 0, 0, ()), (), ()) = _ := e
  rw [e', derefK_some]
  rcases hr with ⟨ha, rfl⟩ | ⟨ha, rfl⟩
  · exact .inl ⟨ha, 0, 0, rfl⟩
  · exact .inr ⟨ha, rfl⟩
/-- What is kept is the cheapest. -/
def HInv (pw pr : List Int) (need : Int) (S : Nat) : Option (List Int × Int) → Prop
  | none => ∀ x, x < S → aL pw (fil x.testBit pw.length) < need
  | some (w, c) => (Asc pw.length w ∧ c = aL pr w ∧ need ≤ aL pw w) ∧ ∀ x, x < S → need ≤ aL pw (fil x.testBit pw.length) → c < aL pr (fil x.testBit pw.length) ∨ (c = aL pr (fil x.testBit pw.length) ∧ w.length ≤ (fil x.testBit pw.length).length)
theorem hInv_all (pw pr : List Int) (need : Int) : ∀ S, HInv pw pr need S (hst pw pr need S)
  | 0 => fun x hx => by omega
  | S + 1 => by
    have ih := hInv_all pw pr need S
    by_cases h1 : aL pw (fil S.testBit pw.length) < need
    · rw [hst_lt h1]
      cases hs : hst pw pr need S with
      | none =>
        rw [hs] at ih
        intro x hx
        by_cases e : x = S
        · rw [e]; exact h1
        · exact ih x (by omega)
      | some z =>
        obtain ⟨w, c⟩ := z
        rw [hs] at ih
        refine ⟨ih.1, fun x hx hn => ?_⟩
        by_cases e : x = S
        · rw [e] at hn; omega
        · exact ih.2 x (by omega) hn
    · have hnew : Asc pw.length (fil S.testBit pw.length) := fil_asc _ _
      cases hs : hst pw pr need S with
      | none =>
        rw [hs] at ih
        rw [hst_none h1 hs]
        refine ⟨⟨hnew, rfl, by omega⟩, fun x hx hn => ?_⟩
        by_cases e : x = S
        · rw [e]; right; exact ⟨rfl, Nat.le_refl _⟩
        · have := ih x (by omega); omega
      | some z =>
        obtain ⟨w, c⟩ := z
        rw [hs] at ih
        rw [hst_some h1 hs]
        have hle : btr (fil S.testBit pw.length) w (aL pr (fil S.testBit pw.length)) c = true → aL pr (fil S.testBit pw.length) < c ∨ (aL pr (fil S.testBit pw.length) = c ∧ (fil S.testBit pw.length).length ≤ w.length) := fun hb => by
          unfold btr at hb
          rw [Bool.or_eq_true, Bool.and_eq_true, decide_eq_true_iff, decide_eq_true_iff] at hb
          rcases hb with hb | ⟨hb, h2⟩
          · exact .inl hb
          · right
            refine ⟨hb, ?_⟩
            split at h2
            · omega
            · have := of_decide_eq_true h2; omega
        have hge : btr (fil S.testBit pw.length) w (aL pr (fil S.testBit pw.length)) c = false → c < aL pr (fil S.testBit pw.length) ∨ (c = aL pr (fil S.testBit pw.length) ∧ w.length ≤ (fil S.testBit pw.length).length) := fun hb => by
          unfold btr at hb
          rw [Bool.or_eq_false_iff, decide_eq_false_iff_not] at hb
          by_cases hc : aL pr (fil S.testBit pw.length) = c
          · right
            refine ⟨hc.symm, ?_⟩
            have h2 := hb.2
            rw [dec_t hc, Bool.true_and] at h2
            split at h2
            · omega
            · have := of_decide_eq_false h2; omega
          · left; omega
        cases hb : btr (fil S.testBit pw.length) w (aL pr (fil S.testBit pw.length)) c with
        | true =>
          rw [if_pos rfl]
          have hl := hle hb
          refine ⟨⟨hnew, rfl, by omega⟩, fun x hx hn => ?_⟩
          by_cases e : x = S
          · rw [e]; right; exact ⟨rfl, Nat.le_refl _⟩
          · have := ih.2 x (by omega) hn; omega
        | false =>
          rw [if_neg (by simp)]
          have hl := hge hb
          refine ⟨ih.1, fun x hx hn => ?_⟩
          by_cases e : x = S
          · rw [e]; exact hl
          · exact ih.2 x (by omega) hn
end Go.Proofs.Try.V
