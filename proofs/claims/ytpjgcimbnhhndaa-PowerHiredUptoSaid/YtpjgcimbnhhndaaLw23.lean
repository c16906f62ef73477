/- Plain laws of layer 5, twenty-third part: Hire by the program and by the document. No condition beyond those typed in each theorem. -/
import Derived.Test.YtpjgcimbnhhndaaLw22
namespace Go.Proofs.Try.V
open Go.Vi
set_option maxRecDepth 100000

/-! ## Lists of numbers in order -/
def ltL : List Int → List Int → Bool
  | a :: x, b :: y => if a = b then ltL x y else decide (a < b)
  | _, _ => false
theorem ltL_at {a b : List Int} {i : Nat} (ha : i < a.length) (hb : i < b.length) : ltL (a.drop i) (b.drop i) = if gd a (i : Int) = gd b (i : Int) then ltL (a.drop (i + 1)) (b.drop (i + 1)) else decide (gd a (i : Int) < gd b (i : Int)) := by
  rw [drop_nat ha, drop_nat hb]
  rfl
theorem g81_eq {a b : List Int} (ha : a.length ≤ 1000) : g81 (a, b, ()) = some ((if a.length = b.length then ltL a b else decide (a.length < b.length), ()), ()) := by
  show F81 fuel a b = _
  unfold F81
  have hf := fuel_ge
  by_cases hl : a.length = b.length
  case neg =>
    rw [show ((a.length : Int) != (b.length : Int)) = true from bne_iff_ne.2 (by omega), cond_true, if_neg hl]
    by_cases h : a.length < b.length
    · rw [dec_t (p := (a.length : Int) < (b.length : Int)) (by omega), dec_t h]
    · rw [dec_f (p := (a.length : Int) < (b.length : Int)) (by omega), dec_f h]
  rw [show ((a.length : Int) != (b.length : Int)) = false by rw [hl]; simp, cond_false, if_pos hl]
  obtain ⟨r, e, h⟩ := loop0 (L := L81_4) (fun (i : Nat) (_ : Unit) => ((a, b, (i : Int), ()), (), ())) (fun i _ => ltL (a.drop i) (b.drop i) = ltL a b) (fun r => (r = .inl ((ltL a b, ()), (), ())) ∨ (r = .inr ((), (), ()) ∧ ltL a b = false)) 0 a.length (N := fuel) (s := ()) rfl (by omega)
    (fun N _ h => ⟨_, by
      simp only [L81_4, B81_4]
      rw [dec_f (by omega)]
      rfl, .inr ⟨rfl, by rw [← h, List.drop_length]; rfl⟩⟩)
    (fun N i _ _ hi h => by
      rw [ltL_at hi (by omega)] at h
      simp only [L81_4, B81_4]
      rw [dec_t (by omega), cond_true]
      simp only [getI_gd (l := a) (i := (i : Int)) (by omega) (by omega), getI_gd (l := b) (i := (i : Int)) (by omega) (by omega)]
      by_cases he : gd a (i : Int) = gd b (i : Int)
      · left
        rw [if_pos he] at h
        refine ⟨(), h, ?_⟩
        rw [show (gd a (i : Int) != gd b (i : Int)) = false by rw [he]; simp, cond_false, wI (by omega) (by omega)]
        rfl
      · right
        rw [if_neg he] at h
        rw [show (gd a (i : Int) != gd b (i : Int)) = true from bne_iff_ne.2 he, cond_true]
        exact ⟨_, rfl, .inl (by rw [h])⟩)
  have e' : L81_4 fuel ((a, b, 0, ()), (), ()) = _ := e
  rw [e', derefK_some]
  rcases h with rfl | ⟨rfl, h⟩
  · rfl
  · rw [h]; rfl
theorem g97_eq (x y : Int) : g97 (x, y, ()) = some ((if x = y then 0 else if x < y then -1 else 1, ()), ()) := by
  show F97 fuel x y = _
  unfold F97
  have h : ∀ z : Int, g102 (z, ()) = some ((false, ()), ()) := fun z => by
    show F102 fuel z = _
    unfold F102
    rw [bne_self_eq_false]
  rw [h, h, derefK_some, derefK_some]
  show (bif decide (x < y) then _ else bif decide (x > y) then _ else _) = _
  by_cases h1 : x = y
  · rw [if_pos h1, dec_f (by omega), dec_f (by omega)]; rfl
  · rw [if_neg h1]
    by_cases h2 : x < y
    · rw [if_pos h2, dec_t h2]; rfl
    · rw [if_neg h2, dec_f h2, dec_t (by omega)]; rfl
theorem g80_eq {a b : List Int} (ha : a.length ≤ 1000) (hl : a.length = b.length) : ∃ v : Int, g80 (a, b, ()) = some ((v, ()), ()) ∧ decide (v < 0) = ltL a b := by
  have e0 : g80 (a, b, ()) = F80 fuel a b := rfl
  rw [e0]
  unfold F80
  have hf := fuel_ge
  obtain ⟨r, e, h⟩ := loop0 (L := L80_2) (fun (i : Nat) (_ : Unit) => ((a, b, a, (a.length : Int), (i : Int), ()), (), ())) (fun i _ => ltL (a.drop i) (b.drop i) = ltL a b) (fun r => (∃ v : Int, r = .inl ((v, ()), (), ()) ∧ decide (v < 0) = ltL a b) ∨ (r = .inr ((a, b, ()), (), ()) ∧ ltL a b = false)) 0 a.length (N := fuel) (s := ()) rfl (by omega)
    (fun N _ h => ⟨_, by
      simp only [L80_2, B80_2]
      rw [dec_f (by omega)]
      rfl, .inr ⟨rfl, by rw [← h, List.drop_length]; rfl⟩⟩)
    (fun N i _ _ hi h => by
      rw [ltL_at hi (by omega)] at h
      simp only [L80_2, B80_2]
      rw [dec_t (by omega), cond_true]
      simp only [getI_gd (l := a) (i := (i : Int)) (by omega) (by omega)]
      rw [dec_f (p := (i : Int) ≥ (b.length : Int)) (by omega), cond_false, getI_gd (l := b) (i := (i : Int)) (by omega) (by omega), g97_eq, derefK_some]
      by_cases he : gd a (i : Int) = gd b (i : Int)
      · left
        rw [if_pos he] at h
        refine ⟨(), h, ?_⟩
        rw [if_pos he, bne_self_eq_false, cond_false, wI (by omega) (by omega)]
        rfl
      · right
        rw [if_neg he] at h
        rw [if_neg he]
        by_cases hlt : gd a (i : Int) < gd b (i : Int)
        · rw [if_pos hlt]
          refine ⟨_, rfl, .inl ⟨-1, rfl, ?_⟩⟩
          rw [← h, dec_t hlt]; rfl
        · rw [if_neg hlt]
          refine ⟨_, rfl, .inl ⟨1, rfl, ?_⟩⟩
          rw [← h, dec_f hlt]; rfl)
  have e' : L80_2 fuel ((a, b, a, (a.length : Int), 0, ()), (), ()) = _ := e
  rw [e', derefK_some]
  rcases h with ⟨v, rfl, h⟩ | ⟨rfl, h⟩
  · exact ⟨v, rfl, h⟩
  · refine ⟨0, ?_, by rw [h]; rfl⟩
    rw [sumK_inr]
    show (bif decide ((a.length : Int) < (b.length : Int)) then _ else _) = _
    rw [dec_f (by omega)]
    rfl

/-! ## Members and sums -/
theorem fil_end {S i : Nat} (hS : S < 2 ^ i) : ∀ j, i ≤ j → fil S.testBit j = fil S.testBit i
  | 0, h => by rw [show i = 0 by omega]
  | j + 1, h => by
    by_cases e : i = j + 1
    · rw [e]
    · have hlt : S.testBit j = false := Nat.testBit_lt_two_pow (Nat.lt_of_lt_of_le hS (Nat.pow_le_pow_right (by omega) (by omega)))
      rw [fil_step, hlt, if_neg (by simp), fil_end hS j (by omega)]
theorem g79_eq {S n : Nat} (hS : S < 2 ^ n) (hn : n ≤ 10) : g79 ((S : Int), ()) = some ((fil S.testBit n, ()), ()) := by
  show F79 fuel (S : Int) = _
  unfold F79
  have hf := fuel_ge
  have h10 : (2 : Nat) ^ n ≤ 2 ^ 10 := Nat.pow_le_pow_right (by omega) hn
  have hexit : ∀ i : Nat, S >>> i = 0 → fil S.testBit i = fil S.testBit n := fun i h => by
    rw [Nat.shiftRight_eq_div_pow] at h
    have h2 : S < 2 ^ i := by
      rcases Nat.div_eq_zero_iff.1 h with h | h
      · have := Nat.two_pow_pos i; omega
      · exact h
    by_cases hle : i ≤ n
    · exact (fil_end h2 n hle).symm
    · exact fil_end hS i (by omega)
  obtain ⟨r, e, rfl⟩ := loop0 (L := L79_2) (fun (i : Nat) (_ : Unit) => (((S : Int), (i : Int), ()), (fil S.testBit i, ()), ())) (fun _ _ => True) (fun r => r = ((), (fil S.testBit n, ()), ())) 0 10 (N := fuel) (s := ()) trivial (by omega)
    (fun N _ _ => by
      have h0 : S >>> 10 = 0 := by rw [Nat.shiftRight_eq_div_pow]; exact Nat.div_eq_of_lt (by omega)
      refine ⟨_, ?_, rfl⟩
      simp only [L79_2, B79_2]
      rw [negK_in (by omega), shr_n (by omega), h0, dec_f (by omega), ← hexit 10 h0]
      rfl)
    (fun N i _ _ hi _ => by
      have hlen := fil_len S.testBit i
      simp only [L79_2, B79_2]
      rw [negK_in (by omega), bit_n (by omega) (by omega), shr_n (by omega)]
      by_cases h0 : S >>> i = 0
      · right
        refine ⟨_, ?_, rfl⟩
        rw [h0, dec_f (by omega), ← hexit i h0]
        rfl
      · left
        refine ⟨(), trivial, ?_⟩
        rw [dec_t (p := ((S >>> i : Nat) : Int) > 0) (Int.natCast_pos.2 (Nat.pos_of_ne_zero h0)), cond_true, negK_in (by omega), lenK_in (by omega) (by simp; omega), wI (x := (i : Int) + 1) (by omega) (by omega), show (i : Int) + 1 = ((i + 1 : Nat) : Int) by omega, fil_step]
        cases S.testBit i <;> rfl)
  have e' : L79_2 fuel (((S : Int), 0, ()), ([], ()), ()) = _ := e
  rw [e', derefK_some]
def aL (f : List Int) : List Int → Int
  | [] => 0
  | x :: r => gd f x + aL f r
theorem aL_snoc (f : List Int) (x : Int) : ∀ l, aL f (l ++ [x]) = aL f l + gd f x
  | [] => by simp [aL]
  | y :: l => by
    show gd f y + aL f (l ++ [x]) = gd f y + aL f l + gd f x
    rw [aL_snoc f x l]
    omega
theorem aL_bd {f : List Int} {B : Int} (hB : ∀ x ∈ f, 0 ≤ x ∧ x ≤ B) : ∀ l : List Int, (∀ x ∈ l, 0 ≤ x ∧ x < f.length) → 0 ≤ aL f l ∧ aL f l ≤ B * l.length
  | [], _ => by simp [aL]
  | x :: l, h => by
    have ih := aL_bd hB l fun y hy => h y (List.mem_cons_of_mem _ hy)
    have hx := h x List.mem_cons_self
    have := hB _ (gd_mem hx.1 hx.2)
    show 0 ≤ gd f x + aL f l ∧ gd f x + aL f l ≤ B * ((l.length + 1 : Nat) : Int)
    have e : B * ((l.length + 1 : Nat) : Int) = B * (l.length : Int) + B := by rw [Int.natCast_add, Int.mul_add]; simp
    omega
theorem fil_mem {q : Nat → Bool} {n : Nat} : ∀ x ∈ fil q n, 0 ≤ x ∧ x < n := fun x hx => by
  unfold fil at hx
  obtain ⟨k, hk, rfl⟩ := List.mem_map.1 hx
  have := List.mem_range.1 (List.mem_filter.1 hk).1
  omega
end Go.Proofs.Try.V
