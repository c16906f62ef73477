/- Plain laws of layer 5, nineteenth part: Margin by the program and by the document. No condition beyond those typed in each theorem. -/
import Derived.Test.YtpjgcimbnhhndaaLw18
namespace Go.Proofs.Try.V
open Go.Vi
set_option maxRecDepth 100000

/-- How many amperes more a board bears in a phase (-1: the generator). -/
def slk (s : Sup) (S : Nat) (ph b : Int) : Int := brs s b - cur s S b ph
def mnL (s : Sup) (S : Nat) (ph : Int) : List Int → Int → Int
  | [], m => m
  | x :: r, m => mnL s S ph r (min m (slk s S ph x))
theorem mnL_app (s : Sup) (S : Nat) (ph : Int) : ∀ (a b : List Int) (m : Int), mnL s S ph (a ++ b) m = mnL s S ph b (mnL s S ph a m)
  | [], _, _ => rfl
  | x :: a, b, m => mnL_app s S ph a b _
theorem mnL_min (s : Sup) (S : Nat) (ph : Int) : ∀ (a : List Int) (m v : Int), mnL s S ph a (min m v) = min (mnL s S ph a m) v
  | [], _, _ => rfl
  | x :: a, m, v => by
    show mnL s S ph a (min (min m v) (slk s S ph x)) = min (mnL s S ph a (min m (slk s S ph x))) v
    rw [show min (min m v) (slk s S ph x) = min (min m (slk s S ph x)) v by omega, mnL_min s S ph a _ v]
theorem slk_bd {s : Sup} (hs : okS s = true) (S : Nat) (ph : Int) {b : Int} (h1 : b < s.1.length) : -16000 ≤ slk s S ph b ∧ slk s S ph b ≤ 1000 := by
  have := brs_pos hs h1
  have := cur_bd hs S b ph
  unfold slk
  omega
theorem curs_at {s : Sup} (S : Nat) {b : Int} (h0 : 0 ≤ b) (h1 : b < s.1.length) : gd (curs s S s.2.1.length) b = row3 s S b s.2.1.length := by
  have := curs_gd s S s.2.1.length (k := b.toNat) (by omega)
  rw [show ((b.toNat : Nat) : Int) = b by omega] at this
  rw [this]
  unfold bO
  rw [if_neg (by omega), show ((b.toNat : Nat) : Int) = b by omega]
theorem curs_gen (s : Sup) (S : Nat) : gd (curs s S s.2.1.length) (s.1.length : Int) = row3 s S (-1) s.2.1.length := by
  have hg := curs_gd s S s.2.1.length (Nat.le_refl s.1.length)
  have hbo : bO s.1.length s.1.length = -1 := by unfold bO; rw [if_pos rfl]
  rw [hg, hbo]
theorem R37_eq {s : Sup} (hs : okS s = true) (S : Nat) {ph : Int} (hph : 0 ≤ ph ∧ ph ≤ 2) (N : Nat) : ∀ (xs : List Int), (∀ x ∈ xs, x = -1 ∨ (0 ≤ x ∧ x < s.1.length)) → ∀ m : Int,
    R37_9 N xs (s, ph, curs s S s.2.1.length, m, ()) = some (.norm, (mnL s S ph xs m, ()))
  | [], _, _ => rfl
  | x :: xs, hx, m => by
    have hl := okS_le hs
    have hcl := curs_len s S s.2.1.length
    have ih := R37_eq hs S hph N xs fun y hy => hx y (List.mem_cons_of_mem _ hy)
    have hx0 := hx x List.mem_cons_self
    show Q37_9 N (R37_9 N xs) x s ph (curs s S s.2.1.length) m = some (.norm, (mnL s S ph xs (min m (slk s S ph x)), ()))
    unfold Q37_9
    have hr : ∀ b : Int, b < s.1.length → ∀ {R : Type} (F : Int → Option R), getI (row3 s S b s.2.1.length) ph F = F (cur s S b ph) := fun b _ R F => by
      rw [getI_gd hph.1 (by show ph < 3; omega), row3_gd s S b _ hph]
      rfl
    by_cases hx1 : x = -1
    · subst hx1
      have h66 := g66_eq s (Nat.le_refl s.1.length)
      have hbo : bO s.1.length s.1.length = -1 := by unfold bO; rw [if_pos rfl]
      rw [hbo] at h66
      have hg : ∀ {R : Type} (F : List Int → Option R), getI (curs s S s.2.1.length) (s.1.length : Int) F = F (row3 s S (-1) s.2.1.length) := fun F => by
        rw [getI_gd (by omega) (by omega), curs_gen]
      have hsl := slk_bd hs S ph (b := -1) (by omega)
      have hsl' : IntKind.wrap .i64 (brs s (-1) - cur s S (-1) ph) = slk s S ph (-1) := wI (by unfold slk at hsl; omega) (by unfold slk at hsl; omega)
      rw [show ((-1 : Int) == -1) = true from rfl, cond_true]
      simp only [enumK_eq, h66, hg, hr (-1) (by omega), derefK_some, agreeK_two, agreeK_one, hsl']
      exact ih _
    · have h1 : 0 ≤ x ∧ x < s.1.length := by omega
      have h66 := g66_eq s (k := x.toNat) (by omega)
      have hbo : bO s.1.length x.toNat = x := by unfold bO; rw [if_neg (by omega)]; omega
      rw [hbo, show ((x.toNat : Nat) : Int) = x by omega] at h66
      have hg : ∀ {R : Type} (F : List Int → Option R), getI (curs s S s.2.1.length) x F = F (row3 s S x s.2.1.length) := fun F => by
        rw [getI_gd (by omega) (by omega), curs_at S h1.1 h1.2]
      have hsl := slk_bd hs S ph h1.2
      have hsl' : IntKind.wrap .i64 (brs s x - cur s S x ph) = slk s S ph x := wI (by unfold slk at hsl; omega) (by unfold slk at hsl; omega)
      rw [show (x == -1) = false from beq_eq_false_iff_ne.2 hx1, cond_false]
      simp only [enumK_eq, h66, hg, hr x h1.2, derefK_some, agreeK_two, agreeK_one, hsl']
      exact ih _
/-- Where Margin has something to say. -/
def mgC (s : Sup) (set b ph : Int) : Int := if okC s set = 0 then (if rng b 0 ((s.1.length : Int) - 1) = true ∧ rng ph 0 2 = true then 0 else 1) else okC s set
def mgn (s : Sup) (S : Nat) (b ph : Int) : Int := mnL s S ph (chn s.1 b) (slk s S ph (-1))
theorem g37_eq (s : Sup) (set b ph : Int) : (mgC s set b ph ≠ 0 ∧ g37 (s, set, b, ph, ()) = some ((0, mgC s set b ph, ()), ())) ∨
    ∃ S : Nat, set = (S : Int) ∧ mgC s set b ph = 0 ∧ okS s = true ∧ S < 2 ^ s.2.1.length ∧ (0 ≤ b ∧ b < s.1.length) ∧ (0 ≤ ph ∧ ph ≤ 2) ∧ g37 (s, set, b, ph, ()) = some ((max (mgn s S b ph) 0, 0, ()), ()) := by
  have e0 : g37 (s, set, b, ph, ()) = F37 fuel s set b ph := rfl
  rw [e0]
  unfold F37
  rw [g53_eq, derefK_some]
  by_cases hc : okC s set = 0
  case neg =>
    left
    have : mgC s set b ph = okC s set := by unfold mgC; rw [if_neg hc]
    rw [this]
    exact ⟨hc, okC_2 hc _ _⟩
  obtain ⟨hs, S, rfl, hS⟩ := okC_0 hc
  have hl := okS_le hs
  have hp := pow16 hl.2
  show (_ ∧ (bif okC s (S : Int) != 0 then _ else _) = _) ∨ _
  rw [hc]
  rw [bne_self_eq_false, cond_false, wI (by omega) (by omega), g62_eq, derefK_some, g62_eq, derefK_some]
  by_cases h1 : rng b 0 ((s.1.length : Int) - 1) = true
  case neg =>
    left
    have : mgC s (S : Int) b ph = 1 := by unfold mgC; rw [if_pos hc, if_neg (fun h => h1 h.1)]
    rw [Bool.not_eq_true] at h1
    rw [this, h1]
    exact ⟨by decide, rfl⟩
  by_cases h2 : rng ph 0 2 = true
  case neg =>
    left
    have : mgC s (S : Int) b ph = 1 := by unfold mgC; rw [if_pos hc, if_neg (fun h => h2 h.2)]
    rw [Bool.not_eq_true] at h2
    rw [this, h1, h2]
    exact ⟨by decide, rfl⟩
  right
  have hb := rng_iff.1 h1
  have hph := rng_iff.1 h2
  have h0 : mgC s (S : Int) b ph = 0 := by unfold mgC; rw [if_pos hc, if_pos ⟨h1, h2⟩]
  refine ⟨S, rfl, h0, hs, hS, ⟨hb.1, by omega⟩, hph, ?_⟩
  rw [h1, h2]
  show derefK (g64 (s, (S : Int), ())) _ = _
  rw [g64_eq hs (by omega), derefK_some]
  have hu := okS_up hs
  refine (up_k hu (by omega) (by omega) (by omega) (fun l58 => derefK (R37_9 fuel l58 (s, ph, curs s S s.2.1.length, 1000, ())) fun o57 => cond (X.same .norm o57.1) (some (((max o57.2.1 0), 0, ()), ())) none)).trans ?_
  rw [R37_eq hs S hph fuel _ (fun x hm => by
    rcases List.mem_append.1 hm with h | h
    · have := chn_mem hu _ (by omega) (by omega) x h
      right; omega
    · left; simpa using h), derefK_some]
  have hm : mnL s S ph (chn s.1 b ++ [-1]) 1000 = mgn s S b ph := by
    rw [mnL_app]
    show min (mnL s S ph (chn s.1 b) 1000) (slk s S ph (-1)) = _
    have hsl := slk_bd hs S ph (b := -1) (by omega)
    rw [← mnL_min]
    unfold mgn
    rw [show min 1000 (slk s S ph (-1)) = slk s S ph (-1) by omega]
  rw [hm]
  rfl
theorem g43_eq (s : Sup) (set b ph : Int) : (mgC s set b ph ≠ 0 ∧ g43 (s, set, b, ph, ()) = some ((0, mgC s set b ph, ()), ())) ∨
    ∃ S : Nat, set = (S : Int) ∧ mgC s set b ph = 0 ∧ g43 (s, set, b, ph, ()) = some ((max (mgn s S b ph) 0, 0, ()), ()) := by
  have e0 : g43 (s, set, b, ph, ()) = F43 fuel s set b ph := rfl
  rw [e0]
  unfold F43
  rw [g56_eq, derefK_some]
  by_cases hc : okC s set = 0
  case neg =>
    left
    have : mgC s set b ph = okC s set := by unfold mgC; rw [if_neg hc]
    rw [this]
    exact ⟨hc, okC_2 hc _ _⟩
  obtain ⟨hs, S, rfl, hS⟩ := okC_0 hc
  have hl := okS_le hs
  have hp := pow16 hl.2
  have hf := fuel_ge
  show (_ ∧ (bif okC s (S : Int) != 0 then _ else _) = _) ∨ _
  rw [hc]
  rw [bne_self_eq_false, cond_false, wI (by omega) (by omega), g58_eq, derefK_some, g58_eq, derefK_some]
  by_cases h1 : rng b 0 ((s.1.length : Int) - 1) = true
  case neg =>
    left
    have : mgC s (S : Int) b ph = 1 := by unfold mgC; rw [if_pos hc, if_neg (fun h => h1 h.1)]
    rw [Bool.not_eq_true] at h1
    rw [this, h1]
    exact ⟨by decide, rfl⟩
  by_cases h2 : rng ph 0 2 = true
  case neg =>
    left
    have : mgC s (S : Int) b ph = 1 := by unfold mgC; rw [if_pos hc, if_neg (fun h => h2 h.2)]
    rw [Bool.not_eq_true] at h2
    rw [this, h1, h2]
    exact ⟨by decide, rfl⟩
  right
  have hb := rng_iff.1 h1
  have h0 : mgC s (S : Int) b ph = 0 := by unfold mgC; rw [if_pos hc, if_pos ⟨h1, h2⟩]
  refine ⟨S, rfl, h0, ?_⟩
  rw [h1, h2]
  show derefK (g60 (s, (S : Int), -1, ph, ())) _ = _
  rw [g60_eq hs (by omega), derefK_some]
  have hu := okS_up hs
  have key : ∀ b : Int, -1 ≤ b → b < s.1.length → ∀ (m : Int) (N : Nat), b + 1 < N → L43_8 N (((S : Int), ph, m, b, ()), (s, ()), ()) = some ((mnL s S ph (chn s.1 b) m, ()), (), ()) := by
    refine chn_ind hu ?_ ?_
    · intro m N hN
      obtain ⟨N, rfl⟩ : ∃ k, N = k + 1 := ⟨N - 1, by omega⟩
      simp only [L43_8, B43_8]
      rw [dec_f (by omega), chn_neg (by omega)]
      rfl
    · intro b h0 h1 ih m N hN
      obtain ⟨N, rfl⟩ : ∃ k, N = k + 1 := ⟨N - 1, by omega⟩
      have hpb := hu.at h0 h1
      have hsl := slk_bd hs S ph h1
      have hbr : brs s b = (gd s.1 b).2.1 := by unfold brs; rw [if_neg (by omega)]
      have hsl' : IntKind.wrap .i64 ((gd s.1 b).2.1 - cur s S b ph) = slk s S ph b := by
        rw [← hbr]
        exact wI (by unfold slk at hsl; omega) (by unfold slk at hsl; omega)
      simp only [L43_8, B43_8]
      rw [dec_t (by omega), cond_true]
      simp only [getI_gd (l := s.1) (i := b) h0 h1]
      rw [g60_eq hs (by omega), derefK_some, hsl', ih _ N (by omega), chn_pos hu h0 h1]
      rfl
  have hsl := slk_bd hs S ph (b := -1) (by omega)
  have hsl' : IntKind.wrap .i64 (s.2.2.1 - cur s S (-1) ph) = slk s S ph (-1) := wI (by unfold slk brs at hsl; rw [if_pos (by omega)] at hsl; omega) (by unfold slk brs at hsl; rw [if_pos (by omega)] at hsl; omega)
  show derefK (L43_8 fuel (((S : Int), ph, IntKind.wrap .i64 (s.2.2.1 - cur s S (-1) ph), b, ()), (s, ()), ())) _ = _
  rw [hsl', key b (by omega) (by omega) _ fuel (by omega), derefK_some]
  rfl
end Go.Proofs.Try.V
