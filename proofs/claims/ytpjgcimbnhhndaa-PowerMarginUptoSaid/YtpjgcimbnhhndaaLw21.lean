/- Plain laws of layer 5, twenty-first part: the law of the margin. No condition beyond those typed in each theorem. -/
import Derived.Test.YtpjgcimbnhhndaaLw20
namespace Go.Proofs.Try.V
open Go.Vi
set_option maxRecDepth 100000

/-- A load more. -/
def more (s : Sup) (b ph a : Int) : Sup := (s.1, s.2.1 ++ [(b, ph, a, 0)], s.2.2)
theorem more_ok {s : Sup} (hs : okS s = true) (hn : s.2.1.length < 16) {b ph a : Int} (hb : 0 ≤ b ∧ b < s.1.length) (hph : 0 ≤ ph ∧ ph ≤ 2) (ha : 1 ≤ a ∧ a ≤ 1000) : okS (more s b ph a) = true := by
  unfold okS at hs ⊢
  simp only [Bool.and_eq_true, decide_eq_true_iff] at hs
  have h1 : okL s.1.length (b, ph, a, 0) = true := by
    unfold okL
    simp only [Bool.and_eq_true, rng_iff]
    omega
  have hlen : (more s b ph a).2.1.length = s.2.1.length + 1 := by simp [more]
  have hall : (more s b ph a).2.1.all (okL (more s b ph a).1.length) = true := by
    show (s.2.1 ++ [(b, ph, a, 0)]).all (okL s.1.length) = true
    rw [List.all_append, hs.2.2.2.2.2.2, List.all_cons, h1]
    rfl
  simp only [Bool.and_eq_true, decide_eq_true_iff]
  exact ⟨hs.1, by omega, hs.2.2.1, hs.2.2.2.1, hs.2.2.2.2.1, hs.2.2.2.2.2.1, hall⟩
theorem curK_more {s : Sup} {S : Nat} {b ph a : Int} (c q : Int) : ∀ k, k ≤ s.2.1.length → curK (more s b ph a) (S ||| 2 ^ s.2.1.length) c q k = curK s S c q k
  | 0, _ => rfl
  | k + 1, hk => by
    have ih := curK_more (s := s) (S := S) (b := b) (ph := ph) (a := a) c q k (by omega)
    have hg : gd (s.2.1 ++ [(b, ph, a, (0 : Int))]) (k : Int) = gd s.2.1 (k : Int) := gd_app_l (a := s.2.1) (i := (k : Int)) (by omega) (by omega)
    have hg : gd (more s b ph a).2.1 (k : Int) = gd s.2.1 (k : Int) := hg
    have hb : (S ||| 2 ^ s.2.1.length).testBit k = S.testBit k := by
      rw [Nat.testBit_or, Nat.testBit_two_pow_of_ne (by omega), Bool.or_false]
    unfold curK
    rw [ih, hg, hb]
    rfl
theorem cur_more {s : Sup} {S : Nat} {b ph a : Int} (c q : Int) : cur (more s b ph a) (S ||| 2 ^ s.2.1.length) c q = cur s S c q + (if ph == q && (decide (c < 0) || und s.1 b c) then a else 0) := by
  have hlen : (more s b ph a).2.1.length = s.2.1.length + 1 := by simp [more]
  have hg : gd (s.2.1 ++ [(b, ph, a, (0 : Int))]) (s.2.1.length : Int) = (b, ph, a, 0) := gd_app_end rfl
  have hg : gd (more s b ph a).2.1 (s.2.1.length : Int) = (b, ph, a, 0) := hg
  have hb : (S ||| 2 ^ s.2.1.length).testBit s.2.1.length = true := by
    rw [Nat.testBit_or, Nat.testBit_two_pow_self, Bool.or_true]
  unfold cur
  rw [hlen]
  conv => lhs; unfold curK
  rw [curK_more c q _ (Nat.le_refl _), hg, hb, Bool.true_and]
  rfl
theorem mnL_le (s : Sup) (S : Nat) (ph : Int) : ∀ (xs : List Int) (m : Int), mnL s S ph xs m ≤ m ∧ ∀ x ∈ xs, mnL s S ph xs m ≤ slk s S ph x
  | [], m => ⟨Int.le_refl _, fun x h => by cases h⟩
  | y :: xs, m => by
    obtain ⟨h1, h2⟩ := mnL_le s S ph xs (min m (slk s S ph y))
    have e : mnL s S ph (y :: xs) m = mnL s S ph xs (min m (slk s S ph y)) := rfl
    rw [e]
    refine ⟨by omega, fun x hx => ?_⟩
    rcases List.mem_cons.1 hx with rfl | hx
    · omega
    · exact h2 x hx
theorem mnL_att (s : Sup) (S : Nat) (ph : Int) : ∀ (xs : List Int) (m : Int), mnL s S ph xs m = m ∨ ∃ x ∈ xs, mnL s S ph xs m = slk s S ph x
  | [], _ => .inl rfl
  | y :: xs, m => by
    have e : mnL s S ph (y :: xs) m = mnL s S ph xs (min m (slk s S ph y)) := rfl
    rw [e]
    rcases mnL_att s S ph xs (min m (slk s S ph y)) with h | ⟨x, hx, h⟩
    · by_cases hm : m ≤ slk s S ph y
      · left; omega
      · right; exact ⟨y, List.mem_cons_self, by omega⟩
    · right; exact ⟨x, List.mem_cons_of_mem _ hx, h⟩
theorem fo_slk {s : Sup} {S : Nat} : fo s S = none ↔ ∀ c : Int, -1 ≤ c → c < s.1.length → ∀ q : Int, 0 ≤ q ∧ q ≤ 2 → 0 ≤ slk s S q c := by
  rw [fo_none]
  constructor
  · intro h c h0 h1 q hq
    have := h (c + 1).toNat (by omega)
    rw [show (((c + 1).toNat : Nat) : Int) - 1 = c by omega] at this
    unfold ovr mx3 at this
    rw [decide_eq_false_iff_not] at this
    unfold slk
    obtain rfl | rfl | rfl : q = 0 ∨ q = 1 ∨ q = 2 := by omega
    all_goals omega
  · intro h i hi
    have h0 := h ((i : Int) - 1) (by omega) (by omega) 0 (by omega)
    have h1 := h ((i : Int) - 1) (by omega) (by omega) 1 (by omega)
    have h2 := h ((i : Int) - 1) (by omega) (by omega) 2 (by omega)
    unfold slk at h0 h1 h2
    unfold ovr mx3
    rw [decide_eq_false_iff_not]
    omega
theorem slk_more {s : Sup} {S : Nat} {b ph a : Int} (c q : Int) : slk (more s b ph a) (S ||| 2 ^ s.2.1.length) q c = slk s S q c - (if ph == q && (decide (c < 0) || und s.1 b c) then a else 0) := by
  have : brs (more s b ph a) c = brs s c := rfl
  unfold slk
  rw [cur_more, this]
  omega
theorem margin_in {s : Sup} {S : Nat} {b ph a : Int} (hf : fo s S = none) (ha : a ≤ mgn s S b ph) : fo (more s b ph a) (S ||| 2 ^ s.2.1.length) = none := by
  refine fo_slk.2 fun c h0 h1 q hq => ?_
  have h := fo_slk.1 hf c h0 h1 q hq
  rw [slk_more]
  split
  · rename_i hh
    rw [Bool.and_eq_true, Bool.or_eq_true, beq_iff_eq, decide_eq_true_iff] at hh
    obtain ⟨rfl, hc⟩ := hh
    obtain ⟨m1, m2⟩ := mnL_le s S ph (chn s.1 b) (slk s S ph (-1))
    have : a ≤ slk s S ph c := by
      rcases hc with hc | hc
      · obtain rfl : c = -1 := by omega
        exact Int.le_trans ha m1
      · unfold und at hc
        exact Int.le_trans ha (m2 c (by simpa using hc))
    omega
  · omega
theorem margin_out {s : Sup} (hs : okS s = true) {S : Nat} {b ph a : Int} (hb : 0 ≤ b ∧ b < s.1.length) (hph : 0 ≤ ph ∧ ph ≤ 2) (ha : mgn s S b ph < a) : fo (more s b ph a) (S ||| 2 ^ s.2.1.length) ≠ none := by
  intro hf
  have hm := chn_mem (okS_up hs) b (by omega) hb.2
  obtain ⟨c, hc0, hc1, hc2, hc3⟩ : ∃ c : Int, -1 ≤ c ∧ c < s.1.length ∧ (decide (c < 0) || und s.1 b c) = true ∧ mgn s S b ph = slk s S ph c := by
    rcases mnL_att s S ph (chn s.1 b) (slk s S ph (-1)) with h | ⟨x, hx, h⟩
    · exact ⟨-1, by omega, by omega, rfl, h⟩
    · have := hm x hx
      refine ⟨x, by omega, by omega, ?_, h⟩
      unfold und
      rw [Bool.or_eq_true]
      right
      simpa using hx
  have h := fo_slk.1 hf c hc0 hc1 ph hph
  rw [slk_more, hc2, beq_self_eq_true, Bool.and_true, if_pos rfl] at h
  omega
theorem mgn_nn {s : Sup} (hs : okS s = true) {S : Nat} (hf : fo s S = none) {b ph : Int} (hb : 0 ≤ b ∧ b < s.1.length) (hph : 0 ≤ ph ∧ ph ≤ 2) : 0 ≤ mgn s S b ph ∧ mgn s S b ph ≤ 1000 := by
  have hm := chn_mem (okS_up hs) b (by omega) hb.2
  have hsl := slk_bd hs S ph (b := -1) (by omega)
  obtain ⟨m1, _⟩ := mnL_le s S ph (chn s.1 b) (slk s S ph (-1))
  refine ⟨?_, by unfold mgn; omega⟩
  rcases mnL_att s S ph (chn s.1 b) (slk s S ph (-1)) with h | ⟨x, hx, h⟩
  · unfold mgn; rw [h]
    exact fo_slk.1 hf (-1) (by omega) (by omega) ph hph
  · have := hm x hx
    unfold mgn; rw [h]
    exact fo_slk.1 hf x (by omega) (by omega) ph hph
theorem more_lt {s : Sup} {S : Nat} (hS : S < 2 ^ s.2.1.length) (b ph a : Int) : S ||| 2 ^ s.2.1.length < 2 ^ (more s b ph a).2.1.length := by
  have hlen : (more s b ph a).2.1.length = s.2.1.length + 1 := by simp [more]
  rw [hlen]
  exact Nat.or_lt_two_pow (Nat.lt_of_lt_of_le hS (Nat.pow_le_pow_right (by omega) (by omega))) (Nat.pow_lt_pow_right (by omega) (by omega))
set_option maxHeartbeats 1000000 in
theorem margin_law (s : Sup) (set : Int) (p : Int × Int) : g10 (s, set, p, ()) = some ((true, ()), ()) := by
  show F10 fuel s set p = _
  unfold F10
  rcases g37_eq s set p.1 p.2 with ⟨h, e⟩ | ⟨S, rfl, hc, hs, hS, hb, hph, e⟩
  · obtain ⟨y, hy⟩ : ∃ y, g34 (s, set, ()) = some y := by
      by_cases hc : okC s set = 0
      · obtain ⟨hs, S, rfl, hS⟩ := okC_0 hc
        exact ⟨_, g34_ok hs hS⟩
      · exact ⟨_, g34_bad hc⟩
    rw [e, hy, derefK_some, derefK_some]
    show (bif mgC s set p.1 p.2 != 0 then _ else _) = _
    rw [show (mgC s set p.1 p.2 != 0) = true from bne_iff_ne.2 h]
    exact works_k
  have hl := okS_le hs
  have hp := pow16 hl.2
  rw [e, g34_ok hs hS, derefK_some, derefK_some]
  show (bif (0 : Int) != 0 then _ else bif (0 : Int) != 0 then _ else _) = _
  rw [bne_self_eq_false, cond_false, cond_false]
  show (bif !(fo s S).isNone then _ else _) = _
  cases hfo : fo s S with
  | some z => exact works_k
  | none =>
  rw [Option.isNone_none, Bool.not_true, cond_false]
  by_cases hn : s.2.1.length < 16
  case neg =>
    rw [dec_t (by omega)]
    exact works_k
  rw [dec_f (by omega), cond_false]
  obtain ⟨n, hn0⟩ : ∃ n, mgn s S p.1 p.2 = n := ⟨_, rfl⟩
  have hnn := mgn_nn hs hfo hb hph
  rw [hn0] at hnn ⊢
  have hmx : max n 0 = n := by omega
  simp only [hmx]
  have hu : IntKind.wrap .u64 (s.2.1.length : Int) = (s.2.1.length : Int) := u64_in (by omega) (by omega)
  have hpl : 2 ^ s.2.1.length < 4611686018427387904 := by omega
  have hor : bitsI .or .i64 (S : Int) (shlI .i64 1 (s.2.1.length : Int)) = ((S ||| 2 ^ s.2.1.length : Nat) : Int) := by rw [shl_n (by omega), or_n (by omega) hpl]
  have hw : IntKind.wrap .i64 (n + 1) = n + 1 := wI (by omega) (by omega)
  have a1 : ∀ {R : Type} (X : Option R), lenK (s.2.1.length : Int) X = X := fun X => lenK_in (by omega) (by omega) X
  have a2 : ∀ {R : Type} (z : Ld) (X : Option R), lenK ((s.2.1.length : Int) + ([z].length : Nat)) X = X := fun z X => lenK_in (by simp; omega) (by simp; omega) X
  have a3 : ∀ {R : Type} (X : Option R), negK (s.2.1.length : Int) X = X := fun X => negK_in (by omega) X
  have hlast : n + 1 ≤ 1000 → g34 (more s p.1 p.2 (n + 1), ((S ||| 2 ^ s.2.1.length : Nat) : Int), ()) = some (((foR (more s p.1 p.2 (n + 1)) (S ||| 2 ^ s.2.1.length)).1, false, 0, ()), ()) := fun h => by
    rw [g34_ok (more_ok hs hn hb hph ⟨by omega, h⟩) (more_lt hS _ _ _)]
    have := margin_out hs hb hph (a := n + 1) (S := S) (by omega)
    cases hh : fo (more s p.1 p.2 (n + 1)) (S ||| 2 ^ s.2.1.length) with
    | none => exact absurd hh this
    | some _ => rfl
  rw [dec_f (show ¬ n < 0 by omega), cond_false]
  by_cases hpos : n > 0
  · have e1 : g34 (more s p.1 p.2 n, ((S ||| 2 ^ s.2.1.length : Nat) : Int), ()) = some (((foR (more s p.1 p.2 n) (S ||| 2 ^ s.2.1.length)).1, true, 0, ()), ()) := by
      rw [g34_ok (more_ok hs hn hb hph ⟨by omega, by omega⟩) (more_lt hS _ _ _), margin_in hfo (by omega)]
      rfl
    have e1' : g34 ((s.1, ((s.2.1 ++ [(p.1, p.2, n, (0 : Int))]), s.2.2)), ((S ||| 2 ^ s.2.1.length : Nat) : Int), ()) = _ := e1
    rw [dec_t hpos, cond_true]
    simp only [enumK_eq, hu, hor, hw, a1, a2, a3, agreeK_two, agreeK_one, e1', derefK_some, bne_self_eq_false, cond_false, Bool.not_true]
    by_cases hle : n + 1 ≤ 1000
    · rw [dec_f (by omega), cond_false]
      refine (derefK_of (hlast hle) _).trans ?_
      exact works_k
    · rw [dec_t (by omega)]
      exact works_k
  · rw [dec_f hpos, cond_false]
    simp only [enumK_eq, hu, hor, hw, a1, a2, a3, agreeK_two, agreeK_one]
    by_cases hle : n + 1 ≤ 1000
    · rw [dec_f (by omega), cond_false]
      refine (derefK_of (hlast hle) _).trans ?_
      exact works_k
    · rw [dec_t (by omega)]
      exact works_k
end Go.Proofs.Try.V
