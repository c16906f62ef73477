/- Plain laws of layer 8 (for buildLacks). No condition beyond those typed in each theorem. -/
import Derived.Test.YtjhphibadndkcaaLw13
namespace Go.Proofs.Try.V
open Go.Vi
set_option maxRecDepth 100000

theorem L76_4_eq' (a b : List Int) (ha : a.length ≤ 1048576) : ∀ (r r' pre pre' : List Int) (N : Nat), a = pre ++ r → b = pre' ++ r' → pre.length = pre'.length → r.length = r'.length → r.length < N →
    L76_4 N ((a, b, (a.length : Int), (pre.length : Int), ()), (), ()) = some (cond (decide (r = r')) (.inr ((), (), ())) (.inl ((false, ()), (), ())))
  | [], [], pre, pre', N, hp, hp', hl, hr, hN => by
    obtain ⟨n, rfl⟩ := pos_of_lt hN
    simp only [L76_4, B76_4]
    rw [hp]
    simp
  | [], y :: r', pre, pre', N, hp, hp', hl, hr, hN => by simp at hr
  | x :: r, [], pre, pre', N, hp, hp', hl, hr, hN => by simp at hr
  | x :: r, y :: r', pre, pre', N, hp, hp', hl, hr, hN => by
    obtain ⟨n, rfl⟩ := pos_of_lt hN
    simp only [List.length_cons] at hN hr
    have hlt : ((pre.length : Nat) : Int) < (a.length : Int) := by rw [hp]; exact lt_app pre x r
    have hget : ∀ {R : Type} (kk : Int → Option R), getI a (pre.length : Int) kk = kk x := fun kk => by rw [hp]; exact getI_app pre x r kk rfl
    have hget2 : ∀ {R : Type} (kk : Int → Option R), getI b (pre.length : Int) kk = kk y := fun kk => by rw [hp']; exact getI_app pre' y r' kk (by rw [hl])
    have ih := L76_4_eq' a b ha r r' (pre ++ [x]) (pre' ++ [y]) n (by rw [hp]; simp) (by rw [hp']; simp) (by simp [hl]) (by omega) (by omega)
    rw [len_app] at ih
    simp only [L76_4, B76_4]
    rw [dec_t hlt, cond_true, hget, hget2, w64 (by omega) (by omega)]
    by_cases h : x = y
    · subst h
      rw [show (x != x) = false by simp, cond_false, ih]
      simp
    · rw [show (x != y) = true by simp [h], cond_true, dec_f (by simp [h])]
      rfl
theorem g76_eq (a b : List Int) (ha : a.length ≤ 1048576) : g76 (a, b, ()) = some ((decide (a = b), ()), ()) := by
  have hF : g76 (a, b, ()) = F76 fuel a b := rfl
  rw [hF]
  unfold F76
  rw [len_ne]
  by_cases h : a.length = b.length
  · rw [dec_t h, Bool.not_true, cond_false]
    have hh := L76_4_eq' a b ha a b [] [] fuel rfl rfl rfl h (by have := fuel_big; omega)
    have hh' : L76_4 fuel ((a, b, (a.length : Int), 0, ()), (), ()) = _ := hh
    rw [hh', derefK_some]
    cases decide (a = b) <;> rfl
  · rw [dec_f h, dec_f (fun e => h (by rw [e]))]
    rfl
theorem L77_4_eq' (a b : List Int) (ha : a.length ≤ 1048576) : ∀ (r r' pre pre' : List Int) (N : Nat), a = pre ++ r → b = pre' ++ r' → pre.length = pre'.length → r.length = r'.length → r.length < N →
    L77_4 N ((a, b, (pre.length : Int), ()), (), ()) = some (cond (decide (r = r')) (.inr ((), (), ())) (.inl ((false, ()), (), ())))
  | [], [], pre, pre', N, hp, hp', hl, hr, hN => by
    obtain ⟨n, rfl⟩ := pos_of_lt hN
    simp only [L77_4, B77_4]
    rw [hp]
    simp
  | [], y :: r', pre, pre', N, hp, hp', hl, hr, hN => by simp at hr
  | x :: r, [], pre, pre', N, hp, hp', hl, hr, hN => by simp at hr
  | x :: r, y :: r', pre, pre', N, hp, hp', hl, hr, hN => by
    obtain ⟨n, rfl⟩ := pos_of_lt hN
    simp only [List.length_cons] at hN hr
    have hlt : ((pre.length : Nat) : Int) < (a.length : Int) := by rw [hp]; exact lt_app pre x r
    have hget : ∀ {R : Type} (kk : Int → Option R), getI a (pre.length : Int) kk = kk x := fun kk => by rw [hp]; exact getI_app pre x r kk rfl
    have hget2 : ∀ {R : Type} (kk : Int → Option R), getI b (pre.length : Int) kk = kk y := fun kk => by rw [hp']; exact getI_app pre' y r' kk (by rw [hl])
    have ih := L77_4_eq' a b ha r r' (pre ++ [x]) (pre' ++ [y]) n (by rw [hp]; simp) (by rw [hp']; simp) (by simp [hl]) (by omega) (by omega)
    rw [len_app] at ih
    simp only [L77_4, B77_4]
    rw [dec_t hlt, cond_true, hget, hget2, w64 (by omega) (by omega)]
    by_cases h : x = y
    · subst h
      rw [show (x != x) = false by simp, cond_false, ih]
      simp
    · rw [show (x != y) = true by simp [h], cond_true, dec_f (by simp [h])]
      rfl
theorem g77_eq (a b : List Int) (ha : a.length ≤ 1048576) : g77 (a, b, ()) = some ((decide (a = b), ()), ()) := by
  have hF : g77 (a, b, ()) = F77 fuel a b := rfl
  rw [hF]
  unfold F77
  rw [len_ne]
  by_cases h : a.length = b.length
  · rw [dec_t h, Bool.not_true, cond_false]
    have hh := L77_4_eq' a b ha a b [] [] fuel rfl rfl rfl h (by have := fuel_big; omega)
    have hh' : L77_4 fuel ((a, b, 0, ()), (), ()) = _ := hh
    rw [hh', derefK_some]
    cases decide (a = b) <;> rfl
  · rw [dec_f h, dec_f (fun e => h (by rw [e]))]
    rfl

theorem L92_2_eq' (s : List Int) (hs : s.length ≤ 1048576) (b : Int) : ∀ (r pre : List Int) (N : Nat), s = pre ++ r → r.length < N →
    ∃ i : Int, 0 ≤ i ∧ L92_2 N ((s, b, (s.length : Int), (pre.length : Int), ()), (), ()) = some (cond (decide (b ∈ r)) (.inl ((i, ()), (), ())) (.inr ((), (), ())))
  | [], pre, N, hpr, hN => by
    obtain ⟨k, rfl⟩ := pos_of_lt hN
    refine ⟨0, Int.le_refl _, ?_⟩
    simp only [L92_2, B92_2]
    rw [hpr]
    simp
  | x :: r, pre, N, hpr, hN => by
    obtain ⟨k, rfl⟩ := pos_of_lt hN
    simp only [List.length_cons] at hN
    have hlt : ((pre.length : Nat) : Int) < (s.length : Int) := by rw [hpr]; exact lt_app pre x r
    have hget : ∀ {R : Type} (kk : Int → Option R), getI s (pre.length : Int) kk = kk x := fun kk => by rw [hpr]; exact getI_app pre x r kk rfl
    obtain ⟨i, hi, ih⟩ := L92_2_eq' s hs b r (pre ++ [x]) k (by rw [hpr]; simp) (by omega)
    rw [len_app] at ih
    simp only [L92_2, B92_2]
    rw [dec_t hlt, cond_true, hget, w64 (by omega) (by omega)]
    cases hb : b == x with
    | true => exact ⟨pre.length, by omega, by rw [dec_t (by rw [eq_of_beq hb]; exact List.mem_cons_self)]; rfl⟩
    | false =>
      refine ⟨i, hi, ?_⟩
      have : decide (b ∈ x :: r) = decide (b ∈ r) := by
        have : b ≠ x := by simpa using hb
        simp [this]
      rw [cond_false, this]
      exact ih
theorem g74_eq {s : List Int} (hs : s.length ≤ 1048576) (b : Int) : g74 (s, b, ()) = some ((decide (b ∈ s), ()), ()) := by
  have hF : g74 (s, b, ()) = F74 fuel s b := rfl
  have hG : g75 (s, b, ()) = F75 fuel s b := rfl
  have hH : g92 (s, b, ()) = F92 fuel s b := rfl
  obtain ⟨i, hi, h⟩ := L92_2_eq' s hs b s [] fuel rfl (by have := fuel_big; omega)
  have h' : L92_2 fuel ((s, b, (s.length : Int), 0, ()), (), ()) = _ := h
  rw [hF]
  unfold F74
  rw [hG]
  unfold F75
  rw [hH]
  unfold F92
  rw [h', derefK_some]
  by_cases hb : b ∈ s
  · rw [dec_t hb]
    simp only [cond_true, sumK_inl, derefK_some]
    rw [dec_t hi]
  · rw [dec_f hb]; rfl
theorem L91_2_eq' (s : List (List Int)) (hs : s.length ≤ 1048576) (f : List Int → Option Bool) (b : List Int → Bool) (hf : ∀ x ∈ s, f x = some (b x)) : ∀ (r pre : List (List Int)) (N : Nat), s = pre ++ r → r.length < N →
    ∃ i : Int, 0 ≤ i ∧ L91_2 N ((s, f, (s.length : Int), (pre.length : Int), ()), (), ()) = some (cond (r.any b) (.inl ((i, ()), (), ())) (.inr ((), (), ())))
  | [], pre, N, hpr, hN => by
    obtain ⟨k, rfl⟩ := pos_of_lt hN
    refine ⟨0, Int.le_refl _, ?_⟩
    simp only [L91_2, B91_2]
    rw [hpr]
    simp
  | x :: r, pre, N, hpr, hN => by
    obtain ⟨k, rfl⟩ := pos_of_lt hN
    simp only [List.length_cons] at hN
    have hlt : ((pre.length : Nat) : Int) < (s.length : Int) := by rw [hpr]; exact lt_app pre x r
    have hget : ∀ {R : Type} (kk : List Int → Option R), getI s (pre.length : Int) kk = kk x := fun kk => by rw [hpr]; exact getI_app pre x r kk rfl
    obtain ⟨i, hi, ih⟩ := L91_2_eq' s hs f b hf r (pre ++ [x]) k (by rw [hpr]; simp) (by omega)
    rw [len_app] at ih
    simp only [L91_2, B91_2]
    rw [dec_t hlt, cond_true, hget, hf x (by rw [hpr]; simp), derefK_some, w64 (by omega) (by omega), List.any_cons]
    cases b x with
    | true => exact ⟨pre.length, by omega, rfl⟩
    | false => exact ⟨i, hi, by rw [cond_false, Bool.false_or]; exact ih⟩
theorem g71_eq {s : List (List Int)} (hs : s.length ≤ 1048576) {f : List Int → Option Bool} {b : List Int → Bool} (hf : ∀ x ∈ s, f x = some (b x)) : g71 (s, f, ()) = some ((s.any b, ()), ()) := by
  have hF : g71 (s, f, ()) = derefK (g91 (s, f, ())) fun y1 => some (((decide (y1.1.1 ≥ 0)), ()), ()) := rfl
  have hG : g91 (s, f, ()) = F91 fuel s f := rfl
  obtain ⟨i, hi, h⟩ := L91_2_eq' s hs f b hf s [] fuel rfl (by have := fuel_big; omega)
  have h' : L91_2 fuel ((s, f, (s.length : Int), 0, ()), (), ()) = _ := h
  rw [hF, hG]
  unfold F91
  rw [h', derefK_some]
  cases s.any b with
  | true => simp only [cond_true, sumK_inl, derefK_some]; rw [dec_t hi]
  | false => rfl

def seenB (seen : List (List Int)) (p : Int) : Bool := seen.any fun l => decide (p ∈ l)
theorem g73_eq {seen : List (List Int)} (hs : seen.length ≤ 1048576) (hl : ∀ l ∈ seen, l.length ≤ 1048576) (p : Int) : g73 (p, seen, ()) = some ((!seenB seen p, ()), ()) := by
  have hF : g73 (p, seen, ()) = F73 fuel p seen := rfl
  rw [hF]
  unfold F73
  rw [g71_eq hs (b := fun l => decide (p ∈ l)) (fun l hl' => by rw [g74_eq (hl l hl')]; rfl)]
  rfl
def strangeGo : Nat → List (List Int) → List (List Int) → List Int
  | i, a :: s, b :: v => (bif decide (a = b) then [] else [(i : Int)]) ++ strangeGo (i + 1) s v
  | _, _, _ => []
theorem strangeGo_len : ∀ (i : Nat) (s v : List (List Int)), (strangeGo i s v).length ≤ s.length
  | _, [], _ => by simp [strangeGo]
  | _, _ :: _, [] => by simp [strangeGo]
  | i, a :: s, b :: v => by
    have := strangeGo_len (i + 1) s v
    rw [strangeGo, List.length_append, List.length_cons]
    cases decide (a = b) <;> simp <;> omega
theorem L38_8_eq' (k : Kit) (seen : List (List Int)) (hs : seen.length ≤ 1048576) (hl : ∀ l ∈ seen, l.length ≤ 1048576) (lk : List Int) : ∀ (r r' pre pre' : List (List Int)) (o : List Int) (N : Nat), seen = pre ++ r → k.2.2 = pre' ++ r' → pre.length = pre'.length → r.length = r'.length → o.length ≤ pre.length → r.length < N →
    L38_8 N ((seen, (seen.length : Int), (pre.length : Int), ()), (k, o, lk, ()), ()) = some ((), (o ++ strangeGo pre.length r r', lk, ()), ())
  | [], [], pre, pre', o, N, hp, hp', hpl, hrl, ho, hN => by
    obtain ⟨n, rfl⟩ := pos_of_lt hN
    simp only [L38_8, B38_8]
    rw [hp]
    simp [strangeGo]
  | [], y :: r', pre, pre', o, N, hp, hp', hpl, hrl, ho, hN => by simp at hrl
  | x :: r, [], pre, pre', o, N, hp, hp', hpl, hrl, ho, hN => by simp at hrl
  | x :: r, y :: r', pre, pre', o, N, hp, hp', hpl, hrl, ho, hN => by
    obtain ⟨n, rfl⟩ := pos_of_lt hN
    simp only [List.length_cons] at hN hrl
    have hlt : ((pre.length : Nat) : Int) < (seen.length : Int) := by rw [hp]; exact lt_app pre x r
    have hget : ∀ {R : Type} (kk : List Int → Option R), getI seen (pre.length : Int) kk = kk x := fun kk => by rw [hp]; exact getI_app pre x r kk rfl
    have hget2 : ∀ {R : Type} (kk : List Int → Option R), getI k.2.2 (pre.length : Int) kk = kk y := fun kk => by rw [hp']; exact getI_app pre' y r' kk (by rw [hpl])
    have ih : ∀ o : List Int, o.length ≤ pre.length + 1 → _ := fun o ho => L38_8_eq' k seen hs hl lk r r' (pre ++ [x]) (pre' ++ [y]) o n (by rw [hp]; simp) (by rw [hp']; simp) (by simp [hpl]) (by omega) (by simp; omega) (by omega)
    simp only [len_app] at ih
    simp only [L38_8, B38_8]
    rw [dec_t hlt, cond_true, hget, hget2, g76_eq _ _ (hl x (by rw [hp]; simp)), derefK_some, w64 (by omega) (by omega)]
    simp only [strangeGo]
    cases decide (x = y) with
    | true =>
      rw [Bool.not_true, cond_false, ih o (by omega)]
      simp
    | false =>
      rw [Bool.not_false, cond_true, lenK_in (by simp; omega) (by simp; omega), ih (o ++ [(pre.length : Int)]) (by simp; omega)]
      simp

def lackE (k : Kit) (seen : List (List Int)) : Int := cond (valid k) (cond (decide (seen.length = k.2.2.length)) (cond (seen.any fun l => decide ((l.length : Int) > 100)) 1 0) 1) 80
def lackA (k : Kit) (seen : List (List Int)) : List Int := cond (lackE k seen == 0) ((rangeI k.1.length).filter fun p => !seenB seen p) []
def lackB (k : Kit) (seen : List (List Int)) : List Int := cond (lackE k seen == 0) (strangeGo 0 seen k.2.2) []
theorem g38_eq (k : Kit) (hk : Small k) (seen : List (List Int)) (hs : seen.length ≤ 1048576) (hl : ∀ l ∈ seen, l.length ≤ 1048576) : g38 (k, seen, ()) = some ((lackA k seen, lackB k seen, lackE k seen, ()), ()) := by
  have hF : g38 (k, seen, ()) = F38 fuel k seen := rfl
  rw [hF]
  unfold F38 lackA lackB lackE
  rcases g48_eq k hk with ⟨hv, q, h⟩ | ⟨hv, y, hy, h⟩
  · rw [h, hv]; rfl
  · have hf := fine_of k hv
    have hyk := hy.1
    have h16 := hf.parts
    rw [h, hv, derefK_some, len_ne]
    simp only [Bool.not_true, cond_false, cond_true]
    by_cases hlen : seen.length = k.2.2.length
    · rw [dec_t hlen]
      simp only [Bool.not_true, cond_false, cond_true]
      rw [g71_eq hs (f := fun v2 => derefK (g72 (v2, ())) fun y3 => some y3.1.1) (b := fun l => decide ((l.length : Int) > 100)) (fun l _ => rfl), derefK_some]
      dsimp only
      cases seen.any fun l => decide ((l.length : Int) > 100) with
      | true => rfl
      | false =>
        simp only [cond_false, derefK_some]
        rw [g51_eq (b := fun p => !seenB seen p) (by rw [hyk]; omega) (fun i hi => by rw [g73_eq hs hl]; rfl), derefK_some]
        have hh := L38_8_eq' k seen hs hl ((rangeI y.1.1.length).filter fun p => !seenB seen p) seen k.2.2 [] [] [] fuel rfl rfl rfl hlen (Nat.le_refl _) (by have := fuel_big; omega)
        have hh' : L38_8 fuel ((seen, (seen.length : Int), 0, ()), (k, [], ((rangeI y.1.1.length).filter fun p => !seenB seen p), ()), ()) = _ := hh
        rw [hh', derefK_some, hyk]
        rfl
    · rw [dec_f hlen]; rfl

/-! ## The document's -/
theorem L39_9_eq' (k : Kit) (a b : List Int) (c : List Bool) (seen : List (List Int)) (hs : seen.length ≤ 1048576) : ∀ (r pre : List (List Int)) (N : Nat), seen = pre ++ r → r.length < N →
    L39_9 N ((seen, (pre.length : Int), ()), (k, a, b, c, ()), ()) = some (cond (r.any fun l => decide ((l.length : Int) > 100)) (.inl ((1, ()), ([], [], ()), ())) (.inr ((seen, ()), (k, a, b, c, ()), ())))
  | [], pre, N, hpr, hN => by
    obtain ⟨n, rfl⟩ := pos_of_lt hN
    simp only [L39_9, B39_9]
    rw [hpr]
    simp
  | x :: r, pre, N, hpr, hN => by
    obtain ⟨n, rfl⟩ := pos_of_lt hN
    simp only [List.length_cons] at hN
    have hlt : ((pre.length : Nat) : Int) < (seen.length : Int) := by rw [hpr]; exact lt_app pre x r
    have hget : ∀ {R : Type} (kk : List Int → Option R), getI seen (pre.length : Int) kk = kk x := fun kk => by rw [hpr]; exact getI_app pre x r kk rfl
    have ih := L39_9_eq' k a b c seen hs r (pre ++ [x]) n (by rw [hpr]; simp) (by omega)
    rw [len_app] at ih
    simp only [L39_9, B39_9]
    rw [dec_t hlt, cond_true, hget, w64 (by omega) (by omega), List.any_cons]
    cases decide ((x.length : Int) > 100) with
    | true => rfl
    | false => exact ih
theorem L39_19_eq' (k : Kit) (a b : List Int) (seen : List (List Int)) (n : Nat) (hn : n ≤ 16) (v : Int) (l : List Int) (hv0 : 0 ≤ v) (hv : seen[v.toNat]? = some l) (hl : l.length ≤ 1048576) : ∀ (r pre : List Int) (c : List Bool) (N : Nat), l = pre ++ r → c.length = n → r.length < N →
    ∃ c', c'.length = n ∧ (∀ p : Int, 0 ≤ p → p < n → has c' p = (has c p || decide (p ∈ r))) ∧ L39_19 N ((seen, v, (pre.length : Int), ()), (k, a, b, c, ()), ()) = some ((seen, v, ()), (k, a, b, c', ()), ())
  | [], pre, c, N, hpr, hc, hN => by
    obtain ⟨m, rfl⟩ := pos_of_lt hN
    refine ⟨c, hc, fun p _ _ => by simp, ?_⟩
    simp only [L39_19, B39_19, getI_some hv0 hv]
    rw [hpr]
    simp
  | x :: r, pre, c, N, hpr, hc, hN => by
    obtain ⟨m, rfl⟩ := pos_of_lt hN
    simp only [List.length_cons] at hN
    have hlt : ((pre.length : Nat) : Int) < (l.length : Int) := by rw [hpr]; exact lt_app pre x r
    have hget : ∀ {R : Type} (kk : Int → Option R), getI l (pre.length : Int) kk = kk x := fun kk => by rw [hpr]; exact getI_app pre x r kk rfl
    simp only [L39_19, B39_19, getI_some hv0 hv]
    simp only [dec_t hlt, cond_true, hget, g57_eq, derefK_some]
    rw [w64 (x := (c.length : Int) - 1) (by omega) (by omega), w64 (x := (pre.length : Int) + 1) (by omega) (by omega)]
    cases h1 : rng x 0 ((c.length : Int) - 1) with
    | false =>
      obtain ⟨c', e1, e2, e3⟩ := L39_19_eq' k a b seen n hn v l hv0 hv hl r (pre ++ [x]) c m (by rw [hpr]; simp) hc (by omega)
      rw [len_app] at e3
      refine ⟨c', e1, fun p h0 hp => ?_, e3⟩
      rw [e2 p h0 hp]
      have : p ≠ x := by
        rintro rfl
        rw [rng, dec_t h0, dec_t (by omega)] at h1
        cases h1
      simp [this]
    | true =>
      simp only [rng, Bool.and_eq_true, decide_eq_true_eq] at h1
      obtain ⟨c', e1, e2, e3⟩ := L39_19_eq' k a b seen n hn v l hv0 hv hl r (pre ++ [x]) (c.set x.toNat true) m (by rw [hpr]; simp) (by simp [hc]) (by omega)
      rw [len_app] at e3
      refine ⟨c', e1, fun p h0 hp => ?_, ?_⟩
      · rw [e2 p h0 hp]
        by_cases hpx : p = x
        · subst hpx
          have : has (c.set p.toNat true) p = true := by
            unfold has
            rw [List.getD_eq_getElem?_getD, List.getElem?_set_self (by omega)]
            rfl
          rw [this]
          simp
        · rw [has_set h0 (by omega)]
          simp [hpx]
      · rw [cond_true, inR_in h1.1 (by omega), getI_has h1.1 (by omega)]
        exact e3
theorem L39_14_eq' (k : Kit) (a : List Int) (seen : List (List Int)) (hs : seen.length ≤ 1048576) (hl : ∀ l ∈ seen, l.length ≤ 1048576) (n : Nat) (hn : n ≤ 16) : ∀ (r r' pre pre' : List (List Int)) (o : List Int) (c : List Bool) (N : Nat), seen = pre ++ r → k.2.2 = pre' ++ r' → pre.length = pre'.length → r.length = r'.length → o.length ≤ pre.length → c.length = n → r.length + 1048576 < N →
    ∃ c', c'.length = n ∧ (∀ p : Int, 0 ≤ p → p < n → has c' p = (has c p || seenB r p)) ∧ L39_14 N ((seen, (pre.length : Int), ()), (k, a, o, c, ()), ()) = some ((), (a, o ++ strangeGo pre.length r r', c', ()), ())
  | [], [], pre, pre', o, c, N, hp, hp', hpl, hrl, ho, hc, hN => by
    obtain ⟨m, rfl⟩ := pos_of_lt hN
    refine ⟨c, hc, fun p _ _ => by simp [seenB], ?_⟩
    simp only [L39_14, B39_14]
    rw [hp]
    simp [strangeGo]
  | [], y :: r', pre, pre', o, c, N, hp, hp', hpl, hrl, ho, hc, hN => by simp at hrl
  | x :: r, [], pre, pre', o, c, N, hp, hp', hpl, hrl, ho, hc, hN => by simp at hrl
  | x :: r, y :: r', pre, pre', o, c, N, hp, hp', hpl, hrl, ho, hc, hN => by
    obtain ⟨m, rfl⟩ := pos_of_lt hN
    simp only [List.length_cons] at hN hrl
    have hlt : ((pre.length : Nat) : Int) < (seen.length : Int) := by rw [hp]; exact lt_app pre x r
    have hget : ∀ {R : Type} (kk : List Int → Option R), getI seen (pre.length : Int) kk = kk x := fun kk => by rw [hp]; exact getI_app pre x r kk rfl
    have hget2 : ∀ {R : Type} (kk : List Int → Option R), getI k.2.2 (pre.length : Int) kk = kk y := fun kk => by rw [hp']; exact getI_app pre' y r' kk (by rw [hpl])
    have hxl := hl x (by rw [hp]; simp)
    have hin : ∀ o, ∃ c', c'.length = n ∧ (∀ p : Int, 0 ≤ p → p < n → has c' p = (has c p || decide (p ∈ x))) ∧ L39_19 m ((seen, (pre.length : Int), 0, ()), (k, a, o, c, ()), ()) = some ((seen, (pre.length : Int), ()), (k, a, o, c', ()), ()) := fun o => L39_19_eq' k a o seen n hn (pre.length : Int) x (by omega) (by rw [hp]; simp) hxl x [] c m rfl hc (by omega)
    simp only [L39_14, B39_14]
    rw [dec_t hlt, cond_true, hget, hget2, g77_eq _ _ hxl, derefK_some]
    simp only [strangeGo]
    have fin : ∀ o2 : List Int, o2.length ≤ pre.length + 1 → ∃ c', c'.length = n ∧ (∀ p : Int, 0 ≤ p → p < n → has c' p = (has c p || seenB (x :: r) p)) ∧
        (derefK (L39_19 m ((seen, (pre.length : Int), 0, ()), (k, a, o2, c, ()), ())) fun o16 => L39_14 m ((o16.1.1, (IntKind.wrap .i64 (o16.1.2.1 + 1)), ()), (o16.2.1.1, o16.2.1.2.1, o16.2.1.2.2.1, o16.2.1.2.2.2.1, ()), ())) = some ((), (a, o2 ++ strangeGo (pre.length + 1) r r', c', ()), ()) := by
      intro o2 ho2
      obtain ⟨c1, d1, d2, d3⟩ := hin o2
      obtain ⟨c', e1, e2, e3⟩ := L39_14_eq' k a seen hs hl n hn r r' (pre ++ [x]) (pre' ++ [y]) o2 c1 m (by rw [hp]; simp) (by rw [hp']; simp) (by simp [hpl]) (by omega) (by simp; omega) d1 (by omega)
      simp only [List.length_append, List.length_cons, List.length_nil] at e3
      refine ⟨c', e1, fun p h0 hpn => ?_, ?_⟩
      · rw [e2 p h0 hpn, d2 p h0 hpn]
        unfold seenB
        rw [List.any_cons, Bool.or_assoc]
      · rw [d3, derefK_some]
        dsimp only
        rw [w64 (by omega) (by omega)]
        exact e3
    cases decide (x = y) with
    | true =>
      obtain ⟨c', e1, e2, e3⟩ := fin o (by omega)
      refine ⟨c', e1, e2, ?_⟩
      rw [Bool.not_true, cond_false, e3]
      simp
    | false =>
      obtain ⟨c', e1, e2, e3⟩ := fin (o ++ [(pre.length : Int)]) (by simp; omega)
      refine ⟨c', e1, e2, ?_⟩
      rw [Bool.not_false, cond_true, lenK_in (by simp; omega) (by simp; omega), e3]
      simp
theorem L39_24_eq' (b : List Int) (s : List Bool) (hs : s.length ≤ 1048576) : ∀ (d t : Nat) (l : List Int) (N : Nat), t + d = s.length → l.length + d ≤ 1048576 → d < N →
    L39_24 N (((t : Int), ()), (l, b, s, ()), ()) = some ((), (l ++ ((List.range' t d).map Int.ofNat).filter (fun p => !has s p), b, ()), ())
  | 0, t, l, N, ht, hl, hN => by
    obtain ⟨k, rfl⟩ := pos_of_lt hN
    simp only [L39_24, B39_24]
    rw [dec_f (by omega)]
    simp
  | d + 1, t, l, N, ht, hl, hN => by
    obtain ⟨k, rfl⟩ := pos_of_lt hN
    simp only [L39_24, B39_24]
    rw [dec_t (by omega), cond_true, inR_in (by omega) (by omega), getI_has (by omega) (by omega), w64 (by omega) (by omega), show (t : Int) + 1 = ((t + 1 : Nat) : Int) by omega, List.range'_succ, List.map_cons, List.filter_cons]
    cases hb : has s (t : Int) with
    | false =>
      rw [Bool.not_false, cond_true, lenK_in (by simp; omega) (by simp; omega), L39_24_eq' b s hs d (t + 1) (l ++ [(t : Int)]) k (by omega) (by simp; omega) (by omega)]
      simp []
    | true =>
      rw [Bool.not_true, cond_false, L39_24_eq' b s hs d (t + 1) l k (by omega) (by omega) (by omega)]
      simp []
theorem g39_eq (k : Kit) (hk : Small k) (seen : List (List Int)) (hs : seen.length ≤ 1048576) (hl : ∀ l ∈ seen, l.length ≤ 1048576) : g39 (k, seen, ()) = some ((lackA k seen, lackB k seen, lackE k seen, ()), ()) := by
  have hF : g39 (k, seen, ()) = F39 fuel k seen := rfl
  rw [hF]
  unfold F39 lackA lackB lackE
  rw [g33_eq k hk, derefK_some, len_ne]
  cases hv : valid k with
  | false => rfl
  | true =>
    have hf := fine_of k hv
    have h16 := hf.parts
    simp only [cond_true, bne_self_eq_false, cond_false]
    by_cases hlen : seen.length = k.2.2.length
    · rw [dec_t hlen]
      simp only [Bool.not_true, cond_false, cond_true]
      rw [leK_in (by omega), leK_in (by omega), lenK_in (by omega) (by omega)]
      have h9 := L39_9_eq' k [] [] (List.replicate k.1.length false) seen hs seen [] fuel rfl (by have := fuel_big; omega)
      have h9' : L39_9 fuel ((seen, 0, ()), (k, [], [], List.replicate (k.1.length : Int).toNat false, ()), ()) = _ := h9
      rw [h9', derefK_some]
      cases seen.any fun l => decide ((l.length : Int) > 100) with
      | true => rfl
      | false =>
        simp only [cond_false, sumK_inr]
        obtain ⟨c', e1, e2, e3⟩ := L39_14_eq' k [] seen hs hl k.1.length h16 seen k.2.2 [] [] [] (List.replicate k.1.length false) fuel rfl rfl rfl hlen (Nat.le_refl _) (by simp) (by have := fuel_big; omega)
        have e3' : L39_14 fuel ((seen, 0, ()), (k, [], [], List.replicate k.1.length false, ()), ()) = _ := e3
        rw [e3', derefK_some]
        dsimp only
        have h24 := L39_24_eq' (strangeGo 0 seen k.2.2) c' (by omega) k.1.length 0 [] fuel (by omega) (by simp; omega) (by have := fuel_big; omega)
        have h24' : L39_24 fuel ((0, ()), ([], [] ++ strangeGo ([] : List (List Int)).length seen k.2.2, c', ()), ()) = _ := h24
        rw [h24', derefK_some]
        dsimp only
        rw [List.nil_append, ← List.range_eq_range']
        have : ((List.range k.1.length).map Int.ofNat).filter (fun p => !has c' p) = (rangeI k.1.length).filter fun p => !seenB seen p := by
          refine List.filter_congr fun p hp => ?_
          have hp' := rangeI_mem.1 hp
          rw [e2 p hp'.1 hp'.2]
          have : has (List.replicate k.1.length false) p = false := by
            unfold has
            rw [List.getD_eq_getElem?_getD, List.getElem?_replicate]
            split <;> rfl
          rw [this, Bool.false_or]
        rw [this]
        rfl
    · rw [dec_f hlen]; rfl

theorem strangeGo_same : ∀ (i : Nat) (v : List (List Int)), strangeGo i v v = []
  | _, [] => rfl
  | i, a :: v => by rw [strangeGo, decide_eq_true rfl, strangeGo_same (i + 1) v]; rfl
theorem law9 (k : Kit) (hk : Small k) (seen : List (List Int)) (hs : seen.length ≤ 1048576) (hl : ∀ l ∈ seen, l.length ≤ 1048576) : g9 (k, seen, ()) = some ((true, ()), ()) := by
  have hF : g9 (k, seen, ()) = F9 fuel k seen := rfl
  have hA : (lackA k seen).length ≤ 1048576 := filter_len k hk _ _
  have hB : (lackB k seen).length ≤ 1048576 := by
    have := strangeGo_len 0 seen k.2.2
    unfold lackB
    cases lackE k seen == 0 with
    | true => rw [cond_true]; omega
    | false => simp
  rw [hF]
  unfold F9
  rw [g38_eq k hk seen hs hl, g39_eq k hk seen hs hl, derefK_some, derefK_some]
  simp only [bne_self_eq_false, cond_false]
  rw [g18_self _ hA, derefK_some]
  simp only [Bool.not_true, cond_false]
  rw [g18_self _ hB, derefK_some]
  simp only [Bool.not_true, cond_false]
  rw [g32_eq k hk, derefK_some]
  cases hv : valid k with
  | false =>
    rw [works_eq]
    rfl
  | true =>
    have hf := fine_of k hv
    have h16 := hf.parts
    simp only [cond_true, bne_self_eq_false, cond_false]
    rw [g38_eq k hk k.2.2 hk.vans hk.van, derefK_some]
    have he : lackE k k.2.2 = 0 := by
      unfold lackE
      rw [hv, decide_eq_true rfl]
      have : (k.2.2.any fun l => decide ((l.length : Int) > 100)) = false := by
        rw [List.any_eq_false]
        intro l hl'
        have hsub := List.Nodup.length_le_of_subset (l₁ := l) (l₂ := rangeI k.1.length) (by
          obtain ⟨A, B, hAB⟩ := List.append_of_mem hl'
          have hn := hf.nodup
          rw [hAB, List.flatten_append, List.flatten_cons, List.nodup_append] at hn
          have hn2 := hn.2.1
          rw [List.nodup_append] at hn2
          exact hn2.1) (fun x hx => rangeI_mem.2 (hf.flat x (List.mem_flatten.2 ⟨l, hl', hx⟩)))
        rw [rangeI_length] at hsub
        simp only [decide_eq_true_eq]
        omega
      rw [this]
      rfl
    have ha : lackA k k.2.2 = [] := by
      unfold lackA
      rw [he]
      simp only [beq_self_eq_true, cond_true]
      rw [List.filter_eq_nil_iff]
      intro p hp
      have hp' := rangeI_mem.1 hp
      have hm := hf.all p.toNat (by omega)
      rw [show ((p.toNat : Nat) : Int) = p by omega] at hm
      obtain ⟨l, hl', hpl⟩ := List.mem_flatten.1 hm
      have : seenB k.2.2 p = true := by
        unfold seenB
        rw [List.any_eq_true]
        exact ⟨l, hl', decide_eq_true hpl⟩
      rw [this]
      simp
    have hb : lackB k k.2.2 = [] := by
      unfold lackB
      rw [he]
      exact strangeGo_same 0 k.2.2
    rw [he, ha, hb]
    simp only [beq_self_eq_true, cond_true]
    rw [works_eq]
    rfl
end Go.Proofs.Try.V
