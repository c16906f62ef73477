/- Plain laws of layer 8, sixth part: the first order, by the program and by the document. No condition beyond those typed in each theorem. -/
import Derived.Test.YtjhphibadndkcaaLw5
namespace Go.Proofs.Try.V
open Go.Vi
set_option maxRecDepth 100000

def firstP (f : Nat → Bool) : Nat → Nat → Option Nat
  | 0, _ => none
  | m + 1, p => bif f p then some p else firstP f m (p + 1)
abbrev OSt := List Int × List Bool
def putO (x : OSt) (p : Nat) : OSt := (x.1 ++ [(p : Int)], x.2.set p true)
def stepO (k : Kit) (x : OSt) : OSt := match firstP (fun p => canB k x.2 (p : Int)) k.1.length 0 with
  | some p => putO x p
  | none => x
def runO (k : Kit) : Nat → OSt → OSt
  | 0, x => x
  | m + 1, x => runO k m (stepO k x)
def startO (k : Kit) : OSt := ([], List.replicate k.1.length false)
def finO (k : Kit) : OSt := runO k k.1.length (startO k)

theorem firstP_skip {f : Nat → Bool} : ∀ {m p : Nat} (j : Nat), (∀ q, p ≤ q → q < p + j → f q = false) → j ≤ m → firstP f m p = firstP f (m - j) (p + j)
  | m, p, 0, _, _ => by simp
  | 0, p, j + 1, _, h => by omega
  | m + 1, p, j + 1, hf, h => by
    rw [firstP, hf p (Nat.le_refl _) (by omega), cond_false, firstP_skip (m := m) (p := p + 1) j (fun q h1 h2 => hf q (by omega) (by omega)) (by omega)]
    rw [show m + 1 - (j + 1) = m - j by omega, show p + 1 + j = p + (j + 1) by omega]
theorem firstP_none {f : Nat → Bool} {m p : Nat} (h : ∀ q, p ≤ q → q < p + m → f q = false) : firstP f m p = none := by
  rw [firstP_skip m h (Nat.le_refl _), Nat.sub_self]
  rfl
theorem firstP_hit {f : Nat → Bool} {m q : Nat} (hq : q < m) (h : ∀ j, j < q → f j = false) (hf : f q = true) : firstP f m 0 = some q := by
  rw [firstP_skip q (fun j _ hj => h j (by omega)) (by omega)]
  obtain ⟨r, hr⟩ : ∃ r, m - q = r + 1 := ⟨m - q - 1, by omega⟩
  rw [hr, Nat.zero_add, firstP, hf]
  rfl
theorem runO_stuck (k : Kit) {x : OSt} (h : firstP (fun p => canB k x.2 (p : Int)) k.1.length 0 = none) : ∀ m, runO k m x = x
  | 0 => rfl
  | m + 1 => by
    have : stepO k x = x := by unfold stepO; rw [h]
    rw [runO, this]
    exact runO_stuck k h m

theorem canB_has {k : Kit} {s : List Bool} {p : Int} (h : canB k s p = true) : has s p = false := by
  unfold canB at h
  split at h
  · simp only [Bool.and_eq_true, Bool.not_eq_true'] at h
    exact h.1.1.1
  · cases h

theorem count_set_false {s : List Bool} {p : Nat} (hp : p < s.length) (h : has s (p : Int) = false) : (s.set p true).count false + 1 = s.count false := by
  have hg : s[p] = false := by
    unfold has at h
    rw [List.getD_eq_getElem?_getD, List.getElem?_eq_getElem (by simpa using hp)] at h
    simpa using h
  have hpos : 0 < s.count false := List.count_pos_iff.2 (by rw [← hg]; exact List.getElem_mem hp)
  rw [List.count_set hp, hg]
  simp
  omega

/-- The program's loop: it starts again behind each part that it puts up. -/
theorem L49_3_eq' {k : Kit} (hk : Small k) (hf : Fine k) {y : Yard} (hy : Yards k y) : ∀ (m : Nat) (d p : Nat) (l : List Int) (s : List Bool) (N : Nat), s.length = k.1.length → s.count false ≤ m → p + d = k.1.length → (∀ q, q < p → canB k s (q : Int) = false) → l.length + m ≤ 1048576 → m * (k.1.length + 1) + d < N →
    L49_3 N ((y, (p : Int), ()), (l, s, ()), ()) = some ((), ((runO k m (l, s)).1, (runO k m (l, s)).2, ()), ())
  | m, 0, p, l, s, N, hs, hc, hp, hq, hl, hN => by
    obtain ⟨n, rfl⟩ := pos_of_lt hN
    simp only [L49_3, B49_3]
    rw [dec_f (by omega), cond_false, runO_stuck k (firstP_none (fun q _ h2 => hq q (by omega)))]
  | m, d + 1, p, l, s, N, hs, hc, hp, hq, hl, hN => by
    obtain ⟨n, rfl⟩ := pos_of_lt hN
    simp only [L49_3, B49_3]
    have hps : (p : Int) < (s.length : Int) := by omega
    have h16 := hf.parts
    rw [dec_t hps, cond_true, g56_eq hk hf hy hs (by omega) (by omega), derefK_some]
    cases hcan : canB k s (p : Int) with
    | false =>
      rw [cond_false, w64 (by omega) (by omega), show (p : Int) + 1 = ((p + 1 : Nat) : Int) by omega]
      exact L49_3_eq' hk hf hy m d (p + 1) l s n hs hc (by omega) (fun q hq' => by
        rcases Nat.lt_or_ge q p with h | h
        · exact hq q h
        · rw [show q = p by omega]; exact hcan) hl (by omega)
    | true =>
      have hfalse := canB_has hcan
      have hcs := count_set_false (by omega : p < s.length) hfalse
      obtain ⟨m', rfl⟩ : ∃ m', m = m' + 1 := ⟨m - 1, by omega⟩
      have hst : stepO k (l, s) = (l ++ [(p : Int)], s.set p true) := by
        unfold stepO
        rw [firstP_hit (by omega : p < k.1.length) hq hcan]
        rfl
      rw [cond_true, inR_in (by omega) hps, getI_has (by omega) hps, lenK_in (by simp; omega) (by simp; omega), w64 (by omega) (by omega)]
      simp only [runO]
      rw [hst, show ((p : Int)).toNat = p by omega]
      have hN' : m' * (k.1.length + 1) + k.1.length < n := by
        rw [Nat.succ_mul] at hN
        omega
      exact L49_3_eq' hk hf hy m' k.1.length 0 (l ++ [(p : Int)]) (s.set p true) n (by simp [hs]) (by omega) (by omega) (fun q h => by omega) (by simp; omega) hN'
  termination_by m d => (m, d)

theorem g49_eq {k : Kit} (hk : Small k) (hf : Fine k) {y : Yard} (hy : Yards k y) : g49 (y, ()) = some (((finO k).1, (finO k).2, ()), ()) := by
  have hyk := hy.1
  have hF : g49 (y, ()) = F49 fuel y := rfl
  have h16 := hf.parts
  rw [hF]
  unfold F49
  rw [hyk]
  simp only [leK_in (show (0 : Int) ≤ (k.1.length : Int) by omega), leK_in (Int.le_refl (k.1.length : Int)), lenK_in (show (0 : Int) ≤ (k.1.length : Int) by omega) (by omega)]
  have hm : k.1.length * (k.1.length + 1) + k.1.length < fuel := by
    have := fuel_big
    have : k.1.length * (k.1.length + 1) ≤ 16 * 17 := Nat.mul_le_mul h16 (by omega)
    omega
  have h := L49_3_eq' hk hf hy k.1.length k.1.length 0 [] (List.replicate k.1.length false) fuel (by simp) (by simp) (by omega) (fun q h => by omega) (by simp; omega) hm
  have h' : L49_3 fuel ((y, 0, ()), ([], List.replicate (k.1.length : Int).toNat false, ()), ()) = _ := h
  rw [h', derefK_some]
  rfl

/-- The document's: one part a round. -/
theorem L50_6_eq' {k : Kit} (hk : Small k) (hf : Fine k) (a b : Int) (l : List Int) (hl : l.length ≤ 1048576) (s : List Bool) (hs : s.length = k.1.length) : ∀ (d p : Nat) (N : Nat), p + d = k.1.length → d < N →
    L50_6 N (((p : Int), a, b, ()), (k, l, s, ()), ()) = some ((a, b, ()), (k, (match firstP (fun p => canB k s (p : Int)) d p with | some p => putO (l, s) p | none => (l, s)).1, (match firstP (fun p => canB k s (p : Int)) d p with | some p => putO (l, s) p | none => (l, s)).2, ()), ())
  | 0, p, N, hp, hN => by
    obtain ⟨n, rfl⟩ := pos_of_lt hN
    simp only [L50_6, B50_6]
    rw [dec_f (by omega)]
    rfl
  | d + 1, p, N, hp, hN => by
    obtain ⟨n, rfl⟩ := pos_of_lt hN
    have h16 := hf.parts
    have hps : (p : Int) < (s.length : Int) := by omega
    simp only [L50_6, B50_6]
    rw [dec_t hps, cond_true, g58_eq hk hf hs (by omega) (by omega), derefK_some]
    simp only [firstP]
    cases hcan : canB k s (p : Int) with
    | false =>
      simp only [cond_false]
      rw [w64 (by omega) (by omega), show (p : Int) + 1 = ((p + 1 : Nat) : Int) by omega]
      exact L50_6_eq' hk hf a b l hl s hs d (p + 1) n (by omega) (by omega)
    | true =>
      simp only [cond_true]
      rw [inR_in (by omega) hps, getI_has (by omega) hps, lenK_in (by simp; omega) (by simp; omega)]
      rfl

theorem stepO_len {k : Kit} {x : OSt} : (stepO k x).2.length = x.2.length ∧ (stepO k x).1.length ≤ x.1.length + 1 := by
  unfold stepO
  split
  · unfold putO; simp
  · simp

theorem L50_4_eq' {k : Kit} (hk : Small k) (hf : Fine k) : ∀ (d t : Nat) (l : List Int) (s : List Bool) (N : Nat), t + d = k.1.length → l.length + d ≤ 1048576 → s.length = k.1.length → d + 1048576 < N →
    L50_4 N (((k.1.length : Int), (t : Int), ()), (k, l, s, ()), ()) = some ((), ((runO k d (l, s)).1, (runO k d (l, s)).2, ()), ())
  | 0, t, l, s, N, ht, hl, hs, hN => by
    obtain ⟨n, rfl⟩ := pos_of_lt hN
    simp only [L50_4, B50_4]
    rw [dec_f (by omega)]
    rfl
  | d + 1, t, l, s, N, ht, hl, hs, hN => by
    obtain ⟨n, rfl⟩ := pos_of_lt hN
    have h16 := hf.parts
    simp only [L50_4, B50_4]
    have h := L50_6_eq' hk hf (k.1.length : Int) (t : Int) l (by omega) s hs k.1.length 0 n (by omega) (by omega)
    have h' : L50_6 n ((0, (k.1.length : Int), (t : Int), ()), (k, l, s, ()), ()) = some (((k.1.length : Int), (t : Int), ()), (k, (stepO k (l, s)).1, (stepO k (l, s)).2, ()), ()) := h
    rw [dec_t (by omega), cond_true, h', derefK_some]
    dsimp only
    rw [w64 (by omega) (by omega), show (t : Int) + 1 = ((t + 1 : Nat) : Int) by omega]
    obtain ⟨e1, e2⟩ := stepO_len (k := k) (x := (l, s))
    have e2 : (stepO k (l, s)).1.length ≤ l.length + 1 := e2
    exact L50_4_eq' hk hf d (t + 1) _ _ n (by omega) (by omega) (by rw [e1]; exact hs) (by omega)

theorem g50_eq {k : Kit} (hk : Small k) (hf : Fine k) : g50 (k, ()) = some (((finO k).1, (finO k).2, ()), ()) := by
  have hF : g50 (k, ()) = F50 fuel k := rfl
  have h16 := hf.parts
  rw [hF]
  unfold F50
  simp only [leK_in (show (0 : Int) ≤ (k.1.length : Int) by omega), leK_in (Int.le_refl (k.1.length : Int)), lenK_in (show (0 : Int) ≤ (k.1.length : Int) by omega) (by omega)]
  have h := L50_4_eq' hk hf k.1.length 0 [] (List.replicate k.1.length false) fuel (by omega) (by simp; omega) (by simp) (by have := fuel_big; omega)
  have h' : L50_4 fuel (((k.1.length : Int), 0, ()), (k, [], List.replicate (k.1.length : Int).toNat false, ()), ()) = _ := h
  rw [h', derefK_some]
  rfl

def orderR (k : Kit) : List Int × Int := cond (valid k) (cond (decide ((finO k).1.length < k.1.length)) ([], 3) ((finO k).1, 0)) ([], 80)
theorem g16_eq (k : Kit) (hk : Small k) : g16 (k, ()) = some (((orderR k).1, (orderR k).2, ()), ()) := by
  have hF : g16 (k, ()) = F16 fuel k := rfl
  rw [hF]
  unfold F16 orderR
  rcases g48_eq k hk with ⟨hv, q, h⟩ | ⟨hv, y, hy, h⟩
  · rw [h, hv]; rfl
  · rw [h, hv, derefK_some]
    simp only [Bool.not_true, cond_false, cond_true, derefK_some]
    rw [g49_eq hk (fine_of k hv) hy, derefK_some]
    by_cases hl : (finO k).1.length < k.1.length
    · rw [dec_t hl, dec_t (by omega : (((finO k).1.length : Nat) : Int) < (k.1.length : Int))]; rfl
    · rw [dec_f hl, dec_f (by omega : ¬ (((finO k).1.length : Nat) : Int) < (k.1.length : Int))]; rfl
theorem g17_eq (k : Kit) (hk : Small k) : g17 (k, ()) = some (((orderR k).1, (orderR k).2, ()), ()) := by
  have hF : g17 (k, ()) = F17 fuel k := rfl
  rw [hF]
  unfold F17 orderR
  rw [g33_eq k hk, derefK_some]
  cases hv : valid k with
  | false => rfl
  | true =>
    simp only [cond_true]
    rw [show ((0 : Int) != 0) = false from rfl, cond_false, g50_eq hk (fine_of k hv), derefK_some]
    by_cases hl : (finO k).1.length < k.1.length
    · rw [dec_t hl, dec_t (by omega : (((finO k).1.length : Nat) : Int) < (k.1.length : Int))]; rfl
    · rw [dec_f hl, dec_f (by omega : ¬ (((finO k).1.length : Nat) : Int) < (k.1.length : Int))]; rfl

/-! ## Never -/
theorem L51_2_eq' (f : Int → Option Bool) (b : Int → Bool) (n : Nat) (hn : n ≤ 1048576) (hf : ∀ i : Nat, i < n → f (i : Int) = some (b (i : Int))) : ∀ (d t : Nat) (l : List Int) (N : Nat), t + d = n → l.length + d ≤ 1048576 → d < N →
    L51_2 N ((f, (n : Int), (t : Int), ()), (l, ()), ()) = some ((), (l ++ ((List.range' t d).map Int.ofNat).filter b, ()), ())
  | 0, t, l, N, ht, hl, hN => by
    obtain ⟨k, rfl⟩ := pos_of_lt hN
    simp only [L51_2, B51_2]
    rw [dec_f (by omega)]
    simp
  | d + 1, t, l, N, ht, hl, hN => by
    obtain ⟨k, rfl⟩ := pos_of_lt hN
    simp only [L51_2, B51_2]
    rw [dec_t (by omega), cond_true, hf t (by omega), derefK_some, w64 (by omega) (by omega), show (t : Int) + 1 = ((t + 1 : Nat) : Int) by omega, List.range'_succ, List.map_cons, List.filter_cons]
    cases hb : b (t : Int) with
    | true =>
      rw [cond_true, lenK_in (by simp; omega) (by simp; omega), L51_2_eq' f b n hn hf d (t + 1) (l ++ [(t : Int)]) k (by omega) (by simp; omega) (by omega)]
      simp
    | false =>
      rw [cond_false, L51_2_eq' f b n hn hf d (t + 1) l k (by omega) (by omega) (by omega)]
      simp
theorem g51_eq {y : Yard} {f : Int → Option Bool} {b : Int → Bool} (hn : y.1.1.length ≤ 1048576) (hf : ∀ i : Nat, i < y.1.1.length → f (i : Int) = some (b (i : Int))) : g51 (y, f, ()) = some (((rangeI y.1.1.length).filter b, ()), ()) := by
  have hF : g51 (y, f, ()) = F51 fuel y f := rfl
  rw [hF]
  unfold F51
  have h := L51_2_eq' f b y.1.1.length hn hf y.1.1.length 0 [] fuel (by omega) (by simpa using hn) (by have := fuel_big; omega)
  have h' : L51_2 fuel ((f, (y.1.1.length : Int), 0, ()), ([], ()), ()) = _ := h
  rw [h', derefK_some, List.nil_append, ← List.range_eq_range']
  rfl
theorem L20_7_eq' (s : List Bool) (hs : s.length ≤ 1048576) : ∀ (d t : Nat) (l : List Int) (N : Nat), t + d = s.length → l.length + d ≤ 1048576 → d < N →
    L20_7 N (((t : Int), ()), (l, s, ()), ()) = some ((), (l ++ ((List.range' t d).map Int.ofNat).filter (fun p => !has s p), ()), ())
  | 0, t, l, N, ht, hl, hN => by
    obtain ⟨k, rfl⟩ := pos_of_lt hN
    simp only [L20_7, B20_7]
    rw [dec_f (by omega)]
    simp
  | d + 1, t, l, N, ht, hl, hN => by
    obtain ⟨k, rfl⟩ := pos_of_lt hN
    simp only [L20_7, B20_7]
    rw [dec_t (by omega), cond_true, inR_in (by omega) (by omega), getI_has (by omega) (by omega), w64 (by omega) (by omega), show (t : Int) + 1 = ((t + 1 : Nat) : Int) by omega, List.range'_succ, List.map_cons, List.filter_cons]
    cases hb : has s (t : Int) with
    | false =>
      rw [Bool.not_false, cond_true, lenK_in (by simp; omega) (by simp; omega), L20_7_eq' s hs d (t + 1) (l ++ [(t : Int)]) k (by omega) (by simp; omega) (by omega)]
      simp [hb]
    | true =>
      rw [Bool.not_true, cond_false, L20_7_eq' s hs d (t + 1) l k (by omega) (by omega) (by omega)]
      simp [hb]

theorem runO_len {k : Kit} : ∀ (m : Nat) (x : OSt), (runO k m x).2.length = x.2.length ∧ (runO k m x).1.length ≤ x.1.length + m
  | 0, x => ⟨rfl, by simp [runO]⟩
  | m + 1, x => by
    obtain ⟨e1, e2⟩ := runO_len (k := k) m (stepO k x)
    obtain ⟨e3, e4⟩ := stepO_len (k := k) (x := x)
    rw [runO]
    exact ⟨by rw [e1, e3], by omega⟩
theorem finO_len (k : Kit) : (finO k).2.length = k.1.length ∧ (finO k).1.length ≤ k.1.length := by
  obtain ⟨e1, e2⟩ := runO_len (k := k) k.1.length (startO k)
  exact ⟨by rw [finO, e1]; simp [startO], by simpa [finO, startO] using e2⟩

def neverR (k : Kit) : List Int × Int := cond (valid k) ((rangeI k.1.length).filter (fun p => !has (finO k).2 p), 0) ([], 80)
theorem g19_eq (k : Kit) (hk : Small k) : g19 (k, ()) = some (((neverR k).1, (neverR k).2, ()), ()) := by
  have hF : g19 (k, ()) = F19 fuel k := rfl
  rw [hF]
  unfold F19 neverR
  rcases g48_eq k hk with ⟨hv, q, h⟩ | ⟨hv, y, hy, h⟩
  · rw [h, hv]; rfl
  · rw [h, hv, derefK_some]
    simp only [Bool.not_true, cond_false, cond_true, derefK_some]
    rw [g49_eq hk (fine_of k hv) hy, derefK_some]
    have hyk := hy.1
    have hlen := (finO_len k).1
    rw [g51_eq (b := fun p => !has (finO k).2 p) (by rw [hyk]; exact hk.parts) (fun i hi => by
      have hG : g52 ((i : Int), (finO k).2, ()) = F52 fuel (i : Int) (finO k).2 := rfl
      dsimp only
      rw [hyk] at hi
      rw [hG]
      unfold F52
      rw [getI_has (by omega) (by omega)]
      rfl), derefK_some, hyk]
theorem g20_eq (k : Kit) (hk : Small k) : g20 (k, ()) = some (((neverR k).1, (neverR k).2, ()), ()) := by
  have hF : g20 (k, ()) = F20 fuel k := rfl
  rw [hF]
  unfold F20 neverR
  rw [g33_eq k hk, derefK_some]
  cases hv : valid k with
  | false => rfl
  | true =>
    simp only [cond_true]
    rw [show ((0 : Int) != 0) = false from rfl, cond_false, g50_eq hk (fine_of k hv), derefK_some]
    have hlen := (finO_len k).1
    have hp := hk.parts
    have h := L20_7_eq' (finO k).2 (by omega) k.1.length 0 [] fuel (by omega) (by simpa using hp) (by have := fuel_big; omega)
    have h' : L20_7 fuel ((0, ()), ([], (finO k).2, ()), ()) = _ := h
    dsimp only
    rw [h', derefK_some, List.nil_append, ← List.range_eq_range']
    rfl

/-! ## Two lists of numbers -/
theorem L18_4_eq' (l : List Int) (hl : l.length ≤ 1048576) : ∀ (r pre : List Int) (N : Nat), l = pre ++ r → r.length < N → L18_4 N ((l, l, (pre.length : Int), ()), (), ()) = some (.inr ((), (), ()))
  | [], pre, N, hpr, hN => by
    obtain ⟨k, rfl⟩ := pos_of_lt hN
    simp only [L18_4, B18_4]
    rw [hpr]
    simp
  | x :: r, pre, N, hpr, hN => by
    obtain ⟨k, rfl⟩ := pos_of_lt hN
    simp only [List.length_cons] at hN
    have hlt : ((pre.length : Nat) : Int) < (l.length : Int) := by rw [hpr]; exact lt_app pre x r
    have hget : ∀ {R : Type} (kk : Int → Option R), getI l (pre.length : Int) kk = kk x := fun kk => by rw [hpr]; exact getI_app pre x r kk rfl
    have ih := L18_4_eq' l hl r (pre ++ [x]) k (by rw [hpr]; simp) (by omega)
    rw [len_app] at ih
    simp only [L18_4, B18_4]
    rw [dec_t hlt, cond_true, hget, hget, show (x != x) = false by simp, cond_false, w64 (by omega) (by omega)]
    exact ih
theorem g18_self (l : List Int) (hl : l.length ≤ 1048576) : g18 (l, l, ()) = some ((true, ()), ()) := by
  have hF : g18 (l, l, ()) = F18 fuel l l := rfl
  rw [hF]
  unfold F18
  have h := L18_4_eq' l hl l [] fuel rfl (by have := fuel_big; omega)
  have h' : L18_4 fuel ((l, l, 0, ()), (), ()) = _ := h
  rw [show ((l.length : Int) != (l.length : Int)) = false by simp, cond_false, h']
  rfl

theorem orderR_len (k : Kit) (hk : Small k) : (orderR k).1.length ≤ 1048576 := by
  have := (finO_len k).2
  have := hk.parts
  unfold orderR
  cases valid k with
  | false => simp
  | true =>
    rw [cond_true]
    cases decide ((finO k).1.length < k.1.length) with
    | true => simp
    | false => simp only [cond_false]; omega
theorem neverR_len (k : Kit) (hk : Small k) : (neverR k).1.length ≤ 1048576 := by
  have h1 := List.length_filter_le (fun p => !has (finO k).2 p) (rangeI k.1.length)
  rw [rangeI_length] at h1
  have := hk.parts
  unfold neverR
  cases valid k with
  | false => simp
  | true => simp only [cond_true]; omega

theorem law3 (k : Kit) (hk : Small k) (hw : g21 () = some ((true, ()), ())) : g3 (k, ()) = some ((true, ()), ()) := by
  have hF : g3 (k, ()) = F3 fuel k := rfl
  rw [hF]
  unfold F3
  rw [g16_eq k hk, g17_eq k hk, derefK_some, derefK_some]
  simp only [bne_self_eq_false, cond_false]
  rw [g18_self _ (orderR_len k hk), derefK_some]
  simp only [Bool.not_true, cond_false]
  rw [g19_eq k hk, g20_eq k hk, derefK_some, derefK_some]
  simp only [beq_self_eq_true, cond_true]
  rw [g18_self _ (neverR_len k hk), derefK_some]
  simp only [cond_true]
  rw [hw]
  rfl
end Go.Proofs.Try.V
