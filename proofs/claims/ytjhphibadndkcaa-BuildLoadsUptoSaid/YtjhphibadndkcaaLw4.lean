/- Plain laws of layer 8, fourth part: the document's look at a kit; it and the program's agree. No condition beyond those typed in each theorem. -/
import Derived.Test.YtjhphibadndkcaaLw3
namespace Go.Proofs.Try.V
open Go.Vi
set_option maxRecDepth 100000

theorem goodFrom_iff (n : Nat) : ∀ (l seen : List Int), goodFrom n seen l = true ↔ (∀ x ∈ l, 0 ≤ x ∧ x < n) ∧ l.Nodup ∧ ∀ x ∈ l, x ∉ seen
  | [], seen => by simp [goodFrom]
  | x :: l, seen => by
    simp only [goodFrom, Bool.and_eq_true, goodFrom_iff n l, rng, decide_eq_true_eq, Bool.not_eq_true', decide_eq_false_iff_not, List.mem_cons, List.nodup_cons, List.mem_append]
    constructor
    · rintro ⟨⟨⟨h1, h2⟩, h3⟩, h4, h5, h6⟩
      refine ⟨?_, ⟨fun hx => (h6 x hx) (.inr (.inl rfl)), h5⟩, ?_⟩
      · rintro y (rfl | hy)
        · exact ⟨h1, by omega⟩
        · exact h4 y hy
      · rintro y (rfl | hy)
        · exact h3
        · exact fun h => h6 y hy (.inl h)
    · rintro ⟨h1, ⟨h2, h3⟩, h4⟩
      have := h1 x (.inl rfl)
      refine ⟨⟨⟨this.1, by omega⟩, h4 x (.inl rfl)⟩, fun y hy => h1 y (.inr hy), h3, ?_⟩
      rintro y hy (h | h | h)
      · exact h4 y (.inr hy) h
      · subst h; exact h2 hy
      · cases h

theorem perm_of_nodup {α : Type} [DecidableEq α] : ∀ (l r : List α), l.Nodup → (∀ x ∈ l, x ∈ r) → r.length ≤ l.length → l.Perm r
  | [], r, _, _, hl => by
    have : r = [] := List.eq_nil_of_length_eq_zero (by simpa using hl)
    subst this
    exact .refl _
  | x :: l, r, hn, hm, hl => by
    rw [List.nodup_cons] at hn
    have hx := hm x List.mem_cons_self
    have hp := List.perm_cons_erase hx
    refine List.Perm.trans (List.Perm.cons x (perm_of_nodup l (r.erase x) hn.2 (fun y hy => ?_) ?_)) hp.symm
    · exact (List.mem_erase_of_ne (fun e => hn.1 (by rw [← e]; exact hy))).2 (hm y (List.mem_cons_of_mem _ hy))
    · rw [List.length_erase_of_mem hx]
      simp at hl
      omega

def rangeI (n : Nat) : List Int := (List.range n).map Int.ofNat
theorem rangeI_mem {n : Nat} {x : Int} : x ∈ rangeI n ↔ 0 ≤ x ∧ x < n := by
  simp only [rangeI, List.mem_map, List.mem_range]
  constructor
  · rintro ⟨a, h, rfl⟩; exact ⟨by simp, by simpa using h⟩
  · rintro ⟨h0, h1⟩; exact ⟨x.toNat, by omega, by simp; omega⟩
theorem rangeI_nodup (n : Nat) : (rangeI n).Nodup := by
  unfold rangeI
  rw [List.Nodup, List.pairwise_map]
  exact List.Pairwise.imp (fun h e => h (Int.ofNat.inj e)) List.nodup_range
theorem rangeI_length (n : Nat) : (rangeI n).length = n := by simp [rangeI]

theorem counts_iff {n : Nat} {l : List Int} (hr : ∀ x ∈ l, 0 ≤ x ∧ x < n) : (∀ i, i < n → l.count (i : Int) = 1) ↔ l.Nodup ∧ l.length = n := by
  constructor
  · intro h
    have hp : l.Perm (rangeI n) := by
      rw [List.perm_iff_count]
      intro a
      by_cases ha : 0 ≤ a ∧ a < n
      · rw [(rangeI_nodup n).count, if_pos (rangeI_mem.2 ha)]
        have := h a.toNat (by omega)
        rwa [show ((a.toNat : Nat) : Int) = a by omega] at this
      · rw [List.count_eq_zero_of_not_mem (fun hm => ha (hr a hm)), List.count_eq_zero_of_not_mem (fun hm => ha (rangeI_mem.1 hm))]
    exact ⟨hp.nodup_iff.2 (rangeI_nodup n), by rw [hp.length_eq, rangeI_length]⟩
  · rintro ⟨h1, h2⟩ i hi
    have hp := perm_of_nodup l (rangeI n) h1 (fun x hx => rangeI_mem.2 (hr x hx)) (by rw [rangeI_length]; omega)
    rw [hp.count_eq, (rangeI_nodup n).count, if_pos (rangeI_mem.2 ⟨by omega, by omega⟩)]

/-! ## The loops -/
theorem L33_10_eq' (o : Kit) (ho : o.1.length ≤ 16) (i : Int) (p : Part) (hp : p.2.2.2.length ≤ 1048576) : ∀ (r pre : List Int) (last : Int) (N : Nat), p.2.2.2 = pre ++ r → r.length < N → (pre = [] ∧ last = -1) ∨ (∃ q, pre = q ++ [last] ∧ 0 ≤ last) →
    L33_10 N ((i, (pre.length : Int), ()), (o, p, ()), ()) = some (cond (needsOK o.1.length i last r) (.inr ((i, ()), (o, ()), ())) (.inl ((80, ()), (), ())))
  | [], pre, last, N, hpr, hN, _ => by
    obtain ⟨k, rfl⟩ := pos_of_lt hN
    simp only [L33_10, B33_10]
    rw [hpr]
    simp [needsOK]
  | x :: r, pre, last, N, hpr, hN, hlast => by
    obtain ⟨k, rfl⟩ := pos_of_lt hN
    simp only [List.length_cons] at hN
    have hlt : ((pre.length : Nat) : Int) < (p.2.2.2.length : Int) := by rw [hpr]; exact lt_app pre x r
    have hget : ∀ {R : Type} (kk : Int → Option R), getI p.2.2.2 (pre.length : Int) kk = kk x := fun kk => by rw [hpr]; exact getI_app pre x r kk rfl
    have hl1 : -1 ≤ last := by rcases hlast with ⟨_, h⟩ | ⟨_, _, h⟩ <;> omega
    simp only [L33_10, B33_10]
    simp only [dec_t hlt, cond_true, hget, g57_eq, derefK_some]
    rw [w64 (x := (o.1.length : Int) - 1) (by omega) (by omega), w64 (x := (pre.length : Int) + 1) (by omega) (by omega)]
    simp only [needsOK]
    cases h1 : rng x 0 ((o.1.length : Int) - 1) with
    | false =>
      have h1' : ¬ (0 ≤ x ∧ x ≤ (o.1.length : Int) - 1) := by
        intro h
        rw [rng, dec_t h.1, dec_t h.2] at h1
        cases h1
      by_cases h2 : last < x
      · rw [dec_f (by omega : ¬ x < (o.1.length : Int))]; simp
      · rw [dec_f h2]; simp
    | true =>
    simp only [rng, Bool.and_eq_true, decide_eq_true_eq] at h1
    rw [dec_t (by omega : x < (o.1.length : Int))]
    simp only [Bool.not_true, cond_false, Bool.and_true]
    cases h3 : x == i with
    | true => simp
    | false =>
    simp only [cond_false, Bool.not_false, Bool.and_true]
    have ih := L33_10_eq' o ho i p hp r (pre ++ [x]) x k (by rw [hpr]; simp) (by omega) (.inr ⟨pre, rfl, h1.1⟩)
    rw [len_app] at ih
    rcases hlast with ⟨rfl, rfl⟩ | ⟨q, rfl, hq⟩
    · rw [dec_f (by simp), dec_t (by omega : -1 < x), cond_false, Bool.true_and]
      exact ih
    · have hget2 : ∀ {R : Type} (kk : Int → Option R), getI p.2.2.2 (IntKind.wrap .i64 (((q ++ [last]).length : Int) - 1)) kk = kk last := fun kk => by
        have hb : (q ++ [last]).length ≤ 1048576 := by
          have := congrArg List.length hpr
          simp only [List.length_append, List.length_cons] at this
          simp only [List.length_append, List.length_cons, List.length_nil]
          omega
        rw [w64 (by omega) (by omega), hpr, app_app]
        exact getI_app q last (x :: r) kk (by simp)
      rw [dec_t (by simp), cond_true]
      simp only [hget2]
      by_cases h2 : x ≤ last
      · rw [dec_t h2, dec_f (by omega : ¬ last < x)]; rfl
      · rw [dec_f h2, dec_t (by omega : last < x), cond_false, Bool.true_and]
        exact ih

theorem L33_4_eq' (o : Kit) (ho : o.1.length ≤ 16) (hb : ∀ p ∈ o.1, p.2.2.2.length ≤ 1048576) : ∀ (r pre : List Part) (N : Nat), o.1 = pre ++ r → r.length + 1048576 < N →
    L33_4 N (((pre.length : Int), ()), (o, ()), ()) = some (cond (partsOK o.1.length pre.length r) (.inr ((), (o, ()), ())) (.inl ((80, ()), (), ())))
  | [], pre, N, hpr, hN => by
    obtain ⟨k, rfl⟩ := pos_of_lt hN
    simp only [L33_4, B33_4]
    rw [hpr]
    simp [partsOK]
  | x :: r, pre, N, hpr, hN => by
    obtain ⟨k, rfl⟩ := pos_of_lt hN
    simp only [List.length_cons] at hN
    have hlt : ((pre.length : Nat) : Int) < (o.1.length : Int) := by rw [hpr]; exact lt_app pre x r
    have hget : ∀ {R : Type} (kk : Part → Option R), getI o.1 (pre.length : Int) kk = kk x := fun kk => by rw [hpr]; exact getI_app pre x r kk rfl
    have hx := hb x (by rw [hpr]; simp)
    have ih := L33_4_eq' o ho hb r (pre ++ [x]) k (by rw [hpr]; simp) (by omega)
    rw [len_app] at ih
    have hin := L33_10_eq' o ho (pre.length : Int) x hx x.2.2.2 [] (-1) k rfl (by omega) (.inl ⟨rfl, rfl⟩)
    have hin' : L33_10 k (((pre.length : Int), 0, ()), (o, x, ()), ()) = _ := hin
    simp only [L33_4, B33_4]
    simp only [dec_t hlt, cond_true, hget, g57_eq, derefK_some, hin', partsOK, partOK]
    cases h1 : rng x.1 1 1000000 with
    | false => simp
    | true =>
    cases h2 : rng x.2.1 1 100 with
    | false => simp
    | true =>
    cases h3 : rng x.2.2.1 0 9 with
    | false => simp
    | true =>
    cases h4 : needsOK o.1.length (pre.length : Int) (-1) x.2.2.2 with
    | false => simp [sumK_inl]
    | true =>
      simp only [Bool.not_true, cond_false, cond_true, sumK_inr, Bool.true_and]
      rw [w64 (x := (pre.length : Int) + 1) (by omega) (by omega)]
      exact ih

structure Counted (n : Nat) (done : List Int) (lies : List Int) : Prop where
  ll : lies.length = n
  cnt : ∀ i, i < n → lies[i]? = some ((done.count (i : Int) : Nat) : Int)

theorem Counted.step {n : Nat} {done lies : List Int} (h : Counted n done lies) {x : Int} (hx0 : 0 ≤ x) (_hx : x < n) : Counted n (done ++ [x]) (lies.set x.toNat ((done.count x : Nat) + 1)) where
  ll := by simp [h.ll]
  cnt := by
    intro i hi
    rw [List.getElem?_set, List.count_append, List.count_singleton]
    by_cases e : x.toNat = i
    · subst e
      rw [if_pos rfl, if_pos (by rw [h.ll]; exact hi), show ((x.toNat : Nat) : Int) = x by omega]
      simp
    · rw [if_neg e, h.cnt i hi]
      have : ¬ (x = (i : Int)) := by omega
      simp [this]

theorem L33_19_eq' (o : Kit) (ho : o.1.length ≤ 16) (v : Int) (van : List Int) (hv0 : 0 ≤ v) (hv : o.2.2[v.toNat]? = some van) (hl : van.length ≤ 1048576) : ∀ (r pre done lies : List Int) (N : Nat), van = pre ++ r → r.length < N → done.length + r.length ≤ 1048576 → Counted o.1.length done lies →
    (r.all (fun x => rng x 0 ((o.1.length : Int) - 1)) = false ∧ L33_19 N ((v, (pre.length : Int), ()), (o, lies, ()), ()) = some (.inl ((80, ()), (), ()))) ∨
    (r.all (fun x => rng x 0 ((o.1.length : Int) - 1)) = true ∧ ∃ lies', Counted o.1.length (done ++ r) lies' ∧ L33_19 N ((v, (pre.length : Int), ()), (o, lies, ()), ()) = some (.inr ((v, ()), (o, lies', ()), ())))
  | [], pre, done, lies, N, hpr, hN, hb, h => by
    obtain ⟨k, rfl⟩ := pos_of_lt hN
    refine .inr ⟨rfl, lies, by simpa using h, ?_⟩
    simp only [L33_19, B33_19, getI_some hv0 hv]
    rw [hpr]
    simp
  | x :: r, pre, done, lies, N, hpr, hN, hb, h => by
    obtain ⟨k, rfl⟩ := pos_of_lt hN
    simp only [List.length_cons] at hN hb
    have hlt : ((pre.length : Nat) : Int) < (van.length : Int) := by rw [hpr]; exact lt_app pre x r
    have hget : ∀ {R : Type} (kk : Int → Option R), getI van (pre.length : Int) kk = kk x := fun kk => by rw [hpr]; exact getI_app pre x r kk rfl
    simp only [L33_19, B33_19, getI_some hv0 hv]
    simp only [dec_t hlt, cond_true, hget, g57_eq, derefK_some, List.all_cons]
    rw [w64 (x := (o.1.length : Int) - 1) (by omega) (by omega), w64 (x := (pre.length : Int) + 1) (by omega) (by omega)]
    cases h1 : rng x 0 ((o.1.length : Int) - 1) with
    | false => exact .inl ⟨rfl, by simp⟩
    | true =>
    simp only [rng, Bool.and_eq_true, decide_eq_true_eq] at h1
    simp only [Bool.not_true, cond_false, Bool.true_and]
    have hc : done.count x ≤ done.length := List.count_le_length
    rw [inR_in h1.1 (by rw [h.ll]; omega), getI_some h1.1 (h.cnt x.toNat (by omega)), inR_in h1.1 (by rw [h.ll]; omega), getI_in h1.1 (by rw [h.ll]; omega),
      show ((x.toNat : Nat) : Int) = x by omega, w64 (by omega) (by omega)]
    have ih := L33_19_eq' o ho v van hv0 hv hl r (pre ++ [x]) (done ++ [x]) _ k (by rw [hpr]; simp) (by omega) (by simp; omega) (h.step h1.1 (by omega))
    rw [len_app, app_app] at ih
    exact ih

theorem L33_16_eq' (o : Kit) (ho : o.1.length ≤ 16) (hvl : o.2.2.length ≤ 1048576) (hl : ∀ v ∈ o.2.2, v.length ≤ 1048576) : ∀ (r pre : List (List Int)) (done lies : List Int) (N : Nat), o.2.2 = pre ++ r → r.length + 1048576 < N → done.length + r.flatten.length ≤ 1048576 → Counted o.1.length done lies →
    (r.flatten.all (fun x => rng x 0 ((o.1.length : Int) - 1)) = false ∧ L33_16 N (((pre.length : Int), ()), (o, lies, ()), ()) = some (.inl ((80, ()), (), ()))) ∨
    (r.flatten.all (fun x => rng x 0 ((o.1.length : Int) - 1)) = true ∧ ∃ lies', Counted o.1.length (done ++ r.flatten) lies' ∧ L33_16 N (((pre.length : Int), ()), (o, lies, ()), ()) = some (.inr ((), (lies', ()), ())))
  | [], pre, done, lies, N, hpr, hN, hb, h => by
    obtain ⟨k, rfl⟩ := pos_of_lt hN
    refine .inr ⟨rfl, lies, by simpa using h, ?_⟩
    simp only [L33_16, B33_16]
    rw [hpr]
    simp
  | x :: r, pre, done, lies, N, hpr, hN, hb, h => by
    obtain ⟨k, rfl⟩ := pos_of_lt hN
    simp only [List.length_cons, List.flatten_cons, List.length_append] at hN hb
    have hlt : ((pre.length : Nat) : Int) < (o.2.2.length : Int) := by rw [hpr]; exact lt_app pre x r
    have hx := hl x (by rw [hpr]; simp)
    have hin := L33_19_eq' o ho (pre.length : Int) x (by omega) (by rw [hpr]; simp) hx x [] done lies k rfl (by omega) (by omega) h
    simp only [L33_16, B33_16, dec_t hlt, cond_true, List.flatten_cons, List.all_append]
    rcases hin with ⟨hg, he⟩ | ⟨hg, lies', hs, he⟩
    · have he' : L33_19 k (((pre.length : Int), 0, ()), (o, lies, ()), ()) = _ := he
      rw [hg, he']
      exact .inl ⟨rfl, rfl⟩
    · have he' : L33_19 k (((pre.length : Int), 0, ()), (o, lies, ()), ()) = _ := he
      rw [hg, he', derefK_some, sumK_inr, Bool.true_and]
      dsimp only
      rw [w64 (x := (pre.length : Int) + 1) (by omega) (by omega)]
      have ih := L33_16_eq' o ho hvl hl r (pre ++ [x]) (done ++ x) lies' k (by rw [hpr]; simp) (by omega) (by simp only [List.length_append]; omega) hs
      rw [len_app, List.append_assoc] at ih
      exact ih

theorem L33_25_eq' (lies : List Int) (hl : lies.length ≤ 1048576) : ∀ (r pre : List Int) (N : Nat), lies = pre ++ r → r.length < N →
    L33_25 N (((pre.length : Int), ()), (lies, ()), ()) = some (cond (r.all (· == 1)) (.inr ((), (), ())) (.inl ((80, ()), (), ())))
  | [], pre, N, hpr, hN => by
    obtain ⟨k, rfl⟩ := pos_of_lt hN
    simp only [L33_25, B33_25]
    rw [hpr]
    simp
  | x :: r, pre, N, hpr, hN => by
    obtain ⟨k, rfl⟩ := pos_of_lt hN
    simp only [List.length_cons] at hN
    have hlt : ((pre.length : Nat) : Int) < (lies.length : Int) := by rw [hpr]; exact lt_app pre x r
    have hget : ∀ {R : Type} (kk : Int → Option R), getI lies (pre.length : Int) kk = kk x := fun kk => by rw [hpr]; exact getI_app pre x r kk rfl
    simp only [L33_25, B33_25, dec_t hlt, cond_true, hget, inR_in (show (0 : Int) ≤ (pre.length : Int) by omega) hlt, List.all_cons]
    rw [w64 (x := (pre.length : Int) + 1) (by omega) (by omega)]
    cases h : x == 1 with
    | false =>
      have : (x != 1) = true := by simp [bne, h]
      rw [this]; rfl
    | true =>
      have : (x != 1) = false := by simp [bne, h]
      rw [this, cond_false, Bool.true_and]
      have ih := L33_25_eq' lies hl r (pre ++ [x]) k (by rw [hpr]; simp) (by omega)
      rw [len_app] at ih
      exact ih

theorem g33_eq (k : Kit) (hk : Small k) : g33 (k, ()) = some ((cond (valid k) 0 80, ()), ()) := by
  have hF : g33 (k, ()) = F33 fuel k := rfl
  rw [hF]
  unfold F33 valid
  by_cases h1 : k.1.length ≤ 16
  case neg => rw [dec_t (by omega : (k.1.length : Int) > 16), dec_f h1]; rfl
  rw [dec_f (by omega : ¬ (k.1.length : Int) > 16), dec_t h1, cond_false]
  by_cases h2 : k.2.2.length ≤ 6
  case neg => rw [dec_t (by omega : (k.2.2.length : Int) > 6), dec_f h2]; rfl
  rw [dec_f (by omega : ¬ (k.2.2.length : Int) > 6), dec_t h2, cond_false, g57_eq, derefK_some]
  cases h3 : rng k.2.1 1 1000000 with
  | false => rfl
  | true =>
  simp only [Bool.not_true, cond_false, Bool.true_and]
  have hp := L33_4_eq' k h1 hk.needs k.1 [] fuel rfl (by have := fuel_big; omega)
  have hp' : L33_4 fuel ((0, ()), (k, ()), ()) = some (cond (partsOK (k.1.length : Int) 0 k.1) (.inr ((), (k, ()), ())) (.inl ((80, ()), (), ()))) := hp
  rw [hp', derefK_some]
  cases h4 : partsOK (k.1.length : Int) 0 k.1 with
  | false => rfl
  | true =>
  simp only [cond_true, sumK_inr, Bool.true_and, leK_in (show (0 : Int) ≤ (k.1.length : Int) by omega), leK_in (Int.le_refl (k.1.length : Int)), lenK_in (show (0 : Int) ≤ (k.1.length : Int) by omega) (by omega)]
  have h0 : Counted k.1.length [] (List.replicate (k.1.length : Int).toNat 0) := ⟨by simp, fun i hi => by simp [hi]⟩
  rcases L33_16_eq' k h1 hk.vans hk.van k.2.2 [] [] _ fuel rfl (by have := fuel_big; omega) (by simpa using hk.flat) h0 with ⟨h5, h6⟩ | ⟨h5, lies, hs, h6⟩
  · have h6' : L33_16 fuel ((0, ()), (k, (List.replicate (k.1.length : Int).toNat 0), ()), ()) = _ := h6
    rw [h6', derefK_some, sumK_inl]
    have : goodFrom k.1.length [] k.2.2.flatten = false := by
      cases hg : goodFrom k.1.length [] k.2.2.flatten with
      | false => rfl
      | true =>
        have hg' := ((goodFrom_iff _ _ _).1 hg).1
        have : k.2.2.flatten.all (fun x => rng x 0 ((k.1.length : Int) - 1)) = true := by
          rw [List.all_eq_true]
          intro x hx
          have := hg' x hx
          simp only [rng, Bool.and_eq_true, decide_eq_true_eq]
          omega
        rw [this] at h5
        cases h5
    rw [this]
    rfl
  · have h6' : L33_16 fuel ((0, ()), (k, (List.replicate (k.1.length : Int).toNat 0), ()), ()) = _ := h6
    rw [h6', derefK_some, sumK_inr]
    dsimp only
    have h7 := L33_25_eq' lies (by rw [hs.ll]; omega) lies [] fuel rfl (by rw [hs.ll]; have := fuel_big; omega)
    have h7' : L33_25 fuel ((0, ()), (lies, ()), ()) = some (cond (lies.all (· == 1)) (.inr ((), (), ())) (.inl ((80, ()), (), ()))) := h7
    rw [h7', derefK_some]
    have hr : ∀ x ∈ k.2.2.flatten, 0 ≤ x ∧ x < k.1.length := by
      intro x hx
      have := List.all_eq_true.1 h5 x hx
      simp only [rng, Bool.and_eq_true, decide_eq_true_eq] at this
      omega
    have e : lies.all (· == 1) = (goodFrom k.1.length [] k.2.2.flatten && decide (k.2.2.flatten.length = k.1.length)) := by
      rw [Bool.eq_iff_iff]
      have e1 : (lies.all (· == 1)) = true ↔ ∀ i, i < k.1.length → (k.2.2.flatten).count (i : Int) = 1 := by
        rw [List.all_eq_true]
        constructor
        · intro h i hi
          have hc := hs.cnt i hi
          have := h _ (List.mem_of_getElem? hc)
          have t : ((k.2.2.flatten.count (i : Int) : Nat) : Int) = 1 := by simpa using this
          omega
        · intro h x hx
          obtain ⟨i, hi, rfl⟩ := List.mem_iff_getElem.1 hx
          have hc := hs.cnt i (by rw [← hs.ll]; exact hi)
          rw [List.getElem?_eq_getElem hi] at hc
          rw [Option.some.inj hc, List.nil_append, h i (by rw [← hs.ll]; exact hi)]
          rfl
      rw [e1, counts_iff hr, Bool.and_eq_true, goodFrom_iff, decide_eq_true_eq]
      constructor
      · rintro ⟨h8, h9⟩; exact ⟨⟨hr, h8, by simp⟩, h9⟩
      · rintro ⟨⟨_, h8, _⟩, h9⟩; exact ⟨h8, h9⟩
    rw [e]
    cases goodFrom k.1.length [] k.2.2.flatten && decide (k.2.2.flatten.length = k.1.length) <;> rfl
end Go.Proofs.Try.V
