/- Plain laws of layer 10, twentieth part: InspectChanged. No condition beyond those typed in each theorem. -/
import Derived.Test.YtjkchkjdpcnmkaaLw19
namespace Go.Proofs.Try.V
open Go.Vi
set_option maxRecDepth 100000

/-! ## Seals tell changes -/
def inS (s : Int) : Prop := 0 ≤ s ∧ s < 1000003
def inF (n : Int) : Prop := 0 ≤ n ∧ n ≤ 4194304
theorem step_eq {s n : Int} (hs : inS s) (hn : inF n) : step31 s n = (s * 31 + n) % 1000003 := by
  unfold inS at hs
  unfold inF at hn
  unfold step31
  rw [wI (x := s * 31) (by omega) (by omega), wI (by omega) (by omega), Int.tmod_eq_emod_of_nonneg (by omega)]
theorem step_in {s n : Int} (hs : inS s) (hn : inF n) : inS (step31 s n) := by
  rw [step_eq hs hn]
  unfold inS
  omega
theorem step_s {s t n : Int} (hs : inS s) (ht : inS t) (hn : inF n) (h : s ≠ t) : step31 s n ≠ step31 t n := by
  rw [step_eq hs hn, step_eq ht hn]
  unfold inS at hs ht
  intro e
  have h2 : (s * 31 + n) - 1000003 * ((s * 31 + n) / 1000003) = (t * 31 + n) - 1000003 * ((t * 31 + n) / 1000003) := by omega
  generalize (s * 31 + n) / 1000003 = a at h2
  generalize (t * 31 + n) / 1000003 = b at h2
  have h3 : s - t = 1000003 * (193549 * (a - b) - 6 * (s - t)) := by omega
  generalize 193549 * (a - b) - 6 * (s - t) = q at h3
  omega
theorem step_n {s n : Int} (hs : inS s) (hn : inF n) (hn' : inF (n + 1)) : step31 s n ≠ step31 s (n + 1) := by
  rw [step_eq hs hn, step_eq hs hn']
  omega
theorem fold_in : ∀ (r : List Int) {s : Int}, inS s → (∀ n ∈ r, inF n) → inS (r.foldl step31 s)
  | [], _, hs, _ => hs
  | n :: r, _, hs, h => fold_in r (step_in hs (h n List.mem_cons_self)) fun k hk => h k (List.mem_cons_of_mem _ hk)
theorem fold_ne : ∀ (r : List Int) {s t : Int}, inS s → inS t → s ≠ t → (∀ n ∈ r, inF n) → r.foldl step31 s ≠ r.foldl step31 t
  | [], _, _, _, _, hne, _ => hne
  | n :: r, _, _, hs, ht, hne, h => fold_ne r (step_in hs (h n List.mem_cons_self)) (step_in ht (h n List.mem_cons_self)) (step_s hs ht (h n List.mem_cons_self) hne) fun k hk => h k (List.mem_cons_of_mem _ hk)
theorem seal_ne {s : Int} (hs : inS s) (pre : List Int) (n : Int) (post : List Int) (h : ∀ k ∈ pre ++ n :: post, inF k) (h1 : inF (n + 1)) : (pre ++ n :: post).foldl step31 s ≠ (pre ++ (n + 1) :: post).foldl step31 s := by
  rw [List.foldl_append, List.foldl_append, List.foldl_cons, List.foldl_cons]
  have hp := fold_in pre hs fun k hk => h k (List.mem_append_left _ hk)
  have hn := h n (List.mem_append_right _ List.mem_cons_self)
  exact fold_ne post (step_in hp hn) (step_in hp h1) (step_n hp hn h1) fun k hk => h k (List.mem_append_right _ (List.mem_cons_of_mem _ hk))

/-! ## Right entries have small fields -/
def small (x : Ent) : Prop := (0 ≤ x.1 ∧ x.1 ≤ 10000) ∧ (1 ≤ x.2.1 ∧ x.2.1 ≤ 6) ∧ (0 ≤ x.2.2.1 ∧ x.2.2.1 ≤ 1048576) ∧ (0 ≤ x.2.2.2.1 ∧ x.2.2.2.1 ≤ 1048576) ∧ (-1 ≤ x.2.2.2.2 ∧ x.2.2.2.2 ≤ 1048576)
theorem may_in {b : Book} {rule n : Int} (h : mayB b rule n = true) : 0 ≤ n ∧ n ≤ (b.2.1.length : Int) - 1 := by
  unfold mayB at h
  rw [Bool.and_eq_true] at h
  exact rng_iff.1 h.1
theorem kind_small {b : Book} {l : List Ent} {x : Ent} (hb : Sized b) (hp : b.2.1.length ≤ 1048576) (hl : l.length ≤ 1048576) (hd : 0 ≤ x.1 ∧ x.1 ≤ 10000) (h : kindB b l x = true) : small x := by
  obtain ⟨d, k, a, p, c⟩ := x
  have h1 := hb.rules
  have h2 := hb.rides
  unfold kindB at h
  dsimp only at h hd
  unfold small
  dsimp only
  by_cases k1 : k = 1
  · subst k1
    rw [if_pos (by decide), Bool.and_eq_true] at h
    have ha := rng_iff.1 h.1
    have hs := h.2
    unfold signsB at hs
    split at hs
    · simp only [Bool.and_eq_true] at hs
      have := may_in hs.1.1
      have := may_in hs.1.2
      omega
    · rw [Bool.and_eq_true, beq_iff_eq] at hs
      have := may_in hs.1
      omega
  by_cases k2 : k = 2
  · subst k2
    rw [if_neg (by decide), if_pos (by decide)] at h
    simp only [Bool.and_eq_true, beq_iff_eq] at h
    have h3 := rng_iff.1 h.1.1
    have h4 := rng_iff.1 h.1.2
    have h5 := h.2
    omega
  by_cases k3 : k = 3
  · subst k3
    rw [if_neg (by decide), if_neg (by decide), if_pos (by decide)] at h
    simp only [Bool.and_eq_true, beq_iff_eq] at h
    have h3 := h.1.1
    unfold openB at h3
    simp only [Bool.and_eq_true] at h3
    have h3 := rng_iff.1 h3.1.1
    have h4 := rng_iff.1 h.1.2
    have h5 := h.2
    omega
  by_cases k4 : k = 4
  · subst k4
    rw [if_neg (by decide), if_neg (by decide), if_neg (by decide), if_pos (by decide)] at h
    simp only [Bool.and_eq_true, beq_iff_eq] at h
    have h3 := rng_iff.1 h.1.1
    have h4 := rng_iff.1 h.1.2
    have h5 := h.2
    omega
  by_cases k5 : k = 5
  · subst k5
    rw [if_neg (by decide), if_neg (by decide), if_neg (by decide), if_neg (by decide), if_pos (by decide)] at h
    simp only [Bool.and_eq_true, beq_iff_eq] at h
    have h3 := rng_iff.1 h.1.1
    have h4 := rng_iff.1 h.1.2
    have h5 := h.2
    omega
  by_cases k6 : k = 6
  · subst k6
    rw [if_neg (by decide), if_neg (by decide), if_neg (by decide), if_neg (by decide), if_neg (by decide), if_pos (by decide)] at h
    simp only [Bool.and_eq_true, beq_iff_eq] at h
    have h3 := rng_iff.1 h.1.1
    have h4 := h.1.2
    have h5 := h.2
    omega
  · rw [if_neg (by simpa using k1), if_neg (by simpa using k2), if_neg (by simpa using k3), if_neg (by simpa using k4), if_neg (by simpa using k5), if_neg (by simpa using k6)] at h
    cases h
theorem Good.small {b : Book} {l : List Ent} (h : Good b l) {i : Nat} (hi : i < l.length) : small (gd l (i : Int)) := by
  have h1 := h.right i hi
  unfold rightB at h1
  rw [Bool.and_eq_true] at h1
  have hs := sized_of h.book
  refine kind_small hs ?_ ?_ (h.fit.day0 i hi) h1.2
  · exact hs.ranks
  · have := h.len
    rw [List.length_take]
    omega
theorem fields_in {x : Ent} (h : small x) : ∀ n ∈ fieldsL x, inF n := by
  unfold small at h
  intro n hn
  unfold fieldsL at hn
  rw [wI (by omega) (by omega), wI (by omega) (by omega), wI (by omega) (by omega)] at hn
  simp only [List.mem_cons, List.not_mem_nil, or_false] at hn
  unfold inF
  omega
theorem sealS_in {b : Book} {l : List Ent} (h : Good b l) : ∀ i, i ≤ l.length → inS (sealS l i)
  | 0, _ => by show inS 7; unfold inS; omega
  | i + 1, hi => by
    rw [sealS_succ (by omega)]
    exact fold_in _ (sealS_in h i (by omega)) (fields_in (h.small (by omega)))

/-! ## The first seal that differs -/
theorem idx_none {n : Nat} {q : Nat → Bool} (h : ∀ i, i < n → q i = false) : idxI (List.range n) q = -1 := by
  have : (List.range n).findIdx? q = none := List.findIdx?_eq_none_iff.2 fun x hx => h x (List.mem_range.1 hx)
  unfold idxI
  rw [this]
theorem idx_first {n k : Nat} {q : Nat → Bool} (hk : k < n) (hq : q k = true) (h : ∀ i, i < k → q i = false) : idxI (List.range n) q = (k : Int) := by
  have : (List.range n).findIdx? q = some k := by
    rw [List.findIdx?_eq_some_iff_getElem]
    refine ⟨by simpa using hk, by simpa using hq, fun j hj => ?_⟩
    have := h j hj
    simpa using this
  unfold idxI
  rw [this]
theorem gd_seals (l : List Ent) {n i : Nat} (h : i < n) : gd (sealsN l n) (i : Int) = sealS l (i + 1) := gd_of (by simp [sealsN, h])
theorem dif_same (a : List Int) : difR a a = -1 := by
  unfold difR
  refine idx_none fun i hi => ?_
  rw [difB_3 (by omega) (by omega), bne_self_eq_false]
theorem seals_take (l : List Ent) (n m : Nat) (h : m ≤ n) : (sealsN l n).take m = sealsN l m := by
  unfold sealsN
  rw [← List.map_take, List.take_range, Nat.min_eq_left h]
theorem dif_short (l : List Ent) (m : Nat) : difR (sealsN l (m + 1)) (sealsN l m) = (m : Int) := by
  unfold difR
  rw [sealsN_len, sealsN_len]
  refine idx_first (by omega) (difB_2 (by rw [sealsN_len]; omega) (by rw [sealsN_len]; omega)) fun i hi => ?_
  rw [difB_3 (by rw [sealsN_len]; omega) (by rw [sealsN_len]; omega), gd_seals _ (by omega), gd_seals _ hi, bne_self_eq_false]
theorem seal_set (l : List Ent) (x : Ent) {m i : Nat} (h : i ≤ m) : sealS (l.set m x) i = sealS l i := by
  unfold sealS
  rw [List.take_set_of_le h]
theorem seals_set (l : List Ent) (x : Ent) (m : Nat) : sealsN (l.set m x) m = sealsN l m := by
  unfold sealsN
  exact List.map_congr_left fun i hi => seal_set l x (by have := List.mem_range.1 hi; omega)
theorem dif_last {l : List Ent} {x : Ent} {m : Nat} (h : sealS (l.set m x) (m + 1) ≠ sealS l (m + 1)) : difR (sealsN (l.set m x) (m + 1)) (sealsN l (m + 1)) = (m : Int) := by
  unfold difR
  rw [sealsN_len, sealsN_len]
  refine idx_first (by omega) ?_ fun i hi => ?_
  · rw [difB_3 (by rw [sealsN_len]; omega) (by rw [sealsN_len]; omega), gd_seals _ (by omega), gd_seals _ (by omega)]
    exact bne_iff_ne.2 h
  · rw [difB_3 (by rw [sealsN_len]; omega) (by rw [sealsN_len]; omega), gd_seals _ (by omega), gd_seals _ (by omega), seal_set l x (by omega), bne_self_eq_false]

/-! ## The law -/
noncomputable def T15 (b : Book) (l z : List Ent) (m : Nat) : Option ((Bool × Unit) × Unit) :=
  derefK (g39 (b, z, ())) fun y11 => cond (y11.1.2.1 != 0) (derefK (g17 ()) fun y12 => some ((y12.1.1, ()), ())) (derefK (g41 (b, z, sealsN l (m + 1), ())) fun y13 => cond (y13.1.2.1 == 0) (cond (y13.1.1 == (m : Int)) (cond ((y11.1.1.length : Int) == ((m + 1 : Nat) : Int)) (leK 0 (IntKind.wrap .i64 ((y11.1.1.length : Int) - 1)) (leK (IntKind.wrap .i64 ((y11.1.1.length : Int) - 1)) (y11.1.1.length : Int) (leK 0 (m : Int) (leK (m : Int) ((m + 1 : Nat) : Int) (derefK (g24 ((y11.1.1.take (IntKind.wrap .i64 ((y11.1.1.length : Int) - 1)).toNat), sealsN l m, ())) fun y14 => cond y14.1.1 (getI y11.1.1 (IntKind.wrap .i64 ((y11.1.1.length : Int) - 1)) fun e15 => getI (sealsN l (m + 1)) (m : Int) fun e16 => cond (e15 != e16) (derefK (g17 ()) fun y17 => some ((y17.1.1, ()), ())) (some ((false, ()), ()))) (some ((false, ()), ()))))))) (some ((false, ()), ()))) (some ((false, ()), ()))) (some ((false, ()), ())))
theorem T15_eq {b : Book} {l : List Ent} (hg : Good b l) {m : Nat} (hm : l.length = m + 1) (x : Ent) (hne : small (gd l (m : Int)) → small x → sealF (sealS l m) x ≠ sealF (sealS l m) (gd l (m : Int))) :
    T15 b l (l.set m x) m = some ((true, ()), ()) := by
  have hlen := hg.len
  have hzl : (l.set m x).length = m + 1 := by rw [List.length_set, hm]
  have hsl := sealsN_len l (m + 1)
  unfold T15
  rw [g39_eq, derefK_some, works_eq]
  by_cases hc : (checkR b (l.set m x)).2 = 0
  case neg =>
    show cond ((checkR b (l.set m x)).2 != 0) _ _ = _
    rw [neq_t hc]
    rfl
  have hz := good_of hc
  have hx : gd (l.set m x) (m : Int) = x := gd_of (by rw [List.getElem?_set_self (by omega)])
  have h1 := hg.small (i := m) (by omega)
  have h2 := hz.small (i := m) (by omega)
  rw [hx] at h2
  have hd : sealS (l.set m x) (m + 1) ≠ sealS l (m + 1) := by
    rw [sealS_succ (by omega), sealS_succ (by omega), hx, seal_set l x (Nat.le_refl _)]
    exact hne h1 h2
  have hcl := sealsN_len (l.set m x) (m + 1)
  rw [g41_eq b _ _ (by omega), hc, hzl, dif_last hd]
  simp only [derefK_some, if_true]
  have hcm := sealsN_len l m
  rw [hcl, wI (x := ((m + 1 : Nat) : Int) - 1) (by omega) (by omega), show ((m + 1 : Nat) : Int) - 1 = (m : Int) by omega, Int.toNat_natCast, seals_take _ _ _ (by omega), seals_set, g24_eq _ (by omega), getI_gd (by omega) (by omega), getI_gd (by omega) (by omega), gd_seals _ (by omega), gd_seals _ (by omega), leK_in (by omega), leK_in (by omega), leK_in (by omega), leK_in (by omega), bne_iff_ne.2 hd]
  have e1 : ((m : Int) == (m : Int)) = true := by simp
  have e2 : (((m + 1 : Nat) : Int) == ((m + 1 : Nat) : Int)) = true := by simp
  rw [e1, e2]
  rfl
theorem ne_at {l : List Ent} {b : Book} (hg : Good b l) {m : Nat} (hm : m ≤ l.length) {x y : Ent} (pre : List Int) (n : Int) (post : List Int) (hx : fieldsL x = pre ++ n :: post) (hy : small x → fieldsL y = pre ++ (n + 1) :: post) : small x → small y → sealF (sealS l m) y ≠ sealF (sealS l m) x := by
  intro h1 h2
  unfold sealF
  have h3 := fields_in h1
  have h4 := fields_in h2
  rw [hy h1] at h4 ⊢
  rw [hx] at h3 ⊢
  exact Ne.symm (seal_ne (sealS_in hg m hm) pre n post h3 (h4 _ (List.mem_append_right _ List.mem_cons_self)))
theorem law15 (b : Book) (l : List Ent) (field : Int) (hl : l.length ≤ 1048576) : g15 (b, l, field, ()) = some ((true, ()), ()) := by
  show F15 fuel b l field = _
  unfold F15
  rw [g16_eq, derefK_some]
  cases decide (30 < l.length ∧ l.length ≤ 100) with
  | true => rw [works_eq]; rfl
  | false =>
  by_cases hn : l.length = 0
  · rw [hn, works_eq]
    rfl
  obtain ⟨m, hm⟩ : ∃ m, l.length = m + 1 := ⟨l.length - 1, by omega⟩
  have hn' : ((l.length : Int) == 0) = false := beq_eq_false_iff_ne.2 (by omega)
  rw [cond_false, hn', cond_false, g39_eq, derefK_some]
  by_cases hc : (checkR b l).2 = 0
  case neg =>
    show cond ((checkR b l).2 != 0) _ _ = _
    rw [neq_t hc, works_eq]
    rfl
  have hg := good_of hc
  have hsl := sealsN_len l (m + 1)
  have hwm : IntKind.wrap .i64 ((l.length : Int) - 1) = (m : Int) := by
    rw [hm, wI (by omega) (by omega)]
    omega
  rw [hwm, hc, if_pos rfl, hm]
  dsimp only
  rw [g41_eq b l _ (by omega), derefK_some, hc, if_pos rfl, hm, dif_same, hsl]
  dsimp only
  rw [wI (x := ((m + 1 : Nat) : Int) - 1) (by omega) (by omega), show ((m + 1 : Nat) : Int) - 1 = (m : Int) by omega, Int.toNat_natCast, seals_take _ _ _ (by omega), g41_eq b l _ (by rw [sealsN_len]; omega), derefK_some, hc, if_pos rfl, hm, dif_short, leK_in (by omega), leK_in (by omega), lenK_in (by omega) (by omega), inR_in (by omega) (by omega)]
  have g1 : ∀ {R : Type} (k : Ent → Option R), getI l (m : Int) k = k (gd l (m : Int)) := fun k => getI_gd (by omega) (by omega) k
  simp only [g1]
  simp only [bne_self_eq_false, cond_false]
  cases h0 : field == 0 with
  | true =>
    exact T15_eq hg hm (IntKind.wrap .i64 ((gd l (m : Int)).1 + 1), (gd l (m : Int)).2) (ne_at hg (by omega) [] (gd l (m : Int)).1 [(gd l (m : Int)).2.1, IntKind.wrap .i64 ((gd l (m : Int)).2.2.1 + 1), IntKind.wrap .i64 ((gd l (m : Int)).2.2.2.1 + 1), IntKind.wrap .i64 ((gd l (m : Int)).2.2.2.2 + 1)] rfl (fun h => by
      unfold small at h
      unfold fieldsL
      dsimp only
      rw [wI (x := (gd l (m : Int)).1 + 1) (by omega) (by omega)]
      rfl))
  | false =>
  rw [cond_false]
  cases h1 : field == 1 with
  | true =>
    exact T15_eq hg hm ((gd l (m : Int)).1, (IntKind.wrap .i64 ((gd l (m : Int)).2.1 + 1), (gd l (m : Int)).2.2)) (ne_at hg (by omega) [(gd l (m : Int)).1] (gd l (m : Int)).2.1 [IntKind.wrap .i64 ((gd l (m : Int)).2.2.1 + 1), IntKind.wrap .i64 ((gd l (m : Int)).2.2.2.1 + 1), IntKind.wrap .i64 ((gd l (m : Int)).2.2.2.2 + 1)] rfl (fun h => by
      unfold small at h
      unfold fieldsL
      dsimp only
      rw [wI (x := (gd l (m : Int)).2.1 + 1) (by omega) (by omega)]
      rfl))
  | false =>
  rw [cond_false]
  cases h2 : field == 2 with
  | true =>
    exact T15_eq hg hm ((gd l (m : Int)).1, ((gd l (m : Int)).2.1, (IntKind.wrap .i64 ((gd l (m : Int)).2.2.1 + 1), (gd l (m : Int)).2.2.2))) (ne_at hg (by omega) [(gd l (m : Int)).1, (gd l (m : Int)).2.1] (IntKind.wrap .i64 ((gd l (m : Int)).2.2.1 + 1)) [IntKind.wrap .i64 ((gd l (m : Int)).2.2.2.1 + 1), IntKind.wrap .i64 ((gd l (m : Int)).2.2.2.2 + 1)] rfl (fun h => by
      unfold small at h
      unfold fieldsL
      dsimp only
      rw [wI (x := (gd l (m : Int)).2.2.1 + 1) (by omega) (by omega), wI (x := (gd l (m : Int)).2.2.1 + 1 + 1) (by omega) (by omega)]
      rfl))
  | false =>
  rw [cond_false]
  cases h3 : field == 3 with
  | true =>
    exact T15_eq hg hm ((gd l (m : Int)).1, ((gd l (m : Int)).2.1, ((gd l (m : Int)).2.2.1, (IntKind.wrap .i64 ((gd l (m : Int)).2.2.2.1 + 1), (gd l (m : Int)).2.2.2.2)))) (ne_at hg (by omega) [(gd l (m : Int)).1, (gd l (m : Int)).2.1, IntKind.wrap .i64 ((gd l (m : Int)).2.2.1 + 1)] (IntKind.wrap .i64 ((gd l (m : Int)).2.2.2.1 + 1)) [IntKind.wrap .i64 ((gd l (m : Int)).2.2.2.2 + 1)] rfl (fun h => by
      unfold small at h
      unfold fieldsL
      dsimp only
      rw [wI (x := (gd l (m : Int)).2.2.2.1 + 1) (by omega) (by omega), wI (x := (gd l (m : Int)).2.2.2.1 + 1 + 1) (by omega) (by omega)]
      rfl))
  | false =>
  rw [cond_false]
  cases h4 : field == 4 with
  | true =>
    exact T15_eq hg hm ((gd l (m : Int)).1, ((gd l (m : Int)).2.1, ((gd l (m : Int)).2.2.1, ((gd l (m : Int)).2.2.2.1, IntKind.wrap .i64 ((gd l (m : Int)).2.2.2.2 + 1))))) (ne_at hg (by omega) [(gd l (m : Int)).1, (gd l (m : Int)).2.1, IntKind.wrap .i64 ((gd l (m : Int)).2.2.1 + 1), IntKind.wrap .i64 ((gd l (m : Int)).2.2.2.1 + 1)] (IntKind.wrap .i64 ((gd l (m : Int)).2.2.2.2 + 1)) [] rfl (fun h => by
      unfold small at h
      unfold fieldsL
      dsimp only
      rw [wI (x := (gd l (m : Int)).2.2.2.2 + 1) (by omega) (by omega), wI (x := (gd l (m : Int)).2.2.2.2 + 1 + 1) (by omega) (by omega)]
      rfl))
  | false =>
  rw [cond_false]
  rw [works_eq]
  rfl
end Go.Proofs.Try.V
