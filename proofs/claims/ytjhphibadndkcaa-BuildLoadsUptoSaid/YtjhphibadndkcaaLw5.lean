/- Plain laws of layer 8, fifth part: what can be put up, by the program and by the document. No condition beyond those typed in each theorem. -/
import Derived.Test.YtjhphibadndkcaaLw4
namespace Go.Proofs.Try.V
open Go.Vi
set_option maxRecDepth 100000

def has (s : List Bool) (p : Int) : Bool := s.getD p.toNat false
theorem getI_has {R : Type} {s : List Bool} {p : Int} (h0 : 0 ≤ p) (h : p < s.length) (k : Bool → Option R) : getI s p k = k (has s p) := by
  rw [getI_in h0 h]
  unfold has
  rw [List.getD_eq_getElem?_getD, List.getElem?_eq_getElem (by omega)]
  rfl

/-! ## Lists with a test -/
theorem L89_2_eq' (s : List Int) (hs : s.length ≤ 1048576) (f : Int → Option Bool) (b : Int → Bool) (hf : ∀ x ∈ s, f x = some (b x)) : ∀ (r pre : List Int) (N : Nat), s = pre ++ r → r.length < N →
    ∃ i : Int, 0 ≤ i ∧ L89_2 N ((s, f, (s.length : Int), (pre.length : Int), ()), (), ()) = some (cond (r.any b) (.inl ((i, ()), (), ())) (.inr ((), (), ())))
  | [], pre, N, hpr, hN => by
    obtain ⟨k, rfl⟩ := pos_of_lt hN
    refine ⟨0, Int.le_refl _, ?_⟩
    simp only [L89_2, B89_2]
    rw [hpr]
    simp
  | x :: r, pre, N, hpr, hN => by
    obtain ⟨k, rfl⟩ := pos_of_lt hN
    simp only [List.length_cons] at hN
    have hlt : ((pre.length : Nat) : Int) < (s.length : Int) := by rw [hpr]; exact lt_app pre x r
    have hget : ∀ {R : Type} (kk : Int → Option R), getI s (pre.length : Int) kk = kk x := fun kk => by rw [hpr]; exact getI_app pre x r kk rfl
    obtain ⟨i, hi, ih⟩ := L89_2_eq' s hs f b hf r (pre ++ [x]) k (by rw [hpr]; simp) (by omega)
    rw [len_app] at ih
    simp only [L89_2, B89_2]
    rw [dec_t hlt, cond_true, hget, hf x (by rw [hpr]; simp), derefK_some, w64 (by omega) (by omega), List.any_cons]
    cases b x with
    | true => exact ⟨pre.length, by omega, rfl⟩
    | false => exact ⟨i, hi, by rw [cond_false, Bool.false_or]; exact ih⟩

theorem g63_eq {s : List Int} (hs : s.length ≤ 1048576) {f : Int → Option Bool} {b : Int → Bool} (hf : ∀ x ∈ s, f x = some (b x)) : g63 (s, f, ()) = some ((s.any b, ()), ()) := by
  have hF : g63 (s, f, ()) = derefK (g89 (s, f, ())) fun y1 => some (((decide (y1.1.1 ≥ 0)), ()), ()) := rfl
  have hG : g89 (s, f, ()) = F89 fuel s f := rfl
  obtain ⟨i, hi, h⟩ := L89_2_eq' s hs f b hf s [] fuel rfl (by have := fuel_big; omega)
  have h' : L89_2 fuel ((s, f, (s.length : Int), 0, ()), (), ()) = _ := h
  rw [hF, hG]
  unfold F89
  rw [h', derefK_some]
  cases s.any b with
  | true => simp only [cond_true, sumK_inl, derefK_some]; rw [dec_t hi]
  | false => rfl

theorem g69_eq {s : List Bool} {l : List Int} (hl : l.length ≤ 1048576) (hr : ∀ x ∈ l, 0 ≤ x ∧ x < s.length) : g69 (s, l, ()) = some ((l.all (has s), ()), ()) := by
  have hF : g69 (s, l, ()) = F69 fuel s l := rfl
  rw [hF]
  unfold F69
  rw [g63_eq hl (b := fun x => !has s x) (fun x hx => ?_), derefK_some]
  · have : (!l.any fun x => !has s x) = l.all (has s) := by rw [← List.not_all_eq_any_not, Bool.not_not]
    simp only [this]
  · have hG : g90 (x, s, ()) = F90 fuel x s := rfl
    rw [hG]
    unfold F90
    rw [getI_has (hr x hx).1 (hr x hx).2]
    rfl

/-! ## Above -/
def aboveGo (high low : Int) : Bool → List Int → Bool
  | _, [] => false
  | seen, x :: r => (seen && x == high) || aboveGo high low (seen || x == low) r
theorem aboveGo_true (high low : Int) : ∀ r : List Int, aboveGo high low true r = decide (high ∈ r)
  | [] => rfl
  | x :: r => by
    simp only [aboveGo, Bool.true_and, Bool.true_or, aboveGo_true high low r]
    rw [Bool.eq_iff_iff]
    simp only [Bool.or_eq_true, beq_iff_eq, decide_eq_true_eq, List.mem_cons]
    constructor
    · rintro (h | h); exact .inl h.symm; exact .inr h
    · rintro (h | h); exact .inl h.symm; exact .inr h
theorem aboveGo_none (high low : Int) : ∀ (r : List Int), low ∉ r → aboveGo high low false r = false
  | [], _ => rfl
  | x :: r, h => by
    simp only [List.mem_cons, not_or] at h
    simp only [aboveGo, Bool.false_and, Bool.false_or]
    rw [show (x == low) = false by simp; exact fun e => h.1 e.symm]
    exact aboveGo_none high low r h.2
theorem aboveGo_at (high low : Int) (r : List Int) : ∀ (pre : List Int), low ∉ pre → aboveGo high low false (pre ++ low :: r) = decide (high ∈ r)
  | [], _ => by
    simp only [List.nil_append, aboveGo, Bool.false_and, Bool.false_or, beq_self_eq_true]
    exact aboveGo_true high low r
  | x :: pre, h => by
    simp only [List.mem_cons, not_or] at h
    simp only [List.cons_append, aboveGo, Bool.false_and, Bool.false_or]
    rw [show (x == low) = false by simp; exact fun e => h.1 e.symm]
    exact aboveGo_at high low r pre h.2
def aboveB (vans : List (List Int)) (high low : Int) : Bool := vans.any fun v => aboveGo high low false v

theorem L87_6_eq' (o : Kit) (high low v : Int) (van : List Int) (hv0 : 0 ≤ v) (hv : o.2.2[v.toNat]? = some van) (hl : van.length ≤ 1048576) : ∀ (r pre : List Int) (seen : Bool) (N : Nat), van = pre ++ r → r.length < N →
    L87_6 N ((high, low, v, seen, (pre.length : Int), ()), (o, ()), ()) = some (cond (aboveGo high low seen r) (.inl ((true, ()), (), ())) (.inr ((high, low, v, ()), (o, ()), ())))
  | [], pre, seen, N, hpr, hN => by
    obtain ⟨k, rfl⟩ := pos_of_lt hN
    simp only [L87_6, B87_6, getI_some hv0 hv]
    rw [hpr]
    simp [aboveGo]
  | x :: r, pre, seen, N, hpr, hN => by
    obtain ⟨k, rfl⟩ := pos_of_lt hN
    simp only [List.length_cons] at hN
    have hlt : ((pre.length : Nat) : Int) < (van.length : Int) := by rw [hpr]; exact lt_app pre x r
    have hget : ∀ {R : Type} (kk : Int → Option R), getI van (pre.length : Int) kk = kk x := fun kk => by rw [hpr]; exact getI_app pre x r kk rfl
    have ih : ∀ sn, _ := fun sn => L87_6_eq' o high low v van hv0 hv hl r (pre ++ [x]) sn k (by rw [hpr]; simp) (by omega)
    simp only [len_app] at ih
    simp only [L87_6, B87_6, getI_some hv0 hv]
    simp only [dec_t hlt, cond_true, hget, w64 (x := (pre.length : Int) + 1) (by omega) (by omega), aboveGo]
    cases seen with
    | true =>
      simp only [cond_true, Bool.true_and, Bool.true_or]
      cases hx : x == high with
      | true => rfl
      | false => simp only [cond_false, Bool.false_or]; exact ih true
    | false =>
      simp only [cond_false, Bool.false_and, Bool.false_or]
      exact ih (x == low)

theorem L87_2_eq' (o : Kit) (high low : Int) (hvl : o.2.2.length ≤ 1048576) (hl : ∀ v ∈ o.2.2, v.length ≤ 1048576) : ∀ (r pre : List (List Int)) (N : Nat), o.2.2 = pre ++ r → r.length + 1048576 < N →
    L87_2 N ((high, low, (pre.length : Int), ()), (o, ()), ()) = some (cond (aboveB r high low) (.inl ((true, ()), (), ())) (.inr ((), (), ())))
  | [], pre, N, hpr, hN => by
    obtain ⟨k, rfl⟩ := pos_of_lt hN
    simp only [L87_2, B87_2]
    rw [hpr]
    simp [aboveB]
  | x :: r, pre, N, hpr, hN => by
    obtain ⟨k, rfl⟩ := pos_of_lt hN
    simp only [List.length_cons] at hN
    have hlt : ((pre.length : Nat) : Int) < (o.2.2.length : Int) := by rw [hpr]; exact lt_app pre x r
    have hx := hl x (by rw [hpr]; simp)
    have ih := L87_2_eq' o high low hvl hl r (pre ++ [x]) k (by rw [hpr]; simp) (by omega)
    rw [len_app] at ih
    have hin := L87_6_eq' o high low (pre.length : Int) x (by omega) (by rw [hpr]; simp) hx x [] false k rfl (by omega)
    have hin' : L87_6 k ((high, low, (pre.length : Int), false, 0, ()), (o, ()), ()) = _ := hin
    simp only [L87_2, B87_2]
    rw [dec_t hlt, cond_true, hin', derefK_some]
    unfold aboveB at ih ⊢
    rw [List.any_cons]
    cases aboveGo high low false x with
    | true => rfl
    | false =>
      simp only [cond_false, sumK_inr, Bool.false_or]
      rw [w64 (x := (pre.length : Int) + 1) (by omega) (by omega)]
      exact ih

theorem g87_eq (k : Kit) (hk : Small k) (high low : Int) : g87 (k, high, low, ()) = some ((aboveB k.2.2 high low, ()), ()) := by
  have hF : g87 (k, high, low, ()) = F87 fuel k high low := rfl
  rw [hF]
  unfold F87
  have h := L87_2_eq' k high low hk.vans hk.van k.2.2 [] fuel rfl (by have := fuel_big; have := hk.vans; omega)
  have h' : L87_2 fuel ((high, low, 0, ()), (k, ()), ()) = _ := h
  rw [h', derefK_some]
  cases aboveB k.2.2 high low <;> rfl

/-! ## What a valid kit gives -/
structure Fine (k : Kit) : Prop where
  parts : k.1.length ≤ 16
  each : ∀ (i : Nat) p, k.1[i]? = some p → rng p.1 1 1000000 = true ∧ rng p.2.1 1 100 = true ∧ rng p.2.2.1 0 9 = true ∧ needsOK k.1.length i (-1) p.2.2.2 = true
  crane : rng k.2.1 1 1000000 = true
  flat : ∀ x ∈ k.2.2.flatten, 0 ≤ x ∧ x < k.1.length
  nodup : k.2.2.flatten.Nodup
  all : ∀ i, i < k.1.length → (i : Int) ∈ k.2.2.flatten

theorem partsOK_each {n : Int} : ∀ {l : List Part} {j : Int}, partsOK n j l = true → ∀ (i : Nat) p, l[i]? = some p → rng p.1 1 1000000 = true ∧ rng p.2.1 1 100 = true ∧ rng p.2.2.1 0 9 = true ∧ needsOK n (j + i) (-1) p.2.2.2 = true
  | [], _, _, i, p, h => by simp at h
  | q :: l, j, hq, i, p, h => by
    simp only [partsOK, partOK, Bool.and_eq_true] at hq
    obtain ⟨⟨⟨⟨h1, h2⟩, h3⟩, h4⟩, h5⟩ := hq
    cases i with
    | zero => simp at h; subst h; exact ⟨h1, h2, h3, by simpa using h4⟩
    | succ i =>
      simp at h
      have := partsOK_each h5 i p h
      rw [show j + ((i + 1 : Nat) : Int) = j + 1 + (i : Int) by omega]
      exact this

theorem fine_of (k : Kit) (h : valid k = true) : Fine k := by
  unfold valid at h
  simp only [Bool.and_eq_true, decide_eq_true_eq] at h
  obtain ⟨⟨⟨⟨⟨h1, h2⟩, h3⟩, h4⟩, h5⟩, h6⟩ := h
  obtain ⟨h7, h8, _⟩ := (goodFrom_iff _ _ _).1 h5
  refine ⟨h1, fun i p hp => by simpa using partsOK_each h4 i p hp, h3, h7, h8, fun i hi => ?_⟩
  have := (counts_iff h7).2 ⟨h8, h6⟩ i hi
  exact List.count_pos_iff.1 (by omega)

theorem needsOK_in {n i : Int} : ∀ {l : List Int} {last : Int}, -1 ≤ last → needsOK n i last l = true → ∀ x ∈ l, 0 ≤ x ∧ x < n ∧ x ≠ i
  | [], _, _, _, x, hx => by cases hx
  | y :: l, last, hl, h, x, hx => by
    simp only [needsOK, Bool.and_eq_true, decide_eq_true_eq, Bool.not_eq_true', beq_eq_false_iff_ne, ne_eq] at h
    obtain ⟨⟨⟨h1, h2⟩, h3⟩, h4⟩ := h
    rcases List.mem_cons.1 hx with rfl | hx
    · exact ⟨by omega, h2, h3⟩
    · exact needsOK_in (by omega) h4 x hx

/-- Where a part lies. -/
theorem Fine.spot {k : Kit} (h : Fine k) {p : Int} (h0 : 0 ≤ p) (hp : p < k.1.length) : ∃ pre post, (pre, p, post) ∈ allSpots k.2.2 ∧ (∀ high, aboveB k.2.2 high p = decide (high ∈ post)) ∧ (∀ x ∈ post, 0 ≤ x ∧ x < k.1.length) ∧ (∀ x ∈ pre, 0 ≤ x ∧ x < k.1.length) := by
  have hm := h.all p.toNat (by omega)
  rw [show ((p.toNat : Nat) : Int) = p by omega] at hm
  obtain ⟨van, hvan, hpv⟩ := List.mem_flatten.1 hm
  obtain ⟨A, B, hAB⟩ := List.append_of_mem hvan
  obtain ⟨pre, post, hpp⟩ := List.append_of_mem hpv
  have hn := h.nodup
  rw [hAB, List.flatten_append, List.flatten_cons, hpp, List.nodup_append] at hn
  obtain ⟨_, hn2, hd⟩ := hn
  rw [List.nodup_append] at hn2
  obtain ⟨hn3, _, hd2⟩ := hn2
  rw [List.nodup_append] at hn3
  obtain ⟨_, _, hd3⟩ := hn3
  have hA : ∀ v ∈ A, p ∉ v := fun v hv hpv => hd p (List.mem_flatten.2 ⟨v, hv, hpv⟩) p (by simp) rfl
  have hB : ∀ v ∈ B, p ∉ v := fun v hv hpv => hd2 p (by simp) p (List.mem_flatten.2 ⟨v, hv, hpv⟩) rfl
  have hpre : p ∉ pre := fun hq => hd3 p hq p List.mem_cons_self rfl
  have hin : ∀ x ∈ van, 0 ≤ x ∧ x < k.1.length := fun x hx => h.flat x (List.mem_flatten.2 ⟨van, hvan, hx⟩)
  refine ⟨pre, post, ?_, fun high => ?_, fun x hx => hin x (by rw [hpp]; simp [hx]), fun x hx => hin x (by rw [hpp]; simp [hx])⟩
  · unfold allSpots
    rw [List.mem_flatMap]
    exact ⟨van, hvan, by rw [hpp]; exact spots_in pre [] p post⟩
  · unfold aboveB
    rw [hAB, List.any_append, List.any_cons, hpp, aboveGo_at high p post pre hpre]
    have e1 : A.any (fun v => aboveGo high p false v) = false := by
      rw [List.any_eq_false]
      intro v hv
      rw [aboveGo_none high p v (hA v hv)]
      simp
    have e2 : B.any (fun v => aboveGo high p false v) = false := by
      rw [List.any_eq_false]
      intro v hv
      rw [aboveGo_none high p v (hB v hv)]
      simp
    rw [e1, e2]
    simp

/-! ## What can be put up -/
def canB (k : Kit) (s : List Bool) (p : Int) : Bool :=
  match k.1[p.toNat]? with
  | some q => !has s p && q.2.2.2.all (has s) && decide (q.1 ≤ k.2.1) && (rangeI k.1.length).all fun i => !aboveB k.2.2 i p || has s i
  | none => false

theorem g56_eq {k : Kit} (hk : Small k) (h : Fine k) {y : Yard} (hy : Yards k y) {s : List Bool} (hs : s.length = k.1.length) {p : Int} (h0 : 0 ≤ p) (hp : p < k.1.length) : g56 (y, s, p, ()) = some ((canB k s p, ()), ()) := by
  obtain ⟨rfl, many, lies, hst⟩ := hy
  obtain ⟨pre, post, hd, hab, hpost, _⟩ := h.spot h0 hp
  obtain ⟨hsa, _⟩ := hst.spot _ hd
  have hq : y.1.1[p.toNat]? = some (y.1.1[p.toNat]'(by omega)) := List.getElem?_eq_getElem (by omega)
  generalize y.1.1[p.toNat]'(by omega) = q at hq
  obtain ⟨_, _, _, hne⟩ := h.each _ _ hq
  have hnl := hk.needs q (List.mem_of_getElem? hq)
  have hne' := needsOK_in (by omega) hne
  have hpl : post.length ≤ 1048576 := by
    obtain ⟨v, hv, hdv⟩ := List.mem_flatMap.1 hd
    have := congrArg List.length (spots_mem v [] hdv)
    have := hk.van v hv
    simp at *
    omega
  have hF : g56 (y, s, p, ()) = F56 fuel y s p := rfl
  rw [hF]
  unfold F56 canB
  rw [hq, getI_has h0 (by omega)]
  simp only [getI_some h0 hq, getI_some h0 hsa]
  cases has s p with
  | true => rfl
  | false =>
  simp only [Bool.not_false, cond_true, Bool.true_and]
  rw [g69_eq hnl (fun x hx => by have := hne' x hx; omega), derefK_some]
  cases q.2.2.2.all (has s) with
  | false => rfl
  | true =>
  simp only [cond_true, Bool.true_and]
  by_cases hw : q.1 ≤ y.1.2.1
  · rw [dec_t hw, cond_true, g69_eq hpl (fun x hx => by have := hpost x hx; omega), derefK_some, Bool.true_and]
    congr 3
    rw [Bool.eq_iff_iff, List.all_eq_true, List.all_eq_true]
    constructor
    · intro hh i hi
      rw [hab i]
      by_cases hm : i ∈ post
      · rw [hh i hm]; simp
      · rw [dec_f hm]; rfl
    · intro hh x hx
      have := hh x (rangeI_mem.2 (hpost x hx))
      rw [hab x, dec_t hx] at this
      simpa using this
  · rw [dec_f hw]; rfl

theorem L70_3_eq' (s : List Bool) (l : List Int) (hl : l.length ≤ 1048576) (hr : ∀ x ∈ l, 0 ≤ x ∧ x < s.length) : ∀ (r pre : List Int) (N : Nat), l = pre ++ r → r.length < N →
    L70_3 N ((s, l, (pre.length : Int), ()), (), ()) = some (cond (r.all (has s)) (.inr ((), (), ())) (.inl ((false, ()), (), ())))
  | [], pre, N, hpr, hN => by
    obtain ⟨k, rfl⟩ := pos_of_lt hN
    simp only [L70_3, B70_3]
    rw [hpr]
    simp
  | x :: r, pre, N, hpr, hN => by
    obtain ⟨k, rfl⟩ := pos_of_lt hN
    simp only [List.length_cons] at hN
    have hlt : ((pre.length : Nat) : Int) < (l.length : Int) := by rw [hpr]; exact lt_app pre x r
    have hget : ∀ {R : Type} (kk : Int → Option R), getI l (pre.length : Int) kk = kk x := fun kk => by rw [hpr]; exact getI_app pre x r kk rfl
    have ih := L70_3_eq' s l hl hr r (pre ++ [x]) k (by rw [hpr]; simp) (by omega)
    rw [len_app] at ih
    have hx := hr x (by rw [hpr]; simp)
    simp only [L70_3, B70_3]
    rw [dec_t hlt, cond_true, hget, getI_has hx.1 hx.2, w64 (by omega) (by omega), List.all_cons]
    cases has s x with
    | false => rfl
    | true => exact ih

theorem L58_4_eq' (k : Kit) (hk : Small k) (s : List Bool) (hs : s.length ≤ 1048576) (p : Int) : ∀ (m i : Nat) (N : Nat), i + m = s.length → m < N →
    L58_4 N ((s, p, (i : Int), ()), (k, ()), ()) = some (cond ((List.range' i m).all fun (j : Nat) => !aboveB k.2.2 (j : Int) p || has s (j : Int)) (.inr ((), (), ())) (.inl ((false, ()), (), ())))
  | 0, i, N, hi, hN => by
    obtain ⟨n, rfl⟩ := pos_of_lt hN
    simp only [L58_4, B58_4]
    rw [dec_f (by omega)]
    rfl
  | m + 1, i, N, hi, hN => by
    obtain ⟨n, rfl⟩ := pos_of_lt hN
    have ih := L58_4_eq' k hk s hs p m (i + 1) n (by omega) (by omega)
    simp only [L58_4, B58_4]
    rw [dec_t (by omega), cond_true, g87_eq k hk, derefK_some, w64 (by omega) (by omega), List.range'_succ, List.all_cons]
    rw [show (i : Int) + 1 = ((i + 1 : Nat) : Int) by omega]
    cases aboveB k.2.2 (i : Int) p with
    | false => simp only [cond_false, Bool.not_false, Bool.true_or, Bool.true_and]; exact ih
    | true =>
      simp only [cond_true, Bool.not_true, Bool.false_or]
      rw [getI_has (by omega) (by omega)]
      cases has s (i : Int) with
      | false => rfl
      | true => simp only [Bool.not_true, cond_false, Bool.true_and]; exact ih

theorem g58_eq {k : Kit} (hk : Small k) (h : Fine k) {s : List Bool} (hs : s.length = k.1.length) {p : Int} (h0 : 0 ≤ p) (hp : p < k.1.length) : g58 (k, s, p, ()) = some ((canB k s p, ()), ()) := by
  have hq : k.1[p.toNat]? = some (k.1[p.toNat]'(by omega)) := List.getElem?_eq_getElem (by omega)
  generalize k.1[p.toNat]'(by omega) = q at hq
  obtain ⟨_, _, _, hne⟩ := h.each _ _ hq
  have hnl := hk.needs q (List.mem_of_getElem? hq)
  have hne' := needsOK_in (by omega) hne
  have hF : g58 (k, s, p, ()) = F58 fuel k s p := rfl
  have hG : g70 (k, s, p, ()) = F70 fuel k s p := rfl
  have h70 : g70 (k, s, p, ()) = some ((q.2.2.2.all (has s), ()), ()) := by
    rw [hG]
    unfold F70
    rw [getI_some h0 hq]
    have hl := L70_3_eq' s q.2.2.2 hnl (fun x hx => by have := hne' x hx; omega) q.2.2.2 [] fuel rfl (by have := fuel_big; omega)
    have hl' : L70_3 fuel ((s, q.2.2.2, 0, ()), (), ()) = _ := hl
    rw [hl', derefK_some]
    cases q.2.2.2.all (has s) <;> rfl
  rw [hF]
  unfold F58 canB
  rw [hq, getI_has h0 (by omega), h70, derefK_some]
  simp only [getI_some h0 hq]
  cases has s p with
  | true => rfl
  | false =>
  cases q.2.2.2.all (has s) with
  | false => rfl
  | true =>
  simp only [Bool.not_true, Bool.not_false, cond_false, Bool.true_and]
  by_cases hw : q.1 ≤ k.2.1
  · have hl := L58_4_eq' k hk s (by rw [hs]; exact hk.parts) p s.length 0 fuel (by omega) (by have := fuel_big; have := hk.parts; omega)
    have hl' : L58_4 fuel ((s, p, 0, ()), (k, ()), ()) = _ := hl
    rw [dec_t hw, dec_f (by omega : ¬ q.1 > k.2.1), cond_false, hl', derefK_some, Bool.true_and]
    have e : (rangeI k.1.length).all (fun i => !aboveB k.2.2 i p || has s i) = (List.range' 0 s.length).all fun (j : Nat) => !aboveB k.2.2 (j : Int) p || has s (j : Int) := by
      unfold rangeI
      rw [List.all_map, hs, List.range_eq_range']
      rfl
    rw [e]
    cases (List.range' 0 s.length).all fun (j : Nat) => !aboveB k.2.2 (j : Int) p || has s (j : Int) <;> rfl
  · rw [dec_f hw, dec_t (by omega : q.1 > k.2.1)]; rfl
end Go.Proofs.Try.V
