/- Plain laws of layer 8: BuildBack. No condition beyond those typed in each theorem. -/
import Derived.Test.YtjhphibadndkcaaLw22
namespace Go.Proofs.Try.V
open Go.Vi
set_option maxRecDepth 100000

/-! ## Taking down -/
def dnB (k : Kit) : List Bool → List Int → Bool
  | _, [] => true
  | s, p :: r => rng p 0 ((k.1.length : Int) - 1) && downB k s p && dnB k (s.set p.toNat false) r
def dnS : List Int → List Bool → List Bool
  | [], s => s
  | p :: r, s => dnS r (s.set p.toNat false)
theorem folGo_dn (k : Kit) : ∀ (l : List Int) (i : Nat) (s : List Bool), (folGo (downB k) k.1.length i l s).1 = none ↔ dnB k s l = true
  | [], i, s => by simp [folGo, dnB]
  | p :: r, i, s => by
    unfold folGo dnB
    cases h : rng p 0 ((k.1.length : Int) - 1) && downB k s p with
    | false => simp
    | true =>
      rw [cond_true, Bool.true_and, downB_has (Bool.and_eq_true _ _ ▸ h).2, Bool.not_true]
      exact folGo_dn k r (i + 1) _
theorem chkD_zero {k : Kit} (hv : valid k = true) (l : List Int) : ((chkD k l).2 == 0) = dnB k (all1 k) l := by
  unfold chkD
  rw [hv, cond_true]
  have := folGo_dn k l 0 (all1 k)
  unfold folE
  cases h : (folGo (downB k) k.1.length 0 l (all1 k)).1 with
  | none => rw [this.1 h]; rfl
  | some j =>
    cases hd : dnB k (all1 k) l with
    | false => rfl
    | true => rw [this.2 hd] at h; cases h
theorem chkR_zero {k : Kit} (hv : valid k = true) (l : List Int) : ((chkR k l).2 == 0) = ordB k (none0 k) l := by
  unfold chkR
  rw [hv, cond_true]
  have := (folGo_ord k l 0 (none0 k)).1
  unfold folE
  cases h : (folGo (canB k) k.1.length 0 l (none0 k)).1 with
  | none => rw [this.1 h]; rfl
  | some j =>
    cases hd : ordB k (none0 k) l with
    | false => rfl
    | true => rw [this.2 hd] at h; cases h

/-! ## What stands, stands on something -/
structure Closed (k : Kit) (s : List Bool) : Prop where
  len : s.length = k.1.length
  need : ∀ i : Nat, i < k.1.length → has s (i : Int) = true → ∀ x ∈ needsOf k (i : Int), has s x = true
  over : ∀ i : Nat, i < k.1.length → has s (i : Int) = true → ∀ j : Nat, j < k.1.length → aboveB k.2.2 (j : Int) (i : Int) = true → has s (j : Int) = true
theorem has_setI {s : List Bool} {p : Int} {b : Bool} (h0 : 0 ≤ p) (hp : p < s.length) {q : Int} (hq : 0 ≤ q) : has (s.set p.toNat b) q = if q = p then b else has s q := by
  split
  · rename_i e
    rw [e]
    exact gd_set_self h0 hp
  · rename_i e
    exact gd_set_ne h0 hq e
theorem canB_iff {k : Kit} (_hf : Fine k) {s : List Bool} {p : Nat} (hp : p < k.1.length) : canB k s (p : Int) = true ↔ has s (p : Int) = false ∧ (∀ x ∈ needsOf k (p : Int), has s x = true) ∧ (∃ q, k.1[p]? = some q ∧ q.1 ≤ k.2.1) ∧ ∀ j : Nat, j < k.1.length → aboveB k.2.2 (j : Int) (p : Int) = true → has s (j : Int) = true := by
  have hq : k.1[((p : Nat) : Int).toNat]? = some (k.1[p]'hp) := by rw [Int.toNat_natCast]; exact List.getElem?_eq_getElem hp
  have hq2 : k.1[p]? = some (k.1[p]'hp) := List.getElem?_eq_getElem hp
  generalize k.1[p]'hp = q at hq hq2
  unfold canB needsOf
  rw [hq]
  simp only [Bool.and_eq_true, Bool.not_eq_true', List.all_eq_true, decide_eq_true_eq, Bool.or_eq_true]
  constructor
  · rintro ⟨⟨⟨h1, h2⟩, h3⟩, h4⟩
    refine ⟨h1, h2, ⟨q, hq2, h3⟩, fun j hj ha => ?_⟩
    rcases h4 (j : Int) (rangeI_mem.2 ⟨by omega, by omega⟩) with h | h
    · rw [ha] at h; cases h
    · exact h
  · rintro ⟨h1, h2, ⟨q', hq', h3⟩, h4⟩
    rw [hq2] at hq'
    cases hq'
    refine ⟨⟨⟨h1, h2⟩, h3⟩, fun x hx => ?_⟩
    have hx' := rangeI_mem.1 hx
    cases ha : aboveB k.2.2 x (p : Int) with
    | false => exact .inl rfl
    | true =>
      right
      have := h4 x.toNat (by omega)
      rw [show ((x.toNat : Nat) : Int) = x by omega] at this
      exact this ha
theorem downB_iff {k : Kit} {s : List Bool} {p : Nat} (hp : p < k.1.length) : downB k s (p : Int) = true ↔ has s (p : Int) = true ∧ (∃ q, k.1[p]? = some q ∧ q.1 ≤ k.2.1) ∧ (∀ i : Nat, i < k.1.length → has s (i : Int) = true → (p : Int) ∉ needsOf k (i : Int)) ∧ ∀ i : Nat, i < k.1.length → has s (i : Int) = true → aboveB k.2.2 (p : Int) (i : Int) = false := by
  have hq : k.1[((p : Nat) : Int).toNat]? = some (k.1[p]'hp) := by rw [Int.toNat_natCast]; exact List.getElem?_eq_getElem hp
  have hq2 : k.1[p]? = some (k.1[p]'hp) := List.getElem?_eq_getElem hp
  generalize k.1[p]'hp = q at hq hq2
  rw [downB_eq hq]
  simp only [Bool.and_eq_true, Bool.not_eq_true', decide_eq_true_eq, List.any_eq_false, List.mem_range, needB, lowB, not_and, Bool.not_eq_true]
  constructor
  · rintro ⟨⟨⟨h1, h2⟩, h3⟩, h4⟩
    exact ⟨h1, ⟨q, hq2, h2⟩, fun i hi hh hm => h3 i hi hh hm, fun i hi hh => h4 i hi hh⟩
  · rintro ⟨h1, ⟨q', hq', h2⟩, h3, h4⟩
    rw [hq2] at hq'
    cases hq'
    exact ⟨⟨⟨h1, h2⟩, fun i hi hh hm => h3 i hi hh hm⟩, fun i hi hh => h4 i hi hh⟩
theorem needs_nat {k : Kit} (hf : Fine k) {i : Nat} (hi : i < k.1.length) {x : Int} (hx : x ∈ needsOf k (i : Int)) : ∃ j : Nat, x = (j : Int) ∧ j < k.1.length ∧ j ≠ i := by
  have := needs_in hf (p := (i : Int)) (by omega) (by omega) x hx
  exact ⟨x.toNat, by omega, by omega, by omega⟩
theorem above_self {k : Kit} (hf : Fine k) {p : Nat} (hp : p < k.1.length) : aboveB k.2.2 (p : Int) (p : Int) = false := by
  obtain ⟨pre, post, hd, hab, _, _⟩ := hf.spot (p := (p : Int)) (by omega) (by omega)
  rw [hab]
  refine dec_f fun hm => ?_
  obtain ⟨v, hv, hdv⟩ := List.mem_flatMap.1 hd
  have e : v = [] ++ v := rfl
  have h1 := spots_mem v [] hdv
  have hnd : v.Nodup := by
    exact hf.nodup.sublist (List.sublist_flatten_of_mem hv)
  rw [List.nil_append] at h1
  rw [← h1, List.nodup_append] at hnd
  exact (List.nodup_cons.1 hnd.2.1).1 hm
theorem Closed.up {k : Kit} (hf : Fine k) {s : List Bool} (h : Closed k s) {p : Nat} (hp : p < k.1.length) (hc : canB k s (p : Int) = true) : Closed k (s.set p true) := by
  have hl := h.len
  obtain ⟨_, h2, _, h4⟩ := (canB_iff hf hp).1 hc
  have hset : ∀ q : Int, 0 ≤ q → has (s.set p true) q = if q = (p : Int) then true else has s q := fun q hq => has_setI (p := (p : Int)) (b := true) (by omega) (by omega) hq
  refine ⟨by simpa using hl, fun i hi hh x hx => ?_, fun i hi hh j hj ha => ?_⟩
  · obtain ⟨j, rfl, hj, hji⟩ := needs_nat hf hi hx
    rw [hset _ (by omega)]
    split
    · rfl
    · rw [hset _ (by omega)] at hh
      split at hh
      · rename_i e
        rw [e] at hx
        exact h2 _ hx
      · exact h.need i hi hh _ hx
  · rw [hset _ (by omega)]
    split
    · rfl
    · rw [hset _ (by omega)] at hh
      split at hh
      · rename_i e
        rw [e] at ha
        exact h4 j hj ha
      · exact h.over i hi hh j hj ha
theorem Closed.down {k : Kit} (hf : Fine k) {s : List Bool} (h : Closed k s) {p : Nat} (hp : p < k.1.length) (hc : downB k s (p : Int) = true) : Closed k (s.set p false) := by
  have hl := h.len
  obtain ⟨_, _, h3, h4⟩ := (downB_iff hp).1 hc
  have hset : ∀ q : Int, 0 ≤ q → has (s.set p false) q = if q = (p : Int) then false else has s q := fun q hq => has_setI (p := (p : Int)) (b := false) (by omega) (by omega) hq
  have hold : ∀ i : Nat, has (s.set p false) (i : Int) = true → has s (i : Int) = true ∧ i ≠ p := fun i hh => by
    rw [hset _ (by omega)] at hh
    split at hh
    · cases hh
    · exact ⟨hh, by omega⟩
  refine ⟨by simpa using hl, fun i hi hh x hx => ?_, fun i hi hh j hj ha => ?_⟩
  · obtain ⟨h1, _⟩ := hold i hh
    obtain ⟨j, rfl, hj, hji⟩ := needs_nat hf hi hx
    rw [hset _ (by omega), if_neg (fun e => h3 i hi h1 (by rw [← e]; exact hx))]
    exact h.need i hi h1 _ hx
  · obtain ⟨h1, _⟩ := hold i hh
    rw [hset _ (by omega), if_neg (fun e => by rw [e, h4 i hi h1] at ha; cases ha)]
    exact h.over i hi h1 j hj ha
theorem closed_none (k : Kit) : Closed k (none0 k) := by
  have : ∀ q : Int, has (none0 k) q = false := fun q => by
    unfold has none0
    rw [List.getD_eq_getElem?_getD, List.getElem?_replicate]
    split <;> rfl
  exact ⟨by simp, fun i _ hh => by rw [this] at hh; contradiction, fun i _ hh => by rw [this] at hh; contradiction⟩
theorem has_all (k : Kit) {j : Nat} (h : j < k.1.length) : has (all1 k) (j : Int) = true := by
  unfold has all1
  rw [List.getD_eq_getElem?_getD, List.getElem?_replicate, if_pos (by simpa using h)]
  rfl
theorem closed_all {k : Kit} (hf : Fine k) : Closed k (all1 k) := by
  refine ⟨by simp, fun i hi _ x hx => ?_, fun i hi _ j hj _ => has_all k hj⟩
  obtain ⟨j, rfl, hj, _⟩ := needs_nat hf hi hx
  exact has_all k hj

/-! ## There and back -/
theorem set_back {s : List Bool} {p : Nat} (h : has s (p : Int) = false) (hp : p < s.length) : (s.set p true).set p false = s := by
  rw [List.set_set]
  apply List.ext_getElem?
  intro i
  by_cases hi : i = p
  · rw [hi, List.getElem?_set_self hp]
    unfold has at h
    rw [List.getD_eq_getElem?_getD, Int.toNat_natCast, List.getElem?_eq_getElem hp] at h
    rw [List.getElem?_eq_getElem hp]
    simpa using h.symm
  · rw [List.getElem?_set_ne (fun e => hi e.symm)]
theorem set_forth {s : List Bool} {p : Nat} (h : has s (p : Int) = true) (hp : p < s.length) : (s.set p false).set p true = s := by
  rw [List.set_set]
  apply List.ext_getElem?
  intro i
  by_cases hi : i = p
  · rw [hi, List.getElem?_set_self hp]
    unfold has at h
    rw [List.getD_eq_getElem?_getD, Int.toNat_natCast, List.getElem?_eq_getElem hp] at h
    rw [List.getElem?_eq_getElem hp]
    simpa using h.symm
  · rw [List.getElem?_set_ne (fun e => hi e.symm)]
theorem nat_of {n : Nat} {p : Int} (h : rng p 0 ((n : Int) - 1) = true) : ∃ j : Nat, p = (j : Int) ∧ j < n := by
  have := rng_in.1 h
  exact ⟨p.toNat, by omega, by omega⟩
theorem ord_back {k : Kit} (hf : Fine k) : ∀ (r s0 : List Int), s0 = r.reverse → ordB k (none0 k) s0 = true → Closed k (goS s0 (none0 k)) ∧ dnB k (goS s0 (none0 k)) r = true
  | [], _, rfl, _ => ⟨closed_none k, rfl⟩
  | p :: r, _, rfl, h => by
    rw [List.reverse_cons] at h ⊢
    rw [ordB_app, Bool.and_eq_true] at h
    obtain ⟨ha, hb⟩ := h
    obtain ⟨hcl, hdn⟩ := ord_back hf r _ rfl ha
    simp only [ordB, Bool.and_true, Bool.and_eq_true] at hb
    obtain ⟨j, rfl, hj⟩ := nat_of hb.1
    have hc := hb.2
    rw [goS_app]
    show Closed k ((goS r.reverse (none0 k)).set ((j : Int)).toNat true) ∧ dnB k ((goS r.reverse (none0 k)).set ((j : Int)).toNat true) ((j : Int) :: r) = true
    rw [Int.toNat_natCast]
    generalize goS r.reverse (none0 k) = s at hcl hdn hc
    have hl := hcl.len
    obtain ⟨h1, h2, h3, h4⟩ := (canB_iff hf hj).1 hc
    refine ⟨hcl.up hf hj hc, ?_⟩
    have hset : ∀ q : Int, 0 ≤ q → has (s.set j true) q = if q = (j : Int) then true else has s q := fun q hq => has_setI (p := (j : Int)) (b := true) (by omega) (by omega) hq
    have hd : downB k (s.set j true) (j : Int) = true := by
      refine (downB_iff hj).2 ⟨by rw [hset _ (by omega), if_pos rfl], h3, fun i hi hh hm => ?_, fun i hi hh => ?_⟩
      · obtain ⟨q, hq, _, hqi⟩ := needs_nat hf hi hm
        rw [hset _ (by omega), if_neg (by omega)] at hh
        have := hcl.need i hi hh _ hm
        rw [h1] at this
        cases this
      · rw [hset _ (by omega)] at hh
        split at hh
        · rename_i e
          rw [e]
          exact above_self hf hj
        · cases hab : aboveB k.2.2 (j : Int) (i : Int) with
          | false => rfl
          | true =>
            have := hcl.over i hi hh j hj hab
            rw [h1] at this
            cases this
    unfold dnB
    rw [hb.1, hd, Int.toNat_natCast, set_back h1 (by omega), hdn]
    rfl
theorem dn_back {k : Kit} (hf : Fine k) : ∀ (r : List Int) (s : List Bool), Closed k s → dnB k s r = true → Closed k (dnS r s) ∧ ordB k (dnS r s) r.reverse = true ∧ goS r.reverse (dnS r s) = s ∧ (dnS r s).count true + r.length = s.count true
  | [], s, hc, _ => ⟨hc, rfl, rfl, rfl⟩
  | p :: r, s, hc, h => by
    simp only [dnB, Bool.and_eq_true] at h
    obtain ⟨⟨hr, hd⟩, hrest⟩ := h
    obtain ⟨j, rfl, hj⟩ := nat_of hr
    have hl := hc.len
    rw [Int.toNat_natCast] at hrest
    have hcd := hc.down hf hj hd
    obtain ⟨i1, i2, i3, i4⟩ := dn_back hf r _ hcd hrest
    obtain ⟨h1, h2, h3, h4⟩ := (downB_iff hj).1 hd
    show Closed k (dnS r (s.set ((j : Int)).toNat false)) ∧ ordB k (dnS r (s.set ((j : Int)).toNat false)) ((j : Int) :: r).reverse = true ∧ goS ((j : Int) :: r).reverse (dnS r (s.set ((j : Int)).toNat false)) = s ∧ (dnS r (s.set ((j : Int)).toNat false)).count true + (r.length + 1) = s.count true
    rw [Int.toNat_natCast, List.reverse_cons, ordB_app, goS_app, i2, i3]
    have hset : ∀ q : Int, 0 ≤ q → has (s.set j false) q = if q = (j : Int) then false else has s q := fun q hq => has_setI (p := (j : Int)) (b := false) (by omega) (by omega) hq
    have hcan : canB k (s.set j false) (j : Int) = true := by
      refine (canB_iff hf hj).2 ⟨by rw [hset _ (by omega), if_pos rfl], fun x hx => ?_, h2, fun i hi ha => ?_⟩
      · obtain ⟨q, rfl, hq, hqj⟩ := needs_nat hf hj hx
        rw [hset _ (by omega), if_neg (by omega)]
        exact hc.need j hj h1 _ hx
      · rw [hset _ (by omega)]
        split
        · rename_i e
          rw [e, above_self hf hj] at ha
          cases ha
        · exact hc.over j hj h1 i hi ha
    have hcnt : (s.set j false).count true + 1 = s.count true := by
      have hg : s[j]'(by omega) = true := by
        unfold has at h1
        rw [List.getD_eq_getElem?_getD, Int.toNat_natCast, List.getElem?_eq_getElem (by omega)] at h1
        simpa using h1
      have hpos : 0 < s.count true := List.count_pos_iff.2 (by rw [← hg]; exact List.getElem_mem (by omega))
      rw [List.count_set (by omega), hg]
      simp
      omega
    refine ⟨i1, ?_, ?_, by omega⟩
    · simp only [ordB, Bool.and_true, Bool.true_and]
      rw [hr, hcan]
      rfl
    · show (s.set j false).set ((j : Int)).toNat true = s
      rw [Int.toNat_natCast]
      exact set_forth h1 (by omega)
theorem all_false {s : List Bool} (h : s.count true = 0) : s = List.replicate s.length false := by
  rw [List.eq_replicate_iff]
  refine ⟨rfl, fun b hb => ?_⟩
  cases b with
  | false => rfl
  | true =>
    have := List.count_pos_iff.2 hb
    omega
theorem all_true {s : List Bool} (h : s.count false = 0) : s = List.replicate s.length true := by
  rw [List.eq_replicate_iff]
  refine ⟨rfl, fun b hb => ?_⟩
  cases b with
  | true => rfl
  | false =>
    have := List.count_pos_iff.2 hb
    omega
/-- A whole order can be taken down backwards, and the other way round. -/
theorem there_back {k : Kit} (hf : Fine k) {l : List Int} (hl : l.length = k.1.length) : ordB k (none0 k) l = dnB k (all1 k) l.reverse := by
  rw [Bool.eq_iff_iff]
  constructor
  · intro h
    have h1 := ord_back hf l.reverse l (by rw [List.reverse_reverse]) h
    have h2 := ordB_count (s := none0 k) (by simp) h
    have h3 : (none0 k).count false = k.1.length := by simp [none0]
    have h4 := all_true (s := goS l (none0 k)) (by omega)
    rw [goS_len, show (none0 k).length = k.1.length by simp] at h4
    rw [h4] at h1
    exact h1.2
  · intro h
    obtain ⟨_, h1, _, h2⟩ := dn_back hf l.reverse (all1 k) (closed_all hf) h
    have h3 : (all1 k).count true = k.1.length := by simp [all1]
    rw [List.length_reverse] at h2
    have hlen : ∀ (r : List Int) (s : List Bool), (dnS r s).length = s.length := fun r => by
      induction r with
      | nil => intro s; rfl
      | cons p r ih => intro s; show (dnS r _).length = _; rw [ih, List.length_set]
    have h4 := all_false (s := dnS l.reverse (all1 k)) (by omega)
    rw [hlen, show (all1 k).length = k.1.length by simp] at h4
    rw [h4, List.reverse_reverse] at h1
    exact h1
theorem closed_falls {k : Kit} {s : List Bool} (h : Closed k s) : fallsR k s = [] := by
  unfold fallsR
  cases errS k s == 0 with
  | false => rfl
  | true =>
    rw [cond_true, List.filter_eq_nil_iff]
    intro x hx hh
    have hx' := rangeI_mem.1 hx
    unfold fallsB at hh
    rw [Bool.and_eq_true, Bool.not_eq_true'] at hh
    have : (needsOf k x).all (has s) = true := by
      rw [List.all_eq_true]
      intro y hy
      have := h.need x.toNat (by omega)
      rw [show ((x.toNat : Nat) : Int) = x by omega] at this
      exact this hh.1 y hy
    rw [this] at hh
    cases hh.2

/-! ## The law -/
theorem L47_3_at (l : List Int) (hl : l.length ≤ 1048576) : L47_3 fuel ((l, (l.length : Int) - 1, ()), ([], ()), ()) = some ((), (l.reverse, ()), ()) := by
  have e := loopF (L := L47_3) (fun i => ((l, (l.length : Int) - 1 - (i : Int), ()), (l.reverse.take i, ()), ())) ((), (l.reverse, ()), ()) 0 l.length (N := fuel) (by have := fuel_big; omega)
    (fun N => by
      simp only [L47_3, B47_3]
      rw [dec_f (by omega), List.take_of_length_le (by simp)]
      rfl)
    (fun N i _ hi => by
      simp only [L47_3, B47_3]
      have hr : gd l.reverse (i : Int) = gd l ((l.length : Int) - 1 - (i : Int)) := by
        unfold gd
        rw [List.getD_eq_getElem?_getD, List.getD_eq_getElem?_getD, Int.toNat_natCast, List.getElem?_reverse hi, show ((l.length : Int) - 1 - (i : Int)).toNat = l.length - 1 - i by omega]
      rw [dec_t (by omega), cond_true, getI_gd (by omega) (by omega), lenK_in (by simp; omega) (by simp; omega), w64 (by omega) (by omega), ← hr, ← take_nat (l := l.reverse) (by simpa using hi), show (l.length : Int) - 1 - (i : Int) - 1 = (l.length : Int) - 1 - ((i + 1 : Nat) : Int) by omega])
  have e' : L47_3 fuel ((l, (l.length : Int) - 1 - ((0 : Nat) : Int), ()), ([], ()), ()) = _ := e
  rwa [show (l.length : Int) - 1 - ((0 : Nat) : Int) = (l.length : Int) - 1 by simp] at e'
theorem g47_eq (l : List Int) (hl : l.length ≤ 1048576) : g47 (l, ()) = some ((l.reverse, ()), ()) := by
  show F47 fuel l = _
  unfold F47
  rw [w64 (by omega) (by omega), L47_3_at l hl]
  rfl
theorem L15_12_at (k : Kit) (l : List Int) (n : Nat) (hn : n ≤ 16) : L15_12 fuel ((l, 0, ()), (k, List.replicate n false, ()), ()) = some ((l, ()), (k, List.replicate n true, ()), ()) := by
  have e := loopF (L := L15_12) (fun i => ((l, (i : Int), ()), (k, List.replicate i true ++ List.replicate (n - i) false, ()), ())) ((l, ()), (k, List.replicate n true, ()), ()) 0 n (N := fuel) (by have := fuel_big; omega)
    (fun N => by
      simp only [L15_12, B15_12]
      rw [dec_f (by simp)]
      simp)
    (fun N i _ hi => by
      have hlen : (List.replicate i true ++ List.replicate (n - i) false).length = n := by simp; omega
      simp only [L15_12, B15_12]
      rw [dec_t (by omega), cond_true, inR_in (by omega) (by omega), getI_has (by omega) (by omega), w64 (by omega) (by omega), Int.toNat_natCast]
      have : (List.replicate i true ++ List.replicate (n - i) false).set i true = List.replicate (i + 1) true ++ List.replicate (n - (i + 1)) false := by
        rw [List.set_append_right _ _ (by simp), List.length_replicate, Nat.sub_self, show n - i = (n - (i + 1)) + 1 by omega, List.replicate_succ, List.set_cons_zero, List.replicate_succ' (n := i), List.append_assoc]
        rfl
      rw [this]
      rfl)
  have e' : L15_12 fuel ((l, 0, ()), (k, List.replicate n false, ()), ()) = _ := e
  exact e'
theorem L15_16_at {k : Kit} (hk : Small k) (hv : valid k = true) (hf : Fine k) (l : List Int) (hl : l.length ≤ 1048576) {s : List Bool} (hc : Closed k s) (hd : dnB k s l = true) : L15_16 fuel ((l, 0, ()), (k, s, ()), ()) = some (.inr ((), (), ())) := by
  have h16 := hf.parts
  obtain ⟨_, e, rfl⟩ := loop0 (L := L15_16) (fun i (s : List Bool) => ((l, (i : Int), ()), (k, s, ()), ())) (fun i s' => Closed k s' ∧ dnB k s' (l.drop i) = true) (fun r => r = .inr ((), (), ())) 0 l.length (N := fuel) (s := s) ⟨hc, hd⟩ (by have := fuel_big; omega)
    (fun N s' _ => ⟨_, by simp only [L15_16, B15_16]; rw [dec_f (by omega)]; rfl, rfl⟩)
    (fun N i s' _ hi ⟨h1, h2⟩ => by
      rw [drop_nat hi] at h2
      simp only [L15_16, B15_16]
      rw [dec_t (by omega), cond_true, getI_nat (gd_nat hi), getI_nat (gd_nat hi), getI_nat (gd_nat hi)]
      generalize gd l (i : Int) = p at h2
      simp only [dnB, Bool.and_eq_true] at h2
      obtain ⟨⟨h3, h4⟩, h5⟩ := h2
      obtain ⟨j, rfl, hj⟩ := nat_of h3
      have hlen := h1.len
      rw [Int.toNat_natCast] at h5
      have hcd := h1.down hf hj h4
      have herr : errS k (s'.set j false) = 0 := by
        unfold errS
        rw [hv, cond_true, dec_t (by simpa using hlen)]
        rfl
      rw [dec_f (p := ((j : Nat) : Int) < 0) (by omega), dec_f (p := ((j : Nat) : Int) ≥ (s'.length : Int)) (by omega), cond_false, cond_false, inR_in (by omega) (by omega), getI_has (by omega) (by omega), Int.toNat_natCast, g36_eq k hk, derefK_some, herr, closed_falls hcd, w64 (by omega) (by omega)]
      exact .inl ⟨_, ⟨hcd, h5⟩, rfl⟩)
  exact e
theorem law15 (k : Kit) (hk : Small k) (l : List Int) (hl : l.length ≤ 1048576) : g15 (k, l, ()) = some ((true, ()), ()) := by
  have hF : g15 (k, l, ()) = F15 fuel k l := rfl
  rw [hF]
  unfold F15
  rw [g32_eq k hk, derefK_some, works_eq]
  cases hv : valid k with
  | false => rfl
  | true =>
  have hf := fine_of k hv
  have h16 := hf.parts
  have hrev : l.reverse.length ≤ 1048576 := by simpa using hl
  simp only [cond_true, derefK_some]
  rw [show ((0 : Int) != 0) = false by rfl, cond_false, len_ne]
  by_cases hlen : l.length = k.1.length
  case neg => rw [dec_f hlen]; rfl
  rw [dec_t hlen, Bool.not_true, cond_false, g26_eq k hk l hl, derefK_some, g47_eq l hl]
  simp only [derefK_some, enumK_eq, agreeK_one, agreeK_two]
  rw [g45_eq k hk _ hrev, derefK_some]
  rw [chkR_zero hv, chkD_zero hv, there_back hf hlen, show (dnB k (all1 k) l.reverse == dnB k (all1 k) l.reverse) = true by simp, Bool.not_true, cond_false, g45_eq k hk l hl, derefK_some]
  have hz := chkD_zero hv l
  dsimp only
  unfold bne
  rw [hz]
  cases hd : dnB k (all1 k) l with
  | false => rfl
  | true =>
    rw [Bool.not_true, cond_false, leK_in (by omega), leK_in (by omega), lenK_in (by omega) (by omega), Int.toNat_natCast, L15_12_at k l _ h16, derefK_some]
    dsimp only
    rw [L15_16_at hk hv hf l hl (closed_all hf) hd]
    rfl
end Go.Proofs.Try.V
