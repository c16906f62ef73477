/- Plain laws of layer 8, twenty-sixth part: what lies on the lorries of Pack. No condition beyond those typed in each theorem. -/
import Derived.Test.YtjhphibadndkcaaLw25
import Derived.Test.YtjhphibadndkcaaLw30
namespace Go.Proofs.Try.V
open Go.Vi
set_option maxRecDepth 100000

/-! ## The rows -/
theorem flat_set : ∀ (o : List (List Int)) (v : Nat) (p : Int), v < o.length → ((o.set v (gd o (v : Int) ++ [p])).flatten).Perm (p :: o.flatten)
  | [], _, _, h => absurd h (by simp)
  | a :: o, 0, p, _ => by
    have : gd (a :: o) ((0 : Nat) : Int) = a := rfl
    rw [this]
    show ((a ++ [p]) ++ o.flatten).Perm (p :: (a ++ o.flatten))
    rw [List.append_assoc]
    exact List.perm_middle
  | a :: o, v + 1, p, h => by
    have : gd (a :: o) ((v + 1 : Nat) : Int) = gd o (v : Int) := rfl
    rw [this]
    show (a ++ (o.set v (gd o (v : Int) ++ [p])).flatten).Perm (p :: (a ++ o.flatten))
    exact ((flat_set o v p (by simpa using h)).append_left a).trans List.perm_middle
theorem goOut_perm {n M : Nat} {l : List Int} (hr : ∀ i : Nat, i < n → 0 ≤ gd l (i : Int) ∧ gd l (i : Int) < M) : ∀ (r : List Int) (o : List (List Int)), (∀ p ∈ r, 0 ≤ p ∧ p < n) → o.length = M → (goOut l r o).flatten.Perm (r ++ o.flatten)
  | [], o, _, _ => List.Perm.refl _
  | p :: r, o, hp, ho => by
    have h1 := hp p List.mem_cons_self
    have hv := hr p.toNat (by omega)
    rw [show ((p.toNat : Nat) : Int) = p by omega] at hv
    unfold goOut
    refine (goOut_perm hr r _ (fun q hq => hp q (List.mem_cons_of_mem _ hq)) (by rw [List.length_set]; exact ho)).trans ?_
    have := flat_set o (gd l p).toNat p (by omega)
    rw [show (((gd l p).toNat : Nat) : Int) = gd l p by omega] at this
    exact (this.append_left r).trans List.perm_middle
theorem goOut_row {n M : Nat} {l : List Int} (hr : ∀ i : Nat, i < n → 0 ≤ gd l (i : Int) ∧ gd l (i : Int) < M) : ∀ (r : List Int) (o : List (List Int)), (∀ p ∈ r, 0 ≤ p ∧ p < n) → o.length = M → ∀ v : Nat, v < M → gd (goOut l r o) (v : Int) = gd o (v : Int) ++ r.filter fun p => gd l p == (v : Int)
  | [], o, _, _, v, _ => by simp [goOut]
  | p :: r, o, hp, ho, v, hvM => by
    have h1 := hp p List.mem_cons_self
    have hv := hr p.toNat (by omega)
    rw [show ((p.toNat : Nat) : Int) = p by omega] at hv
    unfold goOut
    rw [goOut_row hr r _ (fun q hq => hp q (List.mem_cons_of_mem _ hq)) (by rw [List.length_set]; exact ho) v hvM, List.filter_cons]
    by_cases e : gd l p = (v : Int)
    · rw [e, show ((v : Int) == (v : Int)) = true by simp, if_pos rfl, gd_set_self (by omega) (by omega), List.append_assoc]
      rfl
    · rw [gd_set_ne hv.1 (by omega) (by omega), show (gd l p == (v : Int)) = false by simp [e]]
      rfl

/-! ## Their weights -/
def wsum (W : List Int) : List Int → Int
  | [] => 0
  | p :: r => gd W p + wsum W r
theorem wsum_app (W : List Int) : ∀ (a b : List Int), wsum W (a ++ b) = wsum W a + wsum W b
  | [], b => by show _ = 0 + wsum W b; rw [Int.zero_add]; rfl
  | p :: a, b => by
    show gd W p + wsum W (a ++ b) = gd W p + wsum W a + wsum W b
    rw [wsum_app W a b, Int.add_assoc]
theorem wsum_perm {W a b : List Int} (h : a.Perm b) : wsum W a = wsum W b := by
  induction h with
  | nil => rfl
  | cons x _ ih => show _ + _ = _ + _; rw [ih]
  | swap x y l => show _ + (_ + _) = _ + (_ + _); rw [Int.add_left_comm]
  | trans _ _ h1 h2 => rw [h1, h2]
theorem wsum_bd {W : List Int} (hW : WOK W) : ∀ (r : List Int), (∀ p ∈ r, 0 ≤ p ∧ p < W.length) → 0 ≤ wsum W r ∧ wsum W r ≤ 1000000 * r.length
  | [], _ => ⟨Int.le_refl _, by show (0 : Int) ≤ _; simp⟩
  | p :: r, h => by
    have h1 := h p List.mem_cons_self
    have h2 := wsum_bd hW r (fun q hq => h q (List.mem_cons_of_mem _ hq))
    have h3 := hW.2 p.toNat (by omega)
    rw [show ((p.toNat : Nat) : Int) = p by omega] at h3
    rw [List.length_cons]
    show 0 ≤ gd W p + wsum W r ∧ gd W p + wsum W r ≤ _
    omega
theorem rangeI_succ (n : Nat) : rangeI (n + 1) = rangeI n ++ [(n : Int)] := by unfold rangeI; rw [List.range_succ, List.map_append]; rfl
theorem wsum_range (W l : List Int) (v : Int) : ∀ n, wsum W ((rangeI n).filter fun p => gd l p == v) = lwK W l v n
  | 0 => rfl
  | n + 1 => by
    rw [rangeI_succ, List.filter_append, wsum_app, wsum_range W l v n]
    show _ = lwK W l v n + if gd l (n : Int) = v then gd W (n : Int) else 0
    rw [List.filter_cons]
    by_cases e : gd l (n : Int) = v
    · rw [e, show (v == v) = true by simp, if_pos rfl, if_pos rfl]
      show _ + (gd W (n : Int) + 0) = _
      rw [Int.add_zero]
    · rw [show (gd l (n : Int) == v) = false by simp [e], if_neg e]
      rfl

/-! ## Pack's lorries -/
structure Packed (k : Kit) (room : Int) (vans : List (List Int)) : Prop where
  perm : vans.flatten.Perm (rangeI k.1.length)
  fit : ∀ v : Nat, v < vans.length → wsum (wts k) (gd vans (v : Int)) ≤ room
  shrt : ∀ v : Nat, v < vans.length → (gd vans (v : Int)).length ≤ k.1.length
  abv : ∀ pre p post i, ordA k = pre ++ p :: post → aboveB vans i p = true → i ∈ pre
theorem ordA_perm {k : Kit} (hf : Fine k) (hl : ¬ (ordA k).length < k.1.length) : (ordA k).Perm (rangeI k.1.length) := by
  have h := finO_ok (alK_fine hf)
  exact perm_of_nodup _ _ h.nodup (fun x hx => rangeI_mem.2 (h.rng x hx)) (by rw [rangeI_length]; omega)
theorem packed_of {k : Kit} (hf : Fine k) {room : Int} {M : Nat} {l : List Int} (ha : Asg (wts k) room M l) (hl : ¬ (ordA k).length < k.1.length) : Packed k room (outP (ordA k) (M, l)) := by
  have hal := ha.len
  rw [wts_len] at hal
  have hp := ordA_perm hf hl
  obtain ⟨ho1, ho2⟩ := ordA_in hf
  have hnd : (ordA k).Nodup := (finO_ok (alK_fine hf)).nodup
  have hr : ∀ i : Nat, i < k.1.length → 0 ≤ gd l (i : Int) ∧ gd l (i : Int) < M := fun i hi => ha.rng i (by rw [wts_len]; exact hi)
  have hin : ∀ p ∈ (ordA k).reverse, 0 ≤ p ∧ p < k.1.length := fun p hp => ho1 p (List.mem_reverse.1 hp)
  have hlen : (outP (ordA k) (M, l)).length = M := by
    show (goOut l (ordA k).reverse (List.replicate M [])).length = M
    rw [goOut_len, List.length_replicate]
  have hrow : ∀ v : Nat, v < M → gd (outP (ordA k) (M, l)) (v : Int) = (ordA k).reverse.filter fun p => gd l p == (v : Int) := by
    intro v hv
    have := goOut_row hr (ordA k).reverse (List.replicate M []) hin (by simp) v hv
    rw [gd_replicate (by omega) (by omega), List.nil_append] at this
    exact this
  refine ⟨?_, fun v hv => ?_, fun v hv => ?_, fun pre p post i he hab => ?_⟩
  · have := goOut_perm hr (ordA k).reverse (List.replicate M []) hin (by simp)
    rw [List.flatten_replicate_nil, List.append_nil] at this
    exact this.trans ((List.reverse_perm _).trans hp)
  · rw [hlen] at hv
    rw [hrow v hv, wsum_perm (((List.reverse_perm _).trans hp).filter _), wsum_range]
    have := ha.fit v hv
    unfold lw at this
    rwa [hal] at this
  · rw [hlen] at hv
    rw [hrow v hv]
    refine Nat.le_trans (List.length_filter_le _ _) ?_
    rw [List.length_reverse, hp.length_eq, rangeI_length]
    exact Nat.le_refl _
  · unfold aboveB at hab
    obtain ⟨row, hrw, hg⟩ := List.any_eq_true.1 hab
    obtain ⟨v, hv, e⟩ := List.mem_iff_getElem.1 hrw
    rw [hlen] at hv
    have e2 : gd (outP (ordA k) (M, l)) (v : Int) = row := gd_of (by rw [List.getElem?_eq_getElem (by omega)]; exact congrArg some e)
    rw [hrow v hv] at e2
    rw [he, List.nodup_append] at hnd
    obtain ⟨_, hn2, hn3⟩ := hnd
    have hp1 : p ∉ post := (List.nodup_cons.1 hn2).1
    have hp2 : p ∉ pre := fun h => hn3 p h p List.mem_cons_self rfl
    rw [he, List.reverse_append, List.reverse_cons, List.append_assoc, List.filter_append, List.singleton_append, List.filter_cons] at e2
    by_cases ee : gd l p = (v : Int)
    · rw [ee, show ((v : Int) == (v : Int)) = true by simp, if_pos rfl] at e2
      rw [← e2, aboveGo_at i p _ _ (fun h => hp1 (List.mem_reverse.1 (List.mem_filter.1 h).1))] at hg
      exact List.mem_reverse.1 (List.mem_filter.1 (of_decide_eq_true hg)).1
    · rw [show (gd l p == (v : Int)) = false by simp [ee]] at e2
      rw [← e2, aboveGo_none i p _ (fun h => by
        rcases List.mem_append.1 h with h | h
        · exact hp1 (List.mem_reverse.1 (List.mem_filter.1 h).1)
        · exact hp2 (List.mem_reverse.1 (List.mem_filter.1 h).1))] at hg
      cases hg

/-! ## The loaded kit -/
abbrev ldK (k : Kit) (vans : List (List Int)) : Kit := (k.1, (k.2.1, vans))
theorem ordB_load {k : Kit} {vans : List (List Int)} {room : Int} (hf : Fine k) (hP : Packed k room vans) : ∀ (suf pre : List Int), ordA k = pre ++ suf → ordB (alK k) (goS pre (none0 k)) suf = true → ordB (ldK k vans) (goS pre (none0 k)) suf = true
  | [], _, _, _ => rfl
  | p :: r, pre, he, h => by
    simp only [ordB, Bool.and_eq_true] at h
    obtain ⟨⟨h1, h2⟩, h3⟩ := h
    have ho := (ordA_in hf).1
    have h4 := ordB_load hf hP r (pre ++ [p]) (by rw [he]; simp) (by rw [goS_app]; exact h3)
    rw [goS_app] at h4
    simp only [ordB, Bool.and_eq_true]
    refine ⟨⟨h1, ?_⟩, h4⟩
    unfold canB at h2 ⊢
    show (match k.1[p.toNat]? with
      | some q => !has (goS pre (none0 k)) p && q.2.2.2.all (has (goS pre (none0 k))) && decide (q.1 ≤ k.2.1) && (rangeI k.1.length).all fun i => !aboveB vans i p || has (goS pre (none0 k)) i
      | none => false) = true
    have h2' : (match k.1[p.toNat]? with
      | some q => !has (goS pre (none0 k)) p && q.2.2.2.all (has (goS pre (none0 k))) && decide (q.1 ≤ k.2.1) && (rangeI k.1.length).all fun i => !aboveB (alv k.1.length) i p || has (goS pre (none0 k)) i
      | none => false) = true := h2
    revert h2'
    cases k.1[p.toNat]? with
    | none => exact fun h => h
    | some q =>
      intro h2'
      simp only [Bool.and_eq_true] at h2' ⊢
      refine ⟨h2'.1, ?_⟩
      rw [List.all_eq_true]
      intro i hi
      have hi' := rangeI_mem.1 hi
      cases hab : aboveB vans i p with
      | false => rfl
      | true =>
        have := hP.abv pre p r i he hab
        rw [goS_has pre (none0 k) (by simp) (fun x hx => ho x (by rw [he]; exact List.mem_append_left _ hx)) i hi'.1, dec_t this]
        simp
theorem ldK_small {k : Kit} (hk : Small k) (hf : Fine k) {vans : List (List Int)} {room : Int} (hP : Packed k room vans) (h6 : vans.length ≤ 6) : Small (ldK k vans) := by
  have h16 := hf.parts
  refine ⟨hk.parts, hk.needs, ?_, fun v hv => ?_, ?_⟩
  · show vans.length ≤ _
    omega
  · obtain ⟨i, hi, e⟩ := List.mem_iff_getElem.1 hv
    have hi' : i < vans.length := hi
    have := hP.shrt i hi'
    have e2 : gd vans (i : Int) = v := gd_of (by rw [List.getElem?_eq_getElem hi']; exact congrArg some e)
    rw [e2] at this
    omega
  · show vans.flatten.length ≤ _
    rw [hP.perm.length_eq, rangeI_length]; omega
theorem ldK_order {k : Kit} (hv : valid k = true) {vans : List (List Int)} {room : Int} (hP : Packed k room vans) (h6 : vans.length ≤ 6) (hl : ¬ (ordA k).length < k.1.length) : (orderR (ldK k vans)).2 = 0 := by
  have hf := fine_of k hv
  have hval : valid (ldK k vans) = true := by
    have h := hv
    unfold valid at h ⊢
    simp only [Bool.and_eq_true, decide_eq_true_eq] at h ⊢
    refine ⟨⟨⟨⟨⟨h.1.1.1.1.1, h6⟩, h.1.1.1.2⟩, h.1.1.2⟩, ?_⟩, ?_⟩
    · exact (goodFrom_iff _ _ _).2 ⟨fun x hx => rangeI_mem.1 (hP.perm.mem_iff.1 hx), hP.perm.nodup_iff.2 (rangeI_nodup _), fun x _ h => by cases h⟩
    · show vans.flatten.length = k.1.length
      rw [hP.perm.length_eq, rangeI_length]
  have hord : ordB (ldK k vans) (none0 k) (ordA k) = true := ordB_load hf hP (ordA k) [] rfl (finO_first (alK k)).ord
  have hfl := (finO_len (ldK k vans)).1
  obtain ⟨h1, _⟩ := ordB_sub (finO_stuck (ldK k vans)) hfl (s := none0 k) (by simp) (fun q _ _ h => by rw [none0_has] at h; cases h) hord
  have hc := finO_count (ldK k vans)
  have hz : (finO (ldK k vans)).2.count false = 0 := by
    rcases Nat.eq_zero_or_pos ((finO (ldK k vans)).2.count false) with h0 | h0
    · exact h0
    · obtain ⟨i, hi, e⟩ := has_mem.1 (List.count_pos_iff.1 h0)
      have hi' : i < k.1.length := by rw [hfl] at hi; exact hi
      have := h1 (i : Int) ((ordA_perm hf hl).mem_iff.2 (rangeI_mem.2 ⟨by omega, by omega⟩))
      rw [e] at this
      cases this
  rcases orderR_cases (ldK k vans) with ⟨h, _⟩ | ⟨_, h, _⟩ | ⟨_, _, h⟩
  · rw [hval] at h; cases h
  · omega
  · rw [h]
end Go.Proofs.Try.V
