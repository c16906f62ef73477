/- Plain laws of layer 8, eleventh part: Longest returns what the document specifies. No condition beyond those typed in each theorem. -/
import Derived.Test.YtjhphibadndkcaaLw10
namespace Go.Proofs.Try.V
open Go.Vi
set_option maxRecDepth 100000

def needsOf (k : Kit) (p : Int) : List Int := match k.1[p.toNat]? with
  | some q => q.2.2.2
  | none => []
/-! ## The order's parts find what they wait for -/
structure RunOK (k : Kit) (x : OSt) : Prop where
  nodup : x.1.Nodup
  rng : ∀ p ∈ x.1, 0 ≤ p ∧ p < k.1.length
  len : x.2.length = k.1.length
  mem : ∀ q : Int, 0 ≤ q → q < k.1.length → has x.2 q = decide (q ∈ x.1)
  ok : ∀ pre p post, x.1 = pre ++ p :: post → (∀ y ∈ needsOf k p, y ∈ pre) ∧ ∀ i : Int, 0 ≤ i → i < k.1.length → aboveB k.2.2 i p = true → i ∈ pre

theorem needs_in {k : Kit} (hf : Fine k) {p : Int} (h0 : 0 ≤ p) (_hp : p < k.1.length) : ∀ y ∈ needsOf k p, 0 ≤ y ∧ y < k.1.length ∧ y ≠ p := by
  unfold needsOf
  split
  · rename_i q hq
    have := needsOK_in (by omega) (hf.each _ _ hq).2.2.2
    intro y hy
    have := this y hy
    omega
  · simp

theorem putO_ok {k : Kit} (hf : Fine k) {x : OSt} (h : RunOK k x) {p : Nat} (hp : p < k.1.length) (hc : canB k x.2 (p : Int) = true) : RunOK k (putO x p) := by
  have hnot : (p : Int) ∉ x.1 := by
    have := canB_has hc
    rw [h.mem (p : Int) (by omega) (by omega)] at this
    exact of_decide_eq_false this
  have hc' := hc
  unfold canB at hc'
  split at hc'
  case h_2 => cases hc'
  rename_i q hq
  simp only [Bool.and_eq_true, List.all_eq_true, Bool.or_eq_true, Bool.not_eq_true', decide_eq_true_eq] at hc'
  obtain ⟨⟨⟨_, hn⟩, _⟩, ha⟩ := hc'
  have hnq : needsOf k (p : Int) = q.2.2.2 := by unfold needsOf; rw [hq]
  refine ⟨?_, ?_, by simp [putO, h.len], ?_, ?_⟩
  · unfold putO
    rw [List.nodup_append]
    exact ⟨h.nodup, by simp, fun a ha' b hb e => by simp at hb; subst hb; subst e; exact hnot ha'⟩
  · intro y hy
    rcases List.mem_append.1 hy with hy | hy
    · exact h.rng y hy
    · simp at hy; omega
  · intro y h0 hy
    unfold putO
    by_cases e : y = p
    · subst e
      rw [dec_t (by simp)]
      unfold has
      rw [List.getD_eq_getElem?_getD]
      simp only [Int.toNat_natCast]
      rw [List.getElem?_set_self (by rw [h.len]; exact hp)]
      rfl
    · dsimp only
      rw [has_set h0 e, h.mem y h0 hy]
      simp [e]
  · intro pre p' post e
    rcases List.eq_nil_or_concat post with rfl | ⟨post', z, rfl⟩
    · have e' : x.1 ++ [(p : Int)] = pre ++ [p'] := e
      have h1 := List.append_inj' e' rfl
      obtain ⟨rfl, h2⟩ := h1
      have : p' = p := by simpa using h2.symm
      subst this
      refine ⟨fun y hy => ?_, fun i h0 hi hab => ?_⟩
      · have hr := needs_in hf (by omega) (by omega) y hy
        have := hn y (by rw [← hnq]; exact hy)
        rw [h.mem y hr.1 hr.2.1] at this
        exact of_decide_eq_true this
      · rcases ha i (rangeI_mem.2 ⟨h0, hi⟩) with h3 | h3
        · rw [hab] at h3; cases h3
        · rw [h.mem i h0 hi] at h3
          exact of_decide_eq_true h3
    · have e' : x.1 ++ [(p : Int)] = (pre ++ p' :: post') ++ [z] := by
        have : x.1 ++ [(p : Int)] = pre ++ p' :: (post' ++ [z]) := by simpa [putO] using e
        rw [this]
        simp
      exact h.ok pre p' post' (List.append_inj' e' rfl).1
theorem runO_ok {k : Kit} (hf : Fine k) : ∀ (m : Nat) (x : OSt), RunOK k x → RunOK k (runO k m x)
  | 0, _, h => h
  | m + 1, x, h => by
    rw [runO]
    refine runO_ok hf m _ ?_
    unfold stepO
    split
    · rename_i p hp
      obtain ⟨_, h2, h3⟩ := firstP_some hp
      exact putO_ok hf h (by omega) h3
    · exact h
theorem finO_ok {k : Kit} (hf : Fine k) : RunOK k (finO k) := by
  refine runO_ok hf _ _ ⟨by simp [startO], by simp [startO], by simp [startO], ?_, ?_⟩
  · intro q h0 hq
    rw [dec_f (by simp [startO])]
    unfold has startO
    rw [List.getD_eq_getElem?_getD, List.getElem?_replicate]
    split <;> rfl
  · intro pre p post e
    simp [startO] at e

/-! ## The part that lies next above -/
def nextGo (p other : Int) : List Int → Bool
  | x :: y :: r => (x == p && y == other) || nextGo p other (y :: r)
  | _ => false
def nextB (vans : List (List Int)) (p other : Int) : Bool := vans.any (nextGo p other)
theorem nextGo_none {p other : Int} : ∀ {l : List Int}, p ∉ l → nextGo p other l = false
  | [], _ => rfl
  | [_], _ => rfl
  | x :: y :: r, h => by
    simp only [List.mem_cons, not_or] at h
    rw [nextGo, nextGo_none (l := y :: r) (by simp only [List.mem_cons, not_or]; exact h.2)]
    rw [show (x == p) = false by simp only [beq_eq_false_iff_ne, ne_eq]; exact fun e => h.1 e.symm]
    rfl
theorem nextGo_at {p other : Int} {post : List Int} (hpost : p ∉ post) : ∀ {pre : List Int}, p ∉ pre → nextGo p other (pre ++ p :: post) = decide (post.head? = some other)
  | [], _ => by
    cases post with
    | nil => rfl
    | cons y r =>
      rw [List.nil_append, nextGo, beq_self_eq_true, Bool.true_and, nextGo_none hpost, Bool.or_false]
      rw [Bool.eq_iff_iff]
      simp
  | [x], h => by
    simp only [List.mem_cons, not_or] at h
    have h0 := nextGo_at (other := other) hpost (pre := []) (by simp)
    rw [List.nil_append] at h0
    rw [List.singleton_append, nextGo, h0]
    rw [show (x == p) = false by simp only [beq_eq_false_iff_ne, ne_eq]; exact fun e => h.1 e.symm]
    rfl
  | x :: y :: pre, h => by
    simp only [List.mem_cons, not_or] at h
    have ih := nextGo_at (other := other) hpost (pre := y :: pre) (by simp only [List.mem_cons, not_or]; exact h.2)
    rw [List.cons_append, List.cons_append, nextGo]
    rw [show (x == p) = false by simp only [beq_eq_false_iff_ne, ne_eq]; exact fun e => h.1 e.symm, Bool.false_and, Bool.false_or]
    exact ih
theorem Fine.next {k : Kit} (h : Fine k) {p : Int} {pre post : List Int} (hd : (pre, p, post) ∈ allSpots k.2.2) : (∀ other, nextB k.2.2 p other = decide (post.head? = some other)) ∧ ∀ high, aboveB k.2.2 high p = decide (high ∈ post) := by
  obtain ⟨van, hvan, hdv⟩ := List.mem_flatMap.1 hd
  have hpp : pre ++ p :: post = van := by simpa using spots_mem van [] hdv
  obtain ⟨A, B, hAB⟩ := List.append_of_mem hvan
  have hn := h.nodup
  rw [hAB, List.flatten_append, List.flatten_cons, ← hpp, List.nodup_append] at hn
  obtain ⟨_, hn2, hd⟩ := hn
  rw [List.nodup_append] at hn2
  obtain ⟨hn3, _, hd2⟩ := hn2
  rw [List.nodup_append] at hn3
  obtain ⟨_, hn4, hd3⟩ := hn3
  rw [List.nodup_cons] at hn4
  have hA : ∀ v ∈ A, p ∉ v := fun v hv hpv => hd p (List.mem_flatten.2 ⟨v, hv, hpv⟩) p (by simp) rfl
  have hB : ∀ v ∈ B, p ∉ v := fun v hv hpv => hd2 p (by simp) p (List.mem_flatten.2 ⟨v, hv, hpv⟩) rfl
  have hpre : p ∉ pre := fun hq => hd3 p hq p List.mem_cons_self rfl
  refine ⟨fun other => ?_, fun high => ?_⟩
  · unfold nextB
    rw [hAB, List.any_append, List.any_cons, ← hpp, nextGo_at hn4.1 hpre]
    rw [List.any_eq_false.2 (fun v hv => by rw [nextGo_none (hA v hv)]; simp), List.any_eq_false.2 (fun v hv => by rw [nextGo_none (hB v hv)]; simp)]
    simp
  · unfold aboveB
    rw [hAB, List.any_append, List.any_cons, ← hpp, aboveGo_at high p post pre hpre]
    rw [List.any_eq_false.2 (fun v hv => by rw [aboveGo_none high p v (hA v hv)]; simp), List.any_eq_false.2 (fun v hv => by rw [aboveGo_none high p v (hB v hv)]; simp)]
    simp

/-! ## Whether a part waits for another one -/
def waitsB (k : Kit) (p other : Int) : Bool := (needsOf k p).any (· == other) || nextB k.2.2 p other
theorem L59_3_eq' (k : Kit) (p other : Int) (l : List Int) (hl : l.length ≤ 1048576) : ∀ (r pre : List Int) (N : Nat), l = pre ++ r → r.length < N →
    L59_3 N ((p, other, l, (pre.length : Int), ()), (k, ()), ()) = some (cond (r.any (· == other)) (.inl ((true, ()), (), ())) (.inr ((p, other, ()), (k, ()), ())))
  | [], pre, N, hpr, hN => by
    obtain ⟨n, rfl⟩ := pos_of_lt hN
    simp only [L59_3, B59_3]
    rw [hpr]
    simp
  | x :: r, pre, N, hpr, hN => by
    obtain ⟨n, rfl⟩ := pos_of_lt hN
    simp only [List.length_cons] at hN
    have hlt : ((pre.length : Nat) : Int) < (l.length : Int) := by rw [hpr]; exact lt_app pre x r
    have hget : ∀ {R : Type} (kk : Int → Option R), getI l (pre.length : Int) kk = kk x := fun kk => by rw [hpr]; exact getI_app pre x r kk rfl
    have ih := L59_3_eq' k p other l hl r (pre ++ [x]) n (by rw [hpr]; simp) (by omega)
    rw [len_app] at ih
    simp only [L59_3, B59_3]
    rw [dec_t hlt, cond_true, hget, w64 (by omega) (by omega), List.any_cons]
    cases x == other with
    | true => rfl
    | false => exact ih
theorem L59_11_eq' (k : Kit) (p other v : Int) (van : List Int) (hv0 : 0 ≤ v) (hv : k.2.2[v.toNat]? = some van) (hl : van.length ≤ 1048576) : ∀ (r pre : List Int) (N : Nat), van = pre ++ r → r.length < N →
    L59_11 N ((p, other, v, (pre.length : Int), ()), (k, ()), ()) = some (cond (nextGo p other r) (.inl ((true, ()), (), ())) (.inr ((p, other, v, ()), (k, ()), ())))
  | [], pre, N, hpr, hN => by
    obtain ⟨n, rfl⟩ := pos_of_lt hN
    have hpl : pre.length = van.length := by rw [hpr]; simp
    simp only [L59_11, B59_11, getI_some hv0 hv]
    rw [w64 (by omega) (by omega), dec_f (by omega)]
    rfl
  | [x], pre, N, hpr, hN => by
    obtain ⟨n, rfl⟩ := pos_of_lt hN
    have hpl : pre.length + 1 = van.length := by rw [hpr]; simp
    simp only [L59_11, B59_11, getI_some hv0 hv]
    rw [w64 (by omega) (by omega), dec_f (by omega)]
    rfl
  | x :: y :: r, pre, N, hpr, hN => by
    obtain ⟨n, rfl⟩ := pos_of_lt hN
    simp only [List.length_cons] at hN
    have hpl : pre.length + (r.length + 2) = van.length := by rw [hpr]; simp
    have hget : ∀ {R : Type} (kk : Int → Option R), getI van (pre.length : Int) kk = kk x := fun kk => by rw [hpr]; exact getI_app pre x (y :: r) kk rfl
    have hget2 : ∀ {R : Type} (kk : Int → Option R), getI van ((pre.length : Int) + 1) kk = kk y := fun kk => by
      rw [hpr, ← app_app]
      exact getI_app (pre ++ [x]) y r kk (by simp)
    have ih := L59_11_eq' k p other v van hv0 hv hl (y :: r) (pre ++ [x]) n (by rw [hpr]; simp) (by simp; omega)
    rw [len_app] at ih
    simp only [L59_11, B59_11, getI_some hv0 hv]
    rw [w64 (by omega) (by omega), dec_t (by omega), cond_true, hget]
    simp only [hget2, nextGo]
    cases x == p with
    | false => exact ih
    | true =>
      cases y == other with
      | true => rfl
      | false => exact ih
theorem L59_8_eq' (k : Kit) (p other : Int) (hvl : k.2.2.length ≤ 1048576) (hl : ∀ v ∈ k.2.2, v.length ≤ 1048576) : ∀ (r pre : List (List Int)) (N : Nat), k.2.2 = pre ++ r → r.length + 1048577 < N →
    L59_8 N ((p, other, (pre.length : Int), ()), (k, ()), ()) = some (cond (nextB r p other) (.inl ((true, ()), (), ())) (.inr ((), (), ())))
  | [], pre, N, hpr, hN => by
    obtain ⟨n, rfl⟩ := pos_of_lt hN
    simp only [L59_8, B59_8]
    rw [hpr]
    simp [nextB]
  | x :: r, pre, N, hpr, hN => by
    obtain ⟨n, rfl⟩ := pos_of_lt hN
    simp only [List.length_cons] at hN
    have hlt : ((pre.length : Nat) : Int) < (k.2.2.length : Int) := by rw [hpr]; exact lt_app pre x r
    have hx := hl x (by rw [hpr]; simp)
    have ih := L59_8_eq' k p other hvl hl r (pre ++ [x]) n (by rw [hpr]; simp) (by omega)
    rw [len_app] at ih
    have hin := L59_11_eq' k p other (pre.length : Int) x (by omega) (by rw [hpr]; simp) hx x [] n rfl (by omega)
    have hin' : L59_11 n ((p, other, (pre.length : Int), 0, ()), (k, ()), ()) = _ := hin
    simp only [L59_8, B59_8]
    rw [dec_t hlt, cond_true, hin', derefK_some]
    unfold nextB at ih ⊢
    rw [List.any_cons]
    cases nextGo p other x with
    | true => rfl
    | false =>
      simp only [cond_false, sumK_inr, Bool.false_or]
      rw [w64 (x := (pre.length : Int) + 1) (by omega) (by omega)]
      exact ih
theorem g59_eq (k : Kit) (hk : Small k) (p other : Int) (h0 : 0 ≤ p) (hp : p < k.1.length) : g59 (k, p, other, ()) = some ((waitsB k p other, ()), ()) := by
  have hF : g59 (k, p, other, ()) = F59 fuel k p other := rfl
  have hq : k.1[p.toNat]? = some (k.1[p.toNat]'(by omega)) := List.getElem?_eq_getElem (by omega)
  generalize k.1[p.toNat]'(by omega) = q at hq
  have hnl := hk.needs q (List.mem_of_getElem? hq)
  rw [hF]
  unfold F59 waitsB needsOf
  rw [getI_some h0 hq, hq]
  have h1 := L59_3_eq' k p other q.2.2.2 hnl q.2.2.2 [] fuel rfl (by have := fuel_big; omega)
  have h1' : L59_3 fuel ((p, other, q.2.2.2, 0, ()), (k, ()), ()) = _ := h1
  rw [h1', derefK_some]
  cases q.2.2.2.any (· == other) with
  | true => rfl
  | false =>
    simp only [cond_false, sumK_inr, Bool.false_or]
    have h2 := L59_8_eq' k p other hk.vans hk.van k.2.2 [] fuel rfl (by have := fuel_big; have := hk.vans; omega)
    have h2' : L59_8 fuel ((p, other, 0, ()), (k, ()), ()) = _ := h2
    rw [h2', derefK_some]
    cases nextB k.2.2 p other <;> rfl
end Go.Proofs.Try.V
