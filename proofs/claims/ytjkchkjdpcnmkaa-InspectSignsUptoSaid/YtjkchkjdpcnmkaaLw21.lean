/- Plain laws of layer 10, twenty-first part: InspectSigns. No condition beyond those typed in each theorem. -/
import Derived.Test.YtjkchkjdpcnmkaaLw20
namespace Go.Proofs.Try.V
open Go.Vi
set_option maxRecDepth 100000

def innS (b : Book) (rule f : Int) (out : List (List Int)) : Nat → List (List Int)
  | 0 => out
  | j + 1 => if signsB b rule f ((j : Int) - 1) then innS b rule f out j ++ [[f, (j : Int) - 1]] else innS b rule f out j
theorem innS_succ (b : Book) (rule f : Int) (out : List (List Int)) (j : Nat) : innS b rule f out (j + 1) = if signsB b rule f ((j : Int) - 1) then innS b rule f out j ++ [[f, (j : Int) - 1]] else innS b rule f out j := rfl
theorem innS_len (b : Book) (rule f : Int) (out : List (List Int)) : ∀ j, (innS b rule f out j).length ≤ out.length + j
  | 0 => Nat.le_refl _
  | j + 1 => by
    have := innS_len b rule f out j
    rw [innS_succ]
    split
    · simp
      omega
    · omega
def outS (b : Book) (rule : Int) : Nat → List (List Int)
  | 0 => []
  | n + 1 => innS b rule (n : Int) (outS b rule n) (b.2.1.length + 1)
theorem ranks8 {b : Book} (h : bookOK b = true) : b.2.1.length ≤ 8 := by
  simp only [bookOK, sizesOK, Bool.and_eq_true, decide_eq_true_eq] at h
  omega
theorem outS_len {b : Book} (h : bookOK b = true) (rule : Int) : ∀ n, (outS b rule n).length ≤ 9 * n
  | 0 => Nat.le_refl _
  | n + 1 => by
    have h1 := outS_len h rule n
    have h2 := innS_len b rule (n : Int) (outS b rule n) (b.2.1.length + 1)
    have h3 := ranks8 h
    show (innS b rule (n : Int) (outS b rule n) (b.2.1.length + 1)).length ≤ _
    omega
def signsR (b : Book) (rule : Int) : List (List Int) × Int := if bookOK b then (if ruleB b rule then (outS b rule b.2.1.length, 0) else ([], 1)) else ([], 100)
theorem L36_11_at (b : Book) (hb : bookOK b = true) (rule : Int) (hr : ruleB b rule = true) (f t u : Int) (out : List (List Int)) (ho : out.length ≤ 1000) (N : Nat) (hN : 10 < N) :
    L36_11 N ((rule, f, -1, t, u, ()), (b, out, (b, []), ()), ()) = some ((rule, t, u, ()), (b, innS b rule f out (b.2.1.length + 1), (b, []), ()), ()) := by
  have h8 := ranks8 hb
  have e := loopF (L := L36_11) (fun j => ((rule, f, (j : Int) - 1, t, u, ()), (b, innS b rule f out j, (b, []), ()), ())) ((rule, t, u, ()), (b, innS b rule f out (b.2.1.length + 1), (b, []), ()), ()) 0 (b.2.1.length + 1) (N := N) (by omega)
    (fun N => by
      simp only [L36_11, B36_11]
      rw [dec_f (by omega)]
      rfl)
    (fun N j _ hj => by
      have hl := innS_len b rule f out j
      simp only [L36_11, B36_11]
      rw [dec_t (by omega), cond_true, g64_eq b _ _ _ _ (sized_of hb) hr, derefK_some, lenK_in (by simp; omega) (by simp; omega), wI (by omega) (by omega), innS_succ, show (j : Int) - 1 + 1 = ((j + 1 : Nat) : Int) - 1 by omega]
      cases signsB b rule f ((j : Int) - 1) <;> rfl)
  exact e
theorem g36_eq (b : Book) (rule : Int) : g36 (b, rule, ()) = some (((signsR b rule).1, (signsR b rule).2, ()), ()) := by
  show F36 fuel b rule = _
  unfold F36 signsR
  rw [g60_eq, derefK_some]
  cases hb : bookOK b with
  | false => rfl
  | true =>
  have hs := sized_of hb
  have h1 := hs.rules
  have h8 := ranks8 hb
  simp only [if_true]
  rw [wI (by omega) (by omega), g62_eq, derefK_some]
  show cond (!ruleB b rule) _ _ = _
  cases hr : ruleB b rule with
  | false => rfl
  | true =>
  have e := loopF (L := L36_8) (fun i => ((rule, (b.2.1.length : Int), (i : Int), ()), (b, outS b rule i, (b, []), ()), ())) ((), (outS b rule b.2.1.length, ()), ()) 11 b.2.1.length (N := fuel) (by have := fuel_ge; omega)
    (fun N => by simp [L36_8, B36_8])
    (fun N i hN hi => by
      have hl := outS_len hb rule i
      simp only [L36_8, B36_8]
      rw [dec_t (by omega), cond_true, L36_11_at b hb rule hr _ _ _ _ (by omega) N (by omega), derefK_some]
      dsimp only
      rw [wI (by omega) (by omega)]
      rfl)
  have e' : L36_8 fuel ((rule, (b.2.1.length : Int), 0, ()), (b, [], (b, []), ()), ()) = _ := e
  show derefK (L36_8 fuel ((rule, (b.2.1.length : Int), 0, ()), (b, [], (b, []), ()), ())) _ = _
  rw [e']
  rfl
theorem L37_11_at (b : Book) (hb : bookOK b = true) (rule : Int) (hr : ruleB b rule = true) (f : Int) (out : List (List Int)) (ho : out.length ≤ 1000) (N : Nat) (hN : 10 < N) :
    L37_11 N ((rule, f, -1, ()), (b, out, ()), ()) = some ((rule, f, ()), (b, innS b rule f out (b.2.1.length + 1), ()), ()) := by
  have h8 := ranks8 hb
  have e := loopF (L := L37_11) (fun j => ((rule, f, (j : Int) - 1, ()), (b, innS b rule f out j, ()), ())) ((rule, f, ()), (b, innS b rule f out (b.2.1.length + 1), ()), ()) 0 (b.2.1.length + 1) (N := N) (by omega)
    (fun N => by
      simp only [L37_11, B37_11]
      rw [dec_f (by omega)]
      rfl)
    (fun N j _ hj => by
      have hl := innS_len b rule f out j
      simp only [L37_11, B37_11]
      rw [dec_t (by omega), cond_true, g65_eq b _ _ _ (sized_of hb) hr, derefK_some, lenK_in (by simp; omega) (by simp; omega), wI (by omega) (by omega), innS_succ, show (j : Int) - 1 + 1 = ((j + 1 : Nat) : Int) - 1 by omega]
      cases signsB b rule f ((j : Int) - 1) <;> rfl)
  exact e
theorem g37_eq (b : Book) (rule : Int) : g37 (b, rule, ()) = some (((signsR b rule).1, (signsR b rule).2, ()), ()) := by
  show F37 fuel b rule = _
  unfold F37 signsR
  rw [g45_eq, derefK_some]
  cases hb : bookOK b with
  | false => rfl
  | true =>
  have hs := sized_of hb
  have h1 := hs.rules
  have h8 := ranks8 hb
  simp only [if_true]
  rw [wI (by omega) (by omega), g63_eq, derefK_some]
  show cond (!ruleB b rule) _ _ = _
  cases hr : ruleB b rule with
  | false => rfl
  | true =>
  have e := loopF (L := L37_8) (fun i => ((rule, (i : Int), ()), (b, outS b rule i, ()), ())) ((), (outS b rule b.2.1.length, ()), ()) 11 b.2.1.length (N := fuel) (by have := fuel_ge; omega)
    (fun N => by simp [L37_8, B37_8])
    (fun N i hN hi => by
      have hl := outS_len hb rule i
      simp only [L37_8, B37_8]
      rw [dec_t (by omega), cond_true, L37_11_at b hb rule hr _ _ (by omega) N (by omega), derefK_some]
      dsimp only
      rw [wI (by omega) (by omega)]
      rfl)
  have e' : L37_8 fuel ((rule, 0, ()), (b, [], ()), ()) = _ := e
  show derefK (L37_8 fuel ((rule, 0, ()), (b, [], ()), ())) _ = _
  rw [e']
  rfl

/-! ## All pairs -/
theorem signs_out {b : Book} {rule f s : Int} (h : signsB b rule f s = true) : (0 ≤ f ∧ f < b.2.1.length) ∧ (-1 ≤ s ∧ s < b.2.1.length) := by
  unfold signsB at h
  split at h
  · simp only [Bool.and_eq_true] at h
    have := may_in h.1.1
    have := may_in h.1.2
    omega
  · rw [Bool.and_eq_true, beq_iff_eq] at h
    have := may_in h.1
    omega
def extO (b : Book) (rule : Int) : Nat → List (List Int)
  | 0 => []
  | i + 1 => innS b rule ((i : Int) - 1) (extO b rule i) (b.2.1.length + 2)
theorem innS_nil {b : Book} {rule f : Int} (h : ∀ s, signsB b rule f s = false) (out : List (List Int)) : ∀ j, innS b rule f out j = out
  | 0 => rfl
  | j + 1 => by rw [innS_succ, h, if_neg (by simp), innS_nil h out j]
theorem innS_more (b : Book) (rule f : Int) (out : List (List Int)) : innS b rule f out (b.2.1.length + 2) = innS b rule f out (b.2.1.length + 1) := by
  rw [show b.2.1.length + 2 = (b.2.1.length + 1) + 1 from rfl, innS_succ]
  cases h : signsB b rule f (((b.2.1.length + 1 : Nat) : Int) - 1) with
  | false => rfl
  | true =>
    have := (signs_out h).2
    omega
theorem signs_false {b : Book} {rule f : Int} (h : f < 0 ∨ (b.2.1.length : Int) ≤ f) (s : Int) : signsB b rule f s = false := by
  cases hs : signsB b rule f s with
  | false => rfl
  | true =>
    have := (signs_out hs).1
    omega
theorem extO_out (b : Book) (rule : Int) : ∀ n, extO b rule (n + 1) = outS b rule n
  | 0 => innS_nil (fun s => signs_false (.inl (by decide)) s) [] _
  | n + 1 => by
    show innS b rule (((n + 1 : Nat) : Int) - 1) (extO b rule (n + 1)) (b.2.1.length + 2) = innS b rule (n : Int) (outS b rule n) (b.2.1.length + 1)
    rw [extO_out b rule n, innS_more, show ((n + 1 : Nat) : Int) - 1 = (n : Int) by omega]
theorem extO_all (b : Book) (rule : Int) : extO b rule (b.2.1.length + 2) = outS b rule b.2.1.length := by
  show innS b rule (((b.2.1.length + 1 : Nat) : Int) - 1) (extO b rule (b.2.1.length + 1)) (b.2.1.length + 2) = _
  rw [innS_nil (fun s => signs_false (.inr (by omega)) s), extO_out]
theorem innS_pre (b : Book) (rule f : Int) (out : List (List Int)) (j : Nat) : ∀ d, innS b rule f out j <+: innS b rule f out (j + d)
  | 0 => List.prefix_refl _
  | d + 1 => by
    refine (innS_pre b rule f out j d).trans ?_
    rw [show j + (d + 1) = (j + d) + 1 from rfl, innS_succ]
    split
    · exact List.prefix_append _ _
    · exact List.prefix_refl _
theorem extO_pre (b : Book) (rule : Int) (i : Nat) : ∀ d, extO b rule i <+: extO b rule (i + d)
  | 0 => List.prefix_refl _
  | d + 1 => (extO_pre b rule i d).trans (by
    have := innS_pre b rule (((i + d : Nat) : Int) - 1) (extO b rule (i + d)) 0 (b.2.1.length + 2)
    rw [Nat.zero_add] at this
    exact this)
theorem inn_all {b : Book} {rule : Int} {i j : Nat} (hi : i < b.2.1.length + 2) (hj : j ≤ b.2.1.length + 2) : innS b rule ((i : Int) - 1) (extO b rule i) j <+: outS b rule b.2.1.length := by
  rw [← extO_all]
  have h1 := innS_pre b rule ((i : Int) - 1) (extO b rule i) j (b.2.1.length + 2 - j)
  have h2 := extO_pre b rule (i + 1) (b.2.1.length + 2 - (i + 1))
  rw [show j + (b.2.1.length + 2 - j) = b.2.1.length + 2 by omega] at h1
  rw [show i + 1 + (b.2.1.length + 2 - (i + 1)) = b.2.1.length + 2 by omega] at h2
  exact h1.trans h2
theorem innS_mem {b : Book} {rule f : Int} {out : List (List Int)} (ho : ∀ p ∈ out, ∃ f s, p = [f, s] ∧ signsB b rule f s = true) : ∀ j, ∀ p ∈ innS b rule f out j, ∃ f s, p = [f, s] ∧ signsB b rule f s = true
  | 0 => ho
  | j + 1 => fun p hp => by
    rw [innS_succ] at hp
    split at hp
    · rename_i h
      rcases List.mem_append.1 hp with hp | hp
      · exact innS_mem ho j p hp
      · exact ⟨_, _, List.mem_singleton.1 hp, h⟩
    · exact innS_mem ho j p hp
theorem outS_mem {b : Book} {rule : Int} : ∀ n, ∀ p ∈ outS b rule n, ∃ f s, p = [f, s] ∧ signsB b rule f s = true
  | 0 => fun p hp => by cases hp
  | n + 1 => innS_mem (outS_mem n) _
theorem pre_gd {l r : List (List Int)} {y : List Int} (h : l ++ [y] <+: r) : l.length < r.length ∧ gd r (l.length : Int) = y := by
  obtain ⟨t, ht⟩ := h
  rw [← ht]
  refine ⟨by simp, ?_⟩
  rw [List.append_assoc]
  exact gd_app_end rfl
theorem chk1 {b : Book} (hb : bookOK b = true) {rule : Int} (hr : ruleB b rule = true) (f s : Int) : ((checkR b [(0, 1, rule, f, s)]).2 == 0) = signsB b rule f s := by
  have hright : rightB b [] (0, 1, rule, f, s) = signsB b rule f s := by
    show (rng 0 0 10000 && (ruleB b rule && signsB b rule f s)) = _
    rw [hr]
    rfl
  cases h : signsB b rule f s with
  | true =>
    have : Good b [(0, 1, rule, f, s)] := ⟨hb, by simp, fun i hi => by
      obtain rfl : i = 0 := by simpa using hi
      exact hright.trans h⟩
    rw [good_iff this]
    rfl
  | false =>
    refine beq_eq_false_iff_ne.2 fun hc => ?_
    have := (good_of hc).right 0 (by simp)
    have e : rightB b [] (0, 1, rule, f, s) = true := this
    rw [hright, h] at e
    cases e
theorem L11_17_at (b : Book) (hb : bookOK b = true) (rule : Int) (hr : ruleB b rule = true) (i : Nat) (hi : i < b.2.1.length + 2) (N : Nat) (hN : 11 < N) :
    L11_17 N ((rule, ((extO b rule i).length : Int), (i : Int) - 1, -1, ()), (b, outS b rule b.2.1.length, ()), ()) = some (.inr ((rule, ((extO b rule (i + 1)).length : Int), (i : Int) - 1, ()), (b, outS b rule b.2.1.length, ()), ())) := by
  have h8 := ranks8 hb
  have hol := outS_len hb rule b.2.1.length
  have e := loopF (L := L11_17) (fun j => ((rule, ((innS b rule ((i : Int) - 1) (extO b rule i) j).length : Int), (i : Int) - 1, (j : Int) - 1, ()), (b, outS b rule b.2.1.length, ()), ())) (.inr ((rule, ((extO b rule (i + 1)).length : Int), (i : Int) - 1, ()), (b, outS b rule b.2.1.length, ()), ())) 0 (b.2.1.length + 2) (N := N) (by omega)
    (fun N => by
      simp only [L11_17, B11_17]
      rw [dec_f (by omega)]
      rfl)
    (fun N j _ hj => by
      have hp := inn_all (rule := rule) hi (j := j) (by omega)
      have hp2 := inn_all (rule := rule) hi (j := j + 1) (by omega)
      have hpl := hp.length_le
      simp only [L11_17, B11_17]
      rw [dec_t (by omega), cond_true, wI (x := (j : Int) - 1 + 1) (by omega) (by omega), wI (x := ((innS b rule ((i : Int) - 1) (extO b rule i) j).length : Int) + 1) (by omega) (by omega), g18_eq, show (j : Int) - 1 + 1 = ((j + 1 : Nat) : Int) - 1 by omega]
      simp only [derefK_some]
      rw [chk1 hb hr, innS_succ] at *
      generalize hpre : innS b rule ((i : Int) - 1) (extO b rule i) j = pre at *
      cases hs : signsB b rule ((i : Int) - 1) ((j : Int) - 1) with
      | true =>
        rw [hs, if_pos rfl] at hp2
        obtain ⟨h1, h2⟩ := pre_gd hp2
        rw [dec_t (by omega), cond_true, inR_in (by omega) (by omega), getI_gd (by omega) (by omega), h2]
        have : eqL [(i : Int) - 1, (j : Int) - 1] [(i : Int) - 1, (j : Int) - 1] = true := beq_self_eq_true _
        rw [this, if_pos rfl, List.length_append, List.length_singleton]
        rfl
      | false =>
        rw [if_neg (by simp)]
        by_cases hlt : (pre.length : Int) < ((outS b rule b.2.1.length).length : Int)
        · rw [dec_t hlt, cond_true, inR_in (by omega) (by omega), getI_gd (by omega) (by omega)]
          have : eqL (gd (outS b rule b.2.1.length) (pre.length : Int)) [(i : Int) - 1, (j : Int) - 1] = false := by
            refine beq_eq_false_iff_ne.2 fun hc => ?_
            obtain ⟨f, s, h1, h2⟩ := outS_mem _ _ (gd_mem (l := outS b rule b.2.1.length) (i := (pre.length : Int)) (by omega) (by omega))
            rw [h1] at hc
            simp only [List.cons.injEq, and_true] at hc
            rw [hc.1, hc.2, hs] at h2
            cases h2
          rw [this]
          rfl
        · rw [dec_f hlt]
          rfl)
  exact e
theorem law11 (b : Book) (rule : Int) : g11 (b, rule, ()) = some ((true, ()), ()) := by
  show F11 fuel b rule = _
  unfold F11
  rw [g36_eq, derefK_some, g37_eq, derefK_some, works_eq]
  have e0 : ((signsR b rule).2 != (signsR b rule).2) = false := by simp
  have e1 : (((signsR b rule).1.length : Int) != ((signsR b rule).1.length : Int)) = false := by simp
  have hlen : (signsR b rule).1.length ≤ 1000 := by
    unfold signsR
    split
    · rename_i hb
      have := ranks8 hb
      split
      · have := outS_len hb rule b.2.1.length
        show (outS b rule b.2.1.length).length ≤ 1000
        omega
      · simp
    · simp
  have e6 := loopF (L := L11_6) (fun i => ((rule, (signsR b rule).2, (i : Int), ()), (b, (signsR b rule).1, (signsR b rule).1, ()), ())) (.inr ((rule, (signsR b rule).2, ()), (b, (signsR b rule).1, ()), ())) 0 (signsR b rule).1.length (N := fuel) (by have := fuel_ge; omega)
    (fun N => by simp [L11_6, B11_6])
    (fun N i _ hi => by
      simp only [L11_6, B11_6]
      rw [dec_t (by omega), cond_true, inR_in (by omega) (by omega), getI_gd (by omega) (by omega), inR_in (by omega) (by omega), getI_gd (by omega) (by omega), wI (by omega) (by omega)]
      have : eqL (gd (signsR b rule).1 (i : Int)) (gd (signsR b rule).1 (i : Int)) = true := beq_self_eq_true _
      rw [this]
      rfl)
  have e6' : L11_6 fuel ((rule, (signsR b rule).2, 0, ()), (b, (signsR b rule).1, (signsR b rule).1, ()), ()) = _ := e6
  dsimp only
  rw [e0, e1, cond_false, cond_false, e6', derefK_some, sumK_inr]
  dsimp only
  by_cases hz : (signsR b rule).2 = 0
  case neg =>
    rw [neq_t hz]
    rfl
  rw [hz]
  unfold signsR at hz ⊢
  cases hb : bookOK b with
  | false => rw [hb, if_neg (by simp)] at hz; cases hz
  | true =>
  cases hr : ruleB b rule with
  | false => rw [hb, hr, if_pos rfl, if_neg (by simp)] at hz; cases hz
  | true =>
  rw [if_pos rfl, if_pos rfl]
  dsimp only
  have h8 := ranks8 hb
  have e14 := loopF (L := L11_14) (fun i => ((rule, ((extO b rule i).length : Int), (i : Int) - 1, ()), (b, outS b rule b.2.1.length, ()), ())) (.inr (((outS b rule b.2.1.length).length, ()), (outS b rule b.2.1.length, ()), ())) 12 (b.2.1.length + 2) (N := fuel) (by have := fuel_ge; omega)
    (fun N => by
      simp only [L11_14, B11_14]
      rw [dec_f (by omega), extO_all]
      rfl)
    (fun N i hN hi => by
      simp only [L11_14, B11_14]
      rw [dec_t (by omega), cond_true, L11_17_at b hb rule hr i hi N (by omega), derefK_some, sumK_inr]
      dsimp only
      rw [wI (by omega) (by omega), show (i : Int) - 1 + 1 = ((i + 1 : Nat) : Int) - 1 by omega])
  have e14' : L11_14 fuel ((rule, 0, -1, ()), (b, outS b rule b.2.1.length, ()), ()) = _ := e14
  show derefK (L11_14 fuel ((rule, 0, -1, ()), (b, outS b rule b.2.1.length, ()), ())) _ = _
  rw [e14', derefK_some, sumK_inr]
  dsimp only
  rw [show (((outS b rule b.2.1.length).length : Int) == ((outS b rule b.2.1.length).length : Int)) = true by simp]
  rfl
end Go.Proofs.Try.V
