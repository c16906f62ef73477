/- Plain laws of layer 1: audits; TokensAccounts. No condition beyond those typed in each theorem. -/
import Derived.Test.YtlhapfgcnfooeaaLw18
namespace Go.Proofs.Try.V
open Go.Vi
set_option maxRecDepth 100000

/-- The numbers below n of which something is so. -/
def unl (n : Nat) (p : Nat → Bool) : List Int := ((List.range n).filter p).map fun (i : Nat) => (i : Int)
theorem unl_zero (p : Nat → Bool) : unl 0 p = [] := rfl
theorem unl_succ (n : Nat) (p : Nat → Bool) : unl (n + 1) p = if p n = true then unl n p ++ [(n : Int)] else unl n p := by
  unfold unl
  rw [List.range_succ, List.filter_append, List.map_append]
  cases h : p n with
  | true => simp [h]
  | false => simp [h]
theorem unl_len (n : Nat) (p : Nat → Bool) : (unl n p).length ≤ n := by
  unfold unl
  rw [List.length_map]
  exact Nat.le_trans (List.length_filter_le ..) (by simp)
theorem unl_congr {n : Nat} {p q : Nat → Bool} (h : ∀ i, i < n → p i = q i) : unl n p = unl n q := by
  unfold unl
  rw [List.filter_congr fun i hi => h i (by simpa using hi)]
/-- A loop that collects them. -/
theorem loopUnl {D R : Type} {L : Nat → D → Option R} (mk : Nat → List Int → D) (p : Nat → Bool) (n c : Nat) (res : List Int → R) {N : Nat} (hN : n + c < N) (hend : ∀ N s, L (N + 1) (mk n s) = some (res s))
    (hstep : ∀ N i s, c ≤ N → i < n → s.length ≤ i → L (N + 1) (mk i s) = bif p i then L N (mk (i + 1) (s ++ [(i : Int)])) else L N (mk (i + 1) s)) : L N (mk 0 []) = some (res (unl n p)) := by
  have h := loopF (L := L) (fun i => mk i (unl i p)) (res (unl n p)) c n hN (fun N => hend N _) (fun N i hc hi => by
    rw [hstep N i _ hc hi (unl_len i p), unl_succ]
    cases p i <;> rfl)
  exact h

def dif1 (c d : Cnt) (i : Nat) : Bool := (gd c.1 (i : Int) != gd d.1 (i : Int)) || (gd c.2.1 (i : Int) != gd d.2.1 (i : Int))
def dif2 (c d : Cnt) (i : Nat) : Bool := !(((gd c.2.2.1 (i : Int)).1 == (gd d.2.2.1 (i : Int)).1) && ((gd c.2.2.1 (i : Int)).2 == (gd d.2.2.1 (i : Int)).2))
def dif3 (c d : Cnt) (i : Nat) : Bool := gd c.2.2.2.1 (i : Int) != gd d.2.2.2.1 (i : Int)
def fits (c d : Cnt) : Prop := d.1.length = c.1.length ∧ d.2.1.length = c.2.1.length ∧ d.2.2.1.length = c.2.2.1.length ∧ d.2.2.2.1.length = c.2.2.2.1.length
instance (c d : Cnt) : Decidable (fits c d) := by unfold fits; infer_instance

theorem g58_eq (n : Nat) (hn : n ≤ 1000) (q : Int → Option Bool) (p : Nat → Bool) (h : ∀ i, i < n → q (i : Int) = some (p i)) : g58 ((n : Int), q, ()) = some ((unl n p, ()), ()) := by
  have hfu := fuel_ge
  have e0 : g58 ((n : Int), q, ()) = F58 fuel (n : Int) q := rfl
  rw [e0]
  unfold F58
  have a := loopUnl (L := L58_2) (fun i s => ((q, (n : Int), (i : Int), ()), (s, ()), ())) p n 0 (fun s => ((), (s, ()), ())) (N := fuel) (by omega)
    (fun N s => by simp only [L58_2, B58_2]; rw [dec_f (by omega), cond_false])
    (fun N i s _ hi hs => by
      simp only [L58_2, B58_2]
      rw [dec_t (by omega), cond_true, h i hi, derefK_some, wI (by omega) (by omega), lenK_in (by simp; omega) (by simp; omega)]
      rfl)
  have a' : L58_2 fuel ((q, (n : Int), 0, ()), ([], ()), ()) = _ := a
  rw [a', derefK_some]
theorem ne_of_len {a b : Nat} (h : ¬ a = b) : ((a : Int) != (b : Int)) = true := bne_iff_ne.2 (by omega)
theorem eq_of_len {a b : Nat} (h : a = b) : ((a : Int) != (b : Int)) = false := by rw [h, bne_self_eq_false]
def auditR (f : Fair) (l : List Deal) (d : Cnt) : (List Int) × (List Int) × (List Int) × Int × Unit :=
  match wrong f l with
  | some x => ([], [], [], x.2, ())
  | none => if fits (stC f l l.length) d then (unl (stC f l l.length).1.length (dif1 (stC f l l.length) d), unl (stC f l l.length).2.2.1.length (dif2 (stC f l l.length) d), unl (stC f l l.length).2.2.2.1.length (dif3 (stC f l l.length) d), 0, ()) else ([], [], [], 1, ())
theorem g31_eq (f : Fair) (hs : Sized f) (l : List Deal) (d : Cnt) : g31 (f, l, d, ()) = some ((auditR f l d), ()) := by
  have hfu := fuel_ge
  have e0 : g31 (f, l, d, ()) = F31 fuel f l d := rfl
  rw [e0]
  unfold F31 auditR
  rw [g52_eq f hs l, derefK_some]
  cases h : wrong f l with
  | some x =>
    simp only
    rw [bne_iff_ne.2 (wrong_ne h), cond_true]
  | none =>
    obtain ⟨hf, _, hl, hb⟩ := wrong_none h
    have hI := Inv.all hf l l.length hb
    simp only
    rw [show ((0 : Int) != 0) = false from rfl, cond_false, derefK_some]
    simp only [stand]
    revert hI
    generalize stC f l l.length = c
    intro hI
    have l1 := hI.ls
    have l0 := hI.lc
    have l2 := hI.lp
    have l3 := hI.lb
    have m1 := hf.s8
    have m2 := hf.p1
    have m3 := hf.b1
    by_cases q1 : d.1.length = c.1.length
    case neg => rw [ne_of_len q1, cond_true, if_neg (fun h => q1 h.1)]
    rw [eq_of_len q1, cond_false]
    by_cases q2 : d.2.1.length = c.2.1.length
    case neg => rw [ne_of_len q2, cond_true, if_neg (fun h => q2 h.2.1)]
    rw [eq_of_len q2, cond_false]
    by_cases q3 : d.2.2.1.length = c.2.2.1.length
    case neg => rw [ne_of_len q3, cond_true, if_neg (fun h => q3 h.2.2.1)]
    rw [eq_of_len q3, cond_false]
    by_cases q4 : d.2.2.2.1.length = c.2.2.2.1.length
    case neg => rw [ne_of_len q4, cond_true, if_neg (fun h => q4 h.2.2.2)]
    rw [eq_of_len q4, cond_false, if_pos ⟨q1, q2, q3, q4⟩]
    have a1 := g58_eq c.1.length (by omega) (fun v3 => derefK (g59 (v3, c, d, ())) fun y4 => some y4.1.1) (dif1 c d) (fun i hi => by
      show derefK (F59 fuel (i : Int) c d) _ = _
      unfold F59 dif1
      rw [getI_gd (by omega) (by omega), getI_gd (by omega) (by omega)]
      cases hq : (gd c.1 (i : Int) != gd d.1 (i : Int)) with
      | true => rfl
      | false => rw [cond_false, getI_gd (by omega) (by omega), getI_gd (by omega) (by omega)]; rfl)
    have a2 := g58_eq c.2.2.1.length (by omega) (fun v6 => derefK (g60 (v6, c, d, ())) fun y7 => some y7.1.1) (dif2 c d) (fun i hi => by
      show derefK (F60 fuel (i : Int) c d) _ = _
      unfold F60 dif2
      rw [getI_gd (by omega) (by omega), getI_gd (by omega) (by omega)]
      rfl)
    have a3 := g58_eq c.2.2.2.1.length (by omega) (fun v9 => derefK (g61 (v9, c, d, ())) fun y10 => some y10.1.1) (dif3 c d) (fun i hi => by
      show derefK (F61 fuel (i : Int) c d) _ = _
      unfold F61 dif3
      rw [getI_gd (by omega) (by omega), getI_gd (by omega) (by omega)]
      rfl)
    refine (derefK_of a1 _).trans ((derefK_of a2 _).trans ((derefK_of a3 _).trans rfl))
theorem g32_eq (f : Fair) (hs : Sized f) (l : List Deal) (d : Cnt) : g32 (f, l, d, ()) = some ((auditR f l d), ()) := by
  have hfu := fuel_ge
  have e0 : g32 (f, l, d, ()) = F32 fuel f l d := rfl
  rw [e0]
  unfold F32 auditR
  rw [g35_eq f hs l, derefK_some]
  cases h : wrong f l with
  | some x =>
    simp only
    rw [bne_iff_ne.2 (wrong_ne h), cond_true]
  | none =>
    obtain ⟨hf, _, hl, hb⟩ := wrong_none h
    have hI := Inv.all hf l l.length hb
    simp only
    rw [show ((0 : Int) != 0) = false from rfl, cond_false]
    revert hI
    generalize stC f l l.length = c
    intro hI
    have l1 := hI.ls
    have l0 := hI.lc
    have l2 := hI.lp
    have l3 := hI.lb
    have m1 := hf.s8
    have m2 := hf.p1
    have m3 := hf.b1
    by_cases q1 : d.1.length = c.1.length
    case neg => rw [ne_of_len q1, cond_true, if_neg (fun h => q1 h.1)]
    rw [eq_of_len q1, cond_false]
    by_cases q2 : d.2.1.length = c.2.1.length
    case neg => rw [ne_of_len q2, cond_true, if_neg (fun h => q2 h.2.1)]
    rw [eq_of_len q2, cond_false]
    by_cases q3 : d.2.2.1.length = c.2.2.1.length
    case neg => rw [ne_of_len q3, cond_true, if_neg (fun h => q3 h.2.2.1)]
    rw [eq_of_len q3, cond_false]
    by_cases q4 : d.2.2.2.1.length = c.2.2.2.1.length
    case neg => rw [ne_of_len q4, cond_true, if_neg (fun h => q4 h.2.2.2)]
    rw [eq_of_len q4, cond_false, if_pos ⟨q1, q2, q3, q4⟩]
    have a1 := loopUnl (L := L32_8) (fun i s => (((i : Int), ()), (d, c, s, ([] : List Int), ([] : List Int), ()), ())) (dif1 c d) c.1.length 0 (fun s => ((), (d, c, s, [], [], ()), ())) (N := fuel) (by omega)
      (fun N s => by simp only [L32_8, B32_8]; rw [dec_f (by omega), cond_false])
      (fun N i s _ hi hs => by
        unfold dif1
        simp only [L32_8, B32_8]
        rw [dec_t (by omega), cond_true, getI_gd (by omega) (by omega), getI_gd (by omega) (by omega), wI (by omega) (by omega)]
        cases hq : (gd c.1 (i : Int) != gd d.1 (i : Int)) with
        | true =>
          rw [cond_true, lenK_in (by simp; omega) (by simp; omega)]
          rfl
        | false =>
          rw [cond_false, getI_gd (by omega) (by omega), getI_gd (by omega) (by omega), lenK_in (by simp; omega) (by simp; omega)]
          rfl)
    have a1' : L32_8 fuel ((0, ()), (d, c, ([] : List Int), ([] : List Int), ([] : List Int), ()), ()) = _ := a1
    rw [a1', derefK_some]
    have a2 := loopUnl (L := L32_13) (fun i s => (((i : Int), ()), (d, c, unl c.1.length (dif1 c d), s, ([] : List Int), ()), ())) (dif2 c d) c.2.2.1.length 0 (fun s => ((), (d, c, unl c.1.length (dif1 c d), s, [], ()), ())) (N := fuel) (by omega)
      (fun N s => by simp only [L32_13, B32_13]; rw [dec_f (by omega), cond_false])
      (fun N i s _ hi hs => by
        unfold dif2
        simp only [L32_13, B32_13]
        rw [dec_t (by omega), cond_true, getI_gd (by omega) (by omega), getI_gd (by omega) (by omega), wI (by omega) (by omega), lenK_in (by simp; omega) (by simp; omega)]
        rfl)
    have a2' : L32_13 fuel ((0, ()), (d, c, unl c.1.length (dif1 c d), ([] : List Int), ([] : List Int), ()), ()) = _ := a2
    simp only
    rw [a2', derefK_some]
    have a3 := loopUnl (L := L32_18) (fun i s => (((i : Int), ()), (d, c, unl c.1.length (dif1 c d), unl c.2.2.1.length (dif2 c d), s, ()), ())) (dif3 c d) c.2.2.2.1.length 0 (fun s => ((), (unl c.1.length (dif1 c d), unl c.2.2.1.length (dif2 c d), s, ()), ())) (N := fuel) (by omega)
      (fun N s => by simp only [L32_18, B32_18]; rw [dec_f (by omega), cond_false])
      (fun N i s _ hi hs => by
        unfold dif3
        simp only [L32_18, B32_18]
        rw [dec_t (by omega), cond_true, getI_gd (by omega) (by omega), getI_gd (by omega) (by omega), wI (by omega) (by omega), lenK_in (by simp; omega) (by simp; omega)]
        rfl)
    have a3' : L32_18 fuel ((0, ()), (d, c, unl c.1.length (dif1 c d), unl c.2.2.1.length (dif2 c d), ([] : List Int), ()), ()) = _ := a3
    simp only
    rw [a3', derefK_some]

theorem audit_len (f : Fair) (l : List Deal) (d : Cnt) : (auditR f l d).1.length ≤ 1000 ∧ (auditR f l d).2.1.length ≤ 1000 ∧ (auditR f l d).2.2.1.length ≤ 1000 := by
  unfold auditR
  cases h : wrong f l with
  | some x => exact ⟨Nat.zero_le _, Nat.zero_le _, Nat.zero_le _⟩
  | none =>
    obtain ⟨hf, _, hl, hb⟩ := wrong_none h
    have hI := Inv.all hf l l.length hb
    have l1 := hI.ls
    have l2 := hI.lp
    have l3 := hI.lb
    have m1 := hf.s8
    have m2 := hf.p1
    have m3 := hf.b1
    simp only
    split
    · have b1 := unl_len (stC f l l.length).1.length (dif1 (stC f l l.length) d)
      have b2 := unl_len (stC f l l.length).2.2.1.length (dif2 (stC f l l.length) d)
      have b3 := unl_len (stC f l l.length).2.2.2.1.length (dif3 (stC f l l.length) d)
      exact ⟨by simp only; omega, by simp only; omega, by simp only; omega⟩
    · exact ⟨Nat.zero_le _, Nat.zero_le _, Nat.zero_le _⟩
/-- TokensAccounts. -/
theorem law9 (f : Fair) (hs : Sized f) (l : List Deal) (d : Cnt) : g9 (f, l, d, ()) = some ((true, ()), ()) := by
  have e0 : g9 (f, l, d, ()) = F9 fuel f l d := rfl
  rw [e0]
  unfold F9
  rw [g21_eq, derefK_some]
  simp only
  cases decide (40 < l.length) && decide (l.length ≤ 200) with
  | true => exact works_k
  | false =>
  rw [cond_false, g24_eq f hs l, g30_eq f hs l, g31_eq f hs l d, g32_eq f hs l d]
  obtain ⟨b1, b2, b3⟩ := audit_len f l d
  have h1 := g16_eq (auditR f l d).1 (auditR f l d).1 (by omega)
  have h2 := g16_eq (auditR f l d).2.1 (auditR f l d).2.1 (by omega)
  have h3 := g16_eq (auditR f l d).2.2.1 (auditR f l d).2.2.1 (by omega)
  rw [dec_t rfl] at h1 h2 h3
  cases wrong f l <;> simp only [derefK_some, beq_self_eq_true, bne_self_eq_false, Bool.and_self, Bool.not_true, cond_false, cond_true, h1, h2, h3] <;> exact works_k
end Go.Proofs.Try.V
