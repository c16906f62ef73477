/- Plain laws of layer 5, fourth part: what overloads a board, by the program and by the document. No condition beyond those typed in each theorem. -/
import Derived.Test.YtpjgcimbnhhndaaLw3
namespace Go.Proofs.Try.V
open Go.Vi
set_option maxRecDepth 100000

/-- A loop that looks for the first number with q. -/
theorem loopFst {D R : Type} {L : Nat → D → Option R} (mk : Nat → D) (n : Nat) (q : Nat → Bool) (hit : Nat → R) (e : R) (c : Nat) {N : Nat} (hN : n + c < N)
    (hend : ∀ N, L (N + 1) (mk n) = some e)
    (hstep : ∀ N i, c ≤ N → i < n → L (N + 1) (mk i) = if q i then some (hit i) else L N (mk (i + 1))) :
    L N (mk 0) = some (match (List.range n).find? q with | some i => hit i | none => e) := by
  have key : ∀ (d i : Nat) (N : Nat), i + d = n → d + c < N → L N (mk i) = some (match (List.range' i d).find? q with | some i => hit i | none => e) := by
    intro d
    induction d with
    | zero =>
      intro i N hi hN
      obtain ⟨m, rfl⟩ : ∃ m, N = m + 1 := ⟨N - 1, by omega⟩
      obtain rfl : i = n := by omega
      rw [hend]
      rfl
    | succ d ih =>
      intro i N hi hN
      obtain ⟨m, rfl⟩ : ∃ m, N = m + 1 := ⟨N - 1, by omega⟩
      rw [hstep m i (by omega) (by omega), List.range'_succ, List.find?_cons]
      cases q i with
      | true => rfl
      | false => rw [if_neg (by simp), ih (i + 1) m (by omega) (by omega)]
  rw [List.range_eq_range']
  exact key n 0 N (by omega) hN
/-- How much a board bears (-1: the generator). -/
def brs (s : Sup) (b : Int) : Int := if b < 0 then s.2.2.1 else (gd s.1 b).2.1
def mx3 (s : Sup) (S : Nat) (b : Int) : Int := max (max (cur s S b 0) (cur s S b 1)) (cur s S b 2)
/-- Whether a board is overloaded. -/
def ovr (s : Sup) (S : Nat) (b : Int) : Bool := decide (mx3 s S b > brs s b)
theorem g70_eq (a b c : Int) : g70 ([a, b, c], ()) = some ((max (max a b) c, ()), ()) := by
  show F70 fuel [a, b, c] = _
  unfold F70
  rw [inR_in (by omega) (by omega), getI_gd (by omega) (by simp), inR_in (by omega) (by omega), getI_gd (by omega) (by simp), inR_in (by omega) (by omega), getI_gd (by omega) (by simp)]
  rfl
theorem g70_row (s : Sup) (S : Nat) (b : Int) : g70 (row3 s S b s.2.1.length, ()) = some ((mx3 s S b, ()), ()) := g70_eq _ _ _
theorem g61_eq (s : Sup) {b : Int} (hb : b < s.1.length) : g61 (s, b, ()) = some ((brs s b, ()), ()) := by
  show F61 fuel s b = _
  unfold F61 brs
  by_cases h : b < 0
  · rw [dec_t h, if_pos h]; rfl
  · rw [dec_f h, if_neg h, cond_false, getI_gd (by omega) hb]
theorem g66_eq (s : Sup) {k : Nat} (hk : k ≤ s.1.length) : g66 (s, (k : Int), ()) = some ((brs s (bO s.1.length k), ()), ()) := by
  show F66 fuel s (k : Int) = _
  unfold F66 brs bO
  by_cases h : k = s.1.length
  · have : ((k : Int) == (s.1.length : Int)) = true := by simp [h]
    rw [this, if_pos h, if_pos (by omega)]; rfl
  · have h1 : ((k : Int) == (s.1.length : Int)) = false := beq_eq_false_iff_ne.2 (by omega)
    have h2 : ((k : Int) == -1) = false := beq_eq_false_iff_ne.2 (by omega)
    rw [h1, h2, if_neg h, if_neg (by omega), cond_false, cond_false, getI_gd (by omega) (by omega)]
theorem g24_eq {s : Sup} (h : okS s = true) {S : Nat} (hS : S < 4611686018427387904) {b : Int} (hb : b < s.1.length) : g24 (s, (S : Int), b, ()) = some ((ovr s S b, ()), ()) := by
  show F24 fuel s (S : Int) b = _
  unfold F24
  have hf := fuel_ge
  have e := loopNum (L := L24_2) (fun i => (((S : Int), b, (i : Int), ()), (s, ()), ())) 3 (fun i => !decide (cur s S b (i : Int) > brs s b)) (.inl ((true, ()), (), ())) (.inr ((), (), ())) 0 (N := fuel) (by omega)
    (fun N => by simp [L24_2, B24_2])
    (fun N i _ hi => by
      simp only [L24_2, B24_2]
      rw [dec_t (by omega), cond_true, g60_eq h hS, derefK_some, g61_eq s hb, derefK_some, wI (by omega) (by omega)]
      by_cases h1 : cur s S b (i : Int) > brs s b
      · rw [dec_t h1]; rfl
      · rw [dec_f h1]; rfl)
  have e' : L24_2 fuel (((S : Int), b, 0, ()), (s, ()), ()) = _ := e
  rw [e', derefK_some]
  have : ((List.range 3).all fun i => !decide (cur s S b (i : Int) > brs s b)) = !ovr s S b := by
    unfold ovr mx3
    show (!decide (cur s S b 0 > brs s b) && (!decide (cur s S b 1 > brs s b) && (!decide (cur s S b 2 > brs s b) && true))) = _
    by_cases h0 : cur s S b 0 > brs s b <;> by_cases h1 : cur s S b 1 > brs s b <;> by_cases h2 : cur s S b 2 > brs s b
    all_goals simp only [h0, h1, h2, decide_true, decide_false]
    all_goals first | (rw [dec_t (p := max (max _ _) _ > _) (by omega)]; rfl) | (rw [dec_f (p := max (max _ _) _ > _) (by omega)]; rfl)
  rw [this]
  cases ovr s S b <;> rfl
/-- The first board that is overloaded (by one more than its number). -/
def fo (s : Sup) (S : Nat) : Option Nat := (List.range (s.1.length + 1)).find? fun i => ovr s S ((i : Int) - 1)
def foR (s : Sup) (S : Nat) : Int × (Bool × Unit) := match fo s S with | some i => ((i : Int) - 1, true, ()) | none => (0, false, ())
theorem g57_eq {s : Sup} (h : okS s = true) {S : Nat} (hS : S < 4611686018427387904) : g57 (s, (S : Int), ()) = some (foR s S, ()) := by
  show F57 fuel s (S : Int) = _
  unfold F57
  have hl := okS_le h
  have hf := fuel_ge
  have e := loopFst (L := L57_2) (fun i => (((S : Int), (i : Int) - 1, ()), (s, ()), ())) (s.1.length + 1) (fun i => ovr s S ((i : Int) - 1)) (fun i => .inl (((i : Int) - 1, true, ()), (), ())) (.inr ((), (), ())) 0 (N := fuel) (by omega)
    (fun N => by
      simp only [L57_2, B57_2]
      rw [dec_f (by omega)]; rfl)
    (fun N i _ hi => by
      simp only [L57_2, B57_2]
      rw [dec_t (by omega), cond_true, g24_eq h hS (by omega), derefK_some, wI (by omega) (by omega), show (i : Int) - 1 + 1 = ((i + 1 : Nat) : Int) - 1 by omega]
      cases ovr s S ((i : Int) - 1) <;> rfl)
  have e' : L57_2 fuel (((S : Int), -1, ()), (s, ()), ()) = _ := e
  rw [e', derefK_some]
  unfold foR fo
  cases (List.range (s.1.length + 1)).find? fun (i : Nat) => ovr s S ((i : Int) - 1) <;> rfl
theorem fo_eq (s : Sup) (S : Nat) : fo s S = if ovr s S (-1) then some 0 else ((List.range s.1.length).find? fun (k : Nat) => ovr s S (k : Int)).map (· + 1) := by
  unfold fo
  rw [List.range_succ_eq_map, List.find?_cons]
  have h1 : ((0 : Nat) : Int) - 1 = -1 := rfl
  rw [h1]
  cases ovr s S (-1) with
  | true => rfl
  | false =>
    rw [if_neg (by simp), List.find?_map]
    have : ((fun (i : Nat) => ovr s S ((i : Int) - 1)) ∘ Nat.succ) = fun (k : Nat) => ovr s S (k : Int) := by
      funext k
      show ovr s S (((k + 1 : Nat) : Int) - 1) = _
      rw [show (((k + 1 : Nat) : Int) - 1) = (k : Int) by omega]
    rw [this]
theorem g55_eq {s : Sup} (h : okS s = true) {S : Nat} (hS : S < 4611686018427387904) : g55 (s, (S : Int), ()) = some (foR s S, ()) := by
  show F55 fuel s (S : Int) = _
  unfold F55
  have hl := okS_le h
  have hf := fuel_ge
  rw [g64_eq h hS, derefK_some]
  show inR (s.1.length : Int) (curs s S s.2.1.length).length (getI (curs s S s.2.1.length) (s.1.length : Int) _) = _
  rw [inR_in (by omega) (by rw [curs_len]; omega), getI_gd (by omega) (by rw [curs_len]; omega), curs_gd s S _ (Nat.le_refl _), g70_row, derefK_some]
  have hb : bO s.1.length s.1.length = -1 := by unfold bO; rw [if_pos rfl]
  rw [hb]
  unfold foR
  rw [fo_eq]
  have ho : ovr s S (-1) = decide (mx3 s S (-1) > s.2.2.1) := rfl
  rw [ho]
  by_cases h0 : mx3 s S (-1) > s.2.2.1
  · rw [dec_t h0]; rfl
  · rw [dec_f h0, cond_false, if_neg (by simp)]
    have e := loopFst (L := L55_5) (fun i => (((s.1.length : Int), (i : Int), ()), (s, curs s S s.2.1.length, ()), ())) s.1.length (fun k => ovr s S (k : Int)) (fun i => .inl (((i : Int), true, ()), (), ())) (.inr ((), (), ())) 0 (N := fuel) (by omega)
      (fun N => by
        simp only [L55_5, B55_5]
        rw [dec_f (by omega)]; rfl)
      (fun N i _ hi => by
        simp only [L55_5, B55_5]
        have hbo : bO s.1.length i = (i : Int) := by unfold bO; rw [if_neg (by omega)]
        rw [dec_t (by omega), cond_true, inR_in (by omega) (by rw [curs_len]; omega), getI_gd (by omega) (by rw [curs_len]; omega), curs_gd s S _ (by omega), g70_row, derefK_some, g66_eq s (by omega), derefK_some, hbo, wI (by omega) (by omega)]
        show (bif ovr s S (i : Int) then _ else _) = _
        cases ovr s S (i : Int) <;> rfl)
    have e' : L55_5 fuel (((s.1.length : Int), 0, ()), (s, curs s S s.2.1.length, ()), ()) = _ := e
    show derefK (L55_5 fuel (((s.1.length : Int), 0, ()), (s, curs s S s.2.1.length, ()), ())) _ = _
    rw [e', derefK_some]
    cases (List.range s.1.length).find? fun (k : Nat) => ovr s S (k : Int) with
    | none => rfl
    | some k =>
      show some (((k : Int), true, ()), ()) = some ((((k + 1 : Nat) : Int) - 1, true, ()), ())
      rw [show (((k + 1 : Nat) : Int) - 1) = (k : Int) by omega]
end Go.Proofs.Try.V
