/- Plain laws of layer 10, thirteenth part: InspectSeals. No condition beyond those typed in each theorem. -/
import Derived.Test.YtjkchkjdpcnmkaaLw12
namespace Go.Proofs.Try.V
open Go.Vi
set_option maxRecDepth 100000

def step31 (s n : Int) : Int := Int.tmod (IntKind.wrap .i64 (IntKind.wrap .i64 (s * 31) + n)) 1000003
def fieldsL (x : Ent) : List Int := [x.1, x.2.1, IntKind.wrap .i64 (x.2.2.1 + 1), IntKind.wrap .i64 (x.2.2.2.1 + 1), IntKind.wrap .i64 (x.2.2.2.2 + 1)]
def sealF (s : Int) (x : Ent) : Int := (fieldsL x).foldl step31 s
def sealS (l : List Ent) (i : Nat) : Int := (l.take i).foldl sealF 7
def sealsN (l : List Ent) (n : Nat) : List Int := (List.range n).map fun i => sealS l (i + 1)
theorem sealS_succ {l : List Ent} {i : Nat} (hi : i < l.length) : sealS l (i + 1) = sealF (sealS l i) (gd l (i : Int)) := by
  unfold sealS
  rw [take_nat hi, List.foldl_append]
  rfl
theorem sealsN_succ (l : List Ent) (n : Nat) : sealsN l (n + 1) = sealsN l n ++ [sealS l (n + 1)] := by
  unfold sealsN
  rw [List.range_succ, List.map_append]
  rfl
theorem sealsN_len (l : List Ent) (n : Nat) : (sealsN l n).length = n := by simp [sealsN]
theorem g66_eq (r : List Int) (hr : r.length ≤ 1048576) (s : Int) : g66 (r, s, ()) = some ((), (r.foldl step31 s, ())) := by
  show F66 fuel r s = _
  unfold F66
  have e := loopF (L := L66_1) (fun i => ((r, (r.length : Int), (i : Int), ()), ((r.take i).foldl step31 s, ()), ())) ((), (r.foldl step31 s, ()), ()) 0 r.length (N := fuel) (by have := fuel_ge; omega)
    (fun N => by simp [L66_1, B66_1])
    (fun N i _ hi => by
      simp only [L66_1, B66_1]
      rw [dec_t (by omega), cond_true, getI_gd (by omega) (by omega), wI (x := (i : Int) + 1) (by omega) (by omega), take_nat hi, List.foldl_append]
      rfl)
  have e' : L66_1 fuel ((r, (r.length : Int), 0, ()), (s, ()), ()) = _ := e
  rw [e']
  rfl
theorem g39_eq (b : Book) (l : List Ent) : g39 (b, l, ()) = some ((if (checkR b l).2 = 0 then sealsN l l.length else [], (checkR b l).2, ()), ()) := by
  show F39 fuel b l = _
  unfold F39
  by_cases h : (checkR b l).2 = 0
  · rw [g44_ok h, derefK_some, if_pos h, h]
    have hl := (check_ok h).2.1
    have e := loopF (L := L39_7) (fun i => ((l, (l.length : Int), (i : Int), ()), (sealsN l i, sealS l i, ()), ())) ((), (sealsN l l.length, ()), ()) 0 l.length (N := fuel) (by have := fuel_ge; omega)
      (fun N => by simp [L39_7, B39_7])
      (fun N i _ hi => by
        simp only [L39_7, B39_7]
        rw [dec_t (by omega), cond_true, getI_gd (by omega) (by omega)]
        have e := g66_eq (fieldsL (gd l (i : Int))) (by show 5 ≤ _; omega) (sealS l i)
        have hn := sealsN_len l i
        have e' : g66 ([(gd l (i : Int)).1, (gd l (i : Int)).2.1, IntKind.wrap .i64 ((gd l (i : Int)).2.2.1 + 1), IntKind.wrap .i64 ((gd l (i : Int)).2.2.2.1 + 1), IntKind.wrap .i64 ((gd l (i : Int)).2.2.2.2 + 1)], sealS l i, ()) = some ((), (sealF (sealS l i) (gd l (i : Int)), ())) := e
        rw [e', derefK_some, lenK_in (by simp; omega) (by simp; omega), wI (x := (i : Int) + 1) (by omega) (by omega), ← sealS_succ hi, ← sealsN_succ]
        rfl)
    have e' : L39_7 fuel ((l, (l.length : Int), 0, ()), ([], 7, ()), ()) = _ := e
    show derefK (L39_7 fuel ((l, (l.length : Int), 0, ()), ([], 7, ()), ())) _ = _
    rw [e']
    rfl
  · obtain ⟨z, a, e⟩ := g44_err h
    rw [e, derefK_some, if_neg h]
    show cond ((checkR b l).2 != 0) _ _ = _
    rw [neq_t h]
    rfl
theorem L40_12_at (l : List Ent) (r : List Int) (hr : r.length ≤ 1048576) (s i : Int) (out : List Int) (N : Nat) (hN : r.length < N) : L40_12 N ((l, s, i, 0, ()), (out, r, ()), ()) = some ((l, r.foldl step31 s, i, ()), (out, ()), ()) := by
  have e := loopF (L := L40_12) (fun k => ((l, (r.take k).foldl step31 s, i, (k : Int), ()), (out, r, ()), ())) ((l, r.foldl step31 s, i, ()), (out, ()), ()) 0 r.length (N := N) (by omega)
    (fun N => by simp [L40_12, B40_12])
    (fun N k _ hk => by
      simp only [L40_12, B40_12]
      rw [dec_t (by omega), cond_true, inR_in (by omega) (by omega), getI_gd (by omega) (by omega), wI (x := (k : Int) + 1) (by omega) (by omega), take_nat hk, List.foldl_append]
      rfl)
  exact e
theorem g40_eq (b : Book) (l : List Ent) : g40 (b, l, ()) = some ((if (checkR b l).2 = 0 then sealsN l l.length else [], (checkR b l).2, ()), ()) := by
  show F40 fuel b l = _
  unfold F40
  rw [g19_eq, derefK_some]
  by_cases h : (checkR b l).2 = 0
  · rw [if_pos h, h]
    have hl := (check_ok h).2.1
    have e := loopF (L := L40_7) (fun i => ((l, sealS l i, (i : Int), ()), (sealsN l i, ()), ())) ((), (sealsN l l.length, ()), ()) 6 l.length (N := fuel) (by have := fuel_ge; omega)
      (fun N => by simp [L40_7, B40_7])
      (fun N i hN hi => by
        simp only [L40_7, B40_7]
        rw [dec_t (by omega), cond_true, getI_gd (by omega) (by omega)]
        have e := L40_12_at l (fieldsL (gd l (i : Int))) (by show 5 ≤ _; omega) (sealS l i) (i : Int) (sealsN l i) N (by show 5 < N; omega)
        have hn := sealsN_len l i
        have e' : L40_12 N ((l, sealS l i, (i : Int), 0, ()), (sealsN l i, [(gd l (i : Int)).1, (gd l (i : Int)).2.1, IntKind.wrap .i64 ((gd l (i : Int)).2.2.1 + 1), IntKind.wrap .i64 ((gd l (i : Int)).2.2.2.1 + 1), IntKind.wrap .i64 ((gd l (i : Int)).2.2.2.2 + 1)], ()), ()) = some ((l, sealF (sealS l i) (gd l (i : Int)), (i : Int), ()), (sealsN l i, ()), ()) := e
        rw [e', derefK_some, lenK_in (by simp; omega) (by simp; omega), wI (x := (i : Int) + 1) (by omega) (by omega), ← sealS_succ hi, ← sealsN_succ]
        rfl)
    have e' : L40_7 fuel ((l, 7, 0, ()), ([], ()), ()) = _ := e
    show derefK (L40_7 fuel ((l, 7, 0, ()), ([], ()), ())) _ = _
    rw [e']
    rfl
  · rw [if_neg h]
    show cond ((checkR b l).2 != 0) _ _ = _
    rw [neq_t h]
    rfl

def difB (a s : List Int) (i : Nat) : Bool := decide (a.length ≤ i) || (decide (s.length ≤ i) || (gd a (i : Int) != gd s (i : Int)))
theorem difB_1 {a s : List Int} {i : Nat} (h1 : a.length ≤ i) : difB a s i = true := by
  unfold difB
  rw [dec_t h1]
  rfl
theorem difB_2 {a s : List Int} {i : Nat} (h1 : ¬ a.length ≤ i) (h2 : s.length ≤ i) : difB a s i = true := by
  unfold difB
  rw [dec_f h1, dec_t h2]
  rfl
theorem difB_3 {a s : List Int} {i : Nat} (h1 : ¬ a.length ≤ i) (h2 : ¬ s.length ≤ i) : difB a s i = (gd a (i : Int) != gd s (i : Int)) := by
  unfold difB
  rw [dec_f h1, dec_f h2]
  rfl
def difR (a s : List Int) : Int := idxI (List.range (max a.length s.length)) (difB a s)
theorem g41_eq (b : Book) (l : List Ent) (s : List Int) (hs : s.length ≤ 1048576) : g41 (b, l, s, ()) = some ((if (checkR b l).2 = 0 then difR (sealsN l l.length) s else 0, (checkR b l).2, ()), ()) := by
  show F41 fuel b l s = _
  unfold F41
  rw [g39_eq, derefK_some]
  by_cases h : (checkR b l).2 = 0
  · rw [if_pos h, if_pos h, h]
    have hl := (check_ok h).2.1
    have ha := sealsN_len l l.length
    show derefK (L41_5 fuel ((s, max ((sealsN l l.length).length : Int) (s.length : Int), 0, ()), (sealsN l l.length, ()), ())) _ = _
    generalize sealsN l l.length = a at ha ⊢
    have e := loopIdx (L := L41_5) (fun i => ((s, max (a.length : Int) (s.length : Int), (i : Int), ()), (a, ()), ())) (List.range (max a.length s.length)) (difB a s) (fun i => .inl (((i : Int), 0, ()), (), ())) (.inr ((), (), ())) 0 (N := fuel) (by have := fuel_ge; rw [List.length_range]; omega)
      (fun N => by
        simp only [L41_5, B41_5, List.length_range]
        rw [dec_f (by omega)]
        rfl)
      (fun N i _ hi => by
        rw [List.length_range] at hi
        rw [gd_range hi]
        simp only [L41_5, B41_5]
        rw [dec_t (p := (i : Int) < max (a.length : Int) (s.length : Int)) (by omega), cond_true]
        by_cases h1 : a.length ≤ i
        · rw [dec_t (p := (i : Int) ≥ (a.length : Int)) (by omega), difB_1 h1]
          rfl
        · rw [dec_f (p := (i : Int) ≥ (a.length : Int)) (by omega)]
          by_cases h2 : s.length ≤ i
          · rw [dec_t (p := (i : Int) ≥ (s.length : Int)) (by omega), difB_2 h1 h2]
            rfl
          · rw [dec_f (p := (i : Int) ≥ (s.length : Int)) (by omega), difB_3 h1 h2, cond_false, cond_false, inR_in (by omega) (by omega), getI_gd (by omega) (by omega), getI_gd (by omega) (by omega), wI (x := (i : Int) + 1) (by omega) (by omega)]
            cases gd a (i : Int) != gd s (i : Int) <;> rfl)
    have e' : L41_5 fuel ((s, max (a.length : Int) (s.length : Int), 0, ()), (a, ()), ()) = _ := e
    rw [e', derefK_some]
    unfold difR idxI
    cases (List.range (max a.length s.length)).findIdx? (difB a s) <;> rfl
  · rw [if_neg h, if_neg h]
    show cond ((checkR b l).2 != 0) _ _ = _
    rw [neq_t h]
    rfl
theorem g42_eq (b : Book) (l : List Ent) (s : List Int) (hs : s.length ≤ 1048576) : g42 (b, l, s, ()) = some ((if (checkR b l).2 = 0 then difR (sealsN l l.length) s else 0, (checkR b l).2, ()), ()) := by
  show F42 fuel b l s = _
  unfold F42
  rw [g40_eq, derefK_some]
  by_cases h : (checkR b l).2 = 0
  · rw [if_pos h, if_pos h, h]
    have hl := (check_ok h).2.1
    have ha := sealsN_len l l.length
    show derefK (L42_5 fuel ((s, 0, ()), (sealsN l l.length, ()), ())) _ = _
    generalize sealsN l l.length = a at ha ⊢
    have e := loopIdx (L := L42_5) (fun i => ((s, (i : Int), ()), (a, ()), ())) (List.range (max a.length s.length)) (difB a s) (fun i => .inl (((i : Int), 0, ()), (), ())) (.inr ((), (), ())) 0 (N := fuel) (by have := fuel_ge; rw [List.length_range]; omega)
      (fun N => by
        simp only [L42_5, B42_5, List.length_range]
        rw [dec_f (p := ((max a.length s.length : Nat) : Int) < (a.length : Int)) (by omega), dec_f (p := ((max a.length s.length : Nat) : Int) < (s.length : Int)) (by omega)]
        rfl)
      (fun N i _ hi => by
        rw [List.length_range] at hi
        rw [gd_range hi]
        simp only [L42_5, B42_5]
        by_cases h1 : a.length ≤ i
        · rw [dec_f (p := (i : Int) < (a.length : Int)) (by omega), dec_t (p := (i : Int) < (s.length : Int)) (by omega), dec_t (p := (i : Int) ≥ (a.length : Int)) (by omega), difB_1 h1]
          rfl
        · rw [dec_t (p := (i : Int) < (a.length : Int)) (by omega), dec_f (p := (i : Int) ≥ (a.length : Int)) (by omega)]
          by_cases h2 : s.length ≤ i
          · rw [dec_t (p := (i : Int) ≥ (s.length : Int)) (by omega), difB_2 h1 h2]
            rfl
          · rw [dec_f (p := (i : Int) ≥ (s.length : Int)) (by omega), difB_3 h1 h2, cond_true, cond_false, cond_false, inR_in (by omega) (by omega), getI_gd (by omega) (by omega), getI_gd (by omega) (by omega), wI (x := (i : Int) + 1) (by omega) (by omega)]
            cases gd a (i : Int) != gd s (i : Int) <;> rfl)
    have e' : L42_5 fuel ((s, 0, ()), (a, ()), ()) = _ := e
    rw [e', derefK_some]
    unfold difR idxI
    cases (List.range (max a.length s.length)).findIdx? (difB a s) <;> rfl
  · rw [if_neg h, if_neg h]
    show cond ((checkR b l).2 != 0) _ _ = _
    rw [neq_t h]
    rfl
theorem law14 (b : Book) (l : List Ent) (s : List Int) (hs : s.length ≤ 1048576) : g14 (b, l, s, ()) = some ((true, ()), ()) := by
  show F14 fuel b l s = _
  unfold F14
  rw [g16_eq, derefK_some, works_eq, g39_eq, g40_eq, g41_eq b l s hs, g42_eq b l s hs]
  simp only [derefK_some]
  have e : ((checkR b l).2 != (checkR b l).2) = false := by simp
  have e1 : ∀ x : Int, (x == x) = true := fun x => by simp
  have h1 : (if (checkR b l).2 = 0 then sealsN l l.length else []).length ≤ 1099511627776 := by
    split
    · rename_i h
      have := (check_ok h).2.1
      rw [sealsN_len]
      omega
    · simp
  rw [e, e1, e1, g24_eq _ h1]
  cases decide (30 < l.length ∧ l.length ≤ 100) <;> rfl
end Go.Proofs.Try.V
