/- Plain laws of the night: which galas are right, by the document and by the program; what opens; an equal gala in new memory; the example. No condition beyond those typed in each theorem. -/
import Derived.Test.YtinkjepanpicoaaGreatS01
import Derived.Test.YtinkjepanpicoaaGreatS05h
import Derived.Test.YtinkjepanpicoaaGreatS10h
namespace Go.Proofs.Tryz.V.Top
open Go.Vi
open L10 (jA qN)
set_option maxRecDepth 100000
abbrev Bth := Int × (Int × (Int × (Int × Bool)))
abbrev Eve := (List Bth) × Int
abbrev qb7 := Eve × (L10.Book × ((List L10.Ent) × (Int × (L05.Sup × ((List Int) × (List Int))))))
theorem buys_eq : g6 () = some ((true, ()), ()) := by
  show F6 fuel = _
  unfold F6
  have e := L01.buyT
  unfold L01.exT at e
  rw [qbm, e, qb]
  show qa (g14 ([1, 1], [1, 1], ())) _ = _
  rw [L01.root01]
  rfl
theorem qet (x lo hi : Int) : g51 (x, lo, hi, ()) = some ((jA x lo hi, ()), ()) := by
  show F51 fuel x lo hi = _
  unfold F51 jA
  by_cases h : lo ≤ x
  · rw [qs (p := x ≥ lo) h]; rfl
  · rw [qy (p := x ≥ lo) h]; rfl
theorem from7 (x lo hi : Int) : g56 (x, lo, hi, ()) = some ((jA x lo hi, ()), ()) := qet x lo hi
theorem qjX (x lo hi : Int) : g30 (x, lo, hi, ()) = some ((jA x lo hi, ()), ()) := qet x lo hi
theorem qeu (x lo hi : Int) : g25 (x, lo, hi, ()) = some ((jA x lo hi, ()), ()) := qet x lo hi
def qfM (b : Bth) : Bool := jA b.1 1 40 && (jA b.2.1 0 100 && (jA b.2.2.1 1 100 && jA b.2.2.2.1 0 100))
def qdq (f : Eve) : Bool := decide (f.1.length ≤ 8) && (jA f.2 0 100 && f.1.all qfM)
theorem ref_eve (f : Eve) : g55 (f, ()) = some ((if qdq f then 0 else 70, ()), ()) := by
  show F55 fuel f = _
  unfold F55 qdq
  by_cases h8 : f.1.length ≤ 8
  · rw [qy (by omega), qs h8, cond_false, from7, qb]
    dsimp only
    cases jA f.2 0 100 with
    | false => rfl
    | true =>
      have e : L55_4 fuel ((0, ()), (f, ()), ()) = _ := L10.loopAll (L := L55_4) (fun i => (((i : Int), ()), (f, ()), ())) f.1 qfM (.inl ((70, ()), (), ())) (.inr ((), (), ())) 0 (by have := qY; omega)
        (fun N => by simp [L55_4, B55_4])
        (fun N i _ hi => by
          simp only [L55_4, B55_4]
          rw [qs (by omega), cond_true, ql (by omega) (by omega)]
          simp only [from7, qb]
          rw [wI (by omega) (by omega)]
          unfold qfM
          cases jA (gd f.1 (i : Int)).1 1 40 with
          | false => rfl
          | true =>
            cases jA (gd f.1 (i : Int)).2.1 0 100 with
            | false => rfl
            | true =>
              cases jA (gd f.1 (i : Int)).2.2.1 1 100 with
              | false => rfl
              | true => cases jA (gd f.1 (i : Int)).2.2.2.1 0 100 <;> rfl)
      rw [Bool.not_true, cond_false, e, qb]
      cases f.1.all qfM <;> rfl
  · rw [qs (by omega), qy h8]
    rfl
theorem idx_bth (l : List Bth) (hl : l.length ≤ 1099511627776) (f : Bth → Option Bool) (q : Bth → Bool) (hf : ∀ x ∈ l, f x = some (q x)) : g102 (l, f, ()) = some ((L10.idxI l q, ()), ()) := by
  show F102 fuel l f = _
  unfold F102
  have e := L10.loopIdx (L := L102_2) (fun i => ((l, f, (l.length : Int), (i : Int), ()), (), ())) l q (fun i => .inl (((i : Int), ()), (), ())) (.inr ((), (), ())) 0 (N := fuel) (by have := qY; omega)
    (fun N => by simp [L102_2, B102_2])
    (fun N i _ hi => by
      simp only [L102_2, B102_2]
      rw [qs (by omega), cond_true, ql (by omega) (by omega), hf _ (qay (by omega) (by omega)), qb, wI (by omega) (by omega)]
      cases q (gd l (i : Int)) <;> rfl)
  have e' : L102_2 fuel ((l, f, (l.length : Int), 0, ()), (), ()) = _ := e
  rw [e', qb]
  unfold L10.idxI
  cases l.findIdx? q <;> rfl
theorem qkh (f : Eve) : g48 (f, ()) = some ((if qdq f then 0 else 70, ()), ()) := by
  show F48 fuel f = _
  unfold F48 qdq
  by_cases h8 : f.1.length ≤ 8
  · rw [qy (by omega), qs h8, cond_false, qet, qb]
    dsimp only
    cases jA f.2 0 100 with
    | false => rfl
    | true =>
      have e : g83 (f.1, (fun v2 => qa (g82 (v2, ())) fun y3 => some y3.1.1), ()) = some ((!f.1.all qfM, ()), ()) := by
        show F83 fuel _ _ = _
        unfold F83
        rw [idx_bth f.1 (by omega) _ (fun b => !qfM b) (fun b _ => by
          show qa (F82 fuel b) _ = _
          unfold F82 qfM
          simp only [qet, qb]
          cases jA b.1 1 40 with
          | false => rfl
          | true =>
            cases jA b.2.1 0 100 with
            | false => rfl
            | true =>
              cases jA b.2.2.1 1 100 with
              | false => rfl
              | true => cases jA b.2.2.2.1 0 100 <;> rfl), qb]
        dsimp only
        rw [L10.idxI_nn, L10.any_not]
      rw [Bool.not_true, cond_false, e, qb]
      cases f.1.all qfM <;> rfl
  · rw [qs (by omega), qy h8]
    rfl
theorem qiU (f : Eve) : g27 (f, [], ()) = some ((if qdq f then 0 else 70, ()), ()) := by
  show F27 fuel f [] = _
  unfold F27
  rw [ref_eve, qb]
  cases qdq f with
  | false => rfl
  | true =>
    obtain ⟨n, hn⟩ : ∃ n, fuel = n + 1 := ⟨fuel - 1, by have := qY; omega⟩
    rw [hn]
    rfl
theorem qfE {f : Eve} (h : qdq f = true) : g20 (f, [], ()) = some ((0, ()), ()) := by
  show F20 fuel f [] = _
  unfold F20
  rw [qkh, qb, h]
  have e : ∀ k, g52 ([], k, ()) = some ((false, ()), ()) := fun k => by
    show F52 fuel [] k = _
    unfold F52
    have e2 : g84 ([], k, ()) = some ((-1, ()), ()) := by
      show F84 fuel [] k = _
      unfold F84
      obtain ⟨n, hn⟩ : ∃ n, fuel = n + 1 := ⟨fuel - 1, by have := qY; omega⟩
      rw [hn]
      rfl
    rw [e2]
    rfl
  rw [if_pos rfl]
  dsimp only
  rw [show ((0 : Int) != 0) = false from rfl, cond_false, qy (by simp), cond_false]
  exact (qZ (e _) _).trans rfl
structure qdr (g : qb7) : Prop where
  eve : qdq g.1 = true
  book : (L10.checkR g.2.1 g.2.2.1).2 = 0
  sup : L05.okS g.2.2.2.2.1 = true
  ins : g.2.1.2.2.length = g.1.1.length
  loads : g.2.2.2.2.1.2.1.length = g.1.1.length
  lims : g.2.2.2.2.2.1.length = g.1.1.length
  emps : g.2.2.2.2.2.2.length = g.1.1.length
  day : jA g.2.2.2.1 0 10000 = true
  lim : g.2.2.2.2.2.1.all (fun x => jA x 0 200) = true
  emp : g.2.2.2.2.2.2.all (fun x => jA x 0 100) = true
theorem qkW (g : qb7) (h1 : g.2.2.2.2.2.1.length = g.1.1.length) (h2 : g.2.2.2.2.2.2.length = g.1.1.length) (h8 : g.1.1.length ≤ 8) :
    L9_14 fuel (((g.1.1.length : Int), 0, ()), (g, ()), ()) = some (if (List.range g.1.1.length).all (fun i : Nat => jA (gd g.2.2.2.2.2.1 (i : Int)) 0 200 && jA (gd g.2.2.2.2.2.2 (i : Int)) 0 100) then .inr ((), (), ()) else .inl ((120, ()), (), ())) :=
  L10.loopAll (L := L9_14) (fun i => (((g.1.1.length : Int), (i : Int), ()), (g, ()), ())) (List.range g.1.1.length) (fun i : Nat => jA (gd g.2.2.2.2.2.1 (i : Int)) 0 200 && jA (gd g.2.2.2.2.2.2 (i : Int)) 0 100) (.inl ((120, ()), (), ())) (.inr ((), (), ())) 0 (by have := qY; simp; omega)
    (fun N => by simp [L9_14, B9_14])
    (fun N i _ hi => by
      rw [List.length_range] at hi
      simp only [L9_14, B9_14]
      rw [qs (by omega), cond_true, ql (by omega) (by omega), qjX, qb, L10.gd_range hi]
      dsimp only
      cases jA (gd g.2.2.2.2.2.1 (i : Int)) 0 200 with
      | false => rfl
      | true =>
        rw [Bool.not_true, cond_false, ql (by omega) (by omega), qjX, qb, wI (by omega) (by omega)]
        cases jA (gd g.2.2.2.2.2.2 (i : Int)) 0 100 <;> rfl)
theorem qiE {l : List Int} {n : Nat} {q : Int → Bool} (hl : l.length = n) (h : ∀ i, i < n → q (gd l (i : Int)) = true) : l.all q = true := by
  rw [List.all_eq_true]
  intro x hx
  obtain ⟨i, hi, rfl⟩ := List.mem_iff_getElem.1 hx
  have := h i (by omega)
  rwa [qgM (List.getElem?_eq_getElem hi)] at this
theorem check12 (g : qb7) : ∃ e : Int, g9 (g, ()) = some ((e, ()), ()) ∧ (e = 0 → qdr g) := by
  have hF : g9 (g, ()) = F9 fuel g := rfl
  rw [hF]
  unfold F9
  rw [qiU, qb]
  cases he : qdq g.1 with
  | false => exact ⟨70, rfl, fun h => absurd h (by decide)⟩
  | true =>
  have h8 : g.1.1.length ≤ 8 := by
    unfold qdq at he
    rw [Bool.and_eq_true, decide_eq_true_eq] at he
    exact he.1
  rw [L10.root10.2.1, qb]
  dsimp only
  by_cases hb : (L10.checkR g.2.1 g.2.2.1).2 = 0
  case neg => exact ⟨_, by rw [show ((if true = true then (0 : Int) else 70) != 0) = false from rfl, cond_false, L10.neq_t hb]; rfl, fun h => absurd h hb⟩
  rw [hb, L05.root05.2.1, qb]
  dsimp only
  cases hs : L05.okS g.2.2.2.2.1 with
  | false => exact ⟨50, rfl, fun h => absurd h (by decide)⟩
  | true =>
  rw [show ((if true = true then (0 : Int) else 70) != 0) = false from rfl, cond_false, show ((0 : Int) != 0) = false from rfl, cond_false, show ((if true = true then (0 : Int) else 50) != 0) = false from rfl, cond_false]
  by_cases h1 : g.2.1.2.2.length = g.1.1.length
  case neg => exact ⟨120, by rw [L10.neq_t (by omega)]; rfl, fun h => absurd h (by decide)⟩
  rw [h1, bne_self_eq_false, cond_false]
  by_cases h2 : g.2.2.2.2.1.2.1.length = g.1.1.length
  case neg => exact ⟨120, by rw [L10.neq_t (by omega)]; rfl, fun h => absurd h (by decide)⟩
  rw [h2, bne_self_eq_false, cond_false]
  by_cases h3 : g.2.2.2.2.2.1.length = g.1.1.length
  case neg => exact ⟨120, by rw [L10.neq_t (by omega)]; rfl, fun h => absurd h (by decide)⟩
  rw [h3, bne_self_eq_false, cond_false]
  by_cases h4 : g.2.2.2.2.2.2.length = g.1.1.length
  case neg => exact ⟨120, by rw [L10.neq_t (by omega)]; rfl, fun h => absurd h (by decide)⟩
  rw [h4, bne_self_eq_false, cond_false, qjX, qb]
  dsimp only
  cases hd : jA g.2.2.2.1 0 10000 with
  | false => exact ⟨120, rfl, fun h => absurd h (by decide)⟩
  | true =>
  rw [Bool.not_true, cond_false, qkW g h3 h4 h8, qb]
  cases hl : (List.range g.1.1.length).all (fun i : Nat => jA (gd g.2.2.2.2.2.1 (i : Int)) 0 200 && jA (gd g.2.2.2.2.2.2 (i : Int)) 0 100) with
  | false => exact ⟨120, rfl, fun h => absurd h (by decide)⟩
  | true =>
    refine ⟨0, rfl, fun _ => ⟨he, hb, hs, h1, h2, h3, h4, hd, qiE h3 fun i hi => ?_, qiE h4 fun i hi => ?_⟩⟩
    · have := List.all_eq_true.1 hl i (List.mem_range.2 hi)
      exact (Bool.and_eq_true _ _ ▸ this : _ ∧ _).1
    · have := List.all_eq_true.1 hl i (List.mem_range.2 hi)
      exact (Bool.and_eq_true _ _ ▸ this : _ ∧ _).2
theorem qdr.n8 {g : qb7} (h : qdr g) : g.1.1.length ≤ 8 := by
  have he := h.eve
  unfold qdq at he
  rw [Bool.and_eq_true, decide_eq_true_eq] at he
  exact he.1
theorem beyond {l : List Int} (hl : l.length ≤ 8) {most : Int} (h : l.all (fun x => jA x 0 most) = true) : g26 (l, (fun v5 => qa (some most) fun q7 => qa (g24 (v5, q7, ())) fun y6 => some y6.1.1), ()) = some ((false, ()), ()) := by
  rw [L10.g26_eq l (by omega) _ (fun x => !jA x 0 most) (fun x _ => by
    rw [qb]
    show qa (F24 fuel x most) _ = _
    unfold F24
    rw [qeu]
    rfl), L10.any_not, h]
  rfl
theorem qdr.check {g : qb7} (h : qdr g) : g8 (g, ()) = some ((0, ()), ()) := by
  have hF : g8 (g, ()) = F8 fuel g := rfl
  have h8 := h.n8
  rw [hF]
  unfold F8
  rw [qfE h.eve, qb, L10.root10.1, qb, L05.root05.1, qb, h.book, h.sup, h.ins, h.loads, h.lims, h.emps]
  simp only [bne_self_eq_false, cond_false, if_true, qeu, qb, h.day, Bool.not_true]
  have e1 : Mk.m23.p.g (200, ()) = some ((some 200, ()), ()) := rfl
  have e2 : Mk.m23.p.g (100, ()) = some ((some 100, ()), ()) := rfl
  have b1 := beyond (by have := h.lims; omega) h.lim
  have b2 := beyond (by have := h.emps; omega) h.emp
  rw [qZ e1]
  refine (qZ b1 _).trans ?_
  simp only [cond_false]
  rw [qZ e2]
  exact (qZ b2 _).trans rfl
end Go.Proofs.Tryz.V.Top
