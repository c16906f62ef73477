/- Plain laws of the night: which galas are right, by the document and by the program; what opens; an equal gala in new memory; the example. No condition beyond those typed in each theorem. -/
import Derived.Test.YtinkjepanpicoaaGreatS01
import Derived.Test.YtinkjepanpicoaaGreatS05b
import Derived.Test.YtinkjepanpicoaaGreatS10b
namespace Go.Proofs.Tryz.V.Top
open Go.Vi
open L10 (rng q9)
set_option maxRecDepth 100000
abbrev Bth := Int × (Int × (Int × (Int × Bool)))
abbrev Eve := (List Bth) × Int
abbrev qcZ := Eve × (L10.Book × ((List L10.Ent) × (Int × (L05.Sup × ((List Int) × (List Int))))))
theorem qlh : g6 () = some ((true, ()), ()) := by
  show F6 fuel = _
  unfold F6
  have e := L01.buyT
  unfold L01.exT at e
  rw [qbg, e, qb]
  show qa (g14 ([1, 1], [1, 1], ())) _ = _
  rw [L01.root01]
  rfl
theorem qeQ (x lo hi : Int) : g51 (x, lo, hi, ()) = some ((rng x lo hi, ()), ()) := by
  show F51 fuel x lo hi = _
  unfold F51 rng
  by_cases h : lo ≤ x
  · rw [qo (p := x ≥ lo) h]; rfl
  · rw [qA (p := x ≥ lo) h]; rfl
theorem from7 (x lo hi : Int) : g56 (x, lo, hi, ()) = some ((rng x lo hi, ()), ()) := qeQ x lo hi
theorem qkI (x lo hi : Int) : g30 (x, lo, hi, ()) = some ((rng x lo hi, ()), ()) := qeQ x lo hi
theorem qjl (x lo hi : Int) : g25 (x, lo, hi, ()) = some ((rng x lo hi, ()), ()) := qeQ x lo hi
def qgf (b : Bth) : Bool := rng b.1 1 40 && (rng b.2.1 0 100 && (rng b.2.2.1 1 100 && rng b.2.2.2.1 0 100))
def qd2 (f : Eve) : Bool := decide (f.1.length ≤ 8) && (rng f.2 0 100 && f.1.all qgf)
theorem ref_eve (f : Eve) : g55 (f, ()) = some ((if qd2 f then 0 else 70, ()), ()) := by
  show F55 fuel f = _
  unfold F55 qd2
  by_cases h8 : f.1.length ≤ 8
  · rw [qA (by omega), qo h8, cond_false, from7, qb]
    dsimp only
    cases rng f.2 0 100 with
    | false => rfl
    | true =>
      have e : L55_4 fuel ((0, ()), (f, ()), ()) = _ := L10.loopAll (L := L55_4) (fun i => (((i : Int), ()), (f, ()), ())) f.1 qgf (.inl ((70, ()), (), ())) (.inr ((), (), ())) 0 (by have := jG; omega)
        (fun N => by simp [L55_4, B55_4])
        (fun N i _ hi => by
          simp only [L55_4, B55_4]
          rw [qo (by omega), cond_true, qp (by omega) (by omega)]
          simp only [from7, qb]
          rw [wI (by omega) (by omega)]
          unfold qgf
          cases rng (gd f.1 (i : Int)).1 1 40 with
          | false => rfl
          | true =>
            cases rng (gd f.1 (i : Int)).2.1 0 100 with
            | false => rfl
            | true =>
              cases rng (gd f.1 (i : Int)).2.2.1 1 100 with
              | false => rfl
              | true => cases rng (gd f.1 (i : Int)).2.2.2.1 0 100 <;> rfl)
      rw [Bool.not_true, cond_false, e, qb]
      cases f.1.all qgf <;> rfl
  · rw [qo (by omega), qA h8]
    rfl
theorem idx_bth (l : List Bth) (hl : l.length ≤ 1099511627776) (f : Bth → Option Bool) (q : Bth → Bool) (hf : ∀ x ∈ l, f x = some (q x)) : g102 (l, f, ()) = some ((L10.idxI l q, ()), ()) := by
  show F102 fuel l f = _
  unfold F102
  have e := L10.loopIdx (L := L102_2) (fun i => ((l, f, (l.length : Int), (i : Int), ()), (), ())) l q (fun i => .inl (((i : Int), ()), (), ())) (.inr ((), (), ())) 0 (N := fuel) (by have := jG; omega)
    (fun N => by simp [L102_2, B102_2])
    (fun N i _ hi => by
      simp only [L102_2, B102_2]
      rw [qo (by omega), cond_true, qp (by omega) (by omega), hf _ (qbA (by omega) (by omega)), qb, wI (by omega) (by omega)]
      cases q (gd l (i : Int)) <;> rfl)
  have e' : L102_2 fuel ((l, f, (l.length : Int), 0, ()), (), ()) = _ := e
  rw [e', qb]
  unfold L10.idxI
  cases l.findIdx? q <;> rfl
theorem pro_eve (f : Eve) : g48 (f, ()) = some ((if qd2 f then 0 else 70, ()), ()) := by
  show F48 fuel f = _
  unfold F48 qd2
  by_cases h8 : f.1.length ≤ 8
  · rw [qA (by omega), qo h8, cond_false, qeQ, qb]
    dsimp only
    cases rng f.2 0 100 with
    | false => rfl
    | true =>
      have e : g83 (f.1, (fun v2 => qa (g82 (v2, ())) fun y3 => some y3.1.1), ()) = some ((!f.1.all qgf, ()), ()) := by
        show F83 fuel _ _ = _
        unfold F83
        rw [idx_bth f.1 (by omega) _ (fun b => !qgf b) (fun b _ => by
          show qa (F82 fuel b) _ = _
          unfold F82 qgf
          simp only [qeQ, qb]
          cases rng b.1 1 40 with
          | false => rfl
          | true =>
            cases rng b.2.1 0 100 with
            | false => rfl
            | true =>
              cases rng b.2.2.1 1 100 with
              | false => rfl
              | true => cases rng b.2.2.2.1 0 100 <;> rfl), qb]
        dsimp only
        rw [L10.idxI_nn, L10.any_not]
      rw [Bool.not_true, cond_false, e, qb]
      cases f.1.all qgf <;> rfl
  · rw [qo (by omega), qA h8]
    rfl
theorem qju (f : Eve) : g27 (f, [], ()) = some ((if qd2 f then 0 else 70, ()), ()) := by
  show F27 fuel f [] = _
  unfold F27
  rw [ref_eve, qb]
  cases qd2 f with
  | false => rfl
  | true =>
    obtain ⟨n, hn⟩ : ∃ n, fuel = n + 1 := ⟨fuel - 1, by have := jG; omega⟩
    rw [hn]
    rfl
theorem qjA {f : Eve} (h : qd2 f = true) : g20 (f, [], ()) = some ((0, ()), ()) := by
  show F20 fuel f [] = _
  unfold F20
  rw [pro_eve, qb, h]
  have e : ∀ k, g52 ([], k, ()) = some ((false, ()), ()) := fun k => by
    show F52 fuel [] k = _
    unfold F52
    have e2 : g84 ([], k, ()) = some ((-1, ()), ()) := by
      show F84 fuel [] k = _
      unfold F84
      obtain ⟨n, hn⟩ : ∃ n, fuel = n + 1 := ⟨fuel - 1, by have := jG; omega⟩
      rw [hn]
      rfl
    rw [e2]
    rfl
  rw [if_pos rfl]
  dsimp only
  rw [show ((0 : Int) != 0) = false from rfl, cond_false, qA (by simp), cond_false]
  exact (qaa (e _) _).trans rfl
structure qcb (g : qcZ) : Prop where
  eve : qd2 g.1 = true
  book : (L10.checkR g.2.1 g.2.2.1).2 = 0
  sup : L05.okS g.2.2.2.2.1 = true
  ins : g.2.1.2.2.length = g.1.1.length
  loads : g.2.2.2.2.1.2.1.length = g.1.1.length
  lims : g.2.2.2.2.2.1.length = g.1.1.length
  emps : g.2.2.2.2.2.2.length = g.1.1.length
  day : rng g.2.2.2.1 0 10000 = true
  lim : g.2.2.2.2.2.1.all (fun x => rng x 0 200) = true
  emp : g.2.2.2.2.2.2.all (fun x => rng x 0 100) = true
theorem qlE (g : qcZ) (h1 : g.2.2.2.2.2.1.length = g.1.1.length) (h2 : g.2.2.2.2.2.2.length = g.1.1.length) (h8 : g.1.1.length ≤ 8) :
    L9_14 fuel (((g.1.1.length : Int), 0, ()), (g, ()), ()) = some (if (List.range g.1.1.length).all (fun i : Nat => rng (gd g.2.2.2.2.2.1 (i : Int)) 0 200 && rng (gd g.2.2.2.2.2.2 (i : Int)) 0 100) then .inr ((), (), ()) else .inl ((120, ()), (), ())) :=
  L10.loopAll (L := L9_14) (fun i => (((g.1.1.length : Int), (i : Int), ()), (g, ()), ())) (List.range g.1.1.length) (fun i : Nat => rng (gd g.2.2.2.2.2.1 (i : Int)) 0 200 && rng (gd g.2.2.2.2.2.2 (i : Int)) 0 100) (.inl ((120, ()), (), ())) (.inr ((), (), ())) 0 (by have := jG; simp; omega)
    (fun N => by simp [L9_14, B9_14])
    (fun N i _ hi => by
      rw [List.length_range] at hi
      simp only [L9_14, B9_14]
      rw [qo (by omega), cond_true, qp (by omega) (by omega), qkI, qb, L10.gd_range hi]
      dsimp only
      cases rng (gd g.2.2.2.2.2.1 (i : Int)) 0 200 with
      | false => rfl
      | true =>
        rw [Bool.not_true, cond_false, qp (by omega) (by omega), qkI, qb, wI (by omega) (by omega)]
        cases rng (gd g.2.2.2.2.2.2 (i : Int)) 0 100 <;> rfl)
theorem qjf {l : List Int} {n : Nat} {q : Int → Bool} (hl : l.length = n) (h : ∀ i, i < n → q (gd l (i : Int)) = true) : l.all q = true := by
  rw [List.all_eq_true]
  intro x hx
  obtain ⟨i, hi, rfl⟩ := List.mem_iff_getElem.1 hx
  have := h i (by omega)
  rwa [gd_of (List.getElem?_eq_getElem hi)] at this
theorem check12 (g : qcZ) : ∃ e : Int, g9 (g, ()) = some ((e, ()), ()) ∧ (e = 0 → qcb g) := by
  have hF : g9 (g, ()) = F9 fuel g := rfl
  rw [hF]
  unfold F9
  rw [qju, qb]
  cases he : qd2 g.1 with
  | false => exact ⟨70, rfl, fun h => absurd h (by decide)⟩
  | true =>
  have h8 : g.1.1.length ≤ 8 := by
    unfold qd2 at he
    rw [Bool.and_eq_true, decide_eq_true_eq] at he
    exact he.1
  rw [L10.root10.2.1, qb]
  dsimp only
  by_cases hb : (L10.checkR g.2.1 g.2.2.1).2 = 0
  case neg => exact ⟨_, by rw [show ((if true = true then (0 : Int) else 70) != 0) = false from rfl, cond_false, L10.neq_t hb]; rfl, fun h => absurd h hb⟩
  rw [hb, L05.root05.2.1, qb]
  dsimp only
  cases hs : L05.okS g.2.2.2.2.1 with
  | false => exact ⟨50, rfl, fun h => absurd h (by decide)⟩
  | true =>
  rw [show ((if true = true then (0 : Int) else 70) != 0) = false from rfl, cond_false, show ((0 : Int) != 0) = false from rfl, cond_false, show ((if true = true then (0 : Int) else 50) != 0) = false from rfl, cond_false]
  by_cases h1 : g.2.1.2.2.length = g.1.1.length
  case neg => exact ⟨120, by rw [L10.neq_t (by omega)]; rfl, fun h => absurd h (by decide)⟩
  rw [h1, bne_self_eq_false, cond_false]
  by_cases h2 : g.2.2.2.2.1.2.1.length = g.1.1.length
  case neg => exact ⟨120, by rw [L10.neq_t (by omega)]; rfl, fun h => absurd h (by decide)⟩
  rw [h2, bne_self_eq_false, cond_false]
  by_cases h3 : g.2.2.2.2.2.1.length = g.1.1.length
  case neg => exact ⟨120, by rw [L10.neq_t (by omega)]; rfl, fun h => absurd h (by decide)⟩
  rw [h3, bne_self_eq_false, cond_false]
  by_cases h4 : g.2.2.2.2.2.2.length = g.1.1.length
  case neg => exact ⟨120, by rw [L10.neq_t (by omega)]; rfl, fun h => absurd h (by decide)⟩
  rw [h4, bne_self_eq_false, cond_false, qkI, qb]
  dsimp only
  cases hd : rng g.2.2.2.1 0 10000 with
  | false => exact ⟨120, rfl, fun h => absurd h (by decide)⟩
  | true =>
  rw [Bool.not_true, cond_false, qlE g h3 h4 h8, qb]
  cases hl : (List.range g.1.1.length).all (fun i : Nat => rng (gd g.2.2.2.2.2.1 (i : Int)) 0 200 && rng (gd g.2.2.2.2.2.2 (i : Int)) 0 100) with
  | false => exact ⟨120, rfl, fun h => absurd h (by decide)⟩
  | true =>
    refine ⟨0, rfl, fun _ => ⟨he, hb, hs, h1, h2, h3, h4, hd, qjf h3 fun i hi => ?_, qjf h4 fun i hi => ?_⟩⟩
    · have := List.all_eq_true.1 hl i (List.mem_range.2 hi)
      exact (Bool.and_eq_true _ _ ▸ this : _ ∧ _).1
    · have := List.all_eq_true.1 hl i (List.mem_range.2 hi)
      exact (Bool.and_eq_true _ _ ▸ this : _ ∧ _).2
theorem qcb.n8 {g : qcZ} (h : qcb g) : g.1.1.length ≤ 8 := by
  have he := h.eve
  unfold qd2 at he
  rw [Bool.and_eq_true, decide_eq_true_eq] at he
  exact he.1
theorem beyond {l : List Int} (hl : l.length ≤ 8) {most : Int} (h : l.all (fun x => rng x 0 most) = true) : g26 (l, (fun v5 => qa (some most) fun q7 => qa (g24 (v5, q7, ())) fun y6 => some y6.1.1), ()) = some ((false, ()), ()) := by
  rw [L10.g26_eq l (by omega) _ (fun x => !rng x 0 most) (fun x _ => by
    rw [qb]
    show qa (F24 fuel x most) _ = _
    unfold F24
    rw [qjl]
    rfl), L10.any_not, h]
  rfl
theorem qcb.check {g : qcZ} (h : qcb g) : g8 (g, ()) = some ((0, ()), ()) := by
  have hF : g8 (g, ()) = F8 fuel g := rfl
  have h8 := h.n8
  rw [hF]
  unfold F8
  rw [qjA h.eve, qb, L10.root10.1, qb, L05.root05.1, qb, h.book, h.sup, h.ins, h.loads, h.lims, h.emps]
  simp only [bne_self_eq_false, cond_false, if_true, qjl, qb, h.day, Bool.not_true]
  have e1 : Mk.m23.p.g (200, ()) = some ((some 200, ()), ()) := rfl
  have e2 : Mk.m23.p.g (100, ()) = some ((some 100, ()), ()) := rfl
  have b1 := beyond (by have := h.lims; omega) h.lim
  have b2 := beyond (by have := h.emps; omega) h.emp
  rw [qaa e1]
  refine (qaa b1 _).trans ?_
  simp only [cond_false]
  rw [qaa e2]
  exact (qaa b2 _).trans rfl
end Go.Proofs.Tryz.V.Top
