/- Plain laws of the night: which galas are right, by the document and by the program; what opens; an equal gala in new memory; the example. No condition beyond those typed in each theorem. -/
import Derived.Test.YtinkjepanpicoaaS01
import Derived.Test.YtinkjepanpicoaaS05d
import Derived.Test.YtinkjepanpicoaaS10v
namespace Go.Proofs.Try.V.Top
open Go.Vi
open L10 (rng rng_iff)
set_option maxRecDepth 100000

abbrev Bth := Int × (Int × (Int × (Int × Bool)))
abbrev Eve := (List Bth) × Int
abbrev Gala := Eve × (L10.Book × ((List L10.Ent) × (Int × (L05.Sup × ((List Int) × (List Int))))))

theorem buys_eq : g6 () = some ((true, ()), ()) := by
  show F6 fuel = _
  unfold F6
  have e := L01.buyT
  unfold L01.exT at e
  rw [bindV_eq, e, derefK_some]
  show derefK (g14 ([1, 1], [1, 1], ())) _ = _
  rw [L01.root01]
  rfl

/-! ## An evening -/
theorem within7 (x lo hi : Int) : g86 (x, lo, hi, ()) = some ((rng x lo hi, ()), ()) := by
  show F86 fuel x lo hi = _
  unfold F86 rng
  by_cases h : lo ≤ x
  · rw [dec_t (p := x ≥ lo) h]; rfl
  · rw [dec_f (p := x ≥ lo) h]; rfl
theorem from7 (x lo hi : Int) : g33 (x, lo, hi, ()) = some ((rng x lo hi, ()), ()) := within7 x lo hi
theorem from12 (x lo hi : Int) : g19 (x, lo, hi, ()) = some ((rng x lo hi, ()), ()) := within7 x lo hi
theorem within12 (x lo hi : Int) : g69 (x, lo, hi, ()) = some ((rng x lo hi, ()), ()) := within7 x lo hi
def bthOK (b : Bth) : Bool := rng b.1 1 40 && (rng b.2.1 0 100 && (rng b.2.2.1 1 100 && rng b.2.2.2.1 0 100))
def eveOK (f : Eve) : Bool := decide (f.1.length ≤ 8) && (rng f.2 0 100 && f.1.all bthOK)
theorem ref_eve (f : Eve) : g32 (f, ()) = some ((if eveOK f then 0 else 70, ()), ()) := by
  show F32 fuel f = _
  unfold F32 eveOK
  by_cases h8 : f.1.length ≤ 8
  · rw [dec_f (by omega), dec_t h8, cond_false, from7, derefK_some]
    dsimp only
    cases rng f.2 0 100 with
    | false => rfl
    | true =>
      have e : L32_4 fuel ((0, ()), (f, ()), ()) = _ := L10.loopAll (L := L32_4) (fun i => (((i : Int), ()), (f, ()), ())) f.1 bthOK (.inl ((70, ()), (), ())) (.inr ((), (), ())) 0 (by have := fuel_ge; omega)
        (fun N => by simp [L32_4, B32_4])
        (fun N i _ hi => by
          simp only [L32_4, B32_4]
          rw [dec_t (by omega), cond_true, getI_gd (by omega) (by omega)]
          simp only [from7, derefK_some]
          rw [wI (by omega) (by omega)]
          unfold bthOK
          cases rng (gd f.1 (i : Int)).1 1 40 with
          | false => rfl
          | true =>
            cases rng (gd f.1 (i : Int)).2.1 0 100 with
            | false => rfl
            | true =>
              cases rng (gd f.1 (i : Int)).2.2.1 1 100 with
              | false => rfl
              | true => cases rng (gd f.1 (i : Int)).2.2.2.1 0 100 <;> rfl)
      rw [Bool.not_true, cond_false, e, derefK_some]
      cases f.1.all bthOK <;> rfl
  · rw [dec_t (by omega), dec_f h8]
    rfl
theorem idx_bth (l : List Bth) (hl : l.length ≤ 1099511627776) (f : Bth → Option Bool) (q : Bth → Bool) (hf : ∀ x ∈ l, f x = some (q x)) : g104 (l, f, ()) = some ((L10.idxI l q, ()), ()) := by
  show F104 fuel l f = _
  unfold F104
  have e := L10.loopIdx (L := L104_2) (fun i => ((l, f, (l.length : Int), (i : Int), ()), (), ())) l q (fun i => .inl (((i : Int), ()), (), ())) (.inr ((), (), ())) 0 (N := fuel) (by have := fuel_ge; omega)
    (fun N => by simp [L104_2, B104_2])
    (fun N i _ hi => by
      simp only [L104_2, B104_2]
      rw [dec_t (by omega), cond_true, getI_gd (by omega) (by omega), hf _ (gd_mem (by omega) (by omega)), derefK_some, wI (by omega) (by omega)]
      cases q (gd l (i : Int)) <;> rfl)
  have e' : L104_2 fuel ((l, f, (l.length : Int), 0, ()), (), ()) = _ := e
  rw [e', derefK_some]
  unfold L10.idxI
  cases l.findIdx? q <;> rfl
theorem pro_eve (f : Eve) : g83 (f, ()) = some ((if eveOK f then 0 else 70, ()), ()) := by
  show F83 fuel f = _
  unfold F83 eveOK
  by_cases h8 : f.1.length ≤ 8
  · rw [dec_f (by omega), dec_t h8, cond_false, within7, derefK_some]
    dsimp only
    cases rng f.2 0 100 with
    | false => rfl
    | true =>
      have e : g94 (f.1, (fun v2 => derefK (g93 (v2, ())) fun y3 => some y3.1.1), ()) = some ((!f.1.all bthOK, ()), ()) := by
        show F94 fuel _ _ = _
        unfold F94
        rw [idx_bth f.1 (by omega) _ (fun b => !bthOK b) (fun b _ => by
          show derefK (F93 fuel b) _ = _
          unfold F93 bthOK
          simp only [within7, derefK_some]
          cases rng b.1 1 40 with
          | false => rfl
          | true =>
            cases rng b.2.1 0 100 with
            | false => rfl
            | true =>
              cases rng b.2.2.1 1 100 with
              | false => rfl
              | true => cases rng b.2.2.2.1 0 100 <;> rfl), derefK_some]
        dsimp only
        rw [L10.idxI_nn, L10.any_not]
      rw [Bool.not_true, cond_false, e, derefK_some]
      cases f.1.all bthOK <;> rfl
  · rw [dec_t (by omega), dec_f h8]
    rfl
theorem ref_evening (f : Eve) : g16 (f, [], ()) = some ((if eveOK f then 0 else 70, ()), ()) := by
  show F16 fuel f [] = _
  unfold F16
  rw [ref_eve, derefK_some]
  cases eveOK f with
  | false => rfl
  | true =>
    obtain ⟨n, hn⟩ : ∃ n, fuel = n + 1 := ⟨fuel - 1, by have := fuel_ge; omega⟩
    rw [hn]
    rfl
theorem pro_evening {f : Eve} (h : eveOK f = true) : g64 (f, [], ()) = some ((0, ()), ()) := by
  show F64 fuel f [] = _
  unfold F64
  rw [pro_eve, derefK_some, h]
  have e : ∀ k, g87 ([], k, ()) = some ((false, ()), ()) := fun k => by
    show F87 fuel [] k = _
    unfold F87
    have e2 : g95 ([], k, ()) = some ((-1, ()), ()) := by
      show F95 fuel [] k = _
      unfold F95
      obtain ⟨n, hn⟩ : ∃ n, fuel = n + 1 := ⟨fuel - 1, by have := fuel_ge; omega⟩
      rw [hn]
      rfl
    rw [e2]
    rfl
  rw [if_pos rfl]
  dsimp only
  rw [show ((0 : Int) != 0) = false from rfl, cond_false, dec_f (by simp), cond_false]
  exact (derefK_of (e _) _).trans rfl

/-! ## A gala -/
structure Valid (g : Gala) : Prop where
  eve : eveOK g.1 = true
  book : (L10.checkR g.2.1 g.2.2.1).2 = 0
  sup : L05.okS g.2.2.2.2.1 = true
  ins : g.2.1.2.2.length = g.1.1.length
  loads : g.2.2.2.2.1.2.1.length = g.1.1.length
  lims : g.2.2.2.2.2.1.length = g.1.1.length
  emps : g.2.2.2.2.2.2.length = g.1.1.length
  day : rng g.2.2.2.1 0 10000 = true
  lim : g.2.2.2.2.2.1.all (fun x => rng x 0 200) = true
  emp : g.2.2.2.2.2.2.all (fun x => rng x 0 100) = true
theorem lims_loop (g : Gala) (h1 : g.2.2.2.2.2.1.length = g.1.1.length) (h2 : g.2.2.2.2.2.2.length = g.1.1.length) (h8 : g.1.1.length ≤ 8) :
    L8_14 fuel (((g.1.1.length : Int), 0, ()), (g, ()), ()) = some (if (List.range g.1.1.length).all (fun i : Nat => rng (gd g.2.2.2.2.2.1 (i : Int)) 0 200 && rng (gd g.2.2.2.2.2.2 (i : Int)) 0 100) then .inr ((), (), ()) else .inl ((120, ()), (), ())) :=
  L10.loopAll (L := L8_14) (fun i => (((g.1.1.length : Int), (i : Int), ()), (g, ()), ())) (List.range g.1.1.length) (fun i : Nat => rng (gd g.2.2.2.2.2.1 (i : Int)) 0 200 && rng (gd g.2.2.2.2.2.2 (i : Int)) 0 100) (.inl ((120, ()), (), ())) (.inr ((), (), ())) 0 (by have := fuel_ge; simp; omega)
    (fun N => by simp [L8_14, B8_14])
    (fun N i _ hi => by
      rw [List.length_range] at hi
      simp only [L8_14, B8_14]
      rw [dec_t (by omega), cond_true, getI_gd (by omega) (by omega), from12, derefK_some, L10.gd_range hi]
      dsimp only
      cases rng (gd g.2.2.2.2.2.1 (i : Int)) 0 200 with
      | false => rfl
      | true =>
        rw [Bool.not_true, cond_false, getI_gd (by omega) (by omega), from12, derefK_some, wI (by omega) (by omega)]
        cases rng (gd g.2.2.2.2.2.2 (i : Int)) 0 100 <;> rfl)
theorem all_gd {l : List Int} {n : Nat} {q : Int → Bool} (hl : l.length = n) (h : ∀ i, i < n → q (gd l (i : Int)) = true) : l.all q = true := by
  rw [List.all_eq_true]
  intro x hx
  obtain ⟨i, hi, rfl⟩ := List.mem_iff_getElem.1 hx
  have := h i (by omega)
  rwa [gd_of (List.getElem?_eq_getElem hi)] at this
theorem check12 (g : Gala) : ∃ e : Int, g8 (g, ()) = some ((e, ()), ()) ∧ (e = 0 → Valid g) := by
  have hF : g8 (g, ()) = F8 fuel g := rfl
  rw [hF]
  unfold F8
  rw [ref_evening, derefK_some]
  cases he : eveOK g.1 with
  | false => exact ⟨70, rfl, fun h => absurd h (by decide)⟩
  | true =>
  have h8 : g.1.1.length ≤ 8 := by
    unfold eveOK at he
    rw [Bool.and_eq_true, decide_eq_true_eq] at he
    exact he.1
  rw [L10.root10.2.1, derefK_some]
  dsimp only
  by_cases hb : (L10.checkR g.2.1 g.2.2.1).2 = 0
  case neg => exact ⟨_, by rw [show ((if true = true then (0 : Int) else 70) != 0) = false from rfl, cond_false, L10.neq_t hb]; rfl, fun h => absurd h hb⟩
  rw [hb, L05.root05.2.1, derefK_some]
  dsimp only
  cases hs : L05.okS g.2.2.2.2.1 with
  | false => exact ⟨50, rfl, fun h => absurd h (by decide)⟩
  | true =>
  rw [show ((if true = true then (0 : Int) else 70) != 0) = false from rfl, cond_false, show ((0 : Int) != 0) = false from rfl, cond_false, show ((if true = true then (0 : Int) else 50) != 0) = false from rfl, cond_false]
  by_cases h1 : g.2.1.2.2.length = g.1.1.length
  case neg => exact ⟨120, by rw [L10.neq_t (by omega)]; rfl, fun h => absurd h (by decide)⟩
  rw [h1, bne_self_eq_false, cond_false]
  by_cases h2 : g.2.2.2.2.1.2.1.length = g.1.1.length
  case neg => exact ⟨120, by rw [L10.neq_t (by omega)]; rfl, fun h => absurd h (by decide)⟩
  rw [h2, bne_self_eq_false, cond_false]
  by_cases h3 : g.2.2.2.2.2.1.length = g.1.1.length
  case neg => exact ⟨120, by rw [L10.neq_t (by omega)]; rfl, fun h => absurd h (by decide)⟩
  rw [h3, bne_self_eq_false, cond_false]
  by_cases h4 : g.2.2.2.2.2.2.length = g.1.1.length
  case neg => exact ⟨120, by rw [L10.neq_t (by omega)]; rfl, fun h => absurd h (by decide)⟩
  rw [h4, bne_self_eq_false, cond_false, from12, derefK_some]
  dsimp only
  cases hd : rng g.2.2.2.1 0 10000 with
  | false => exact ⟨120, rfl, fun h => absurd h (by decide)⟩
  | true =>
  rw [Bool.not_true, cond_false, lims_loop g h3 h4 h8, derefK_some]
  cases hl : (List.range g.1.1.length).all (fun i : Nat => rng (gd g.2.2.2.2.2.1 (i : Int)) 0 200 && rng (gd g.2.2.2.2.2.2 (i : Int)) 0 100) with
  | false => exact ⟨120, rfl, fun h => absurd h (by decide)⟩
  | true =>
    refine ⟨0, rfl, fun _ => ⟨he, hb, hs, h1, h2, h3, h4, hd, all_gd h3 fun i hi => ?_, all_gd h4 fun i hi => ?_⟩⟩
    · have := List.all_eq_true.1 hl i (List.mem_range.2 hi)
      exact (Bool.and_eq_true _ _ ▸ this : _ ∧ _).1
    · have := List.all_eq_true.1 hl i (List.mem_range.2 hi)
      exact (Bool.and_eq_true _ _ ▸ this : _ ∧ _).2
theorem Valid.n8 {g : Gala} (h : Valid g) : g.1.1.length ≤ 8 := by
  have he := h.eve
  unfold eveOK at he
  rw [Bool.and_eq_true, decide_eq_true_eq] at he
  exact he.1
theorem beyond {l : List Int} (hl : l.length ≤ 8) {most : Int} (h : l.all (fun x => rng x 0 most) = true) : g45 (l, (fun v5 => derefK (some most) fun q7 => derefK (g68 (v5, q7, ())) fun y6 => some y6.1.1), ()) = some ((false, ()), ()) := by
  rw [L10.g45_eq l (by omega) _ (fun x => !rng x 0 most) (fun x _ => by
    rw [derefK_some]
    show derefK (F68 fuel x most) _ = _
    unfold F68
    rw [within12]
    rfl), L10.any_not, h]
  rfl
theorem Valid.check {g : Gala} (h : Valid g) : g41 (g, ()) = some ((0, ()), ()) := by
  have hF : g41 (g, ()) = F41 fuel g := rfl
  have h8 := h.n8
  rw [hF]
  unfold F41
  rw [pro_evening h.eve, derefK_some, L10.root10.1, derefK_some, L05.root05.1, derefK_some, h.book, h.sup, h.ins, h.loads, h.lims, h.emps]
  simp only [bne_self_eq_false, cond_false, if_true, within12, derefK_some, h.day, Bool.not_true]
  have e1 : Mk.m67.p.g (200, ()) = some ((some 200, ()), ()) := rfl
  have e2 : Mk.m67.p.g (100, ()) = some ((some 100, ()), ()) := rfl
  have b1 := beyond (by have := h.lims; omega) h.lim
  have b2 := beyond (by have := h.emps; omega) h.emp
  rw [derefK_of e1]
  refine (derefK_of b1 _).trans ?_
  simp only [cond_false]
  rw [derefK_of e2]
  exact (derefK_of b2 _).trans rfl
end Go.Proofs.Try.V.Top
