/- Plain laws of the night: which galas are right, by the document and by the program; what opens; an equal gala in new memory; the example. No condition beyond those typed in each theorem. -/
import Derived.Test.YtaojldppmlehlaaGreatS01
import Derived.Test.YtaojldppmlehlaaGreatS05b
import Derived.Test.YtaojldppmlehlaaGreatS10p
namespace Go.Proofs.Tryz.V.Top
open Go.Vi
open L10 (jG qP)
set_option maxRecDepth 100000
abbrev Bth := Int × (Int × (Int × (Int × Bool)))
abbrev Eve := (List Bth) × Int
abbrev qda := Eve × (L10.Book × ((List L10.Ent) × (Int × (L05.Sup × ((List Int) × (List Int))))))
theorem buys_eq : g6 () = some ((true, ()), ()) := by
 show F6 qe = _
 unfold F6
 have e := L01.buyT
 unfold L01.exT at e
 rw [qa5, e, qb]
 show qa (g13 ([1, 1], [1, 1], ())) _ = _
 rw [L01.root01]
 rfl
theorem qea (x lo hi : Int) : g55 (x, lo, hi, ()) = some ((jG x lo hi, ()), ()) := by
 show F55 qe x lo hi = _
 unfold F55 jG
 by_cases h : lo ≤ x
 ·rw [qw (p := x ≥ lo) h]; rfl
 ·rw [qE (p := x ≥ lo) h]; rfl
theorem from7 (x lo hi : Int) : g61 (x, lo, hi, ()) = some ((jG x lo hi, ()), ()) := qea x lo hi
theorem qkd (x lo hi : Int) : g28 (x, lo, hi, ()) = some ((jG x lo hi, ()), ()) := qea x lo hi
theorem qeE (x lo hi : Int) : g22 (x, lo, hi, ()) = some ((jG x lo hi, ()), ()) := qea x lo hi
def qfU (b : Bth) : Bool := jG b.1 1 40 && (jG b.2.1 0 100 && (jG b.2.2.1 1 100 && jG b.2.2.2.1 0 100))
def qdD (f : Eve) : Bool := decide (f.1.length ≤ 8) && (jG f.2 0 100 && f.1.all qfU)
theorem ref_eve (f : Eve) : g60 (f, ()) = some ((if qdD f then 0 else 70, ()), ()) := by
 show F60 qe f = _
 unfold F60 qdD
 by_cases h8 : f.1.length ≤ 8
 ·rw [qE (by omega), qw h8, cond_false, from7, qb]
  dsimp only
  cases jG f.2 0 100 with
  | false => rfl
  | true =>
   have e : L60_4 qe ((0, ()), (f, ()), ()) = _ := L10.loopAll (L := L60_4) (fun i => (((i : Int), ()), (f, ()), ())) f.1 qfU (.inl ((70, ()), (), ())) (.inr ((), (), ())) 0 (by have := qQ; omega)
    (fun N => by simp [L60_4, B60_4])
    (fun N i _ hi => by
     simp only [L60_4, B60_4]
     rw [qw (by omega), cond_true, qq (by omega) (by omega)]
     simp only [from7, qb]
     rw [wI (by omega) (by omega)]
     unfold qfU
     cases jG (gd f.1 (i : Int)).1 1 40 with
     | false => rfl
     | true =>
      cases jG (gd f.1 (i : Int)).2.1 0 100 with
      | false => rfl
      | true =>
       cases jG (gd f.1 (i : Int)).2.2.1 1 100 with
       | false => rfl
       | true => cases jG (gd f.1 (i : Int)).2.2.2.1 0 100 <;> rfl)
   rw [Bool.not_true, cond_false, e, qb]
   cases f.1.all qfU <;> rfl
 ·rw [qw (by omega), qE h8]
  rfl
theorem idx_bth (l : List Bth) (hl : l.length ≤ 1099511627776) (f : Bth → Option Bool) (q : Bth → Bool) (hf : ∀ x ∈ l, f x = some (q x)) : g92 (l, f, ()) = some ((L10.idxI l q, ()), ()) := by
 show F92 qe l f = _
 unfold F92
 have e := L10.loopIdx (L := L92_2) (fun i => ((l, f, (l.length : Int), (i : Int), ()), (), ())) l q (fun i => .inl (((i : Int), ()), (), ())) (.inr ((), (), ())) 0 (N := qe) (by have := qQ; omega)
  (fun N => by simp [L92_2, B92_2])
  (fun N i _ hi => by
   simp only [L92_2, B92_2]
   rw [qw (by omega), cond_true, qq (by omega) (by omega), hf _ (qag (by omega) (by omega)), qb, wI (by omega) (by omega)]
   cases q (gd l (i : Int)) <;> rfl)
 have e' : L92_2 qe ((l, f, (l.length : Int), 0, ()), (), ()) = _ := e
 rw [e', qb]
 unfold L10.idxI
 cases l.findIdx? q <;> rfl
theorem qkw (f : Eve) : g52 (f, ()) = some ((if qdD f then 0 else 70, ()), ()) := by
 show F52 qe f = _
 unfold F52 qdD
 by_cases h8 : f.1.length ≤ 8
 ·rw [qE (by omega), qw h8, cond_false, qea, qb]
  dsimp only
  cases jG f.2 0 100 with
  | false => rfl
  | true =>
   have e : g80 (f.1, (fun v2 => qa (g79 (v2, ())) fun y3 => some y3.1.1), ()) = some ((!f.1.all qfU, ()), ()) := by
    show F80 qe _ _ = _
    unfold F80
    rw [idx_bth f.1 (by omega) _ (fun b => !qfU b) (fun b _ => by
     show qa (F79 qe b) _ = _
     unfold F79 qfU
     simp only [qea, qb]
     cases jG b.1 1 40 with
     | false => rfl
     | true =>
      cases jG b.2.1 0 100 with
      | false => rfl
      | true =>
       cases jG b.2.2.1 1 100 with
       | false => rfl
       | true => cases jG b.2.2.2.1 0 100 <;> rfl), qb]
    dsimp only
    rw [L10.idxI_nn, L10.any_not]
   rw [Bool.not_true, cond_false, e, qb]
   cases f.1.all qfU <;> rfl
 ·rw [qw (by omega), qE h8]
  rfl
theorem qja (f : Eve) : g25 (f, [], ()) = some ((if qdD f then 0 else 70, ()), ()) := by
 show F25 qe f [] = _
 unfold F25
 rw [ref_eve, qb]
 cases qdD f with
 | false => rfl
 | true =>
  obtain ⟨n, hn⟩ : ∃ n, qe = n + 1 := ⟨qe - 1, by have := qQ; omega⟩
  rw [hn]
  rfl
theorem qfN {f : Eve} (h : qdD f = true) : g17 (f, [], ()) = some ((0, ()), ()) := by
 show F17 qe f [] = _
 unfold F17
 rw [qkw, qb, h]
 have e : ∀ k, g56 ([], k, ()) = some ((false, ()), ()) := fun k => by
  show F56 qe [] k = _
  unfold F56
  have e2 : g81 ([], k, ()) = some ((-1, ()), ()) := by
   show F81 qe [] k = _
   unfold F81
   obtain ⟨n, hn⟩ : ∃ n, qe = n + 1 := ⟨qe - 1, by have := qQ; omega⟩
   rw [hn]
   rfl
  rw [e2]
  rfl
 rw [if_pos rfl]
 dsimp only
 rw [show ((0 : Int) != 0) = false from rfl, cond_false, qE (by simp), cond_false]
 exact (jS (e _) _).trans rfl
structure qcJ (g : qda) : Prop where
 eve : qdD g.1 = true
 book : (L10.checkR g.2.1 g.2.2.1).2 = 0
 sup : L05.okS g.2.2.2.2.1 = true
 ins : g.2.1.2.2.length = g.1.1.length
 loads : g.2.2.2.2.1.2.1.length = g.1.1.length
 lims : g.2.2.2.2.2.1.length = g.1.1.length
 emps : g.2.2.2.2.2.2.length = g.1.1.length
 day : jG g.2.2.2.1 0 10000 = true
 lim : g.2.2.2.2.2.1.all (fun x => jG x 0 200) = true
 emp : g.2.2.2.2.2.2.all (fun x => jG x 0 100) = true
theorem qla (g : qda) (h1 : g.2.2.2.2.2.1.length = g.1.1.length) (h2 : g.2.2.2.2.2.2.length = g.1.1.length) (h8 : g.1.1.length ≤ 8) :
  L10_14 qe (((g.1.1.length : Int), 0, ()), (g, ()), ()) = some (if (List.range g.1.1.length).all (fun i : Nat => jG (gd g.2.2.2.2.2.1 (i : Int)) 0 200 && jG (gd g.2.2.2.2.2.2 (i : Int)) 0 100) then .inr ((), (), ()) else .inl ((120, ()), (), ())) :=
 L10.loopAll (L := L10_14) (fun i => (((g.1.1.length : Int), (i : Int), ()), (g, ()), ())) (List.range g.1.1.length) (fun i : Nat => jG (gd g.2.2.2.2.2.1 (i : Int)) 0 200 && jG (gd g.2.2.2.2.2.2 (i : Int)) 0 100) (.inl ((120, ()), (), ())) (.inr ((), (), ())) 0 (by have := qQ; simp; omega)
  (fun N => by simp [L10_14, B10_14])
  (fun N i _ hi => by
   rw [List.length_range] at hi
   simp only [L10_14, B10_14]
   rw [qw (by omega), cond_true, qq (by omega) (by omega), qkd, qb, L10.gd_range hi]
   dsimp only
   cases jG (gd g.2.2.2.2.2.1 (i : Int)) 0 200 with
   | false => rfl
   | true =>
    rw [Bool.not_true, cond_false, qq (by omega) (by omega), qkd, qb, wI (by omega) (by omega)]
    cases jG (gd g.2.2.2.2.2.2 (i : Int)) 0 100 <;> rfl)
theorem qiU {l : List Int} {n : Nat} {q : Int → Bool} (hl : l.length = n) (h : ∀ i, i < n → q (gd l (i : Int)) = true) : l.all q = true := by
 rw [List.all_eq_true]
 intro x hx
 obtain ⟨i, hi, rfl⟩ := List.mem_iff_getElem.1 hx
 have := h i (by omega)
 rwa [qg4 (List.getElem?_eq_getElem hi)] at this
theorem check12 (g : qda) : ∃ e : Int, g10 (g, ()) = some ((e, ()), ()) ∧ (e = 0 → qcJ g) := by
 have hF : g10 (g, ()) = F10 qe g := rfl
 rw [hF]
 unfold F10
 rw [qja, qb]
 cases he : qdD g.1 with
 | false => exact ⟨70, rfl, fun h => absurd h (by decide)⟩
 | true =>
 have h8 : g.1.1.length ≤ 8 := by
  unfold qdD at he
  rw [Bool.and_eq_true, decide_eq_true_eq] at he
  exact he.1
 rw [L10.root10.2.1, qb]
 dsimp only
 by_cases hb : (L10.checkR g.2.1 g.2.2.1).2 = 0
 case neg => exact ⟨_, by rw [show ((if true = true then (0 : Int) else 70) != 0) = false from rfl, cond_false, L10.neq_t hb]; rfl, fun h => absurd h hb⟩
 rw [hb, L05.root05.2.1, qb]
 dsimp only
 cases hs : L05.okS g.2.2.2.2.1 with
 | false => exact ⟨50, rfl, fun h => absurd h (by decide)⟩
 | true =>
 rw [show ((if true = true then (0 : Int) else 70) != 0) = false from rfl, cond_false, show ((0 : Int) != 0) = false from rfl, cond_false, show ((if true = true then (0 : Int) else 50) != 0) = false from rfl, cond_false]
 by_cases h1 : g.2.1.2.2.length = g.1.1.length
 case neg => exact ⟨120, by rw [L10.neq_t (by omega)]; rfl, fun h => absurd h (by decide)⟩
 rw [h1, bne_self_eq_false, cond_false]
 by_cases h2 : g.2.2.2.2.1.2.1.length = g.1.1.length
 case neg => exact ⟨120, by rw [L10.neq_t (by omega)]; rfl, fun h => absurd h (by decide)⟩
 rw [h2, bne_self_eq_false, cond_false]
 by_cases h3 : g.2.2.2.2.2.1.length = g.1.1.length
 case neg => exact ⟨120, by rw [L10.neq_t (by omega)]; rfl, fun h => absurd h (by decide)⟩
 rw [h3, bne_self_eq_false, cond_false]
 by_cases h4 : g.2.2.2.2.2.2.length = g.1.1.length
 case neg => exact ⟨120, by rw [L10.neq_t (by omega)]; rfl, fun h => absurd h (by decide)⟩
 rw [h4, bne_self_eq_false, cond_false, qkd, qb]
 dsimp only
 cases hd : jG g.2.2.2.1 0 10000 with
 | false => exact ⟨120, rfl, fun h => absurd h (by decide)⟩
 | true =>
 rw [Bool.not_true, cond_false, qla g h3 h4 h8, qb]
 cases hl : (List.range g.1.1.length).all (fun i : Nat => jG (gd g.2.2.2.2.2.1 (i : Int)) 0 200 && jG (gd g.2.2.2.2.2.2 (i : Int)) 0 100) with
 | false => exact ⟨120, rfl, fun h => absurd h (by decide)⟩
 | true =>
  refine ⟨0, rfl, fun _ => ⟨he, hb, hs, h1, h2, h3, h4, hd, qiU h3 fun i hi => ?_, qiU h4 fun i hi => ?_⟩⟩
  ·have := List.all_eq_true.1 hl i (List.mem_range.2 hi)
   exact (Bool.and_eq_true _ _ ▸ this : _ ∧ _).1
  ·have := List.all_eq_true.1 hl i (List.mem_range.2 hi)
   exact (Bool.and_eq_true _ _ ▸ this : _ ∧ _).2
theorem qcJ.n8 {g : qda} (h : qcJ g) : g.1.1.length ≤ 8 := by
 have he := h.eve
 unfold qdD at he
 rw [Bool.and_eq_true, decide_eq_true_eq] at he
 exact he.1
theorem beyond {l : List Int} (hl : l.length ≤ 8) {most : Int} (h : l.all (fun x => jG x 0 most) = true) : g23 (l, (fun v5 => qa (some most) fun q7 => qa (g21 (v5, q7, ())) fun y6 => some y6.1.1), ()) = some ((false, ()), ()) := by
 rw [L10.g23_eq l (by omega) _ (fun x => !jG x 0 most) (fun x _ => by
  rw [qb]
  show qa (F21 qe x most) _ = _
  unfold F21
  rw [qeE]
  rfl), L10.any_not, h]
 rfl
theorem qcJ.check {g : qda} (h : qcJ g) : g8 (g, ()) = some ((0, ()), ()) := by
 have hF : g8 (g, ()) = F8 qe g := rfl
 have h8 := h.n8
 rw [hF]
 unfold F8
 rw [qfN h.eve, qb, L10.root10.1, qb, L05.root05.1, qb, h.book, h.sup, h.ins, h.loads, h.lims, h.emps]
 simp only [bne_self_eq_false, cond_false, if_true, qeE, qb, h.day, Bool.not_true]
 have e1 : Mk.m20.p.g (200, ()) = some ((some 200, ()), ()) := rfl
 have e2 : Mk.m20.p.g (100, ()) = some ((some 100, ()), ()) := rfl
 have b1 := beyond (by have := h.lims; omega) h.lim
 have b2 := beyond (by have := h.emps; omega) h.emp
 rw [jS e1]
 refine (jS b1 _).trans ?_
 simp only [cond_false]
 rw [jS e2]
 exact (jS b2 _).trans rfl
end Go.Proofs.Tryz.V.Top
