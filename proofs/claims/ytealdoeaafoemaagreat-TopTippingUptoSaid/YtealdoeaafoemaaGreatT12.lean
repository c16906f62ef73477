/- Plain laws of the night and of a rig on feet; the law. No condition beyond those typed in each theorem. -/
import Derived.Test.YtealdoeaafoemaaGreatS01
import Derived.Test.YtealdoeaafoemaaGreatS05b
import Derived.Test.YtealdoeaafoemaaGreatS10p
namespace Go.Proofs.Tryz.V.Top
open Go.Vi
open L10 (jD qG)
set_option maxRecDepth 100000
abbrev Bth := Int × (Int × (Int × (Int × Bool)))
abbrev Eve := (List Bth) × Int
abbrev qdI := Eve × (L10.Book × ((List L10.Ent) × (Int × (L05.Sup × ((List Int) × (List Int))))))
theorem buys_eq : g6 () = some ((true, ()), ()) := by
 show F6 qc = _
 unfold F6
 have e := L01.buyT
 unfold L01.exT at e
 rw [qao, e, qb]
 show qa (g13 ([1, 1], [1, 1], ())) _ = _
 rw [L01.root01]
 rfl
theorem qek (x lo hi : Int) : g79 (x, lo, hi, ()) = some ((jD x lo hi, ()), ()) := by
 show F79 qc x lo hi = _
 unfold F79 jD
 by_cases h : lo ≤ x
 ·rw [qu (p := x ≥ lo) h]; rfl
 ·rw [qD (p := x ≥ lo) h]; rfl
theorem from7 (x lo hi : Int) : g42 (x, lo, hi, ()) = some ((jD x lo hi, ()), ()) := qek x lo hi
theorem qkA (x lo hi : Int) : g20 (x, lo, hi, ()) = some ((jD x lo hi, ()), ()) := qek x lo hi
theorem qjb (x lo hi : Int) : g67 (x, lo, hi, ()) = some ((jD x lo hi, ()), ()) := qek x lo hi
def qf9 (b : Bth) : Bool := jD b.1 1 40 && (jD b.2.1 0 100 && (jD b.2.2.1 1 100 && jD b.2.2.2.1 0 100))
def qd7 (f : Eve) : Bool := decide (f.1.length ≤ 8) && (jD f.2 0 100 && f.1.all qf9)
theorem ref_eve (f : Eve) : g41 (f, ()) = some ((if qd7 f then 0 else 70, ()), ()) := by
 show F41 qc f = _
 unfold F41 qd7
 by_cases h8 : f.1.length ≤ 8
 ·rw [qD (by omega), qu h8, cond_false, from7, qb]
  dsimp only
  cases jD f.2 0 100 with
  | false => rfl
  | true =>
   have e : L41_4 qc ((0, ()), (f, ()), ()) = _ := L10.loopAll (L := L41_4) (fun i => (((i : Int), ()), (f, ()), ())) f.1 qf9 (.inl ((70, ()), (), ())) (.inr ((), (), ())) 0 (by have := qP; omega)
    (fun N => by simp [L41_4, B41_4])
    (fun N i _ hi => by
     simp only [L41_4, B41_4]
     rw [qu (by omega), cond_true, qk (by omega) (by omega)]
     simp only [from7, qb]
     rw [wI (by omega) (by omega)]
     unfold qf9
     cases jD (gd f.1 (i : Int)).1 1 40 with
     | false => rfl
     | true =>
      cases jD (gd f.1 (i : Int)).2.1 0 100 with
      | false => rfl
      | true =>
       cases jD (gd f.1 (i : Int)).2.2.1 1 100 with
       | false => rfl
       | true => cases jD (gd f.1 (i : Int)).2.2.2.1 0 100 <;> rfl)
   rw [Bool.not_true, cond_false, e, qb]
   cases f.1.all qf9 <;> rfl
 ·rw [qu (by omega), qD h8]
  rfl
theorem idx_bth (l : List Bth) (hl : l.length ≤ 1099511627776) (f : Bth → Option Bool) (q : Bth → Bool) (hf : ∀ x ∈ l, f x = some (q x)) : g109 (l, f, ()) = some ((L10.idxI l q, ()), ()) := by
 show F109 qc l f = _
 unfold F109
 have e := L10.loopIdx (L := L109_2) (fun i => ((l, f, (l.length : Int), (i : Int), ()), (), ())) l q (fun i => .inl (((i : Int), ()), (), ())) (.inr ((), (), ())) 0 (N := qc) (by have := qP; omega)
  (fun N => by simp [L109_2, B109_2])
  (fun N i _ hi => by
   simp only [L109_2, B109_2]
   rw [qu (by omega), cond_true, qk (by omega) (by omega), hf _ (qau (by omega) (by omega)), qb, wI (by omega) (by omega)]
   cases q (gd l (i : Int)) <;> rfl)
 have e' : L109_2 qc ((l, f, (l.length : Int), 0, ()), (), ()) = _ := e
 rw [e', qb]
 unfold L10.idxI
 cases l.findIdx? q <;> rfl
theorem pro_eve (f : Eve) : g76 (f, ()) = some ((if qd7 f then 0 else 70, ()), ()) := by
 show F76 qc f = _
 unfold F76 qd7
 by_cases h8 : f.1.length ≤ 8
 ·rw [qD (by omega), qu h8, cond_false, qek, qb]
  dsimp only
  cases jD f.2 0 100 with
  | false => rfl
  | true =>
   have e : g90 (f.1, (fun v2 => qa (g89 (v2, ())) fun y3 => some y3.1.1), ()) = some ((!f.1.all qf9, ()), ()) := by
    show F90 qc _ _ = _
    unfold F90
    rw [idx_bth f.1 (by omega) _ (fun b => !qf9 b) (fun b _ => by
     show qa (F89 qc b) _ = _
     unfold F89 qf9
     simp only [qek, qb]
     cases jD b.1 1 40 with
     | false => rfl
     | true =>
      cases jD b.2.1 0 100 with
      | false => rfl
      | true =>
       cases jD b.2.2.1 1 100 with
       | false => rfl
       | true => cases jD b.2.2.2.1 0 100 <;> rfl), qb]
    dsimp only
    rw [L10.idxI_nn, L10.any_not]
   rw [Bool.not_true, cond_false, e, qb]
   cases f.1.all qf9 <;> rfl
 ·rw [qu (by omega), qD h8]
  rfl
theorem qjm (f : Eve) : g17 (f, [], ()) = some ((if qd7 f then 0 else 70, ()), ()) := by
 show F17 qc f [] = _
 unfold F17
 rw [ref_eve, qb]
 cases qd7 f with
 | false => rfl
 | true =>
  obtain ⟨n, hn⟩ : ∃ n, qc = n + 1 := ⟨qc - 1, by have := qP; omega⟩
  rw [hn]
  rfl
theorem qjq {f : Eve} (h : qd7 f = true) : g62 (f, [], ()) = some ((0, ()), ()) := by
 show F62 qc f [] = _
 unfold F62
 rw [pro_eve, qb, h]
 have e : ∀ k, g80 ([], k, ()) = some ((false, ()), ()) := fun k => by
  show F80 qc [] k = _
  unfold F80
  have e2 : g91 ([], k, ()) = some ((-1, ()), ()) := by
   show F91 qc [] k = _
   unfold F91
   obtain ⟨n, hn⟩ : ∃ n, qc = n + 1 := ⟨qc - 1, by have := qP; omega⟩
   rw [hn]
   rfl
  rw [e2]
  rfl
 rw [if_pos rfl]
 dsimp only
 rw [show ((0 : Int) != 0) = false from rfl, cond_false, qD (by simp), cond_false]
 exact (qV (e _) _).trans rfl
structure qc0 (g : qdI) : Prop where
 eve : qd7 g.1 = true
 book : (L10.checkR g.2.1 g.2.2.1).2 = 0
 sup : L05.okS g.2.2.2.2.1 = true
 ins : g.2.1.2.2.length = g.1.1.length
 loads : g.2.2.2.2.1.2.1.length = g.1.1.length
 lims : g.2.2.2.2.2.1.length = g.1.1.length
 emps : g.2.2.2.2.2.2.length = g.1.1.length
 day : jD g.2.2.2.1 0 10000 = true
 lim : g.2.2.2.2.2.1.all (fun x => jD x 0 200) = true
 emp : g.2.2.2.2.2.2.all (fun x => jD x 0 100) = true
theorem qly (g : qdI) (h1 : g.2.2.2.2.2.1.length = g.1.1.length) (h2 : g.2.2.2.2.2.2.length = g.1.1.length) (h8 : g.1.1.length ≤ 8) :
  L9_14 qc (((g.1.1.length : Int), 0, ()), (g, ()), ()) = some (if (List.range g.1.1.length).all (fun i : Nat => jD (gd g.2.2.2.2.2.1 (i : Int)) 0 200 && jD (gd g.2.2.2.2.2.2 (i : Int)) 0 100) then .inr ((), (), ()) else .inl ((120, ()), (), ())) :=
 L10.loopAll (L := L9_14) (fun i => (((g.1.1.length : Int), (i : Int), ()), (g, ()), ())) (List.range g.1.1.length) (fun i : Nat => jD (gd g.2.2.2.2.2.1 (i : Int)) 0 200 && jD (gd g.2.2.2.2.2.2 (i : Int)) 0 100) (.inl ((120, ()), (), ())) (.inr ((), (), ())) 0 (by have := qP; simp; omega)
  (fun N => by simp [L9_14, B9_14])
  (fun N i _ hi => by
   rw [List.length_range] at hi
   simp only [L9_14, B9_14]
   rw [qu (by omega), cond_true, qk (by omega) (by omega), qkA, qb, L10.gd_range hi]
   dsimp only
   cases jD (gd g.2.2.2.2.2.1 (i : Int)) 0 200 with
   | false => rfl
   | true =>
    rw [Bool.not_true, cond_false, qk (by omega) (by omega), qkA, qb, wI (by omega) (by omega)]
    cases jD (gd g.2.2.2.2.2.2 (i : Int)) 0 100 <;> rfl)
theorem qi6 {l : List Int} {n : Nat} {q : Int → Bool} (hl : l.length = n) (h : ∀ i, i < n → q (gd l (i : Int)) = true) : l.all q = true := by
 rw [List.all_eq_true]
 intro x hx
 obtain ⟨i, hi, rfl⟩ := List.mem_iff_getElem.1 hx
 have := h i (by omega)
 rwa [qdM (List.getElem?_eq_getElem hi)] at this
theorem check12 (g : qdI) : ∃ e : Int, g9 (g, ()) = some ((e, ()), ()) ∧ (e = 0 → qc0 g) := by
 have hF : g9 (g, ()) = F9 qc g := rfl
 rw [hF]
 unfold F9
 rw [qjm, qb]
 cases he : qd7 g.1 with
 | false => exact ⟨70, rfl, fun h => absurd h (by decide)⟩
 | true =>
 have h8 : g.1.1.length ≤ 8 := by
  unfold qd7 at he
  rw [Bool.and_eq_true, decide_eq_true_eq] at he
  exact he.1
 rw [L10.root10.2.1, qb]
 dsimp only
 by_cases hb : (L10.checkR g.2.1 g.2.2.1).2 = 0
 case neg => exact ⟨_, by rw [show ((if true = true then (0 : Int) else 70) != 0) = false from rfl, cond_false, L10.neq_t hb]; rfl, fun h => absurd h hb⟩
 rw [hb, L05.root05.2.1, qb]
 dsimp only
 cases hs : L05.okS g.2.2.2.2.1 with
 | false => exact ⟨50, rfl, fun h => absurd h (by decide)⟩
 | true =>
 rw [show ((if true = true then (0 : Int) else 70) != 0) = false from rfl, cond_false, show ((0 : Int) != 0) = false from rfl, cond_false, show ((if true = true then (0 : Int) else 50) != 0) = false from rfl, cond_false]
 by_cases h1 : g.2.1.2.2.length = g.1.1.length
 case neg => exact ⟨120, by rw [L10.neq_t (by omega)]; rfl, fun h => absurd h (by decide)⟩
 rw [h1, bne_self_eq_false, cond_false]
 by_cases h2 : g.2.2.2.2.1.2.1.length = g.1.1.length
 case neg => exact ⟨120, by rw [L10.neq_t (by omega)]; rfl, fun h => absurd h (by decide)⟩
 rw [h2, bne_self_eq_false, cond_false]
 by_cases h3 : g.2.2.2.2.2.1.length = g.1.1.length
 case neg => exact ⟨120, by rw [L10.neq_t (by omega)]; rfl, fun h => absurd h (by decide)⟩
 rw [h3, bne_self_eq_false, cond_false]
 by_cases h4 : g.2.2.2.2.2.2.length = g.1.1.length
 case neg => exact ⟨120, by rw [L10.neq_t (by omega)]; rfl, fun h => absurd h (by decide)⟩
 rw [h4, bne_self_eq_false, cond_false, qkA, qb]
 dsimp only
 cases hd : jD g.2.2.2.1 0 10000 with
 | false => exact ⟨120, rfl, fun h => absurd h (by decide)⟩
 | true =>
 rw [Bool.not_true, cond_false, qly g h3 h4 h8, qb]
 cases hl : (List.range g.1.1.length).all (fun i : Nat => jD (gd g.2.2.2.2.2.1 (i : Int)) 0 200 && jD (gd g.2.2.2.2.2.2 (i : Int)) 0 100) with
 | false => exact ⟨120, rfl, fun h => absurd h (by decide)⟩
 | true =>
  refine ⟨0, rfl, fun _ => ⟨he, hb, hs, h1, h2, h3, h4, hd, qi6 h3 fun i hi => ?_, qi6 h4 fun i hi => ?_⟩⟩
  ·have := List.all_eq_true.1 hl i (List.mem_range.2 hi)
   exact (Bool.and_eq_true _ _ ▸ this : _ ∧ _).1
  ·have := List.all_eq_true.1 hl i (List.mem_range.2 hi)
   exact (Bool.and_eq_true _ _ ▸ this : _ ∧ _).2
theorem qc0.n8 {g : qdI} (h : qc0 g) : g.1.1.length ≤ 8 := by
 have he := h.eve
 unfold qd7 at he
 rw [Bool.and_eq_true, decide_eq_true_eq] at he
 exact he.1
theorem beyond {l : List Int} (hl : l.length ≤ 8) {most : Int} (h : l.all (fun x => jD x 0 most) = true) : g51 (l, (fun v5 => qa (some most) fun q7 => qa (g66 (v5, q7, ())) fun y6 => some y6.1.1), ()) = some ((false, ()), ()) := by
 rw [L10.g51_eq l (by omega) _ (fun x => !jD x 0 most) (fun x _ => by
  rw [qb]
  show qa (F66 qc x most) _ = _
  unfold F66
  rw [qjb]
  rfl), L10.any_not, h]
 rfl
theorem qc0.check {g : qdI} (h : qc0 g) : g47 (g, ()) = some ((0, ()), ()) := by
 have hF : g47 (g, ()) = F47 qc g := rfl
 have h8 := h.n8
 rw [hF]
 unfold F47
 rw [qjq h.eve, qb, L10.root10.1, qb, L05.root05.1, qb, h.book, h.sup, h.ins, h.loads, h.lims, h.emps]
 simp only [bne_self_eq_false, cond_false, if_true, qjb, qb, h.day, Bool.not_true]
 have e1 : Mk.m65.p.g (200, ()) = some ((some 200, ()), ()) := rfl
 have e2 : Mk.m65.p.g (100, ()) = some ((some 100, ()), ()) := rfl
 have b1 := beyond (by have := h.lims; omega) h.lim
 have b2 := beyond (by have := h.emps; omega) h.emp
 rw [qV e1]
 refine (qV b1 _).trans ?_
 simp only [cond_false]
 rw [qV e2]
 exact (qV b2 _).trans rfl
structure Near (g : qdI) : Prop where
 rides : g.1.1.length ≤ 1000
 rules : g.2.1.1.length ≤ 1000
 ranks : g.2.1.2.1.length ≤ 1000
 ins : g.2.1.2.2.length ≤ 1000
 ents : g.2.2.1.length ≤ 1000
 boards : g.2.2.2.2.1.1.length ≤ 1000
 loads : g.2.2.2.2.1.2.1.length ≤ 1000
 lims : g.2.2.2.2.2.1.length ≤ 1000
 emps : g.2.2.2.2.2.2.length ≤ 1000
theorem far_eq (g : qdI) : ∃ b : Bool, g4 (g, ()) = some ((b, ()), ()) ∧ (b = false → Near g) := by
 have hF : g4 (g, ()) = F4 qc g := rfl
 rw [hF]
 unfold F4
 by_cases h1 : (g.1.1.length : Int) > 10
 ·exact ⟨true, by rw [qu h1]; rfl, fun h => by cases h⟩
 rw [qD h1, cond_false]
 by_cases h2 : (g.2.1.1.length : Int) > 25
 ·exact ⟨true, by rw [qu h2]; rfl, fun h => by cases h⟩
 rw [qD h2, cond_false]
 by_cases h3 : (g.2.1.2.1.length : Int) > 12
 ·exact ⟨true, by rw [qu h3]; rfl, fun h => by cases h⟩
 rw [qD h3, cond_false]
 by_cases h4 : (g.2.1.2.2.length : Int) > 15
 ·exact ⟨true, by rw [qu h4]; rfl, fun h => by cases h⟩
 rw [qD h4, cond_false]
 by_cases h5 : (g.2.2.1.length : Int) > 60
 ·exact ⟨true, by rw [qu h5]; rfl, fun h => by cases h⟩
 rw [qD h5, cond_false]
 by_cases h6 : (g.2.2.2.2.1.1.length : Int) > 15
 ·exact ⟨true, by rw [qu h6]; rfl, fun h => by cases h⟩
 rw [qD h6, cond_false]
 by_cases h7 : (g.2.2.2.2.1.2.1.length : Int) > 20
 ·exact ⟨true, by rw [qu h7]; rfl, fun h => by cases h⟩
 rw [qD h7, cond_false]
 by_cases h8 : (g.2.2.2.2.2.1.length : Int) > 15
 ·exact ⟨true, by rw [qu h8]; rfl, fun h => by cases h⟩
 rw [qD h8, cond_false]
 refine ⟨_, rfl, fun h => ?_⟩
 have h9 := of_decide_eq_false h
 exact ⟨by omega, by omega, by omega, by omega, by omega, by omega, by omega, by omega, by omega⟩
theorem copy_eq {g : qdI} (h : Near g) : g21 (g, ()) = some ((g, ()), ()) := by
 obtain ⟨h1, h2, h3, h4, h5, h6, h7, h8, h9⟩ := h
 have hF : g21 (g, ()) = F21 qc g := rfl
 rw [hF]
 unfold F21
 have e1 : g46 (g.1, ()) = some ((g.1, ()), ()) := by
  show F46 qc g.1 = _
  unfold F46
  rw [jT (by simp <;> omega) (by simp <;> omega)]
  rfl
 have a1 : ∀ {R : Type} (k : Option R), jE ((([] : List (Int × (Int × (Int × Bool)))).length : Int) + g.2.1.1.length) k = k := fun k => jT (by simp <;> omega) (by simp <;> omega) k
 have a2 : ∀ {R : Type} (k : Option R), jE ((([] : List Int).length : Int) + g.2.1.2.1.length) k = k := fun k => jT (by simp <;> omega) (by simp <;> omega) k
 have a3 : ∀ {R : Type} (k : Option R), jE ((([] : List Int).length : Int) + g.2.1.2.2.length) k = k := fun k => jT (by simp <;> omega) (by simp <;> omega) k
 rw [qV e1, qdh]
 simp only [a1, a2, a3, qbn, qbm]
 rw [jT (by simp <;> omega) (by simp <;> omega), qao, jT (by simp <;> omega) (by simp <;> omega), qao, jT (by simp <;> omega) (by simp <;> omega), qao, jT (by simp <;> omega) (by simp <;> omega), qao, jT (by simp <;> omega) (by simp <;> omega), qao]
 rfl
def opS (s : L05.Sup) (l : List Int) : Nat → Nat × List Int
 | 0 => (0, [])
 | i + 1 => if (L05.fo s ((opS s l i).1 ||| 2 ^ (gd l (i : Int)).toNat)).isNone then ((opS s l i).1 ||| 2 ^ (gd l (i : Int)).toNat, (opS s l i).2 ++ [gd l (i : Int)]) else opS s l i
def rel (g : qdI) : List Int := L10.relL g.2.1 (L10.upto g.2.2.1 g.2.2.2.1) g.2.2.2.1
def opn (g : qdI) : List Int := (opS g.2.2.2.2.1 (rel g) (rel g).length).2
theorem qkm {s : L05.Sup} {l : List Int} (hn : s.2.1.length ≤ 16) (hl : ∀ x ∈ l, 0 ≤ x ∧ x < s.2.1.length) : ∀ i, i ≤ l.length → (opS s l i).1 < 2 ^ s.2.1.length ∧ (opS s l i).2.length ≤ i
 | 0, _ => ⟨Nat.two_pow_pos _, Nat.le_refl _⟩
 | i + 1, hi => by
  obtain ⟨h1, h2⟩ := qkm hn hl i (by omega)
  have hx := hl _ (qau (l := l) (i := (i : Int)) (by omega) (by omega))
  have := (L05.set_bit hn h1 hx.1 hx.2).2
  unfold opS
  split
  ·exact ⟨this, by simp; omega⟩
  ·exact ⟨h1, by omega⟩
theorem qiC (s : L05.Sup) (l : List Int) : ∀ i, i ≤ l.length → ∀ x ∈ (opS s l i).2, x ∈ l
 | 0, _, x, h => by cases h
 | i + 1, hi, x, h => by
  unfold opS at h
  split at h
  ·rcases List.mem_append.1 h with h | h
   ·exact qiC s l i (by omega) x h
   ·rw [List.mem_singleton.1 h]
    exact qau (by omega) (by omega)
  ·exact qiC s l i (by omega) x h
theorem qc0.rel_in {g : qdI} (h : qc0 g) : ∀ x ∈ rel g, 0 ≤ x ∧ x < g.2.2.2.2.1.2.1.length := fun x hx => by
 have := L10.rel_in hx
 have := h.ins
 have := h.loads
 omega
theorem qc0.opens {g : qdI} (h : qc0 g) : g48 (g, ()) = some ((opn g, ()), ()) := by
 have hF : g48 (g, ()) = F48 qc g := rfl
 have h8 := h.n8
 have hll : (rel g).length ≤ 8 := by
  have := L10.rel_lenT g.2.1 (L10.upto g.2.2.1 g.2.2.2.1) g.2.2.2.1
  have := h.ins
  unfold rel
  omega
 have hd : L10.dayErr g.2.1 g.2.2.1 g.2.2.2.1 = 0 := L10.day_err h.book (qG.1 h.day)
 have hn : g.2.2.2.2.1.2.1.length ≤ 16 := L05.root05.2.2.2 _ h.sup
 rw [hF]
 unfold F48
 rw [L10.root10.2.2, qb, hd, if_pos rfl]
 dsimp only
 rw [show ((0 : Int) != 0) = false from rfl, cond_false]
 have e : L48_6 qc ((0, ((rel g).length : Int), 0, ()), (g, ([] : List Int), rel g, ()), ()) = some ((), (opn g, ()), ()) :=
  qd2 (L := L48_6) (fun i => ((((opS g.2.2.2.2.1 (rel g) i).1 : Nat), ((rel g).length : Int), (i : Int), ()), (g, (opS g.2.2.2.2.1 (rel g) i).2, rel g, ()), ())) _ 0 (rel g).length (by have := qP; omega)
   (fun N => by
    simp only [L48_6, B48_6]
    rw [qD (by omega)]
    rfl)
   (fun N i _ hi => by
    obtain ⟨i1, i2⟩ := qkm hn h.rel_in i (by omega)
    have hx := h.rel_in _ (qau (l := rel g) (i := (i : Int)) (by omega) (by omega))
    obtain ⟨b1, b2⟩ := L05.set_bit hn i1 hx.1 hx.2
    simp only [L48_6, B48_6]
    rw [qu (by omega), cond_true, jM (by omega) (by omega), qk (by omega) (by omega), L05.negK_in hx.1, b1, qV (L05.root05.2.2.1 _ _ h.sup b2), wI (by omega) (by omega)]
    dsimp only
    have es : opS g.2.2.2.2.1 (rel g) (i + 1) = if (L05.fo g.2.2.2.2.1 ((opS g.2.2.2.2.1 (rel g) i).1 ||| 2 ^ (gd (rel g) (i : Int)).toNat)).isNone then ((opS g.2.2.2.2.1 (rel g) i).1 ||| 2 ^ (gd (rel g) (i : Int)).toNat, (opS g.2.2.2.2.1 (rel g) i).2 ++ [gd (rel g) (i : Int)]) else opS g.2.2.2.2.1 (rel g) i := rfl
    rw [es, show ((0 : Int) == 0) = true from rfl, cond_true]
    cases (L05.fo g.2.2.2.2.1 ((opS g.2.2.2.2.1 (rel g) i).1 ||| 2 ^ (gd (rel g) (i : Int)).toNat)).isNone with
    | true =>
     rw [cond_true, L05.negK_in hx.1, jT (by simp <;> omega) (by simp <;> omega), if_pos rfl]
     rfl
    | false => rfl)
 exact (qV e _).trans rfl
theorem qc0.opens' {g : qdI} (h : qc0 g) : g22 (g, ()) = some ((opn g, 0, ()), ()) := by
 show F22 qc g = _
 unfold F22
 rw [h.check, qb]
 exact (qV h.opens _).trans rfl
theorem opn_len {g : qdI} (h : qc0 g) : (opn g).length ≤ 8 := by
 have h8 := h.n8
 have := L10.rel_lenT g.2.1 (L10.upto g.2.2.1 g.2.2.2.1) g.2.2.2.1
 have h1 := h.ins
 have h2 := (qkm (L05.root05.2.2.2 _ h.sup) h.rel_in (rel g).length (Nat.le_refl _)).2
 have : (rel g).length ≤ g.2.1.2.2.length := this
 unfold opn
 omega
theorem opn_sub {g : qdI} {n : Int} (h : n ∈ opn g) : n ∈ rel g := qiC _ _ _ (Nat.le_refl _) n h
theorem has_eq (l : List Int) (hl : l.length ≤ 1000) (n : Int) : g23 (l, n, ()) = some ((decide (n ∈ l), ()), ()) := by
 show F23 qc l n = _
 unfold F23
 have e : L23_2 qc ((l, n, 0, ()), (), ()) = _ := L10.loopAll (L := L23_2) (fun i => ((l, n, (i : Int), ()), (), ())) l (fun x => !(x == n)) (.inl ((true, ()), (), ())) (.inr ((), (), ())) 0 (by have := qP; omega)
  (fun N => by simp [L23_2, B23_2])
  (fun N i _ hi => by
   simp only [L23_2, B23_2]
   rw [qu (by omega), cond_true, qk (by omega) (by omega), wI (by omega) (by omega)]
   cases gd l (i : Int) == n <;> rfl)
 rw [e, qb]
 by_cases h : n ∈ l
 ·rw [qu h, show l.all (fun x => !(x == n)) = false by
   rw [← Bool.not_eq_true, List.all_eq_true]
   intro hh
   have := hh n h
   simp at this]
  rfl
 ·rw [qD h, show l.all (fun x => !(x == n)) = true by
   rw [List.all_eq_true]
   intro x hx
   cases e : x == n with
   | false => rfl
   | true => exact absurd (eq_of_beq e ▸ hx) h]
  rfl
def Okq {R : Type} (Q : R → Prop) (o : Option R) : Prop := ∃ r, o = some r ∧ Q r
section
variable {R : Type} {Q : R → Prop}
theorem qR {r : R} (h : Q r) : Okq Q (some r) := ⟨r, rfl, h⟩
theorem qb5 {α : Type} [Inhabited α] {l : List α} {i : Int} {k : α → Option R} (h0 : 0 ≤ i) (h1 : i < l.length) (h : Okq Q (k (gd l i))) : Okq Q (qi l i k) := by rw [qk h0 h1]; exact h
theorem qkn {i : Int} {n : Nat} {k : Option R} (h0 : 0 ≤ i) (h1 : i < n) (h : Okq Q k) : Okq Q (jS i n k) := by rw [jM h0 h1]; exact h
theorem ok_lenK {n : Int} {k : Option R} (h0 : 0 ≤ n) (h1 : n ≤ 274877906944) (h : Okq Q k) : Okq Q (jE n k) := by rw [jT h0 h1]; exact h
theorem ok_leK {a b : Int} {k : Option R} (h0 : a ≤ b) (h : Okq Q k) : Okq Q (leK a b k) := by rw [qaG h0]; exact h
theorem qaf {b : Bool} {x y : Option R} (h1 : b = true → Okq Q x) (h2 : b = false → Okq Q y) : Okq Q (cond b x y) := by
 cases b with
 | true => exact h1 rfl
 | false => exact h2 rfl
theorem qae {α : Type} {o : Option α} {k : α → Option R} {S : α → Prop} (h : Okq S o) (hk : ∀ x, S x → Okq Q (k x)) : Okq Q (qa o k) := by
 obtain ⟨x, rfl, hx⟩ := h
 exact hk x hx
theorem qbV {α : Type} {o : Option α} {x : α} {k : α → Option R} (h : o = some x) (hk : Okq Q (k x)) : Okq Q (qa o k) := by rw [h]; exact hk
theorem qiE {D S : Type} {L : Nat → D → Option R} (mk : Nat → S → D) (P : Nat → S → Prop) (c n : Nat) (hend : ∀ N s, c ≤ N → P n s → Okq Q (L (N + 1) (mk n s)))
  (hstep : ∀ N i s, c ≤ N → i < n → P i s → (∀ s', P (i + 1) s' → Okq Q (L N (mk (i + 1) s'))) → Okq Q (L (N + 1) (mk i s))) : ∀ (d i N : Nat) (s : S), i + d = n → d + c < N → P i s → Okq Q (L N (mk i s))
 | 0, i, N, s, hi, hN, hp => by
  obtain ⟨m, rfl⟩ : ∃ m, N = m + 1 := ⟨N - 1, by omega⟩
  obtain rfl : i = n := by omega
  exact hend m s (by omega) hp
 | d + 1, i, N, s, hi, hN, hp => by
  obtain ⟨m, rfl⟩ : ∃ m, N = m + 1 := ⟨N - 1, by omega⟩
  exact hstep m i s (by omega) (by omega) hp fun s' h' => qiE mk P c n hend hstep d (i + 1) m s' (by omega) (by omega) h'
theorem qcK {D S : Type} {L : Nat → D → Option R} (mk : Nat → S → D) (P : Nat → S → Prop) (c n : Nat) {N : Nat} {s : S} (h0 : P 0 s) (hN : n + c < N) (hend : ∀ N s, c ≤ N → P n s → Okq Q (L (N + 1) (mk n s)))
  (hstep : ∀ N i s, c ≤ N → i < n → P i s → (∀ s', P (i + 1) s' → Okq Q (L N (mk (i + 1) s'))) → Okq Q (L (N + 1) (mk i s))) : Okq Q (L N (mk 0 s)) := qiE mk P c n hend hstep n 0 N s (by omega) hN h0
end
abbrev Pnt := Int × (Int × Int)
abbrev Rg := (List (List Pnt)) × ((List Pnt) × (Int × (Pnt × (Int × Int))))
abbrev Ln := Pnt × Pnt
abbrev Rig := Rg × ((List Ln) × Int)
theorem qel (x lo hi : Int) : g30 (x, lo, hi, ()) = some ((jD x lo hi, ()), ()) := qek x lo hi
def spB (p : Pnt) : Bool := jD p.1 (-10000) 10000 && (jD p.2.1 (-10000) 10000 && jD p.2.2 (-10000) 10000)
theorem span3 (p : Pnt) : g32 (p, ()) = some ((spB p, ()), ()) := by
 show F32 qc p = _
 unfold F32 spB
 simp only [qel, qb]
 cases jD p.1 (-10000) 10000 <;> cases jD p.2.1 (-10000) 10000 <;> rfl
def qcf (p : Pnt) : Prop := (-10000 ≤ p.1 ∧ p.1 ≤ 10000) ∧ -10000 ≤ p.2.1 ∧ p.2.1 ≤ 10000
theorem qb8 {p : Pnt} (h : spB p = true) : qcf p := by
 unfold spB at h
 rw [Bool.and_eq_true, Bool.and_eq_true] at h
 exact ⟨qG.1 h.1, qG.1 h.2.1⟩
theorem qfA {a b A B : Int} (ha : -A ≤ a ∧ a ≤ A) (hb : -B ≤ b ∧ b ≤ B) : -(A * B) ≤ a * b ∧ a * b ≤ A * B := by
 have h1 := Int.mul_nonneg (a := A - a) (b := B + b) (by omega) (by omega)
 have h2 := Int.mul_nonneg (a := A + a) (b := B - b) (by omega) (by omega)
 have h3 := Int.mul_nonneg (a := A - a) (b := B - b) (by omega) (by omega)
 have h4 := Int.mul_nonneg (a := A + a) (b := B + b) (by omega) (by omega)
 simp only [Int.sub_mul, Int.add_mul, Int.mul_sub, Int.mul_add] at h1 h2 h3 h4
 omega
def qaW (l : Ln) (p : Pnt) : Int := (l.2.1 - l.1.1) * (p.2.1 - l.1.2.1) - (l.2.2.1 - l.1.2.1) * (p.1 - l.1.1)
theorem qkK {l : Ln} {p : Pnt} (h1 : qcf l.1) (h2 : qcf l.2) (h3 : qcf p) : -800000000 ≤ qaW l p ∧ qaW l p ≤ 800000000 := by
 obtain ⟨⟨a1, a2⟩, a3, a4⟩ := h1
 obtain ⟨⟨b1, b2⟩, b3, b4⟩ := h2
 obtain ⟨⟨c1, c2⟩, c3, c4⟩ := h3
 have e1 := qfA (a := l.2.1 - l.1.1) (b := p.2.1 - l.1.2.1) (A := 20000) (B := 20000) (by omega) (by omega)
 have e2 := qfA (a := l.2.2.1 - l.1.2.1) (b := p.1 - l.1.1) (A := 20000) (B := 20000) (by omega) (by omega)
 unfold qaW
 omega
theorem arm3 {l : Ln} {p : Pnt} (h1 : qcf l.1) (h2 : qcf l.2) (h3 : qcf p) : g24 (l, p, ()) = some ((qaW l p, ()), ()) := by
 have hb := qkK h1 h2 h3
 obtain ⟨⟨a1, a2⟩, a3, a4⟩ := h1
 obtain ⟨⟨b1, b2⟩, b3, b4⟩ := h2
 obtain ⟨⟨c1, c2⟩, c3, c4⟩ := h3
 have e1 := qfA (a := l.2.1 - l.1.1) (b := p.2.1 - l.1.2.1) (A := 20000) (B := 20000) (by omega) (by omega)
 have e2 := qfA (a := l.2.2.1 - l.1.2.1) (b := p.1 - l.1.1) (A := 20000) (B := 20000) (by omega) (by omega)
 show F24 qc l p = _
 unfold F24
 unfold qaW at hb ⊢
 rw [qao, wI (x := l.2.1 - l.1.1) (by omega) (by omega), wI (x := p.2.1 - l.1.2.1) (by omega) (by omega), wI (x := l.2.2.1 - l.1.2.1) (by omega) (by omega), wI (x := p.1 - l.1.1) (by omega) (by omega), wI (x := _ * _) (by omega) (by omega), wI (x := _ * _) (by omega) (by omega), wI (by omega) (by omega)]
def pthB (l : List Pnt) : Bool := jD l.length 3 60 && l.all spB
theorem idxP (l : List Pnt) (hl : l.length ≤ 1000) (f : Pnt → Option Bool) (q : Pnt → Bool) (hf : ∀ x, f x = some (q x)) : g73 (l, f, ()) = some ((L01.idxI l q, ()), ()) := by
 show F73 qc l f = _
 unfold F73
 have h := L01.loopIdx (L := L73_2) (fun i => ((l, f, (l.length : Int), (i : Int), ()), (), ())) l q (fun i => .inl (((i : Int), ()), (), ())) (.inr ((), (), ())) 0 (N := qc) (by have := qP; omega)
  (fun N => by simp [L73_2, B73_2])
  (fun N i _ hi => by
   simp only [L73_2, B73_2]
   rw [qu (by omega), cond_true, qk (by omega) (by omega), hf _, qb, wI (by omega) (by omega)]
   cases q (gd l (i : Int)) <;> rfl)
 have h' : L73_2 qc ((l, f, (l.length : Int), 0, ()), (), ()) = _ := h
 rw [h', qb]
 unfold L01.idxI
 cases l.findIdx? q <;> rfl
theorem hasP (l : List Pnt) (hl : l.length ≤ 1000) (f : Pnt → Option Bool) (q : Pnt → Bool) (hf : ∀ x, f x = some (q x)) : g55 (l, f, ()) = some ((l.any q, ()), ()) := by
 show F55 qc l f = _
 unfold F55
 rw [idxP l hl f q hf, qb, L01.idxI_nn]
theorem idxQ (l : List Pnt) (hl : l.length ≤ 1000) (f : Pnt → Option Bool) (q : Pnt → Bool) (hf : ∀ x, f x = some (q x)) : g57 (l, f, ()) = some ((L01.idxI l q, ()), ()) := by
 show F57 qc l f = _
 unfold F57
 have h := L01.loopIdx (L := L57_2) (fun i => ((l, f, (l.length : Int), (i : Int), ()), (), ())) l q (fun i => .inl (((i : Int), ()), (), ())) (.inr ((), (), ())) 0 (N := qc) (by have := qP; omega)
  (fun N => by simp [L57_2, B57_2])
  (fun N i _ hi => by
   simp only [L57_2, B57_2]
   rw [qu (by omega), cond_true, qk (by omega) (by omega), hf _, qb, wI (by omega) (by omega)]
   cases q (gd l (i : Int)) <;> rfl)
 have h' : L57_2 qc ((l, f, (l.length : Int), 0, ()), (), ()) = _ := h
 rw [h', qb]
 unfold L01.idxI
 cases l.findIdx? q <;> rfl
theorem hasQ (l : List Pnt) (hl : l.length ≤ 1000) (f : Pnt → Option Bool) (q : Pnt → Bool) (hf : ∀ x, f x = some (q x)) : g33 (l, f, ()) = some ((l.any q, ()), ()) := by
 show F33 qc l f = _
 unfold F33
 rw [idxQ l hl f q hf, qb, L01.idxI_nn]
theorem path3 (l : List Pnt) (hl : l.length ≤ 1000) : g31 (l, ()) = some ((pthB l, ()), ()) := by
 show F31 qc l = _
 unfold F31 pthB
 rw [qel, qb]
 dsimp only
 cases jD l.length 3 60 with
 | false => rfl
 | true =>
  rw [cond_true, hasP l hl _ (fun p => !spB p) (fun x => by
   show qa (F56 qc x) _ = _
   unfold F56
   rw [span3]
   rfl), qb]
  rw [show l.any (fun p => !spB p) = !l.all spB from L01.any_not, Bool.not_not]
  rfl
def cvP (f : List Pnt) (l : List Ln) (i k : Nat) : Bool := k == i || (k == (i + 1) % f.length || decide (0 < qaW (gd l (i : Int)) (gd f (k : Int))))
def cvB (f : List Pnt) (l : List Ln) : Bool := (List.range l.length).all fun i => (List.range f.length).all fun k => cvP f l i k
def lnOf (f : List Pnt) (i : Nat) : Ln := (gd f (i : Int), gd f (((i + 1) % f.length : Nat) : Int))
def lns (f : List Pnt) : List Ln := (List.range f.length).map (lnOf f)
theorem qb6 (f : List Pnt) : (lns f).length = f.length := by unfold lns; simp
theorem bneC (a b : Nat) : ((a : Int) != (b : Int)) = !(a == b) := by
 by_cases h : a = b
 ·rw [h, show (b == b) = true from beq_self_eq_true b]
  exact congrArg not (beq_self_eq_true (b : Int))
 ·rw [show (a == b) = false from beq_eq_false_iff_ne.2 h]
  exact congrArg not (beq_eq_false_iff_ne.2 (by omega : ¬ (a : Int) = b))
theorem tmodC (i n : Nat) : Int.tmod ((i : Int) + 1) (n : Int) = (((i + 1) % n : Nat) : Int) := by
 rw [show ((i : Int) + 1) = ((i + 1 : Nat) : Int) from rfl]
 exact (Int.ofNat_tmod _ _).symm
theorem qiG {R : Type} {a : Int} (h : a ≠ 0) (k : Option R) : nzK a k = k := by unfold nzK; rw [if_neg h]
theorem convex3 (r : Rig) (h0 : 0 < r.1.2.1.length) (h1 : r.1.2.1.length ≤ 1000) (h2 : r.2.1.length ≤ 1000) (hf : ∀ p ∈ r.1.2.1, qcf p) (hl : ∀ l ∈ r.2.1, qcf l.1 ∧ qcf l.2) :
  g35 (r, ()) = some ((cvB r.1.2.1 r.2.1, ()), ()) := by
 show F35 qc r = _
 unfold F35 cvB
 have e := L05.loopNum (L := L35_3) (fun i => ((r, (r.1.2.1.length : Int), r.2.1, (r.2.1.length : Int), (i : Int), ()), (), ())) r.2.1.length (fun i => (List.range r.1.2.1.length).all fun k => cvP r.1.2.1 r.2.1 i k) (.inl ((false, ()), (), ())) (.inr ((), (), ())) 2000 (N := qc) (by have := qP; omega)
  (fun N => by simp [L35_3, B35_3])
  (fun N i hN hi => by
   simp only [L35_3, B35_3]
   rw [qu (by omega), cond_true, qk (by omega) (by omega)]
   have hln := hl _ (qau (l := r.2.1) (i := (i : Int)) (by omega) (by omega))
   have e := L05.loopNum (L := L35_6) (fun k => ((r, (r.1.2.1.length : Int), (i : Int), r.2.1, (r.2.1.length : Int), (i : Int), r.1.2.1, (r.1.2.1.length : Int), (k : Int), ()), (gd r.2.1 (i : Int), ()), ())) r.1.2.1.length (fun k => cvP r.1.2.1 r.2.1 i k) (.inl ((false, ()), (), ())) (.inr ((r, (r.1.2.1.length : Int), r.2.1, (r.2.1.length : Int), (i : Int), ()), (), ())) 0 (N := N) (by omega)
    (fun N => by simp [L35_6, B35_6])
    (fun N k _ hk => by
     have hp := hf _ (qau (l := r.1.2.1) (i := (k : Int)) (by omega) (by omega))
     simp only [L35_6, B35_6]
     rw [qu (by omega), cond_true, qk (by omega) (by omega), wI (x := (k : Int) + 1) (by omega) (by omega), wI (x := (i : Int) + 1) (by omega) (by omega), bneC, qiG (by omega), tmodC, bneC, arm3 hln.1 hln.2 hp, qb]
     unfold cvP
     cases k == i with
     | true => rfl
     | false =>
      cases k == (i + 1) % r.1.2.1.length with
      | true => rfl
      | false =>
       by_cases h : 0 < qaW (gd r.2.1 (i : Int)) (gd r.1.2.1 (k : Int))
       ·dsimp only
        rw [qu h, qD (by omega)]
        rfl
       ·dsimp only
        rw [qD h, qu (by omega)]
        rfl)
   rw [show (0 : Int) = ((0 : Nat) : Int) from rfl, e, qb]
   cases (List.range r.1.2.1.length).all fun k => cvP r.1.2.1 r.2.1 i k with
   | true =>
    rw [if_pos rfl, qcG]
    dsimp only
    rw [wI (by omega) (by omega)]
    rfl
   | false => rfl)
 rw [show (0 : Int) = ((0 : Nat) : Int) from rfl, e, qb]
 cases (List.range r.2.1.length).all fun i => (List.range r.1.2.1.length).all fun k => cvP r.1.2.1 r.2.1 i k <;> rfl
structure OkR (r : Rg) : Prop where
 n20 : r.1.length ≤ 20
 n3 : 3 ≤ r.2.1.length
 n8 : r.2.1.length ≤ 8
 seats : ∀ i : Nat, i < r.1.length → pthB (gd r.1 (i : Int)) = true ∧ (gd r.1 (i : Int)).length = (gd r.1 0).length
 full : jD r.2.2.2.2.2 0 1000000 = true
 empty : jD r.2.2.2.2.1 0 r.2.2.2.2.2 = true
 cen : spB r.2.2.2.1 = true
 feet : ∀ p ∈ r.2.1, spB p = true ∧ p.2.2 = 0
 cv : cvB r.2.1 (lns r.2.1) = true
def frB (r : Rg) : Bool := jD r.2.2.1 0 1000000
def phs (r : Rg) : Nat := if r.1.length = 0 then 1 else (gd r.1 0).length
def qaa (r : Rg) : Rig := (r, (lns r.2.1, (phs r : Int)))
theorem qjL {f : List Pnt} (hf : ∀ p ∈ f, qcf p) : ∀ l ∈ lns f, qcf l.1 ∧ qcf l.2 := by
 intro l hl
 unfold lns at hl
 obtain ⟨i, hi, rfl⟩ := List.mem_map.1 hl
 have hi := List.mem_range.1 hi
 have := Nat.mod_lt (i + 1) (y := f.length) (by omega)
 exact ⟨hf _ (qau (by omega) (by omega)), hf _ (qau (by omega) (by omega))⟩
theorem seats3 (r : Rg) (h20 : r.1.length ≤ 20) (hs : ∀ s ∈ r.1, s.length ≤ 1000) :
  Okq (fun o => (o = .inr ((r, ()), ((r, (([] : List Ln), (phs r : Int))), ()), ()) ∧ ∀ i : Nat, i < r.1.length → pthB (gd r.1 (i : Int)) = true ∧ (gd r.1 (i : Int)).length = (gd r.1 0).length) ∨
   (o = .inl ((none, false, ()), (), ()) ∧ ¬ ∀ i : Nat, i < r.1.length → pthB (gd r.1 (i : Int)) = true ∧ (gd r.1 (i : Int)).length = (gd r.1 0).length))
  (L14_5 qc ((r, r.1, (r.1.length : Int), 0, ()), ((r, (([] : List Ln), 1)), ()), ())) := by
 refine qcK (L := L14_5) (fun i (s : Nat) => ((r, r.1, (r.1.length : Int), (i : Int), ()), ((r, (([] : List Ln), (s : Int))), ()), ())) (fun i s => (s = if i = 0 then 1 else (gd r.1 0).length) ∧ ∀ j : Nat, j < i → pthB (gd r.1 (j : Int)) = true ∧ (gd r.1 (j : Int)).length = (gd r.1 0).length) 0 r.1.length (s := 1) ⟨rfl, fun j hj => by omega⟩ (by have := qP; omega) ?_ ?_
 ·rintro N s - ⟨h1, h2⟩
  simp only [L14_5, B14_5]
  rw [qD (by omega)]
  exact qR (.inl ⟨by rw [h1]; rfl, h2⟩)
 ·rintro N i s - hi ⟨h1, h2⟩ ih
  simp only [L14_5, B14_5]
  rw [qu (by omega), cond_true]
  refine qb5 (by omega) (by omega) (qbV (path3 _ (hs _ (qau (by omega) (by omega)))) ?_)
  dsimp only
  refine qaf (fun h => qR (.inr ⟨rfl, fun hh => ?_⟩)) fun h => qb5 (by omega) (by omega) ?_
  ·rw [(hh i hi).1] at h
   cases h
  rw [bneC]
  refine qaf (fun h3 => qR (.inr ⟨rfl, fun hh => ?_⟩)) fun h3 => ?_
  ·rw [(hh i hi).2] at h3
   simp at h3
  rw [wI (by omega) (by omega)]
  have h3 : (gd r.1 (i : Int)).length = (gd r.1 0).length := by simpa using h3
  refine ih (gd r.1 (i : Int)).length ⟨by rw [if_neg (by omega)]; exact h3, fun j hj => ?_⟩
  by_cases hj' : j = i
  ·rw [hj']
   exact ⟨by simpa using h, h3⟩
  ·exact h2 j (by omega)
theorem lines3 (r : Rg) (h8 : r.2.1.length ≤ 8) (ph : Int) :
  L14_16 qc ((r, r.2.1, (r.2.1.length : Int), 0, ()), ((r, (([] : List Ln), ph)), ()), ()) = some ((), ((r, (lns r.2.1, ph)), ()), ()) := by
 refine qd2 (L := L14_16) (fun i => ((r, r.2.1, (r.2.1.length : Int), (i : Int), ()), ((r, (((List.range i).map (lnOf r.2.1)), ph)), ()), ())) _ 0 r.2.1.length (by have := qP; omega) (fun N => ?_) (fun N i _ hi => ?_)
 ·simp only [L14_16, B14_16]
  rw [qD (by omega)]
  rfl
 ·have hm := Nat.mod_lt (i + 1) (y := r.2.1.length) (by omega)
  simp only [L14_16, B14_16]
  rw [qu (by omega), cond_true, qk (by omega) (by omega), wI (by omega) (by omega)]
  simp only [qdh, qbn, qbm]
  rw [qiG (by omega), tmodC, qk (by omega) (by omega), jT (by simp <;> omega) (by simp <;> omega), List.range_succ, List.map_append]
  rfl
theorem new3 (r : Rg) (hs : ∀ s ∈ r.1, s.length ≤ 1000) :
  Okq (fun y : ((Option Rig) × Bool × Unit) × Unit => (y.1.2.1 = true ∧ y.1.1 = some (qaa r) ∧ OkR r ∧ frB r = true) ∨ (y.1.2.1 = false ∧ ¬ (OkR r ∧ frB r = true))) (g14 (r, ())) := by
 show Okq _ (F14 qc r)
 unfold F14
 refine qaf (fun h => qR (.inr ⟨rfl, fun hh => ?_⟩)) fun h1 => qbV (qel _ _ _) (qaf (fun h => qR (.inr ⟨rfl, fun hh => ?_⟩)) fun h2 => ?_)
 ·have := hh.1.n20
  have := of_decide_eq_true h
  omega
 ·have a := hh.1.n3
  have b := hh.1.n8
  dsimp only at h
  rw [qG.2 ⟨by omega, by omega⟩] at h
  cases h
 have h1 := of_decide_eq_false h1
 have h2 : jD (r.2.1.length : Int) 3 8 = true := by simpa using h2
 have h2 := qG.1 h2
 refine qae (seats3 r (by omega) hs) fun o ho => ?_
 rcases ho with ⟨rfl, h3⟩ | ⟨rfl, h3⟩
 case inr => exact qR (.inr ⟨rfl, fun hh => h3 hh.1.seats⟩)
 rw [qcG]
 refine qbV (qel _ _ _) (qaf (fun h => qR (.inr ⟨rfl, fun hh => ?_⟩)) fun h4 => qbV (qel _ _ _) (qaf (fun h => qR (.inr ⟨rfl, fun hh => ?_⟩)) fun h5 => qbV (qel _ _ _) (qaf (fun h => qR (.inr ⟨rfl, fun hh => ?_⟩)) fun h6 => qbV (span3 _) (qaf (fun h => qR (.inr ⟨rfl, fun hh => ?_⟩)) fun h7 => qbV (hasQ r.2.1 (by omega) _ (fun p => !spB p || p.2.2 != 0) fun p => ?_) (qaf (fun h => qR (.inr ⟨rfl, fun hh => ?_⟩)) fun h8 => qbV (lines3 r (by omega) _) ?_)))))
 ·have := hh.2
  unfold frB at this
  dsimp only at h
  rw [this] at h
  cases h
 ·dsimp only at h
  rw [hh.1.full] at h
  cases h
 ·dsimp only at h
  rw [hh.1.empty] at h
  cases h
 ·dsimp only at h
  rw [hh.1.cen] at h
  cases h
 ·show qa (F34 qc p) _ = _
  unfold F34
  rw [span3]
  cases spB p <;> rfl
 ·obtain ⟨p, hp, hb⟩ := List.any_eq_true.1 h
  obtain ⟨c1, c2⟩ := hh.1.feet p hp
  rw [c1, c2] at hb
  cases hb
 have h8 : ∀ p ∈ r.2.1, spB p = true ∧ p.2.2 = 0 := fun p hp => by
  have := List.any_eq_false.1 h8 p hp
  simpa using this
 have hn : ∀ p ∈ r.2.1, qcf p := fun p hp => qb8 (h8 p hp).1
 have hl := qjL hn
 refine qbV (convex3 (qaa r) (by show 0 < r.2.1.length; omega) (by show r.2.1.length ≤ 1000; omega) (by show (lns r.2.1).length ≤ 1000; rw [qb6]; omega) hn hl) (qR ?_)
 show (cvB r.2.1 (lns r.2.1) = true ∧ _) ∨ _
 cases hc : cvB r.2.1 (lns r.2.1) with
 | true => exact .inl ⟨rfl, rfl, ⟨by omega, by omega, by omega, h3, by simpa using h5, by simpa using h6, by simpa using h7, h8, hc⟩, by unfold frB; simpa using h4⟩
 | false => exact .inr ⟨hc, fun hh => by rw [hh.1.cv] at hc; cases hc⟩
def qbe (r : Rg) (l : Ln) (ph : Int) (f : Int → Int → Bool) : Nat → Int
 | 0 => r.2.2.1 * qaW l r.2.2.2.1
 | i + 1 => qbe r l ph f i + (if f (i : Int) (qaW l (gd (gd r.1 (i : Int)) ph)) then r.2.2.2.2.2 else r.2.2.2.2.1) * qaW l (gd (gd r.1 (i : Int)) ph)
def mom (r : Rg) (l : Ln) (ph : Int) (f : Int → Int → Bool) : Int := qbe r l ph f r.1.length
theorem OkR.line {r : Rg} (h : OkR r) {k : Int} (h0 : 0 ≤ k) (h1 : k < r.2.1.length) : qcf (gd (lns r.2.1) k).1 ∧ qcf (gd (lns r.2.1) k).2 :=
 qjL (fun p hp => qb8 (h.feet p hp).1) _ (qau h0 (by rw [qb6]; exact h1))
theorem OkR.seat {r : Rg} (h : OkR r) {i : Nat} (hi : i < r.1.length) {ph : Int} (h0 : 0 ≤ ph) (h1 : ph < phs r) : ph < (gd r.1 (i : Int)).length ∧ qcf (gd (gd r.1 (i : Int)) ph) := by
 obtain ⟨a, b⟩ := h.seats i hi
 unfold phs at h1
 rw [if_neg (by omega)] at h1
 have hlt : ph < (gd r.1 (i : Int)).length := by omega
 unfold pthB at a
 rw [Bool.and_eq_true] at a
 exact ⟨hlt, qb8 (List.all_eq_true.1 a.2 _ (qau h0 hlt))⟩
theorem w_bd {w a : Int} (hw : 0 ≤ w ∧ w ≤ 1000000) (ha : -800000000 ≤ a ∧ a ≤ 800000000) : -800000000000000 ≤ w * a ∧ w * a ≤ 800000000000000 := by
 have := qfA (a := w) (b := a) (A := 1000000) (B := 800000000) (by omega) ha
 omega
structure At (r : Rg) (k ph : Int) : Prop where
 ok : OkR r
 fr : frB r = true
 k0 : 0 ≤ k
 k1 : k < r.2.1.length
 p0 : 0 ≤ ph
 p1 : ph < phs r
section
variable {r : Rg} {k ph : Int}
theorem At.arm (h : At r k ph) {i : Nat} (hi : i < r.1.length) : -800000000 ≤ qaW (gd (lns r.2.1) k) (gd (gd r.1 (i : Int)) ph) ∧ qaW (gd (lns r.2.1) k) (gd (gd r.1 (i : Int)) ph) ≤ 800000000 := by
 have hl := h.ok.line h.k0 h.k1
 exact qkK hl.1 hl.2 (h.ok.seat hi h.p0 h.p1).2
theorem OkR.cenA (h : OkR r) {k : Int} (h0 : 0 ≤ k) (h1 : k < r.2.1.length) : -800000000 ≤ qaW (gd (lns r.2.1) k) r.2.2.2.1 ∧ qaW (gd (lns r.2.1) k) r.2.2.2.1 ≤ 800000000 := by
 have hl := h.line h0 h1
 exact qkK hl.1 hl.2 (qb8 h.cen)
theorem OkR.burden (h : OkR r) (b : Bool) : 0 ≤ (if b then r.2.2.2.2.2 else r.2.2.2.2.1) ∧ (if b then r.2.2.2.2.2 else r.2.2.2.2.1) ≤ 1000000 := by
 have h1 := qG.1 h.full
 have h2 := qG.1 h.empty
 cases b <;> simp <;> omega
theorem At.bd (h : At r k ph) (f : Int → Int → Bool) : ∀ i : Nat, i ≤ r.1.length → -(800000000000000 * ((i : Int) + 1)) ≤ qbe r (gd (lns r.2.1) k) ph f i ∧ qbe r (gd (lns r.2.1) k) ph f i ≤ 800000000000000 * ((i : Int) + 1)
 | 0, _ => by
  have := w_bd (qG.1 h.fr) (h.ok.cenA h.k0 h.k1)
  unfold qbe
  omega
 | i + 1, hi => by
  have h1 := h.bd f i (by omega)
  have h2 := w_bd (h.ok.burden (f (i : Int) (qaW (gd (lns r.2.1) k) (gd (gd r.1 (i : Int)) ph)))) (h.arm (i := i) (by omega))
  unfold qbe
  omega
theorem At.moment (h : At r k ph) (F : Int → Int → Option Bool) (f : Int → Int → Bool) (hF : ∀ (i : Nat) (a : Int), i < r.1.length → F (i : Int) a = some (f (i : Int) a)) :
  g25 (qaa r, ph, k, F, ()) = some ((mom r (gd (lns r.2.1) k) ph f, ()), ()) := by
 have hl := h.ok.line h.k0 h.k1
 have h20 := h.ok.n20
 have hb := h.bd f
 show F25 qc (qaa r) ph k F = _
 unfold F25 mom
 show qi (lns r.2.1) k _ = _
 rw [qk h.k0 (by rw [qb6]; exact h.k1)]
 refine (qV (arm3 hl.1 hl.2 (qb8 h.ok.cen)) _).trans ?_
 have e : L25_4 qc ((qaa r, ph, F, gd (lns r.2.1) k, qbe r (gd (lns r.2.1) k) ph f 0, r.1, (r.1.length : Int), ((0 : Nat) : Int), ()), (), ()) = some ((qbe r (gd (lns r.2.1) k) ph f r.1.length, ()), (), ()) :=
  qd2 (L := L25_4) (fun i => ((qaa r, ph, F, gd (lns r.2.1) k, qbe r (gd (lns r.2.1) k) ph f i, r.1, (r.1.length : Int), (i : Int), ()), (), ())) _ 0 r.1.length (by have := qP; omega)
   (fun N => by simp [L25_4, B25_4])
   (fun N i _ hi => by
    have hs := h.ok.seat hi h.p0 h.p1
    have ha := h.arm hi
    have b1 := hb i (by omega)
    have b2 := hb (i + 1) (by omega)
    have w1 := w_bd (h.ok.burden (f (i : Int) (qaW (gd (lns r.2.1) k) (gd (gd r.1 (i : Int)) ph)))) ha
    simp only [L25_4, B25_4]
    rw [qu (by omega), cond_true, qk (by omega) (by omega), qk h.p0 hs.1, arm3 hl.1 hl.2 hs.2, qb]
    dsimp only
    rw [hF i _ hi, qb, wI (x := (i : Int) + 1) (by omega) (by omega)]
    have em : qbe r (gd (lns r.2.1) k) ph f (i + 1) = qbe r (gd (lns r.2.1) k) ph f i + (if f (i : Int) (qaW (gd (lns r.2.1) k) (gd (gd r.1 (i : Int)) ph)) then r.2.2.2.2.2 else r.2.2.2.2.1) * qaW (gd (lns r.2.1) k) (gd (gd r.1 (i : Int)) ph) := rfl
    rw [em] at b2 ⊢
    generalize f (i : Int) (qaW (gd (lns r.2.1) k) (gd (gd r.1 (i : Int)) ph)) = b at w1 b2 ⊢
    cases b with
    | true =>
     rw [if_pos rfl] at w1 b2 ⊢
     rw [cond_true, qao]
     show L25_4 N ((qaa r, ph, F, gd (lns r.2.1) k, IntKind.wrap .i64 (qbe r (gd (lns r.2.1) k) ph f i + IntKind.wrap .i64 (r.2.2.2.2.2 * qaW (gd (lns r.2.1) k) (gd (gd r.1 (i : Int)) ph))), r.1, (r.1.length : Int), ((i : Int) + 1), ()), (), ()) = _
     rw [wI (x := r.2.2.2.2.2 * _) (by omega) (by omega), wI (by omega) (by omega)]
     rfl
    | false =>
     rw [if_neg (by decide)] at w1 b2 ⊢
     rw [cond_false, qao]
     show L25_4 N ((qaa r, ph, F, gd (lns r.2.1) k, IntKind.wrap .i64 (qbe r (gd (lns r.2.1) k) ph f i + IntKind.wrap .i64 (r.2.2.2.2.1 * qaW (gd (lns r.2.1) k) (gd (gd r.1 (i : Int)) ph))), r.1, (r.1.length : Int), ((i : Int) + 1), ()), (), ()) = _
     rw [wI (x := r.2.2.2.2.1 * _) (by omega) (by omega), wI (by omega) (by omega)]
     rfl)
 have b0 := hb 0 (by omega)
 unfold qbe at b0
 show qa (L25_4 qc ((qaa r, ph, F, gd (lns r.2.1) k, IntKind.wrap .i64 (r.2.2.1 * qaW (gd (lns r.2.1) k) r.2.2.2.1), r.1, (r.1.length : Int), 0, ()), (), ())) _ = _
 rw [wI (by omega) (by omega)]
 exact (qV e _).trans rfl
theorem At.momentL (h : At r k ph) (o : List Bool) (ho : o.length = r.1.length) :
  g10025 (qaa r, ph, k, o, ()) = some ((mom r (gd (lns r.2.1) k) ph (fun i _ => gd o i), ()), (o, ())) := by
 have hl := h.ok.line h.k0 h.k1
 have h20 := h.ok.n20
 have hb := h.bd (fun i _ => gd o i)
 show F10025 qc (qaa r) ph k o = _
 unfold F10025 mom
 show qi (lns r.2.1) k _ = _
 rw [qk h.k0 (by rw [qb6]; exact h.k1)]
 refine (qV (arm3 hl.1 hl.2 (qb8 h.ok.cen)) _).trans ?_
 have e : L10025_4 qc ((qaa r, ph, gd (lns r.2.1) k, qbe r (gd (lns r.2.1) k) ph (fun i _ => gd o i) 0, r.1, (r.1.length : Int), ((0 : Nat) : Int), ()), (o, ()), ()) = some ((qbe r (gd (lns r.2.1) k) ph (fun i _ => gd o i) r.1.length, ()), (o, ()), ()) :=
  qd2 (L := L10025_4) (fun i => ((qaa r, ph, gd (lns r.2.1) k, qbe r (gd (lns r.2.1) k) ph (fun i _ => gd o i) i, r.1, (r.1.length : Int), (i : Int), ()), (o, ()), ())) _ 0 r.1.length (by have := qP; omega)
   (fun N => by simp [L10025_4, B10025_4])
   (fun N i _ hi => by
    have hs := h.ok.seat hi h.p0 h.p1
    have ha := h.arm hi
    have b1 := hb i (by omega)
    have b2 := hb (i + 1) (by omega)
    have w1 := w_bd (h.ok.burden (gd o (i : Int))) ha
    simp only [L10025_4, B10025_4]
    rw [qu (by omega), cond_true, qk (by omega) (by omega), qk h.p0 hs.1, arm3 hl.1 hl.2 hs.2, qb]
    have e36 : ∀ a : Int, g36 ((i : Int), a, o, ()) = some ((gd o (i : Int), ()), (o, ())) := fun a => by
     show F36 qc (i : Int) a o = _
     unfold F36
     rw [jM (by omega) (by omega), qk (by omega) (by omega)]
    rw [e36, qb, wI (x := (i : Int) + 1) (by omega) (by omega)]
    have em : qbe r (gd (lns r.2.1) k) ph (fun i _ => gd o i) (i + 1) = qbe r (gd (lns r.2.1) k) ph (fun i _ => gd o i) i + (if gd o (i : Int) then r.2.2.2.2.2 else r.2.2.2.2.1) * qaW (gd (lns r.2.1) k) (gd (gd r.1 (i : Int)) ph) := rfl
    rw [em] at b2 ⊢
    dsimp only
    generalize gd o (i : Int) = b at w1 b2 ⊢
    cases b with
    | true =>
     rw [if_pos rfl] at w1 b2 ⊢
     rw [cond_true, qao]
     show L10025_4 N ((qaa r, ph, gd (lns r.2.1) k, IntKind.wrap .i64 (qbe r (gd (lns r.2.1) k) ph (fun i _ => gd o i) i + IntKind.wrap .i64 (r.2.2.2.2.2 * qaW (gd (lns r.2.1) k) (gd (gd r.1 (i : Int)) ph))), r.1, (r.1.length : Int), ((i : Int) + 1), ()), (o, ()), ()) = _
     rw [wI (x := r.2.2.2.2.2 * _) (by omega) (by omega), wI (by omega) (by omega)]
     rfl
    | false =>
     rw [if_neg (by decide)] at w1 b2 ⊢
     rw [cond_false, qao]
     show L10025_4 N ((qaa r, ph, gd (lns r.2.1) k, IntKind.wrap .i64 (qbe r (gd (lns r.2.1) k) ph (fun i _ => gd o i) i + IntKind.wrap .i64 (r.2.2.2.2.1 * qaW (gd (lns r.2.1) k) (gd (gd r.1 (i : Int)) ph))), r.1, (r.1.length : Int), ((i : Int) + 1), ()), (o, ()), ()) = _
     rw [wI (x := r.2.2.2.2.1 * _) (by omega) (by omega), wI (by omega) (by omega)]
     rfl)
 have b0 := hb 0 (by omega)
 unfold qbe at b0
 show qa (L10025_4 qc ((qaa r, ph, gd (lns r.2.1) k, IntKind.wrap .i64 (r.2.2.1 * qaW (gd (lns r.2.1) k) r.2.2.2.1), r.1, (r.1.length : Int), 0, ()), (o, ()), ())) _ = _
 rw [wI (by omega) (by omega)]
 exact (qV e _).trans rfl
end
def outB : Int → Int → Bool := fun _ a => decide (a < 0)
def momW (r : Rg) (q : Nat) : Int := mom r (gd (lns r.2.1) ((q % r.2.1.length : Nat) : Int)) ((q / r.2.1.length : Nat) : Int) outB
def worsts (r : Rg) : List (List Int × Int) := (List.range (phs r * r.2.1.length)).map fun q => ([((q / r.2.1.length : Nat) : Int), ((q % r.2.1.length : Nat) : Int)], momW r q)
theorem at_of {r : Rg} (h : OkR r) (hf : frB r = true) {q : Nat} (hq : q < phs r * r.2.1.length) : At r ((q % r.2.1.length : Nat) : Int) ((q / r.2.1.length : Nat) : Int) := by
 have h3 := h.n3
 have hm := Nat.mod_lt q (y := r.2.1.length) (by omega)
 have hd := Nat.div_lt_of_lt_mul (m := q) (n := r.2.1.length) (k := phs r) (by rw [Nat.mul_comm]; exact hq)
 exact ⟨h, hf, Int.natCast_nonneg _, Int.ofNat_lt.2 hm, Int.natCast_nonneg _, Int.ofNat_lt.2 hd⟩
theorem qjI {α β : Type} {f : α → Option β} {g : α → β} : ∀ {l : List α}, (∀ x ∈ l, f x = some (g x)) → Iw.mapO f l = some (l.map g)
 | [], _ => rfl
 | x :: l, h => by
  unfold Iw.mapO
  rw [h x (by simp), qb, qjI fun y hy => h y (by simp [hy])]
  rfl
theorem phs_le {r : Rg} (h : OkR r) : phs r ≤ 60 := by
 unfold phs
 split
 ·omega
 ·have a := (h.seats 0 (by omega)).1
  unfold pthB at a
  rw [Bool.and_eq_true] at a
  have := qG.1 a.1
  have : (gd r.1 ((0 : Nat) : Int)).length ≤ 60 := by omega
  exact this
theorem worst3 {r : Rg} (h : OkR r) (hf : frB r = true) : Iw.it15.g (qaa r, ()) = some (worsts r) := by
 have h8 := h.n8
 have hp := phs_le h
 show leK 0 (phs r : Int) (leK (phs r : Int) 1000000 (leK ((lns r.2.1).length : Int) 1000000 (Iw.mapO (Iw.momO (qaa r) (lns r.2.1).length) (List.range ((phs r : Int).toNat * (lns r.2.1).length))))) = _
 rw [qb6, qaG (by omega), qaG (by omega), qaG (by omega), Int.toNat_natCast]
 refine qjI fun q hq => ?_
 have ha := at_of h hf (List.mem_range.1 hq)
 unfold Iw.momO Iw.momF
 rw [ha.moment _ outB fun i a _ => rfl]
 rfl
def Desc (T : Int → Int) (l : List Int) : Prop := l.Pairwise fun a b => T b ≤ T a
section
variable {T : Int → Int} {cmp : Int → Int → Option Int} {D : Int → Prop} (hc : ∀ a b, D a → D b → cmp a b = some (T b - T a))
include hc
theorem ins3 (b i : Int) : ∀ (m : Nat) (pre : List Int) (x : Int) (suf : List Int) (N : Nat), pre.length = m → m < N → m ≤ 1000 → (∀ y ∈ pre, D y) → D x → Desc T pre →
  ∃ q : List Int, L74_4 N ((0, b, cmp, i, (m : Int), ()), (pre ++ x :: suf, ()), ()) = some ((0, b, cmp, i, ()), (q ++ suf, ()), ()) ∧ q.Perm (pre ++ [x]) ∧ Desc T q
 | 0, pre, x, suf, N, hp, hN, _, _, _, _ => by
  obtain ⟨n, rfl⟩ : ∃ n, N = n + 1 := ⟨N - 1, by omega⟩
  obtain rfl : pre = [] := List.length_eq_zero_iff.1 hp
  refine ⟨[x], ?_, List.Perm.refl _, List.pairwise_singleton _ _⟩
  simp only [L74_4, B74_4]
  rw [qD (by omega)]
  rfl
 | m + 1, pre, x, suf, N, hp, hN, hm, hD, hx, hs => by
  obtain ⟨n, rfl⟩ : ∃ n, N = n + 1 := ⟨N - 1, by omega⟩
  obtain ⟨p, y, rfl⟩ : ∃ p y, pre = p ++ [y] := ⟨pre.dropLast, pre.getLast (by intro h; rw [h] at hp; cases hp), (List.dropLast_concat_getLast _).symm⟩
  have hpl : p.length = m := by simpa using hp
  have hy : D y := hD y (by simp)
  have hl : (p ++ [y] ++ x :: suf).length = m + 2 + suf.length := by simp; omega
  have hw : IntKind.wrap .i64 (((m + 1 : Nat) : Int) - 1) = (m : Int) := by rw [wI (by omega) (by omega)]; omega
  have i1 : ∀ {R : Type} (k : Option R), jS ((m + 1 : Nat) : Int) (p ++ [y] ++ x :: suf).length k = k := fun k => jM (by omega) (by omega) k
  have i0 : ∀ {R : Type} (k : Option R), jS (m : Int) (p ++ [y] ++ x :: suf).length k = k := fun k => jM (by omega) (by omega) k
  have e1 : gd (p ++ [y] ++ x :: suf) ((m + 1 : Nat) : Int) = x := qdM (by rw [List.getElem?_append_right (by simp; omega)]; simp [hpl])
  have e0 : gd (p ++ [y] ++ x :: suf) (m : Int) = y := qdM (by rw [List.append_assoc, List.getElem?_append_right (by omega)]; simp [hpl])
  have g1 : ∀ {R : Type} (k : Int → Option R), qi (p ++ [y] ++ x :: suf) ((m + 1 : Nat) : Int) k = k x := fun k => by rw [qk (by omega) (by omega), e1]
  have g0 : ∀ {R : Type} (k : Int → Option R), qi (p ++ [y] ++ x :: suf) (m : Int) k = k y := fun k => by rw [qk (by omega) (by omega), e0]
  simp only [L74_4, B74_4]
  rw [qu (by omega), cond_true]
  simp only [hw, i1, i0, g1, g0, qbn, qbm, hc x y hx hy, qb]
  by_cases h : T y - T x < 0
  ·rw [qu h, cond_true]
   have hset : (((p ++ [y] ++ x :: suf).set ((m + 1 : Nat) : Int).toNat y).set (m : Int).toNat x) = p ++ x :: (y :: suf) := by
    rw [Int.toNat_natCast, Int.toNat_natCast, List.append_assoc, List.set_append_right _ _ (by omega), List.set_append_right _ _ (by omega), hpl, show m + 1 - m = 1 by omega, Nat.sub_self]
    rfl
   have hs' : ((p ++ [y] ++ x :: suf).set ((m + 1 : Nat) : Int).toNat y).length = (p ++ [y] ++ x :: suf).length := List.length_set
   have i2 : ∀ {R : Type} (k : Option R), jS (m : Int) ((p ++ [y] ++ x :: suf).set ((m + 1 : Nat) : Int).toNat y).length k = k := fun k => jM (by omega) (by omega) k
   have g2 : ∀ {R : Type} (k : Int → Option R), qi ((p ++ [y] ++ x :: suf).set ((m + 1 : Nat) : Int).toNat y) (m : Int) k = k (gd ((p ++ [y] ++ x :: suf).set ((m + 1 : Nat) : Int).toNat y) (m : Int)) := fun k => qk (by omega) (by omega) k
   simp only [hw, i2, g2, qb, hset]
   obtain ⟨q, hq, pq, sq⟩ := ins3 b i m p x (y :: suf) n hpl (by omega) (by omega) (fun z hz => hD z (by simp [hz])) hx (List.pairwise_append.1 hs).1
   refine ⟨q ++ [y], ?_, ?_, ?_⟩
   ·rw [hq, List.append_assoc]
    rfl
   ·exact (pq.append_right [y]).trans (by
     rw [List.append_assoc, List.append_assoc]
     exact (List.Perm.refl p).append (List.Perm.swap y x []))
   ·refine List.pairwise_append.2 ⟨sq, List.pairwise_singleton _ _, fun z hz w hw' => ?_⟩
    rw [List.mem_singleton.1 hw']
    rcases List.mem_append.1 (pq.mem_iff.1 hz) with hz | hz
    ·exact (List.pairwise_append.1 hs).2.2 z hz y (by simp)
    ·rw [List.mem_singleton.1 hz]
     omega
  ·rw [qD h, cond_false]
   refine ⟨p ++ [y] ++ [x], by simp, List.Perm.refl _, ?_⟩
   refine List.pairwise_append.2 ⟨hs, List.pairwise_singleton _ _, fun z hz w hw' => ?_⟩
   rw [List.mem_singleton.1 hw']
   rcases List.mem_append.1 hz with hz | hz
   ·have := (List.pairwise_append.1 hs).2.2 z hz y (by simp)
    omega
   ·rw [List.mem_singleton.1 hz]
    omega
theorem sort3 (l : List Int) (hl : l.length < 20) (hD : ∀ x ∈ l, D x) : Okq (fun s : List Int => s.Perm l ∧ Desc T s) (g38 (cmp, ()) l) := by
 show Okq _ (F38 qc l cmp)
 unfold F38
 obtain ⟨fu, hfu⟩ : ∃ fu, qc = fu + 1 := ⟨qc - 1, by have := qP; omega⟩
 have hbig := qP
 have k1 : Okq (fun y : Unit × ((List Int) × Unit) => y.2.1.Perm l ∧ Desc T y.2.1) (g74 (l, 0, (l.length : Int), cmp, ())) := by
  show Okq _ (F74 qc l 0 (l.length : Int) cmp)
  unfold F74
  refine qae (S := fun o : Unit × ((List Int) × Unit) × Unit => o.2.1.1.Perm l ∧ Desc T o.2.1.1) ?_ fun o ho => qR ho
  rw [wI (by omega) (by omega)]
  refine qiE (L := L74_1) (fun i (s : List Int) => ((0, (l.length : Int), cmp, (i : Int), ()), (s, ()), ())) (fun i s => 1 ≤ i ∧ s.Perm l ∧ Desc T (s.take i)) 100 (max 1 l.length) ?_ ?_ (max 1 l.length - 1) 1 qc l (by omega) (by omega) ⟨by omega, List.Perm.refl _, ?_⟩
  ·rintro N s - ⟨_, h1, h2⟩
   have := h1.length_eq
   simp only [L74_1, B74_1]
   rw [qD (by omega)]
   rw [List.take_of_length_le (by omega)] at h2
   exact qR ⟨h1, h2⟩
  ·rintro N i s hN hi ⟨h0, h1, h2⟩ ih
   have hsl := h1.length_eq
   have hDs : ∀ x ∈ s, D x := fun x hx => hD x (h1.mem_iff.1 hx)
   simp only [L74_1, B74_1]
   rw [qu (by omega), cond_true]
   have hsp : s = s.take i ++ s[i]'(by omega) :: s.drop (i + 1) := by rw [← List.drop_eq_getElem_cons, List.take_append_drop]
   have htl : (s.take i).length = i := by rw [List.length_take]; omega
   obtain ⟨q, hq, pq, sq⟩ := ins3 hc (l.length : Int) (i : Int) i (s.take i) (s[i]'(by omega)) (s.drop (i + 1)) N htl (by omega) (by omega) (fun y hy => hDs y (List.mem_of_mem_take hy)) (hDs _ (List.getElem_mem _)) h2
   rw [← hsp] at hq
   rw [hq, qb]
   dsimp only
   rw [wI (by omega) (by omega)]
   have hql : q.length = i + 1 := by rw [pq.length_eq]; simp; omega
   refine ih (q ++ s.drop (i + 1)) ⟨by omega, ?_, ?_⟩
   ·refine ((pq.append_right _).trans ?_).trans h1
    rw [List.append_assoc]
    conv => rhs; rw [hsp]
    exact List.Perm.refl _
   ·rw [List.take_append_of_le_length (by omega), List.take_of_length_le (by omega)]
    exact sq
  ·rcases l with _ | ⟨x, l⟩
   ·exact List.Pairwise.nil
   ·exact List.pairwise_singleton _ _
 refine qae (S := fun y : Unit × ((List Int) × Unit) => y.2.1.Perm l ∧ Desc T y.2.1) ?_ fun y hy => qR hy
 show Okq _ (F58 qc l (l.length : Int) cmp)
 unfold F58
 have e2 : L58_2 qc (((l.length : Int), cmp, 20, 0, 20, ()), (l, ()), ()) = some (((l.length : Int), cmp, 20, 0, ()), (l, ()), ()) := by
  rw [hfu]
  simp only [L58_2, B58_2]
  rw [qD (by omega)]
  rfl
 rw [e2, qb]
 refine qae k1 fun y hy => ?_
 have e7 : L58_7 qc (((l.length : Int), cmp, 20, ()), (y.2.1, ()), ()) = some ((), (y.2.1, ()), ()) := by
  rw [hfu]
  simp only [L58_7, B58_7]
  rw [qD (by omega)]
  rfl
 exact qbV e7 (qR hy)
end
def qbM (T : Int → Int) : List Int → Int
 | [] => 0
 | x :: l => T x + qbM T l
theorem qeY (T : Int → Int) : ∀ a b : List Int, qbM T (a ++ b) = qbM T a + qbM T b
 | [], b => by simp [qbM]
 | x :: a, b => by
  have := qeY T a b
  show T x + qbM T (a ++ b) = T x + qbM T a + qbM T b
  omega
theorem qlf (T : Int → Int) {a b : List Int} (h : a.Perm b) : qbM T a = qbM T b := by
 induction h with
 | nil => rfl
 | cons x _ ih => show T x + _ = T x + _; rw [ih]
 | swap x y l => show T y + (T x + _) = T x + (T y + _); omega
 | trans _ _ i1 i2 => exact i1.trans i2
def qe6 (T : Int → Int) (x : Int) : Int := if 0 < T x then T x else 0
theorem qgB {T : Int → Int} : ∀ {l : List Int}, (∀ x ∈ l, T x ≤ 0) → qbM (qe6 T) l = 0
 | [], _ => rfl
 | x :: l, h => by
  show qe6 T x + qbM (qe6 T) l = 0
  have h1 := h x (by simp)
  rw [qgB fun y hy => h y (by simp [hy])]
  unfold qe6
  rw [if_neg (by omega)]
  rfl
theorem qjr {T : Int → Int} : ∀ {l : List Int}, Desc T l → ∃ K, K ≤ l.length ∧ qbM T (l.take K) = qbM (qe6 T) l
 | [], _ => ⟨0, Nat.le_refl _, rfl⟩
 | x :: l, h => by
  obtain ⟨h1, h2⟩ := List.pairwise_cons.1 h
  by_cases hx : 0 < T x
  ·obtain ⟨K, k1, k2⟩ := qjr h2
   refine ⟨K + 1, by simpa using k1, ?_⟩
   show T x + qbM T (l.take K) = qe6 T x + qbM (qe6 T) l
   rw [k2]
   unfold qe6
   rw [if_pos hx]
  ·refine ⟨0, by omega, ?_⟩
   rw [qgB (l := x :: l) fun y hy => ?_]
   ·rfl
   ·rcases List.mem_cons.1 hy with rfl | hy
    ·omega
    ·have := h1 y hy
     omega
theorem qj8 {T : Int → Int} {B : Int} (hB : 0 ≤ B) : ∀ {l : List Int}, (∀ x ∈ l, -B ≤ T x ∧ T x ≤ B) → -(B * l.length) ≤ qbM T l ∧ qbM T l ≤ B * l.length
 | [], _ => by simp [qbM]
 | x :: l, h => by
  have h1 := h x (by simp)
  have h2 := qj8 hB fun y hy => h y (List.mem_cons_of_mem x hy)
  have e : B * ((x :: l).length : Int) = B * (l.length : Int) + B := by rw [List.length_cons, show ((l.length + 1 : Nat) : Int) = (l.length : Int) + 1 from rfl, Int.mul_add, Int.mul_one]
  rw [e]
  show -(B * (l.length : Int) + B) ≤ T x + qbM T l ∧ T x + qbM T l ≤ _
  omega
theorem qeX {l : List Int} {i : Nat} (h : i < l.length) : l.take (i + 1) = l.take i ++ [gd l (i : Int)] := by
 rw [List.take_add_one, List.getElem?_eq_getElem h, qdM (List.getElem?_eq_getElem h)]
 rfl
section
variable {T : Int → Int} {t : Int → Option Int} {l : List Int} (ht : ∀ x ∈ l, t x = some (T x)) (hl : l.length ≤ 20)
include ht hl
theorem most_any (n from_ : Int) : Okq (fun y : (Int × Unit) × ((List Int) × Unit) => y.2.1 = l) (g40 (n, from_, l, t, ())) := by
 show Okq _ (F40 qc n from_ l t)
 unfold F40
 refine qae (S := fun o : (Int × Unit) × ((List Int) × Unit) × Unit => o.2.1.1 = l) (qcK (L := L40_3) (fun i (s : Int × Int) => ((s.1, from_, t, s.2, (l.length : Int), (i : Int), ()), (l, ()), ())) (fun _ _ => True) 0 l.length (s := (n, 0)) trivial (by have := qP; omega) ?_ ?_) fun o ho => qR ho
 ·rintro N s - -
  simp only [L40_3, B40_3]
  rw [qD (by omega)]
  exact qR rfl
 ·rintro N i ⟨a, b⟩ - hi - ih
  simp only [L40_3, B40_3]
  rw [qu (by omega), cond_true]
  refine qkn (by omega) (by omega) (qb5 (by omega) (by omega) ?_)
  rw [wI (x := (i : Int) + 1) (by omega) (by omega)]
  exact qaf (fun _ => qaf (fun _ => qbV (ht _ (qau (by omega) (by omega))) (ih (_, _) trivial)) fun _ => ih (_, _) trivial) fun _ => ih (_, _) trivial
theorem qkX (h0 : ∀ x ∈ l, 0 ≤ x) (hT : ∀ x ∈ l, -800000000000000 ≤ T x ∧ T x ≤ 800000000000000) (K : Nat) (hK : K ≤ l.length) : g40 ((K : Int), 0, l, t, ()) = some ((qbM T (l.take K), ()), (l, ())) := by
 have hb : ∀ i, -(800000000000000 * 20) ≤ qbM T (l.take i) ∧ qbM T (l.take i) ≤ 800000000000000 * 20 := fun i => by
  have h1 := qj8 (T := T) (B := 800000000000000) (by decide) (l := l.take i) fun x hx => hT x (List.mem_of_mem_take hx)
  have : (l.take i).length ≤ 20 := by rw [List.length_take]; omega
  omega
 show F40 qc (K : Int) 0 l t = _
 unfold F40
 have e : L40_3 qc (((K : Int), 0, t, 0, (l.length : Int), ((0 : Nat) : Int), ()), (l, ()), ()) = some ((qbM T (l.take K), ()), (l, ()), ()) :=
  qd2 (L := L40_3) (fun i => ((((K - i : Nat) : Int), 0, t, qbM T (l.take (min i K)), (l.length : Int), (i : Int), ()), (l, ()), ())) _ 0 l.length (by have := qP; omega)
   (fun N => by
    simp only [L40_3, B40_3]
    rw [qD (by omega), Nat.min_eq_right hK]
    rfl)
   (fun N i _ hi => by
    have hm := qau (l := l) (i := (i : Int)) (by omega) (by omega)
    simp only [L40_3, B40_3]
    rw [qu (by omega), cond_true, jM (by omega) (by omega), qk (by omega) (by omega), qu (p := gd l (i : Int) ≥ 0) (h0 _ hm), cond_true, wI (x := (i : Int) + 1) (by omega) (by omega)]
    by_cases h : i < K
    ·have b1 := hb (i + 1)
     rw [qeX hi, qeY] at b1
     have e1 : qbM T [gd l (i : Int)] = T (gd l (i : Int)) := by show T _ + 0 = _; omega
     rw [e1] at b1
     rw [qu (by omega), cond_true, ht _ hm, qb, wI (x := ((K - i : Nat) : Int) - 1) (by omega) (by omega), Nat.min_eq_left (by omega), Nat.min_eq_left (by omega), wI (by omega) (by omega), qeX hi, qeY, e1, show ((K - i : Nat) : Int) - 1 = ((K - (i + 1) : Nat) : Int) by omega]
     rfl
    ·rw [qD (by omega), cond_false, Nat.min_eq_right (by omega), Nat.min_eq_right (by omega), show K - i = K - (i + 1) by omega]
     rfl)
 exact (qV e _).trans rfl
end
def tk (r : Rg) (k ph : Int) (i : Int) : Int := (r.2.2.2.2.1 - r.2.2.2.2.2) * qaW (gd (lns r.2.1) k) (gd (gd r.1 i) ph)
def qa6 (n : Nat) : List Int := (List.range n).map fun (i : Nat) => (i : Int)
theorem qeJ {n : Nat} {x : Int} (h : x ∈ qa6 n) : ∃ i : Nat, i < n ∧ x = i := by
 unfold qa6 at h
 obtain ⟨i, hi, rfl⟩ := List.mem_map.1 h
 exact ⟨i, List.mem_range.1 hi, rfl⟩
theorem qf1 (n : Nat) : qa6 (n + 1) = qa6 n ++ [(n : Int)] := by unfold qa6; rw [List.range_succ, List.map_append]; rfl
theorem At.tk_bd {r : Rg} {k ph : Int} (h : At r k ph) {i : Nat} (hi : i < r.1.length) : -800000000000000 ≤ tk r k ph (i : Int) ∧ tk r k ph (i : Int) ≤ 800000000000000 := by
 have h1 := qG.1 h.ok.full
 have h2 := qG.1 h.ok.empty
 have := qfA (a := r.2.2.2.2.1 - r.2.2.2.2.2) (A := 1000000) (by omega) (h.arm hi)
 unfold tk
 omega
theorem At.worst_sum {r : Rg} {k ph : Int} (h : At r k ph) : ∀ i : Nat, i ≤ r.1.length → qbe r (gd (lns r.2.1) k) ph outB i = qbe r (gd (lns r.2.1) k) ph (fun _ _ => false) i - qbM (qe6 (tk r k ph)) (qa6 i)
 | 0, _ => by
  show r.2.2.1 * _ = r.2.2.1 * _ - 0
  omega
 | i + 1, hi => by
  have ih := h.worst_sum i (by omega)
  have h2 := qG.1 h.ok.empty
  rw [qf1, qeY]
  have e1 : qbM (qe6 (tk r k ph)) [(i : Int)] = qe6 (tk r k ph) (i : Int) := by show qe6 _ _ + 0 = _; omega
  have s1 : qbe r (gd (lns r.2.1) k) ph outB (i + 1) = qbe r (gd (lns r.2.1) k) ph outB i + (if decide (qaW (gd (lns r.2.1) k) (gd (gd r.1 (i : Int)) ph) < 0) = true then r.2.2.2.2.2 else r.2.2.2.2.1) * qaW (gd (lns r.2.1) k) (gd (gd r.1 (i : Int)) ph) := rfl
  have s2 : qbe r (gd (lns r.2.1) k) ph (fun _ _ => false) (i + 1) = qbe r (gd (lns r.2.1) k) ph (fun _ _ => false) i + r.2.2.2.2.1 * qaW (gd (lns r.2.1) k) (gd (gd r.1 (i : Int)) ph) := rfl
  have s3 : qe6 (tk r k ph) (i : Int) = if 0 < (r.2.2.2.2.1 - r.2.2.2.2.2) * qaW (gd (lns r.2.1) k) (gd (gd r.1 (i : Int)) ph) then (r.2.2.2.2.1 - r.2.2.2.2.2) * qaW (gd (lns r.2.1) k) (gd (gd r.1 (i : Int)) ph) else 0 := rfl
  rw [e1, s1, s2, s3, ih]
  generalize qaW (gd (lns r.2.1) k) (gd (gd r.1 (i : Int)) ph) = a
  have e2 : (r.2.2.2.2.1 - r.2.2.2.2.2) * a = r.2.2.2.2.1 * a - r.2.2.2.2.2 * a := Int.sub_mul _ _ _
  have e3 : (r.2.2.2.2.2 - r.2.2.2.2.1) * a = r.2.2.2.2.2 * a - r.2.2.2.2.1 * a := Int.sub_mul _ _ _
  by_cases ha : a < 0
  ·rw [if_pos (decide_eq_true ha)]
   have := Int.mul_nonneg (a := r.2.2.2.2.2 - r.2.2.2.2.1) (b := -a) (by omega) (by omega)
   rw [Int.mul_neg] at this
   split <;> omega
  ·rw [if_neg (by rw [qD ha]; decide)]
   have := Int.mul_nonneg (a := r.2.2.2.2.2 - r.2.2.2.2.1) (b := a) (by omega) (by omega)
   split <;> omega
noncomputable def qbC (r : Rg) (k ph : Int) : Int → Option Int := fun v2 => qa (g37 (v2, (some (qaa r)), k, ph, ())) fun y3 => some y3.1.1
section
variable {r : Rg} {k ph : Int}
theorem At.takes (h : At r k ph) {i : Nat} (hi : i < r.1.length) : qbC r k ph (i : Int) = some (tk r k ph (i : Int)) := by
 have hl := h.ok.line h.k0 h.k1
 have hs := h.ok.seat hi h.p0 h.p1
 have h1 := qG.1 h.ok.full
 have h2 := qG.1 h.ok.empty
 have hb := h.tk_bd hi
 unfold qbC
 have e : g37 ((i : Int), (some (qaa r)), k, ph, ()) = some ((tk r k ph (i : Int), ()), ()) := by
  show F37 qc (i : Int) (some (qaa r)) k ph = _
  unfold F37
  simp only [qb]
  show qi (lns r.2.1) k _ = _
  rw [qk h.k0 (by rw [qb6]; exact h.k1)]
  show qi r.1 (i : Int) _ = _
  rw [qk (by omega) (by omega), qk h.p0 hs.1, arm3 hl.1 hl.2 hs.2, qb, qao]
  show some ((IntKind.wrap .i64 (IntKind.wrap .i64 (r.2.2.2.2.1 - r.2.2.2.2.2) * _), ()), ()) = _
  rw [wI (x := r.2.2.2.2.1 - r.2.2.2.2.2) (by omega) (by omega)]
  unfold tk at hb ⊢
  dsimp only
  rw [wI (by omega) (by omega)]
 rw [e, qb]
theorem At.order (h : At r k ph) (o : List Bool) : L16_6 qc (((some (qaa r)), ph, k, qbC r k ph, (r.1.length : Int), 0, ()), (o, ([] : List Int), ()), ()) = some (((some (qaa r)), ph, k, qbC r k ph, ()), (o, qa6 r.1.length, ()), ()) := by
 have := h.ok.n20
 refine qd2 (L := L16_6) (fun i => (((some (qaa r)), ph, k, qbC r k ph, (r.1.length : Int), (i : Int), ()), (o, qa6 i, ()), ())) _ 0 r.1.length (by have := qP; omega) (fun N => ?_) (fun N i _ hi => ?_)
 ·simp only [L16_6, B16_6]
  rw [qD (by omega)]
  rfl
 ·have hsl : (qa6 i).length = i := by unfold qa6; simp
  simp only [L16_6, B16_6]
  rw [qu (by omega), cond_true, jT (by simp <;> omega) (by simp <;> omega), wI (by omega) (by omega), qf1]
  rfl
theorem At.left (h : At r k ph) (hneg : mom r (gd (lns r.2.1) k) ph outB < 0) {l : List Int} (hp : l.Perm (qa6 r.1.length)) (hd : Desc (tk r k ph) l) :
  Okq (fun o => ∃ left : Int, o = (((some (qaa r)), ph, k, qbC r k ph, left, ()), (List.replicate r.1.length false, l, ()), ())) (L16_13 qc (((some (qaa r)), ph, k, qbC r k ph, 0, ()), (List.replicate r.1.length false, l, ()), ())) := by
 have h20 := h.ok.n20
 have hsl : (qa6 r.1.length).length = r.1.length := by unfold qa6; simp
 have hll : l.length = r.1.length := by rw [hp.length_eq, hsl]
 have hm : ∀ x ∈ l, ∃ i : Nat, i < r.1.length ∧ x = i := fun x hx => qeJ (hp.mem_iff.1 hx)
 have ht : ∀ x ∈ l, qbC r k ph x = some (tk r k ph x) := fun x hx => by
  obtain ⟨i, hi, rfl⟩ := hm x hx
  exact h.takes hi
 have h0 : ∀ x ∈ l, 0 ≤ x := fun x hx => by
  obtain ⟨i, hi, rfl⟩ := hm x hx
  omega
 have hT : ∀ x ∈ l, -800000000000000 ≤ tk r k ph x ∧ tk r k ph x ≤ 800000000000000 := fun x hx => by
  obtain ⟨i, hi, rfl⟩ := hm x hx
  exact h.tk_bd hi
 obtain ⟨K, hK, hsum⟩ := qjr hd
 have em : (mom r (gd (lns r.2.1) k) ph fun i _ => gd (List.replicate r.1.length false) i) = mom r (gd (lns r.2.1) k) ph (fun _ _ => false) := by
  have : ∀ i, i ≤ r.1.length → (qbe r (gd (lns r.2.1) k) ph (fun i _ => gd (List.replicate r.1.length false) i) i) = qbe r (gd (lns r.2.1) k) ph (fun _ _ => false) i := by
   intro i
   induction i with
   | zero => intro _; rfl
   | succ i ih =>
    intro hi
    have hg : gd (List.replicate r.1.length false) (i : Int) = false := qdM (by rw [List.getElem?_replicate, if_pos (by omega)])
    unfold qbe
    rw [ih (by omega), hg]
  exact this _ (Nat.le_refl _)
 have e0 := h.momentL (List.replicate r.1.length false) (by simp)
 rw [em] at e0
 have hw := h.worst_sum r.1.length (Nat.le_refl _)
 have hbd := h.bd (fun _ _ => false) r.1.length (Nat.le_refl _)
 have hsp := qlf (qe6 (tk r k ph)) hp
 refine qcK (L := L16_13) (fun i (_ : Unit) => (((some (qaa r)), ph, k, qbC r k ph, (i : Int), ()), (List.replicate r.1.length false, l, ()), ())) (fun _ _ => True) 0 K (s := ()) trivial (by have := qP; omega) ?_ ?_
 ·rintro N s - -
  simp only [L16_13, B16_13]
  rw [qb, qV e0, qV (qkX ht (by omega) h0 hT K hK)]
  have hb := qj8 (T := tk r k ph) (B := 800000000000000) (by decide) (l := l.take K) fun x hx => hT x (List.mem_of_mem_take hx)
  have : (l.take K).length ≤ 20 := by rw [List.length_take]; omega
  unfold mom at hneg ⊢
  dsimp only
  rw [wI (by omega) (by omega), qD (by omega)]
  exact qR ⟨_, rfl⟩
 ·rintro N i s - hi - ih
  simp only [L16_13, B16_13]
  rw [qb, qV e0, qV (qkX ht (by omega) h0 hT i (by omega)), wI (x := (i : Int) + 1) (by omega) (by omega)]
  exact qaf (fun _ => ih () trivial) fun _ => qR ⟨_, rfl⟩
theorem At.fewest (h : At r k ph) (h19 : r.1.length < 20) (hneg : mom r (gd (lns r.2.1) k) ph outB < 0) : Okq (fun _ => True) (g16 (qaa r, ph, k, ())) := by
 have hsl : (qa6 r.1.length).length = r.1.length := by unfold qa6; simp
 have hD : ∀ x ∈ qa6 r.1.length, qbC r k ph x = some (tk r k ph x) := fun x hx => by
  obtain ⟨i, hi, rfl⟩ := qeJ hx
  exact h.takes hi
 have hB : ∀ x ∈ qa6 r.1.length, -800000000000000 ≤ tk r k ph x ∧ tk r k ph x ≤ 800000000000000 := fun x hx => by
  obtain ⟨i, hi, rfl⟩ := qeJ hx
  exact h.tk_bd hi
 show Okq _ (F16 qc (qaa r) ph k)
 unfold F16
 rw [qb]
 refine ok_leK (by omega) (ok_leK (by omega) (ok_lenK (by omega) (by show (r.1.length : Int) ≤ _; omega) ?_))
 rw [qb]
 refine qbV (h.order _) ?_
 dsimp only
 refine qae (sort3 (T := tk r k ph) (D := fun x => x ∈ qa6 r.1.length) (fun a b ha hb => ?_) _ (by omega) fun x hx => hx) fun l ⟨hp, hd⟩ => ?_
 ·have ea := hB a ha
  have eb := hB b hb
  have e : g39 (a, b, qbC r k ph, ()) = some ((tk r k ph b - tk r k ph a, ()), ()) := by
   show F39 qc a b (qbC r k ph) = _
   unfold F39
   rw [hD b hb, qb, hD a ha, qb, wI (by omega) (by omega)]
  rw [e, qb]
 have ht : ∀ x ∈ l, qbC r k ph x = some (tk r k ph x) := fun x hx => hD x (hp.mem_iff.1 hx)
 have hll : l.length = r.1.length := by rw [hp.length_eq, hsl]
 have hrep : List.replicate (((qaa r).1.1.length : Int)).toNat false = List.replicate r.1.length false := by rw [Int.toNat_natCast]; rfl
 rw [hrep]
 refine qae (h.left hneg hp hd) ?_
 rintro o ⟨left, rfl⟩
 dsimp only
 rw [List.length_replicate]
 refine qae (S := fun _ => True) (qcK (L := L16_16) (fun i (s : Int × List Bool) => (((some (qaa r)), ph, k, qbC r k ph, s.1, (r.1.length : Int), (i : Int), ()), (s.2, l, ()), ())) (fun _ s => s.2.length = r.1.length) 0 r.1.length (s := (left, List.replicate r.1.length false)) (by simp) (by have := qP; omega) ?_ ?_) fun o _ => qR trivial
 ·rintro N s - -
  simp only [L16_16, B16_16]
  rw [qD (by omega)]
  exact qR trivial
 ·rintro N i ⟨a, o⟩ - hi hs ih
  dsimp only at hs
  have hse : (o.set (i : Int).toNat true).length = r.1.length := by rw [List.length_set, hs]
  simp only [L16_16, B16_16]
  rw [qu (by omega), cond_true]
  refine qaf (fun _ => qR trivial) fun _ => qkn (by omega) (by omega) (qb5 (by omega) (by omega) ?_)
  rw [qb]
  refine qbV (h.momentL _ hse) ?_
  rw [wI (x := (i : Int) + 1) (by omega) (by omega)]
  refine qae (most_any ht (by omega) _ _) fun y hy => ?_
  rw [hy]
  dsimp only
  have fin : ∀ b : Int, Okq (fun _ => True) (jS (i : Int) (o.set (i : Int).toNat true).length (qi (o.set (i : Int).toNat true) (i : Int) fun _ => L16_16 N (((some (qaa r)), ph, k, qbC r k ph, b, (r.1.length : Int), (i : Int) + 1, ()), (((o.set (i : Int).toNat true).set (i : Int).toNat false), l, ()), ()))) := fun b =>
   qkn (by omega) (by omega) (qb5 (by omega) (by omega) (ih (b, _) (by dsimp only; rw [List.length_set]; exact hse)))
  exact qaf (fun _ => qaf (fun _ => ih (_, _) hse) fun _ => fin _) fun _ => fin _
end
def mm (r : Rg) (p k : Nat) : Int := mom r (gd (lns r.2.1) (k : Int)) (p : Int) outB
def qa3 (r : Rg) (k : Nat) : Int := qaW (gd (lns r.2.1) (k : Int)) r.2.2.2.1
def Tip (r : Rg) : Prop := ∃ p k : Nat, p < phs r ∧ k < r.2.1.length ∧ mm r p k < 0
def atQ (r : Rg) (q : Nat) : List Int × Int := ([((q / r.2.1.length : Nat) : Int), ((q % r.2.1.length : Nat) : Int)], mm r (q / r.2.1.length) (q % r.2.1.length))
theorem q_of {n p k P : Nat} (hp : p < P) (hk : k < n) : p * n + k < P * n ∧ (p * n + k) / n = p ∧ (p * n + k) % n = k := by
 have h1 : (p + 1) * n ≤ P * n := Nat.mul_le_mul_right n (by omega)
 rw [Nat.add_mul, Nat.one_mul] at h1
 refine ⟨by omega, ?_, ?_⟩
 ·rw [Nat.add_comm, Nat.add_mul_div_right _ _ (by omega), Nat.div_eq_of_lt hk]; omega
 ·rw [Nat.add_comm, Nat.add_mul_mod_self_right, Nat.mod_eq_of_lt hk]
theorem tip_q {r : Rg} (h3 : 0 < r.2.1.length) : Tip r ↔ ∃ q, q < phs r * r.2.1.length ∧ mm r (q / r.2.1.length) (q % r.2.1.length) < 0 := by
 constructor
 ·rintro ⟨p, k, hp, hk, h⟩
  obtain ⟨a, b, c⟩ := q_of hp hk
  exact ⟨p * r.2.1.length + k, a, by rw [b, c]; exact h⟩
 ·rintro ⟨q, hq, h⟩
  exact ⟨q / r.2.1.length, q % r.2.1.length, Nat.div_lt_of_lt_mul (by rw [Nat.mul_comm]; exact hq), Nat.mod_lt _ h3, h⟩
theorem tipsR {r : Rg} (h : OkR r) (hf : frB r = true) (h19 : r.1.length < 20) : ∀ l : List Nat, (∀ q ∈ l, q < phs r * r.2.1.length) →
  Okq (fun o : X × ((List Bool) × Int × Int × Bool × Int × Unit) => (o.1 = .norm ∧ ∀ q ∈ l, 0 ≤ mm r (q / r.2.1.length) (q % r.2.1.length)) ∨ (o.1 = .ret ∧ o.2.2.2.2.1 = true ∧ o.2.2.2.2.2.1 = 0 ∧ ∃ q ∈ l, mm r (q / r.2.1.length) (q % r.2.1.length) < 0))
   (R7_5 qc (l.map (atQ r)) (([] : List Bool), (0 : Int), (0 : Int), false, (0 : Int), some (qaa r), ()))
 | [], _ => qR (.inl ⟨rfl, fun q hq => by cases hq⟩)
 | q :: l, hl => by
  have ha := at_of h hf (hl q (by simp))
  show Okq _ (Q7_5 qc (R7_5 qc (l.map (atQ r))) (atQ r q) [] 0 0 false 0 (some (qaa r)))
  unfold Q7_5 atQ
  dsimp only
  refine qaf (fun hb => ?_) fun hb => ?_
  ·have hb := of_decide_eq_true hb
   refine qae (S := fun d : Unit × ((List Bool) × Int × Int × Bool × Int × Unit) × Unit => d.2.1.2.2.2.1 = true ∧ d.2.1.2.2.2.2.1 = 0) ?_ fun d hd => qR (.inr ⟨rfl, hd.1, hd.2, q, by simp, hb⟩)
   refine qb5 (by omega) (by simp) (qb5 (by omega) (by simp) (qb5 (by omega) (by simp) (qb5 (by omega) (by simp) ?_)))
   rw [qb]
   exact qae (ha.fewest h19 hb) fun y _ => qR ⟨rfl, rfl⟩
  ·have hb := of_decide_eq_false hb
   obtain ⟨o, e, ho⟩ := tipsR h hf h19 l fun x hx => hl x (by simp [hx])
   refine ⟨o, e, ?_⟩
   rcases ho with ⟨h1, h2⟩ | ⟨h1, h2, h3, x, hx, h4⟩
   ·refine .inl ⟨h1, fun x hx => ?_⟩
    rcases List.mem_cons.1 hx with rfl | hx
    ·omega
    ·exact h2 x hx
   ·exact .inr ⟨h1, h2, h3, x, by simp [hx], h4⟩
theorem tips3 (r : Rg) (hs : ∀ s ∈ r.1, s.length ≤ 1000) (h19 : r.1.length < 20) :
  Okq (fun y : ((List Bool) × Int × Int × Bool × Int × Unit) × Unit => ((OkR r ∧ frB r = true) ∧ y.1.2.2.2.2.1 = 0 ∧ (y.1.2.2.2.1 = true ↔ Tip r)) ∨ (¬ (OkR r ∧ frB r = true) ∧ y.1.2.2.2.2.1 = 33)) (g7 (r, ())) := by
 show Okq _ (F7 qc r)
 unfold F7
 refine qae (new3 r hs) fun y hy => ?_
 rcases hy with ⟨h1, h2, h3, h4⟩ | ⟨h1, h2⟩
 ·have hn := h3.n3
  rw [h1, h2, Bool.not_true, cond_false, qb]
  refine qbV (worst3 h3 h4) (qae (tipsR h3 h4 h19 (List.range (phs r * r.2.1.length)) fun q hq => List.mem_range.1 hq) ?_)
  rintro ⟨o1, o2⟩ ho
  dsimp only at ho
  rcases ho with ⟨rfl, h5⟩ | ⟨rfl, h5, h6, q, hq, h7⟩
  ·refine qR (.inl ⟨⟨h3, h4⟩, rfl, ⟨fun e => Bool.noConfusion e, fun ht => ?_⟩⟩)
   obtain ⟨q, hq, h7⟩ := (tip_q (by omega)).1 ht
   have := h5 q (List.mem_range.2 hq)
   omega
  ·refine qR (.inl ⟨⟨h3, h4⟩, h6, fun _ => (tip_q (by omega)).2 ⟨q, List.mem_range.1 hq, h7⟩, fun _ => h5⟩)
 ·rw [h1]
  exact qR (.inr ⟨h2, rfl⟩)
theorem mm_bd {r : Rg} (h : OkR r) (hf : frB r = true) {p k : Nat} (hp : p < phs r) (hk : k < r.2.1.length) : -16800000000000000 ≤ mm r p k ∧ mm r p k ≤ 16800000000000000 := by
 have ha : At r (k : Int) (p : Int) := ⟨h, hf, by omega, by omega, by omega, by omega⟩
 have := ha.bd outB r.1.length (Nat.le_refl _)
 have := h.n20
 unfold mm mom
 omega
theorem need_law {m a : Int} (hm : m < 0) (hm' : -16800000000000000 ≤ m) (ha : 0 < a) (ha' : a ≤ 800000000) :
  IntKind.wrap .i64 (Int.tdiv (IntKind.wrap .i64 ((IntKind.wrap .i64 ((IntKind.wrap .i64 (0 - m)) + a)) - 1)) a) = (-m + a - 1) / a ∧ 1 ≤ (-m + a - 1) / a ∧ (-m + a - 1) / a ≤ 16900000000000000 ∧ 0 ≤ m + (-m + a - 1) / a * a := by
 have e := Int.mul_ediv_add_emod (-m + a - 1) a
 have l1 := Int.emod_lt_of_pos (-m + a - 1) ha
 have l2 := Int.ediv_le_self a (a := -m + a - 1) (by omega)
 have l3 : 1 ≤ (-m + a - 1) / a := (Int.le_ediv_iff_mul_le ha).2 (by omega)
 rw [Int.mul_comm] at e
 refine ⟨?_, l3, by omega, by omega⟩
 rw [wI (x := 0 - m) (by omega) (by omega), wI (x := 0 - m + a) (by omega) (by omega), wI (x := 0 - m + a - 1) (by omega) (by omega), Int.tdiv_eq_ediv_of_nonneg (by omega), show 0 - m + a - 1 = -m + a - 1 by omega, wI (by omega) (by omega)]
def Needs (r : Rg) (l : List Nat) (n0 N : Int) : Prop := n0 ≤ N ∧ N ≤ 16900000000000000 ∧ (∀ q ∈ l, mm r (q / r.2.1.length) (q % r.2.1.length) < 0 → 0 < N ∧ 0 ≤ mm r (q / r.2.1.length) (q % r.2.1.length) + N * qa3 r (q % r.2.1.length)) ∧ (N = n0 ∨ ∃ q ∈ l, mm r (q / r.2.1.length) (q % r.2.1.length) < 0)
theorem ballR {r : Rg} (h : OkR r) (hf : frB r = true) (t2 t3 : Int) : ∀ (l : List Nat) (n0 : Int), (∀ q ∈ l, q < phs r * r.2.1.length) → 0 ≤ n0 → n0 ≤ 16900000000000000 →
  Okq (fun o : X × (Int × Int × Int × Unit) => (o.1 = .norm ∧ Needs r l n0 o.2.2.2.1) ∨ (o.1 = .ret ∧ o.2.2.1 = 3 ∧ ∃ q ∈ l, mm r (q / r.2.1.length) (q % r.2.1.length) < 0))
   (R11_6 qc (l.map (atQ r)) (r, t2, t3, some (qaa r), n0, ()))
 | [], n0, _, _, h1 => qR (.inl ⟨rfl, Int.le_refl _, h1, fun q hq => (by cases hq), .inl rfl⟩)
 | q :: l, n0, hl, h0, h1 => by
  have h3 := h.n3
  have hq := hl q (by simp)
  have hk := Nat.mod_lt q (y := r.2.1.length) (by omega)
  have hp : q / r.2.1.length < phs r := Nat.div_lt_of_lt_mul (by rw [Nat.mul_comm]; exact hq)
  have hb := mm_bd h hf hp hk
  have hc := h.cenA (k := ((q % r.2.1.length : Nat) : Int)) (Int.natCast_nonneg _) (Int.ofNat_lt.2 hk)
  have hln := h.line (k := ((q % r.2.1.length : Nat) : Int)) (Int.natCast_nonneg _) (Int.ofNat_lt.2 hk)
  show Okq _ (Q11_6 qc (R11_6 qc (l.map (atQ r))) (atQ r q) r t2 t3 (some (qaa r)) n0)
  unfold Q11_6 atQ
  dsimp only
  refine qaf (fun hb' => ?_) fun hb' => ?_
  ·have hb' := of_decide_eq_true hb'
   obtain ⟨o, e, ho⟩ := ballR h hf t2 t3 l n0 (fun x hx => hl x (by simp [hx])) h0 h1
   refine ⟨o, e, ?_⟩
   rcases ho with ⟨e1, a1, a2, a3, a4⟩ | ⟨e1, a1, x, hx, a2⟩
   ·refine .inl ⟨e1, a1, a2, fun x hx hn => ?_, a4.imp id fun ⟨x, hx, hn⟩ => ⟨x, by simp [hx], hn⟩⟩
    rcases List.mem_cons.1 hx with rfl | hx
    ·omega
    ·exact a3 x hx hn
   ·exact .inr ⟨e1, a1, x, by simp [hx], a2⟩
  ·have hb' := of_decide_eq_false hb'
   have hneg : mm r (q / r.2.1.length) (q % r.2.1.length) < 0 := by omega
   refine qae (S := fun d => d = ((r, some (qaa r), mm r (q / r.2.1.length) (q % r.2.1.length), qa3 r (q % r.2.1.length), ()), (t2, t3, n0, ()), ())) ?_ ?_
   ·refine qb5 (by omega) (by simp) ?_
    rw [qb]
    show Okq _ (qi (lns r.2.1) ((q % r.2.1.length : Nat) : Int) _)
    rw [qk (Int.natCast_nonneg _) (by rw [qb6]; exact Int.ofNat_lt.2 hk)]
    exact qbV (arm3 hln.1 hln.2 (qb8 h.cen)) (qR rfl)
   ·rintro d rfl
    dsimp only
    have hc' : qa3 r (q % r.2.1.length) ≤ 800000000 := hc.2
    refine qaf (fun ha => qR (.inr ⟨rfl, rfl, q, by simp, hneg⟩)) fun ha => ?_
    have ha := of_decide_eq_false ha
    obtain ⟨w, c1, c2, c3⟩ := need_law hneg hb.1 (a := qa3 r (q % r.2.1.length)) (by omega) hc'
    rw [w]
    simp only [qbn, qbm]
    rw [qiG (by omega), qb]
    dsimp only
    generalize (-mm r (q / r.2.1.length) (q % r.2.1.length) + qa3 r (q % r.2.1.length) - 1) / qa3 r (q % r.2.1.length) = c at c1 c2 c3 ⊢
    obtain ⟨o, e, ho⟩ := ballR h hf t2 t3 l (max n0 c) (fun x hx => hl x (by simp [hx])) (by omega) (by omega)
    refine ⟨o, e, ?_⟩
    rcases ho with ⟨e1, a1, a2, a3, a4⟩ | ⟨e1, a1, x, hx, a2⟩
    ·refine .inl ⟨e1, by omega, a2, fun x hx hn => ?_, .inr ⟨q, by simp, hneg⟩⟩
     rcases List.mem_cons.1 hx with rfl | hx
     ·have := Int.mul_le_mul_of_nonneg_right (a := c) (b := o.2.2.2.1) (c := qa3 r (x % r.2.1.length)) (by omega) (by omega)
      exact ⟨by omega, by omega⟩
     ·exact a3 x hx hn
    ·exact .inr ⟨e1, a1, x, by simp [hx], a2⟩
theorem ballL {r : Rg} (h : OkR r) (hf : frB r = true) (o2 o3 n0 : Int) :
  Okq (fun o => (o = .inl ((), (0, 3, ()), ()) ∧ ∃ p k : Nat, p < phs r ∧ k < r.2.1.length ∧ qa3 r k < 0 ∧ Int.tdiv (mm r p k) (-qa3 r k) < n0) ∨ (o = .inr ((), (o2, o3, n0, ()), ()) ∧ ∀ p k : Nat, p < phs r → k < r.2.1.length → qa3 r k < 0 → n0 ≤ Int.tdiv (mm r p k) (-qa3 r k)))
   (L11_14 qc ((r, some (qaa r), lns r.2.1, ((lns r.2.1).length : Int), 0, ()), (o2, o3, n0, ()), ())) := by
 have h8 := h.n8
 have h60 := phs_le h
 have big := qP
 refine qcK (L := L11_14) (fun i (_ : Unit) => ((r, some (qaa r), lns r.2.1, ((lns r.2.1).length : Int), (i : Int), ()), (o2, o3, n0, ()), ())) (fun i _ => ∀ p k : Nat, p < phs r → k < i → qa3 r k < 0 → n0 ≤ Int.tdiv (mm r p k) (-qa3 r k)) 100 r.2.1.length (s := ()) (fun p k _ hk => by omega) (by omega) ?_ ?_
 ·rintro N s - hP
  simp only [L11_14, B11_14]
  rw [qD (by rw [qb6]; omega)]
  exact qR (.inr ⟨rfl, hP⟩)
 ·rintro N k s hN hk hP ih
  have hln := h.line (k := (k : Int)) (by omega) (by omega)
  have hc := h.cenA (k := (k : Int)) (by omega) (by omega)
  simp only [L11_14, B11_14]
  rw [qu (by rw [qb6]; omega), cond_true, qk (by omega) (by rw [qb6]; omega), qb]
  refine qae (S := fun o => (o = .inl ((), (0, 3, ()), ()) ∧ ∃ p : Nat, p < phs r ∧ qa3 r k < 0 ∧ Int.tdiv (mm r p k) (-qa3 r k) < n0) ∨ (o = .inr ((r, some (qaa r), lns r.2.1, ((lns r.2.1).length : Int), (k : Int), ()), (o2, o3, n0, ()), ()) ∧ ∀ p : Nat, p < phs r → qa3 r k < 0 → n0 ≤ Int.tdiv (mm r p k) (-qa3 r k)))
   (qcK (L := L11_17) (fun i (_ : Unit) => ((r, some (qaa r), (k : Int), lns r.2.1, ((lns r.2.1).length : Int), (k : Int), (phs r : Int), (i : Int), ()), (o2, o3, n0, gd (lns r.2.1) (k : Int), ()), ())) (fun i _ => ∀ p : Nat, p < i → qa3 r k < 0 → n0 ≤ Int.tdiv (mm r p k) (-qa3 r k)) 0 (phs r) (s := ()) (fun p hp => by omega) (by omega) ?_ ?_) ?_
  ·rintro N s - hP
   simp only [L11_17, B11_17]
   rw [qD (by omega)]
   exact qR (.inr ⟨rfl, hP⟩)
  ·rintro N p s - hp hP ih
   have ha : At r (k : Int) (p : Int) := ⟨h, hf, by omega, by omega, by omega, by omega⟩
   have hb := mm_bd h hf hp hk
   simp only [L11_17, B11_17]
   rw [qu (by omega), cond_true]
   refine qbV (arm3 hln.1 hln.2 (qb8 h.cen)) ?_
   dsimp only
   rw [wI (x := (p : Int) + 1) (by omega) (by omega)]
   refine qaf (fun hn => ?_) fun hn => ih () fun p' hp' hn' => ?_
   ·have hn : qa3 r k < 0 := of_decide_eq_true hn
    rw [qb]
    refine qbV (ha.moment _ outB fun i a _ => rfl) ?_
    dsimp only
    have hc : -800000000 ≤ qa3 r k := hc.1
    have td : -16800000000000000 ≤ Int.tdiv (mm r p k) (-qa3 r k) ∧ Int.tdiv (mm r p k) (-qa3 r k) ≤ 16800000000000000 := by
     have := Int.natAbs_tdiv_le_natAbs (mm r p k) (-qa3 r k)
     omega
    show Okq _ (nzK (IntKind.wrap .i64 (0 - qa3 r k)) (cond (decide (n0 > IntKind.wrap .i64 (Int.tdiv (mm r p k) (IntKind.wrap .i64 (0 - qa3 r k))))) _ _))
    rw [wI (x := 0 - qa3 r k) (by omega) (by omega), qiG (by omega), show 0 - qa3 r k = -qa3 r k by omega, wI (by omega) (by omega)]
    refine qaf (fun hg => qR (.inl ⟨rfl, p, hp, hn, of_decide_eq_true hg⟩)) fun hg => ih () fun p' hp' hn' => ?_
    have hg := of_decide_eq_false hg
    by_cases e : p' = p
    ·rw [e]; omega
    ·exact hP p' (by omega) hn'
   ·exact absurd hn' (of_decide_eq_false hn)
  ·rintro o (⟨rfl, p, hp, h1, h2⟩ | ⟨rfl, h1⟩)
   ·exact qR (.inl ⟨rfl, p, k, hp, hk, h1, h2⟩)
   ·rw [qcG]
    dsimp only
    rw [wI (by omega) (by omega)]
    refine ih () fun p k' hp hk' hn => ?_
    by_cases e : k' = k
    ·rw [e] at hn ⊢
     exact h1 p hp hn
    ·exact hP p k' hp (by omega) hn
theorem ballast3 (r : Rg) (hs : ∀ s ∈ r.1, s.length ≤ 1000) (h : OkR r) (hf : frB r = true) :
  Okq (fun y : (Int × Int × Unit) × Unit => (y.1.2.1 = 3 ∧ Tip r) ∨ (y.1.2.1 = 0 ∧ (0 ≤ y.1.1 ∧ y.1.1 ≤ 16900000000000000) ∧ (0 < y.1.1 ↔ Tip r) ∧ ∀ p k : Nat, p < phs r → k < r.2.1.length → 0 ≤ mm r p k + y.1.1 * qa3 r k)) (g11 (r, ())) := by
 have hn3 := h.n3
 show Okq _ (F11 qc r)
 unfold F11
 refine qae (new3 r hs) fun y hy => ?_
 rcases hy with ⟨h1, h2, -, -⟩ | ⟨h1, h2⟩
 case inr => exact absurd ⟨h, hf⟩ h2
 rw [h1, h2, Bool.not_true, cond_false, qb]
 refine qbV (worst3 h hf) (qae (ballR h hf 0 0 (List.range (phs r * r.2.1.length)) 0 (fun q hq => List.mem_range.1 hq) (by omega) (by omega)) ?_)
 rintro ⟨o1, o2, o3, N, u⟩ ho
 dsimp only at ho
 rcases ho with ⟨rfl, n1, n2, n3, n4⟩ | ⟨rfl, e3, q, hq, hn⟩
 case inr => exact qR (.inl ⟨e3, (tip_q (by omega)).2 ⟨q, List.mem_range.1 hq, hn⟩⟩)
 have hz : ¬ Tip r → N = 0 := fun ht => by
  rcases n4 with n4 | ⟨q, hq, hn⟩
  ·exact n4
  ·exact absurd ((tip_q (by omega)).2 ⟨q, List.mem_range.1 hq, hn⟩) ht
 have hall : ∀ p k : Nat, p < phs r → k < r.2.1.length → mm r p k < 0 → 0 < N ∧ 0 ≤ mm r p k + N * qa3 r k := fun p k hp hk hn => by
  obtain ⟨a, b, c⟩ := q_of hp hk
  have := n3 (p * r.2.1.length + k) (List.mem_range.2 a)
  rw [b, c] at this
  exact this hn
 refine qae (ballL h hf o2 o3 N) ?_
 rintro o (⟨rfl, p, k, hp, hk, ha, hd⟩ | ⟨rfl, hd⟩)
 ·refine qR (.inl ⟨rfl, ?_⟩)
  by_cases ht : Tip r
  ·exact ht
  ·have h0 : 0 ≤ mm r p k := by
    by_cases hm : mm r p k < 0
    ·exact absurd ⟨p, k, hp, hk, hm⟩ ht
    ·omega
   have := Int.tdiv_nonneg h0 (b := -qa3 r k) (by omega)
   have := hz ht
   omega
 ·refine qR (.inr ⟨rfl, ⟨n1, n2⟩, ⟨fun hN => ?_, fun ⟨p, k, hp, hk, hm⟩ => (hall p k hp hk hm).1⟩, fun p k hp hk => ?_⟩)
  ·by_cases ht : Tip r
   ·exact ht
   ·have := hz ht
    have hN : 0 < N := hN
    omega
  ·show 0 ≤ mm r p k + N * qa3 r k
   by_cases hm : mm r p k < 0
   ·exact (hall p k hp hk hm).2
   ·by_cases ha : qa3 r k < 0
    ·have h1 := hd p k hp hk ha
     rw [Int.tdiv_eq_ediv_of_nonneg (by omega)] at h1
     have h2 := Int.ediv_mul_le (mm r p k) (b := -qa3 r k) (by omega)
     have h3 := Int.mul_le_mul_of_nonneg_right (a := N) (c := -qa3 r k) h1 (by omega)
     rw [Int.mul_neg] at h3
     omega
    ·have := Int.mul_nonneg (a := N) (b := qa3 r k) (by omega) (by omega)
     omega
def qjs (r : Rg) (m : Int) : Rg := (r.1, (r.2.1, (r.2.2.1 + m, r.2.2.2)))
theorem OkR.plus {r : Rg} (h : OkR r) (m : Int) : OkR (qjs r m) := ⟨h.n20, h.n3, h.n8, h.seats, h.full, h.empty, h.cen, h.feet, h.cv⟩
theorem qh6 (r : Rg) (m : Int) (l : Ln) (ph : Int) (f : Int → Int → Bool) : ∀ i : Nat, qbe (qjs r m) l ph f i = qbe r l ph f i + m * qaW l r.2.2.2.1
 | 0 => Int.add_mul r.2.2.1 m (qaW l r.2.2.2.1)
 | i + 1 => by
  have := qh6 r m l ph f i
  show qbe (qjs r m) l ph f i + (if f (i : Int) (qaW l (gd (gd r.1 (i : Int)) ph)) then r.2.2.2.2.2 else r.2.2.2.2.1) * qaW l (gd (gd r.1 (i : Int)) ph) = qbe r l ph f i + (if f (i : Int) (qaW l (gd (gd r.1 (i : Int)) ph)) then r.2.2.2.2.2 else r.2.2.2.2.1) * qaW l (gd (gd r.1 (i : Int)) ph) + _
  omega
theorem mm_plus (r : Rg) (m : Int) (p k : Nat) : mm (qjs r m) p k = mm r p k + m * qa3 r k := qh6 r m _ _ _ _
def plusE (g : qdI) (x : L10.Ent) : qdI := (g.1, (g.2.1, (g.2.2.1 ++ [x], g.2.2.2)))
theorem shutR {g : qdI} (hg : Near g) (h : qc0 g) {n : Int} (hn : 0 ≤ n ∧ n < g.1.1.length) : g10 (g, n, ()) = some ((true, ()), ()) := by
 have hF : g10 (g, n, ()) = F10 qc g n := rfl
 rw [hF]
 unfold F10
 have hd := qG.1 h.day
 have hi := h.ins
 by_cases hl : (g.2.2.1.length : Int) ≥ 100
 ·rw [qu hl]
  rfl
 have rest : L10.lastDay g.2.2.1 ≤ g.2.2.2.1 → (qa (g21 (g, ())) fun y2 => jE ((y2.1.1.2.2.1.length : Int) + [(g.2.2.2.1, 2, n, 3, (0 : Int))].length) (qaF (y2.1.1.1, (y2.1.1.2.1, ((y2.1.1.2.2.1 ++ [(g.2.2.2.1, 2, n, 3, (0 : Int))]), y2.1.1.2.2.2))) fun z3 => qa (g22 (z3, ())) fun y4 => cond (y4.1.2.1 == 0) (qa (g23 (y4.1.1, n, ())) fun y5 => some (((!y5.1.1), ()), ())) (some ((false, ()), ())))) = some ((true, ()), ()) := by
  intro h1
  have hr : L10.rideB g.2.1 n = true := qG.2 ⟨hn.1, by show n ≤ (g.2.1.2.2.length : Int) - 1; omega⟩
  have hV : qc0 (plusE g (L10.foundE g.2.2.2.1 n)) := ⟨h.eve, L10.found_check h.book (by omega) hr h1 hd.2, h.sup, h.ins, h.loads, h.lims, h.emps, h.day, h.lim, h.emp⟩
  have hno : ¬ n ∈ opn (plusE g (L10.foundE g.2.2.2.1 n)) := fun hm => by
   have hs := opn_sub hm
   unfold rel plusE at hs
   exact L10.found_not (b := g.2.1) (l := g.2.2.1) (n := n) (d := g.2.2.2.1) h.book h1 hs
  rw [copy_eq hg, qb, jT (by simp <;> omega) (by simp <;> omega), qao]
  refine (qV hV.opens' _).trans ?_
  dsimp only
  rw [show ((0 : Int) == 0) = true from rfl, cond_true, has_eq (opn (plusE g (L10.foundE g.2.2.2.1 n))) (by have := opn_len hV; omega), qb, qD hno]
  rfl
 rw [qD hl, cond_false]
 by_cases h0 : (g.2.2.1.length : Int) > 0
 ·rw [qu h0, cond_true, wI (by omega) (by omega), qk (by omega) (by omega)]
  by_cases h1 : (gd g.2.2.1 ((g.2.2.1.length : Int) - 1)).1 > g.2.2.2.1
  ·rw [qu h1]
   rfl
  ·rw [qD h1, cond_false]
   exact rest (by unfold L10.lastDay; rw [if_neg (by omega)]; omega)
 ·rw [qD h0, cond_false]
  exact rest (by unfold L10.lastDay; rw [if_pos (by omega)]; exact hd.1)
theorem far3 (r : Rg) : Okq (fun y : (Bool × Unit) × Unit => y.1.1 = false → r.2.1.length ≤ 12 ∧ ∀ s ∈ r.1, s.length ≤ 1000) (g5 (r, ())) := by
 show Okq _ (F5 qc r)
 unfold F5
 refine qaf (fun _ => qR fun e => Bool.noConfusion e) fun h1 => qaf (fun _ => qR fun e => Bool.noConfusion e) fun h2 => ?_
 have h1 := of_decide_eq_false h1
 have h2 := of_decide_eq_false h2
 refine qae (S := fun o => o = .inl ((true, ()), (), ()) ∨ (o = .inr ((), (), ()) ∧ ∀ i : Nat, i < r.1.length → (gd r.1 (i : Int)).length ≤ 70)) (qcK (L := L5_4) (fun i (_ : Unit) => (((i : Int), ()), (r, ()), ())) (fun i _ => ∀ j : Nat, j < i → (gd r.1 (j : Int)).length ≤ 70) 0 r.1.length (s := ()) (fun j hj => by omega) (by have := qP; omega) ?_ ?_) ?_
 ·rintro N s - hP
  simp only [L5_4, B5_4]
  rw [qD (by omega)]
  exact qR (.inr ⟨rfl, hP⟩)
 ·rintro N i s - hi hP ih
  simp only [L5_4, B5_4]
  rw [qu (by omega), cond_true, qk (by omega) (by omega), wI (by omega) (by omega)]
  refine qaf (fun _ => qR (.inl rfl)) fun h => ih () fun j hj => ?_
  have h := of_decide_eq_false h
  by_cases e : j = i
  ·rw [e]; omega
  ·exact hP j (by omega)
 ·rintro o (rfl | ⟨rfl, h⟩)
  ·exact qR fun e => Bool.noConfusion e
  ·refine qR fun _ => ⟨by omega, fun s hs => ?_⟩
   obtain ⟨i, hi, rfl⟩ := List.mem_iff_getElem.1 hs
   have := h i hi
   rw [qdM (List.getElem?_eq_getElem hi)] at this
   omega
theorem copy3 (r : Rg) (h1 : r.1.length ≤ 1000) (h2 : r.2.1.length ≤ 1000) (hs : ∀ s ∈ r.1, s.length ≤ 1000) : g8 (r, ()) = some ((r, ()), ()) := by
 show F8 qc r = _
 unfold F8
 rw [jT (by simp) (by simp; omega), qao]
 have e := qd2 (L := L8_5) (fun i => ((r, (i : Int), ()), ((([] : List (List Pnt)), (([] : List Pnt), ((0 : Int), (((0 : Int), ((0 : Int), (0 : Int))), ((0 : Int), (0 : Int)))))), (r.1.take i, r.2), ()), ())) _ 0 r.1.length (N := qc) (by have := qP; omega)
  (fun N => by
   simp only [L8_5, B8_5]
   rw [qD (by omega), List.take_length]
   rfl)
  (fun N i _ hi => by
   have hl := hs _ (qau (l := r.1) (i := (i : Int)) (by omega) (by omega))
   simp only [L8_5, B8_5]
   rw [qu (by omega), cond_true, qdh, qk (by omega) (by omega)]
   simp only [qbn, qbm]
   rw [jT (by simp) (by simp; omega), jT (by simp <;> omega) (by simp <;> omega), wI (by omega) (by omega), List.take_add_one, List.getElem?_eq_getElem hi, qdM (List.getElem?_eq_getElem hi)]
   rfl)
 exact (qV e _).trans rfl
theorem qlH {R : Type} (b : Bool) {x t : Option R} (h : b = true → x = t) : cond b x t = t := by
 cases b with
 | true => exact h rfl
 | false => rfl
theorem law_tipping (g : qdI) (r : Rg) (n : Int) : g3 (g, r, n, ()) = some ((true, ()), ()) := by
 have hF : g3 (g, r, n, ()) = F3 qc g r n := rfl
 have bk : ∀ {R : Type} (k : (Bool × Unit) × Unit → Option R), qa (g6 ()) k = k ((true, ()), ()) := fun k => qV buys_eq k
 rw [hF]
 unfold F3
 obtain ⟨b, e, hn⟩ := far_eq g
 rw [e, qb]
 cases b with
 | true => exact bk _
 | false =>
 have hg := hn rfl
 rw [cond_false]
 obtain ⟨⟨⟨b, u1⟩, u2⟩, e, hc⟩ := far3 r
 rw [e, qb]
 dsimp only at hc ⊢
 cases b with
 | true => exact bk _
 | false =>
 obtain ⟨h12, hs⟩ := hc rfl
 rw [cond_false]
 by_cases h10 : (r.1.length : Int) > 10
 ·rw [qu h10]
  exact bk _
 rw [qD h10, cond_false, copy3 r (by omega) (by omega) hs, qb]
 obtain ⟨y7, e7, h7⟩ := tips3 r hs (by omega)
 refine (qV e7 _).trans ?_
 rcases h7 with ⟨⟨hO, hFr⟩, h70, hT⟩ | ⟨-, h7⟩
 case inr =>
  rw [h7, show ((33 : Int) != 0) = true from rfl]
  exact bk _
 rw [h70, show ((0 : Int) != 0) = false from rfl, cond_false]
 obtain ⟨e9, h9, hv⟩ := check12 g
 rw [h9, qb]
 dsimp only
 by_cases h9' : e9 = 0
 case neg =>
  rw [L10.neq_t h9']
  exact bk _
 have hV := hv h9'
 rw [h9', show ((0 : Int) != 0) = false from rfl, cond_false]
 by_cases hn0 : n < 0
 ·rw [qu hn0]
  exact bk _
 rw [qD hn0, cond_false]
 by_cases hn1 : n ≥ (g.1.1.length : Int)
 ·rw [qu hn1]
  exact bk _
 rw [qD hn1, cond_false]
 refine Eq.trans (qlH _ ?_) ?_
 ·intro _
  refine (qV (shutR hg hV ⟨by omega, by omega⟩) _).trans ?_
  rfl
 rw [qb]
 obtain ⟨y, ey, hy⟩ := ballast3 r hs hO hFr
 refine (qV ey _).trans ?_
 rcases hy with ⟨e3, ht⟩ | ⟨e0, hb, hiff, hall⟩
 ·rw [e3, show ((3 : Int) != 0) = true from rfl, cond_true, show ((3 : Int) == 3) = true from rfl, cond_true, hT.2 ht, cond_true]
  exact bk _
 have hfr := qG.1 hFr
 rw [e0, show ((0 : Int) != 0) = false from rfl, cond_false, qb, qao]
 dsimp only
 rw [wI (x := r.2.2.1 + y.1.1) (by omega) (by omega)]
 obtain ⟨y9, e9, h9⟩ := tips3 (qjs r y.1.1) hs (by show r.1.length < 20; omega)
 refine (qV e9 _).trans ?_
 have hfd : y7.1.2.2.2.1 = decide (y.1.1 > 0) := by
  by_cases h : Tip r
  ·rw [hT.2 h, qu (hiff.2 h)]
  ·rw [qD (p := y.1.1 > 0) fun e => h (hiff.1 e)]
   cases hb : y7.1.2.2.2.1 with
   | true => exact absurd (hT.1 hb) h
   | false => rfl
 rw [hfd, show (decide (y.1.1 > 0) == decide (y.1.1 > 0)) = true from beq_self_eq_true _, cond_true]
 rcases h9 with ⟨-, a0, aT⟩ | ⟨hno, a33⟩
 ·have hst : y9.1.2.2.2.1 = false := by
   cases hb : y9.1.2.2.2.1 with
   | false => rfl
   | true =>
    obtain ⟨p, k, hp, hk, hm⟩ := aT.1 hb
    rw [mm_plus] at hm
    have := hall p k hp hk
    omega
  rw [a0, show ((0 : Int) != 0) = false from rfl, cond_false, show ((0 : Int) == 0) = true from rfl, cond_true, hst, Bool.not_false, cond_true]
  exact bk _
 ·have hgt : r.2.2.1 + y.1.1 > 1000000 := by
   by_cases h : r.2.2.1 + y.1.1 ≤ 1000000
   ·exact absurd ⟨hO.plus y.1.1, qG.2 ⟨by show 0 ≤ r.2.2.1 + y.1.1; omega, h⟩⟩ hno
   ·omega
  rw [a33, show ((33 : Int) != 0) = true from rfl, cond_true, qu hgt, cond_true]
  exact bk _
end Go.Proofs.Tryz.V.Top
