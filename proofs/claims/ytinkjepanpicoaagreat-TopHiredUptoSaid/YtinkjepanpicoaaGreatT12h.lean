/- Plain law: TopHired. No condition beyond those typed in each theorem. -/
import Derived.Test.YtinkjepanpicoaaGreatT12s
namespace Go.Proofs.Tryz.V.Top
open Go.Vi
open L10 (jA qN)
set_option maxRecDepth 100000
theorem qjm (f : Eve) : ∃ e : Int, g20 (f, [], ()) = some ((e, ()), ()) := by
  cases h : qdq f with
  | true => exact ⟨0, qfE h⟩
  | false =>
    refine ⟨70, ?_⟩
    show F20 fuel f [] = _
    unfold F20
    rw [qkh, qb, h]
    rfl
theorem qg5 {l : List Int} (hl : l.length ≤ 1000) (most : Int) : ∃ b : Bool, g26 (l, (fun v5 => qa (some most) fun q7 => qa (g24 (v5, q7, ())) fun y6 => some y6.1.1), ()) = some ((b, ()), ()) :=
  ⟨_, L10.g26_eq l (by omega) _ (fun x => !jA x 0 most) (fun x _ => by
    rw [qb]
    show qa (F24 fuel x most) _ = _
    unfold F24
    rw [qeu]
    rfl)⟩
theorem qk3 {g : qb7} (hg : Near g) : ∃ e : Int, g8 (g, ()) = some ((e, ()), ()) := by
  have hF : g8 (g, ()) = F8 fuel g := rfl
  rw [hF]
  unfold F8
  obtain ⟨e1, h1⟩ := qjm g.1
  rw [h1, qb]
  dsimp only
  cases e1 != 0 with
  | true => exact ⟨_, rfl⟩
  | false =>
  rw [cond_false, L10.root10.1, qb]
  dsimp only
  cases (L10.checkR g.2.1 g.2.2.1).2 != 0 with
  | true => exact ⟨_, rfl⟩
  | false =>
  rw [cond_false, L05.root05.1, qb]
  dsimp only
  cases (if L05.okS g.2.2.2.2.1 = true then (0 : Int) else 50) != 0 with
  | true => exact ⟨_, rfl⟩
  | false =>
  rw [cond_false]
  cases (g.2.1.2.2.length : Int) != (g.1.1.length : Int) with
  | true => exact ⟨_, rfl⟩
  | false =>
  rw [cond_false]
  cases (g.2.2.2.2.1.2.1.length : Int) != (g.1.1.length : Int) with
  | true => exact ⟨_, rfl⟩
  | false =>
  rw [cond_false]
  cases (g.2.2.2.2.2.1.length : Int) != (g.1.1.length : Int) with
  | true => exact ⟨_, rfl⟩
  | false =>
  rw [cond_false]
  cases (g.2.2.2.2.2.2.length : Int) != (g.1.1.length : Int) with
  | true => exact ⟨_, rfl⟩
  | false =>
  rw [cond_false]
  simp only [qeu, qb]
  cases jA g.2.2.2.1 0 10000 with
  | false => exact ⟨_, rfl⟩
  | true =>
  have t1 : Mk.m23.p.g (200, ()) = some ((some 200, ()), ()) := rfl
  have t2 : Mk.m23.p.g (100, ()) = some ((some 100, ()), ()) := rfl
  obtain ⟨b1, h1⟩ := qg5 hg.lims 200
  obtain ⟨b2, h2⟩ := qg5 hg.emps 100
  rw [Bool.not_true, cond_false, qZ t1]
  cases b1 with
  | true => exact ⟨_, (qZ h1 _).trans rfl⟩
  | false =>
    refine ⟨if b2 then 120 else 0, (qZ h1 _).trans ?_⟩
    simp only [cond_false]
    rw [qZ t2]
    refine (qZ h2 _).trans ?_
    cases b2 <;> rfl
theorem has_loop (g : qb7) (x : (List Int) × (List Int)) (need : Int) {w : List Int} (hw : ∀ y, y ∈ w → 0 ≤ y ∧ y < x.1.length) (hl : w.length ≤ 10) (hb : ∀ y, y ∈ x.1 → 1 ≤ y ∧ y ≤ 1000) :
    L3_16 fuel ((x, need, w, 0, 0, ()), (g, ()), ()) = some (.inr ((need, L05.aL x.1 w, ()), (g, ()), ())) := by
  have e := qea (L := L3_16) (fun i => ((x, need, w, L05.aL x.1 (w.take i), (i : Int), ()), (g, ()), ())) (.inr ((need, L05.aL x.1 w, ()), (g, ()), ())) 0 w.length (N := fuel) (by have := qY; omega)
    (fun N => by
      simp only [L3_16, B3_16]
      rw [qy (by omega), List.take_length]
      rfl)
    (fun N i _ hi => by
      have hi' := hw _ (qay (l := w) (i := (i : Int)) (by omega) (by omega))
      have hs := L05.aL_in hb (w.take i) (fun y hy => hw y (List.mem_of_mem_take hy))
      have htl := List.length_take_le i w
      have hv := hb _ (qay (l := x.1) hi'.1 hi'.2)
      simp only [L3_16, B3_16]
      rw [qs (by omega), cond_true, ql (by omega) (by omega), qy (by omega), cond_false, ql (by omega) (by omega), qy (by omega), cond_false, ql (by omega) (by omega), ql hi'.1 hi'.2, wI (by omega) (by omega), wI (by omega) (by omega), qbR hi, L05.aL_add]
      rfl)
  exact e
theorem qkK (q : qb7) (hl : q.2.2.2.2.1.1.length ≤ 1000) :
    L3_27 fuel ((0, ()), (q, ()), ()) = some ((), (withB q (q.2.2.2.2.1.1.map L05.oneB), ()), ()) :=
  (set_loop q.2.2.2.2.1.1 L05.oneB (L := L3_27) (fun i l => (((i : Int), ()), (withB q l, ()), ())) (fun l => ((), (withB q l, ()), ())) hl
    (fun N l hl' => by
      simp only [L3_27, B3_27]
      rw [qy (by show ¬ ((q.2.2.2.2.1.1.length : Int) < (l.length : Int)); omega)]
      rfl)
    (fun N i l hi hl' => by
      have hi' : i < l.length := by omega
      simp only [L3_27, B3_27]
      rw [qs (by show (i : Int) < (l.length : Int); omega), cond_true, jG (by omega) (by show (i : Int) < (l.length : Int); omega), wI (by omega) (by omega)]
      show qi l (i : Int) _ = _
      rw [ql (by omega) (by omega), qbm]
      rfl))
theorem law_hired (g : qb7) (x : (List Int) × (List Int)) : g3 (g, x, ()) = some ((true, ()), ()) := by
  have hF : g3 (g, x, ()) = F3 fuel g x := rfl
  have bk : ∀ {R : Type} (k : (Bool × Unit) × Unit → Option R), qa (g6 ()) k = k ((true, ()), ()) := fun k => qZ buys_eq k
  rw [hF]
  unfold F3
  obtain ⟨b, e, hn⟩ := far_eq g
  rw [e, qb]
  cases b with
  | true => exact bk _
  | false =>
  have hg := hn rfl
  rw [cond_false]
  by_cases hx1 : (x.1.length : Int) > 15
  · rw [qs hx1]
    exact bk _
  rw [qy hx1, cond_false]
  by_cases hx2 : (x.2.length : Int) > 15
  · rw [qs hx2]
    exact bk _
  rw [qy hx2, cond_false, copy_eq hg, qb]
  obtain ⟨e8, h8⟩ := qk3 hg
  rw [h8, qb]
  dsimp only
  cases e8 != 0 with
  | true => exact bk _
  | false =>
  obtain ⟨e9, h9, hv⟩ := check12 g
  rw [cond_false, h9, qb]
  dsimp only
  by_cases h0 : e9 = 0
  case neg =>
    rw [L10.neq_t h0]
    exact bk _
  have hV := hv h0
  have hs := hV.sup
  have hn16 := L05.root05.2.2.2 _ hs
  obtain ⟨s1, s2⟩ := L05.shl_all hn16
  have hS : 2 ^ g.2.2.2.2.1.2.1.length - 1 < 2 ^ g.2.2.2.2.1.2.1.length := Nat.sub_lt (Nat.two_pow_pos _) (by omega)
  have hcl := L05.root05h.2.2 g.2.2.2.2.1 (2 ^ g.2.2.2.2.1.2.1.length - 1) g.2.2.2.2.1.2.1.length
  have hbl := hg.boards
  rw [h0, show ((0 : Int) != 0) = false from rfl, cond_false, s1, s2, L05.root05h.1 hs hS, qb]
  dsimp only
  rw [show ((0 : Int) != 0) = false from rfl, cond_false, hcl, wI (x := (g.2.2.2.2.1.1.length : Int) + 1) (by omega) (by omega), show ((((g.2.2.2.2.1.1.length + 1 : Nat) : Int)) != (g.2.2.2.2.1.1.length : Int) + 1) = false by rw [Int.natCast_succ, bne_self_eq_false], cond_false, wI (by omega) (by omega), show ((g.2.2.2.2.1.1.length + 1 : Nat) : Int) - 1 = (g.2.2.2.2.1.1.length : Int) by omega, jG (by omega) (by omega), ql (by omega) (by omega), L05.curs_end]
  have g0 : ∀ {R : Type} (k : Int → Option R), jQ 0 3 (qi (L05.row3 g.2.2.2.2.1 (2 ^ g.2.2.2.2.1.2.1.length - 1) (-1) g.2.2.2.2.1.2.1.length) 0 k) = k (L05.cur g.2.2.2.2.1 (2 ^ g.2.2.2.2.1.2.1.length - 1) (-1) 0) := fun k => by rw [jG (by omega) (by omega)]; rfl
  have g1 : ∀ {R : Type} (k : Int → Option R), jQ 1 3 (qi (L05.row3 g.2.2.2.2.1 (2 ^ g.2.2.2.2.1.2.1.length - 1) (-1) g.2.2.2.2.1.2.1.length) 1 k) = k (L05.cur g.2.2.2.2.1 (2 ^ g.2.2.2.2.1.2.1.length - 1) (-1) 1) := fun k => by rw [jG (by omega) (by omega)]; rfl
  have g2 : ∀ {R : Type} (k : Int → Option R), jQ 2 3 (qi (L05.row3 g.2.2.2.2.1 (2 ^ g.2.2.2.2.1.2.1.length - 1) (-1) g.2.2.2.2.1.2.1.length) 2 k) = k (L05.cur g.2.2.2.2.1 (2 ^ g.2.2.2.2.1.2.1.length - 1) (-1) 2) := fun k => by rw [jG (by omega) (by omega)]; rfl
  rw [g0, g1, g2]
  have hmx : max (max (L05.cur g.2.2.2.2.1 (2 ^ g.2.2.2.2.1.2.1.length - 1) (-1) 0) (L05.cur g.2.2.2.2.1 (2 ^ g.2.2.2.2.1.2.1.length - 1) (-1) 1)) (L05.cur g.2.2.2.2.1 (2 ^ g.2.2.2.2.1.2.1.length - 1) (-1) 2) = L05.mx3 g.2.2.2.2.1 (2 ^ g.2.2.2.2.1.2.1.length - 1) (-1) := rfl
  rw [hmx]
  generalize hneed : L05.mx3 g.2.2.2.2.1 (2 ^ g.2.2.2.2.1.2.1.length - 1) (-1) = need
  have a1 : ∀ {R : Type} (k : Option R), jF ((([] : List Int).length : Int) + x.1.length) k = k := fun k => jS (by simp) (by simp; omega) k
  have a2 : ∀ {R : Type} (k : Option R), jF ((([] : List Int).length : Int) + x.2.length) k = k := fun k => jS (by simp) (by simp; omega) k
  simp only [a1, a2, List.nil_append, L05.root05h.2.1, qb, qdk, qdj]
  by_cases hf : (L05.hrR x.1 x.2 need).2.2.1 = 0
  case neg =>
    rw [L10.neq_t hf]
    exact bk _
  obtain ⟨i1, i2, i3, i4⟩ := L05.hire_ok hf
  rw [hf, show ((0 : Int) != 0) = false from rfl, cond_false]
  refine (qZ (has_loop g x need i2 i3 i4) _).trans ?_
  rw [qcH]
  dsimp only
  rw [qy (by omega), cond_false]
  by_cases hh1 : L05.aL x.1 (L05.hrR x.1 x.2 need).1 < 1
  · rw [qs hh1]
    exact bk _
  rw [qy hh1, cond_false]
  by_cases hh2 : L05.aL x.1 (L05.hrR x.1 x.2 need).1 > 1000
  · rw [qs hh2]
    exact bk _
  rw [qy hh2, cond_false, qbm]
  generalize L05.aL x.1 (L05.hrR x.1 x.2 need).1 = has at i1 hh1 hh2
  refine (qZ (qkK (g.1, (g.2.1, (g.2.2.1, (g.2.2.2.1, ((g.2.2.2.2.1.1, (g.2.2.2.2.1.2.1, (has, g.2.2.2.2.1.2.2.2))), g.2.2.2.2.2))))) hbl) _).trans ?_
  have hV' : qdr (g.1, (g.2.1, (g.2.2.1, (g.2.2.2.1, (L05.bear g.2.2.2.2.1 has, g.2.2.2.2.2))))) := ⟨hV.eve, hV.book, L05.okS_bear hs ⟨by omega, by omega⟩, hV.ins, hV.loads, hV.lims, hV.emps, hV.day, hV.lim, hV.emp⟩
  refine (qZ hV'.opens' _).trans ?_
  have ho : opn (g.1, (g.2.1, (g.2.2.1, (g.2.2.2.1, (L05.bear g.2.2.2.2.1 has, g.2.2.2.2.2))))) = rel g := opn_all (fun S => L05.fo_bear hs (by rw [hneed]; exact i1) (by omega) S)
  have hr : g13 (g.2.1, g.2.2.1, g.2.2.2.1, ()) = some ((rel g, 0, ()), ()) := by
    rw [L10.root10.2.2, L10.day_err hV.book (qN.1 hV.day), if_pos rfl]
    rfl
  refine (qZ hr _).trans ?_
  dsimp only
  have hrl : (rel g).length ≤ 1000 := by
    have := L10.rel_lenT g.2.1 (L10.upto g.2.2.1 g.2.2.2.1) g.2.2.2.1
    have := hV.ins
    have := hV.n8
    unfold rel
    omega
  rw [show ((0 : Int) == 0) = true from rfl, cond_true, cond_true, ho, L01.g14_eq _ _ (by omega), qb, qs rfl]
  exact bk _
end Go.Proofs.Tryz.V.Top
