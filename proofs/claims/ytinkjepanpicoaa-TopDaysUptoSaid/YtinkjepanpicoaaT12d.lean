/- Plain law: TopDays. No condition beyond those typed in each theorem. -/
import Derived.Test.YtinkjepanpicoaaT12t
namespace Go.Proofs.Try.V.Top
open Go.Vi
open L10 (rng rng_iff)
set_option maxRecDepth 100000

theorem amps_loop (ride later : Int) (g : Gala) (last : Int) (q : Gala) (hl : q.2.2.2.2.1.2.1.length ≤ 1000) :
    L3_13 fuel ((ride, later, g, last, 0, ()), (q, ()), ()) = some ((ride, later, g, last, ()), (withL q (q.2.2.2.2.1.2.1.map L05.oneL), ()), ()) :=
  (set_loop q.2.2.2.2.1.2.1 L05.oneL (L := L3_13) (fun i l => ((ride, later, g, last, (i : Int), ()), (withL q l, ()), ())) (fun l => ((ride, later, g, last, ()), (withL q l, ()), ())) hl
    (fun N l hl' => by
      simp only [L3_13, B3_13]
      rw [dec_f (by show ¬ ((q.2.2.2.2.1.2.1.length : Int) < (l.length : Int)); omega)]
      rfl)
    (fun N i l hi hl' => by
      have hi' : i < l.length := by omega
      simp only [L3_13, B3_13]
      rw [dec_t (by show (i : Int) < (l.length : Int); omega), cond_true, inR_in (by omega) (by show (i : Int) < (l.length : Int); omega), wI (by omega) (by omega)]
      show getI l (i : Int) _ = _
      rw [getI_gd (by omega) (by omega), bindV_eq]
      rfl))
theorem brds_loop (ride later : Int) (g : Gala) (last : Int) (q : Gala) (hl : q.2.2.2.2.1.1.length ≤ 1000) :
    L3_17 fuel ((ride, later, g, last, 0, ()), (q, ()), ()) = some ((ride, later, g, last, ()), (withB q (q.2.2.2.2.1.1.map L05.oneB), ()), ()) :=
  (set_loop q.2.2.2.2.1.1 L05.oneB (L := L3_17) (fun i l => ((ride, later, g, last, (i : Int), ()), (withB q l, ()), ())) (fun l => ((ride, later, g, last, ()), (withB q l, ()), ())) hl
    (fun N l hl' => by
      simp only [L3_17, B3_17]
      rw [dec_f (by show ¬ ((q.2.2.2.2.1.1.length : Int) < (l.length : Int)); omega)]
      rfl)
    (fun N i l hi hl' => by
      have hi' : i < l.length := by omega
      simp only [L3_17, B3_17]
      rw [dec_t (by show (i : Int) < (l.length : Int); omega), cond_true, inR_in (by omega) (by show (i : Int) < (l.length : Int); omega), wI (by omega) (by omega)]
      show getI l (i : Int) _ = _
      rw [getI_gd (by omega) (by omega), bindV_eq]
      rfl))
theorem ents_loop (ride later : Int) (g : Gala) (last : Int) (q : Gala) (hl : g.2.2.1.length ≤ 1000) :
    L3_22 fuel ((ride, later, g, last, 0, ()), (q, ([] : List L10.Ent), ()), ()) = some ((ride, later, g, last, ()), (q, g.2.2.1.filter (fun x => decide (x.1 ≤ g.2.2.2.1)), ()), ()) := by
  have e := loopF (L := L3_22) (fun i => ((ride, later, g, last, (i : Int), ()), (q, (g.2.2.1.take i).filter (fun x => decide (x.1 ≤ g.2.2.2.1)), ()), ())) ((ride, later, g, last, ()), (q, g.2.2.1.filter (fun x => decide (x.1 ≤ g.2.2.2.1)), ()), ()) 0 g.2.2.1.length (N := fuel) (by have := fuel_ge; omega)
    (fun N => by
      simp only [L3_22, B3_22]
      rw [dec_f (by omega), List.take_length]
      rfl)
    (fun N i _ hi => by
      have hlen : ((g.2.2.1.take i).filter (fun x => decide (x.1 ≤ g.2.2.2.1))).length ≤ 1000 := by
        have := List.length_filter_le (fun x : L10.Ent => decide (x.1 ≤ g.2.2.2.1)) (g.2.2.1.take i)
        have := List.length_take_le i g.2.2.1
        omega
      have lk : ∀ {R : Type} (k : Option R), lenK ((((g.2.2.1.take i).filter (fun x => decide (x.1 ≤ g.2.2.2.1))).length : Int) + [gd g.2.2.1 (i : Int)].length) k = k := fun k => lenK_in (by simp only [List.length_singleton]; omega) (by simp only [List.length_singleton]; omega) k
      simp only [L3_22, B3_22]
      rw [dec_t (by omega), cond_true, getI_gd (by omega) (by omega), getI_gd (by omega) (by omega), wI (by omega) (by omega), lk, take_nat hi, List.filter_append]
      by_cases h : (gd g.2.2.1 (i : Int)).1 ≤ g.2.2.2.1
      · rw [dec_t h, show [gd g.2.2.1 (i : Int)].filter (fun x => decide (x.1 ≤ g.2.2.2.1)) = [gd g.2.2.1 (i : Int)] by simp [h]]
        rfl
      · rw [dec_f h, show [gd g.2.2.1 (i : Int)].filter (fun x => decide (x.1 ≤ g.2.2.2.1)) = [] by simp [h], List.append_nil]
        rfl)
  exact e
theorem law_days (g : Gala) (ride later : Int) : g3 (g, ride, later, ()) = some ((true, ()), ()) := by
  have hF : g3 (g, ride, later, ()) = F3 fuel g ride later := rfl
  have bk : ∀ {R : Type} (k : (Bool × Unit) × Unit → Option R), derefK (g6 ()) k = k ((true, ()), ()) := fun k => derefK_of buys_eq k
  rw [hF]
  unfold F3
  obtain ⟨b, e, hn⟩ := far_eq g
  rw [e, derefK_some]
  cases b with
  | true => exact bk _
  | false =>
  have hg := hn rfl
  rw [cond_false]
  by_cases hk : g.2.1.2.1.length = 0
  · rw [hk]
    exact bk _
  rw [show ((g.2.1.2.1.length : Int) == 0) = false by rw [beq_eq_false_iff_ne]; omega, cond_false]
  by_cases hl : later < 0
  · rw [dec_t hl]
    exact bk _
  rw [dec_f hl, cond_false, copy_eq hg, derefK_some]
  obtain ⟨e9, h9, hv⟩ := check12 g
  rw [h9, derefK_some]
  dsimp only
  by_cases h0 : e9 = 0
  case neg =>
    rw [L10.neq_t h0]
    exact bk _
  have hV := hv h0
  rw [h0, show ((0 : Int) != 0) = false from rfl, cond_false, L10.root10d, derefK_some]
  dsimp only
  by_cases hu : (L10.untilA g.2.1 g.2.2.1 ride g.2.2.2.1).2 = 0
  case neg =>
    rw [L10.neq_t hu]
    exact bk _
  obtain ⟨u1, u2, u3, u4, u5, u6, u7⟩ := L10.until_ok hu
  have hr := rng_iff.1 u3
  have hin := hV.ins
  have hlo := hV.loads
  rw [hu, show ((0 : Int) != 0) = false from rfl, cond_false, dec_f (by omega), cond_false, dec_f (by omega), cond_false, dec_f (by omega), cond_false, dec_f (by omega), cond_false, hlo, bne_self_eq_false, cond_false, bindV_eq]
  generalize hlast : (L10.untilA g.2.1 g.2.2.1 ride g.2.2.2.1).1 = last at u4 u5 u6
  have e13 := amps_loop ride later g last (withP g) (by have := hg.loads; exact this)
  refine (derefK_of e13 _).trans ?_
  have e17 := brds_loop ride later g last (withL (withP g) (g.2.2.2.2.1.2.1.map L05.oneL)) (by have := hg.boards; exact this)
  refine (derefK_of e17 _).trans ?_
  have e22 := ents_loop ride later g last (withB (withL (withP g) (g.2.2.2.2.1.2.1.map L05.oneL)) (g.2.2.2.2.1.1.map L05.oneB)) hg.ents
  refine (derefK_of e22 _).trans ?_
  dsimp only
  rw [L10.filter_upto u1]
  have hul : (L10.upto g.2.2.1 g.2.2.2.1).length ≤ 1000 := by have := L10.upto_len g.2.2.1 g.2.2.2.1; have := hg.ents; omega
  by_cases h100 : ((L10.upto g.2.2.1 g.2.2.2.1).length : Int) ≥ 100
  · rw [dec_t h100]
    exact bk _
  rw [dec_f h100, cond_false]
  have wl : IntKind.wrap .i64 (last - g.2.2.2.1) = last - g.2.2.2.1 := wI (by omega) (by omega)
  have wm : IntKind.wrap .i64 (g.2.2.2.1 + min later (last - g.2.2.2.1)) = g.2.2.2.1 + min later (last - g.2.2.2.1) := wI (by omega) (by omega)
  have wp : IntKind.wrap .i64 (last + 1) = last + 1 := wI (by omega) (by omega)
  have tst : ∀ d, g.2.2.2.1 ≤ d → d ≤ 10000 → g10 (withB (withL (withP g) (g.2.2.2.2.1.2.1.map L05.oneL)) (g.2.2.2.2.1.1.map L05.oneB), L10.upto g.2.2.1 g.2.2.2.1, ride, d, ()) = some ((decide (d ≤ last), ()), ()) := fun d h1 h2 => by
    have hgu := u1.upto g.2.2.2.1
    have hall : ∀ x, x ∈ L10.upto g.2.2.1 g.2.2.2.1 → x.1 ≤ g.2.2.2.1 := fun x hx => L10.upto_le hx
    have ht := tested_eq hV (l := L10.upto g.2.2.1 g.2.2.2.1) (ride := ride) (d := d) ⟨by omega, h2⟩ (by omega) (L10.check_of (L10.test_good hgu (by omega) u3 (by omega) u2.1 hall h1 h2))
    refine ht.trans ?_
    congr 3
    rw [decide_eq_decide, L10.rel_ride ⟨by omega, h2⟩ u3 (fun x hx => by have := hall x hx; omega), u7, ← u6]
    simp
  rw [wl, wm, tst _ (by omega) (by omega), derefK_some, dec_t (by omega), Bool.not_true, cond_false]
  by_cases hm : last = 10000
  · rw [hm, show ((10000 : Int) == 10000) = true from rfl, cond_true]
    exact bk _
  rw [show (last == 10000) = false by rw [beq_eq_false_iff_ne]; exact hm, cond_false, wp, tst _ (by omega) (by omega), derefK_some, dec_f (by omega)]
  exact bk _
end Go.Proofs.Try.V.Top
