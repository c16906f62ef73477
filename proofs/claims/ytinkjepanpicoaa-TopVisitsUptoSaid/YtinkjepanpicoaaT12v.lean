/- Plain law: TopVisits. No condition beyond those typed in each theorem. -/
import Derived.Test.YtinkjepanpicoaaT12t
namespace Go.Proofs.Try.V.Top
open Go.Vi
open L10 (rng rng_iff)
set_option maxRecDepth 100000

abbrev Dys := Int × (Int × (Int × Int))
theorem gd_vis {a every : Int} {n i : Nat} (h : i < n) : gd (L10.vis a every n) (i : Int) = a + every * (i : Int) := by
  refine gd_of ?_
  unfold L10.vis
  rw [List.getElem?_map, List.getElem?_range h]
  rfl
theorem vis_inner {g : Gala} {d : Dys} {every : Int} {n i : Nat} (h8 : 0 ≤ every) (hn : n ≤ 1000) (hi : i < n) (ha : 0 ≤ d.2.1) (hday : d.2.1 + every * (i : Int) ≤ d.2.2.2) (hd : d.2.2.2 ≤ 10000) {E : List L10.Ent} (hv : L10.VInv g.2.1 d.1 d.2.1 d.2.2.1 every d.2.2.2 i E) {N : Nat} (hN : 100 < N) :
    ∃ r, L4_12 N ((d, (i : Int), 0, ()), (g, E, L10.vis d.2.1 every n, ()), ()) = some r ∧ (r = .inl ((true, ()), (), ()) ∨ ∃ E', r = .inr ((d, (i : Int), ()), (g, E', L10.vis d.2.1 every n, ()), ()) ∧ L10.VInv g.2.1 d.1 d.2.1 d.2.2.1 every d.2.2.2 (i + 1) E') := by
  have hb := hv.good.book
  have hs := L10.sized20 hb
  have hm0 : 0 ≤ every * (i : Int) := Int.mul_nonneg h8 (by omega)
  have hvl := L10.vis_len d.2.1 every n
  refine loop0 (L := L4_12) (fun r (E : List L10.Ent) => ((d, (i : Int), (r : Int), ()), (g, E, L10.vis d.2.1 every n, ()), ())) (fun r E => L10.VIn g.2.1 d.1 d.2.1 d.2.2.1 every d.2.2.2 i r E) _ 0 g.2.1.1.length (N := N) (s := E) hv.inner (by omega) ?_ ?_
  · intro N E h
    refine ⟨_, ?_, .inr ⟨E, rfl, h.done h8⟩⟩
    simp only [L4_12, B4_12]
    rw [dec_f (by omega)]
    rfl
  · intro N r E _ hr h
    have hl80 := h.len
    simp only [L4_12, B4_12]
    rw [dec_t (by omega), cond_true, getI_gd (by omega) (by omega)]
    by_cases hride : (gd g.2.1.1 (r : Int)).1 = d.1
    case neg =>
      refine .inl ⟨E, h.skip hride, ?_⟩
      rw [L10.neq_t hride, cond_true, wI (by omega) (by omega)]
      rfl
    rw [hride, bne_self_eq_false, cond_false, L10.root10v.2, derefK_some]
    have hsr : L10.signsR g.2.1 (r : Int) = (L10.outS g.2.1 (r : Int) g.2.1.2.1.length, 0) := by
      unfold L10.signsR
      rw [if_pos hb, if_pos (L10.ruleB_of hr)]
    rw [hsr]
    dsimp only
    rw [show ((0 : Int) != 0) = false from rfl, cond_false]
    have hin := L10.outS_in g.2.1 (r : Int) g.2.1.2.1.length
    have hol := L10.outS_len hb (r : Int) g.2.1.2.1.length
    generalize L10.outS g.2.1 (r : Int) g.2.1.2.1.length = who at hin hol ⊢
    by_cases h0 : who.length = 0
    · refine .inr ⟨_, by rw [h0]; exact derefK_of buys_eq _, .inl rfl⟩
    rw [show ((who.length : Int) == 0) = false by rw [beq_eq_false_iff_ne]; omega, cond_false]
    by_cases h80 : (E.length : Int) ≥ 80
    · refine .inr ⟨_, by rw [dec_t h80]; exact derefK_of buys_eq _, .inl rfl⟩
    rw [dec_f h80, cond_false]
    have m0 : 0 ≤ Int.tmod (i : Int) (who.length : Int) := Int.tmod_nonneg _ (by omega)
    have m1 : Int.tmod (i : Int) (who.length : Int) < (who.length : Int) := Int.tmod_lt_of_pos _ (by omega)
    obtain ⟨f, c, hp, hsig⟩ := hin _ (gd_mem (l := who) m0 m1)
    refine .inl ⟨E ++ [(d.2.1 + every * (i : Int), 1, (r : Int), f, c)], h.add hr (by omega) hsig (by omega) hday hd, ?_⟩
    have a1 : ∀ {R : Type} (k : Option R), inR (i : Int) (L10.vis d.2.1 every n).length k = k := fun k => inR_in (by omega) (by omega) k
    have a2 : ∀ {R : Type} (k : Option R), inR 0 2 k = k := fun k => inR_in (by omega) (by omega) k
    have a3 : ∀ {R : Type} (k : Option R), inR 1 2 k = k := fun k => inR_in (by omega) (by omega) k
    have b1 : ∀ {R : Type} (k : Int → Option R), getI (L10.vis d.2.1 every n) (i : Int) k = k (d.2.1 + every * (i : Int)) := fun k => by rw [getI_gd (by omega) (by omega), gd_vis hi]
    have b2 : ∀ {R : Type} (k : Int → Option R), getI [f, c] 0 k = k f := fun k => rfl
    have b3 : ∀ {R : Type} (k : Int → Option R), getI [f, c] 1 k = k c := fun k => rfl
    rw [L10.nzK_in (by omega), inR_in m0 m1, getI_gd m0 m1, hp, enumK_eq, wI (by omega) (by omega)]
    simp only [a1, a2, a3, b1, b2, b3, agreeK_one, agreeK_two]
    rw [lenK_in (by simp <;> omega) (by simp <;> omega)]
    rfl
theorem vis_outer {g : Gala} {d : Dys} {every : Int} {n : Nat} (h8 : 0 ≤ every) (hn : n ≤ 1000) (ha : 0 ≤ d.2.1) (hd : d.2.2.2 ≤ 10000) {E : List L10.Ent} (hv : L10.VInv g.2.1 d.1 d.2.1 d.2.2.1 every d.2.2.2 0 E) :
    ∃ r, L4_9 fuel ((d, 0, ()), (g, E, L10.vis d.2.1 every n, ()), ()) = some r ∧ (r = .inl ((true, ()), (), ()) ∨ ∃ E' i, r = .inr ((d, ()), (g, E', ()), ()) ∧ L10.VInv g.2.1 d.1 d.2.1 d.2.2.1 every d.2.2.2 i E' ∧ (i = n ∨ d.2.2.2 < d.2.1 + every * (i : Int))) := by
  have hvl := L10.vis_len d.2.1 every n
  refine loop0 (L := L4_9) (fun i (E : List L10.Ent) => ((d, (i : Int), ()), (g, E, L10.vis d.2.1 every n, ()), ())) (fun i E => L10.VInv g.2.1 d.1 d.2.1 d.2.2.1 every d.2.2.2 i E) _ 200 n (N := fuel) (s := E) hv (by have := fuel_ge; omega) ?_ ?_
  · intro N E h
    refine ⟨_, ?_, .inr ⟨E, n, rfl, h, .inl rfl⟩⟩
    simp only [L4_9, B4_9]
    rw [dec_f (by omega)]
    rfl
  · intro N i E hN hi h
    simp only [L4_9, B4_9]
    rw [dec_t (by omega), cond_true, inR_in (by omega) (by omega), getI_gd (by omega) (by omega), gd_vis hi]
    by_cases hday : d.2.1 + every * (i : Int) ≤ d.2.2.2
    case neg => exact .inr ⟨_, by rw [dec_f hday]; rfl, .inr ⟨E, i, rfl, h, .inr (by omega)⟩⟩
    rw [dec_t hday, cond_true]
    obtain ⟨r, er, hr⟩ := vis_inner (N := N) h8 hn hi ha hday hd h (by omega)
    rcases hr with rfl | ⟨E', rfl, hE⟩
    · exact .inr ⟨_, derefK_of er _, .inl rfl⟩
    · refine .inl ⟨E', hE, (derefK_of er _).trans ?_⟩
      rw [sumK_inr]
      dsimp only
      rw [wI (by omega) (by omega)]
      rfl
theorem amps_loopV (d : Dys) (E : List L10.Ent) (q : Gala) (hl : q.2.2.2.2.1.2.1.length ≤ 1000) :
    L4_24 fuel ((d, 0, ()), (q, E, ()), ()) = some ((d, ()), (withL q (q.2.2.2.2.1.2.1.map L05.oneL), E, ()), ()) :=
  (set_loop q.2.2.2.2.1.2.1 L05.oneL (L := L4_24) (fun i l => ((d, (i : Int), ()), (withL q l, E, ()), ())) (fun l => ((d, ()), (withL q l, E, ()), ())) hl
    (fun N l hl' => by
      simp only [L4_24, B4_24]
      rw [dec_f (by show ¬ ((q.2.2.2.2.1.2.1.length : Int) < (l.length : Int)); omega)]
      rfl)
    (fun N i l hi hl' => by
      have hi' : i < l.length := by omega
      simp only [L4_24, B4_24]
      rw [dec_t (by show (i : Int) < (l.length : Int); omega), cond_true, inR_in (by omega) (by show (i : Int) < (l.length : Int); omega), wI (by omega) (by omega)]
      show getI l (i : Int) _ = _
      rw [getI_gd (by omega) (by omega), bindV_eq]
      rfl))
theorem brds_loopV (d : Dys) (E : List L10.Ent) (q : Gala) (hl : q.2.2.2.2.1.1.length ≤ 1000) :
    L4_28 fuel ((d, 0, ()), (q, E, ()), ()) = some ((d, ()), (withB q (q.2.2.2.2.1.1.map L05.oneB), E, ()), ()) :=
  (set_loop q.2.2.2.2.1.1 L05.oneB (L := L4_28) (fun i l => ((d, (i : Int), ()), (withB q l, E, ()), ())) (fun l => ((d, ()), (withB q l, E, ()), ())) hl
    (fun N l hl' => by
      simp only [L4_28, B4_28]
      rw [dec_f (by show ¬ ((q.2.2.2.2.1.1.length : Int) < (l.length : Int)); omega)]
      rfl)
    (fun N i l hi hl' => by
      have hi' : i < l.length := by omega
      simp only [L4_28, B4_28]
      rw [dec_t (by show (i : Int) < (l.length : Int); omega), cond_true, inR_in (by omega) (by show (i : Int) < (l.length : Int); omega), wI (by omega) (by omega)]
      show getI l (i : Int) _ = _
      rw [getI_gd (by omega) (by omega), bindV_eq]
      rfl))
theorem law_visits (g : Gala) (d : Dys) : g4 (g, d, ()) = some ((true, ()), ()) := by
  have hF : g4 (g, d, ()) = F4 fuel g d := rfl
  have bk : ∀ {R : Type} (k : (Bool × Unit) × Unit → Option R), derefK (g6 ()) k = k ((true, ()), ()) := fun k => derefK_of buys_eq k
  rw [hF]
  unfold F4
  obtain ⟨b, e, hn⟩ := far_eq g
  rw [e, derefK_some]
  cases b with
  | true => exact bk _
  | false =>
  have hg := hn rfl
  rw [cond_false]
  by_cases hk : g.2.1.2.1.length = 0
  · rw [hk]
    exact bk _
  rw [show ((g.2.1.2.1.length : Int) == 0) = false by rw [beq_eq_false_iff_ne]; omega, cond_false]
  obtain ⟨e9, h9, hv⟩ := check12 g
  rw [h9, derefK_some]
  dsimp only
  by_cases h0 : e9 = 0
  case neg =>
    rw [L10.neq_t h0]
    exact bk _
  have hV := hv h0
  rw [h0, show ((0 : Int) != 0) = false from rfl, cond_false]
  by_cases hd0 : d.2.2.2 < d.2.1
  · rw [dec_t hd0]
    exact bk _
  rw [dec_f hd0, cond_false]
  by_cases hd1 : d.2.2.2 > d.2.2.1
  · rw [dec_t hd1]
    exact bk _
  rw [dec_f hd1, cond_false, copy_eq hg, derefK_some, L10.root10v.1, derefK_some]
  dsimp only
  by_cases hu : (L10.visitsR g.2.1 d.1 d.2.1 d.2.2.1).2 = 0
  case neg =>
    rw [L10.neq_t hu]
    exact bk _
  rw [hu, show ((0 : Int) != 0) = false from rfl, cond_false]
  obtain ⟨hb, hr, ht, ha, hm, hvis⟩ := L10.visits_ok hu
  rw [hvis]
  have hev := (L10.everyF_in hb d.1 g.2.1.1.length (Nat.le_refl _)).1
  obtain ⟨r, er, hr2⟩ := vis_outer (g := g) (d := d) (n := L10.many d.2.1 d.2.2.1 (L10.everyF g.2.1 d.1 g.2.1.1.length)) hev hm ha.1 (by omega) (L10.VInv.start (day := d.2.2.2) hb hr ha.1 ha.2 ht.2 (by omega))
  refine (derefK_of er _).trans ?_
  rcases hr2 with rfl | ⟨E, i, rfl, hE, hx⟩
  · rfl
  rw [sumK_inr, bindV_eq]
  have hfin := hE.fin ha.1 (by omega) (by omega) ht.2 hx
  refine (derefK_of (amps_loopV d E (withP g) (by have := hg.loads; exact this)) _).trans ?_
  refine (derefK_of (brds_loopV d E (withL (withP g) (g.2.2.2.2.1.2.1.map L05.oneL)) (by have := hg.boards; exact this)) _).trans ?_
  dsimp only
  have hl80 := hE.len
  have tst := tested_eq hV (l := E) (ride := d.1) (d := d.2.2.2) ⟨by omega, by omega⟩ (by omega) (L10.check_of (L10.test_good hE.good (by omega) hr (by omega) (by omega) hE.day (Int.le_refl _) (by omega)))
  have hmem : d.1 ∈ L10.relL g.2.1 (L10.upto (E ++ [L10.testE d.2.2.2 d.1]) d.2.2.2) d.2.2.2 := (L10.rel_ride ⟨by omega, by omega⟩ hr hE.day).2 hfin
  rw [dec_t hmem] at tst
  refine (derefK_of tst _).trans ?_
  exact bk _
end Go.Proofs.Try.V.Top
