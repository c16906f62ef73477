/- Plain law: TopStopped. No condition beyond those typed in each theorem. -/
import Derived.Test.YtaojldppmlehlaaGreatT12p
namespace Go.Proofs.Tryz.V.Top
open Go.Vi
open L10 (jG qP)
set_option maxRecDepth 100000
theorem finR {c : qbC} {f : List Flt} {t : Trk} (h : Inv c f t) : Okq (fun r : Unit × (Trk × Unit) => Inv c f r.2.1) (qa (g51 (t, ())) fun y => qa (g50 (t.1, y.1.1, ())) fun x => jM (t.1, (t.2.1, (t.2.2.1, (t.2.2.2.1, (t.2.2.2.2.1, (t.2.2.2.2.2.1, ((decide (x.1.2.1 ≥ 0)), t.2.2.2.2.2.2.2))))))) fun z => jM (z.1, (z.2.1, (z.2.2.1, (z.2.2.2.1, ((IntKind.wrap .i64 (z.2.2.2.2.1 + 1)), z.2.2.2.2.2))))) fun z => some ((), (z, ()))) :=
 qW (rowR h) fun y hy => qW (crashR _ _ hy.1 (by rw [h.cir]; exact hy.2)) fun x _ => qef (qef (qG h.rest.rest))
theorem qhH {c : qbC} {n : Int} {l : List Prs} {f : List Flt} {t : Trk} (hS : OkS c n l f) (h : Inv c f t) {r : List (List (List Int))} (hr : Rd c.1.length r) : Okq (fun r : Unit × (Trk × Unit) => Inv c f r.2.1) (J16 qe ((l, r, ()), (t, ()), ())) := by
 have hc : t.1.1.length = c.1.length := by rw [h.cir]
 have hm := hS.cir.most
 have hl := hS.nl
 show Okq _ (K16 qe l r t)
 unfold K16
 simp only [qbQ, qbj, qbk]
 refine qB (fun _ => qdT (by omega) (qdT (by omega) (qdl (by omega) (by omega) ?_))) fun _ => finR h
 refine qW (S := fun o : ((List (List (List Int))) × Unit) × ((List Bool) × Trk × Unit) × Unit => o.1.1 = r ∧ Inv c f o.2.1.2.1 ∧ o.2.1.1.length = c.1.length) (qap (L := L16_12) (fun i (s : (List Bool) × Trk) => ((r, l, (l.length : Int), (i : Int), ()), (s.1, s.2, ()), ())) (fun _ s => Inv c f s.2 ∧ s.1.length = c.1.length) 0 l.length (s := (List.replicate (t.1.1.length : Int).toNat false, t)) ⟨h, by rw [List.length_replicate]; omega⟩ (by have := qQ; omega) ?_ ?_) ?_
 ·rintro N s - ⟨h1, h2⟩
  simp only [L16_12, B16_12]
  rw [qE (by omega)]
  exact qG ⟨rfl, h1, h2⟩
 ·rintro N i ⟨op, s⟩ - hi ⟨h1, h2⟩ ih
  dsimp only at h1 h2
  have hp := hS.prs _ (qag (l := l) (i := (i : Int)) (by omega) (by omega))
  simp only [L16_12, B16_12]
  rw [qw (by omega), cond_true]
  refine qJ (by omega) (by omega) ?_
  rw [wI (by omega) (by omega)]
  exact qB (fun _ => qW (pressR h1 h2 hp hr) fun y hy => ih (_, _) ⟨hy.1, hy.2⟩) fun _ => ih (op, s) ⟨h1, h2⟩
 ·rintro o ⟨e, h1, h2⟩
  rw [e]
  exact qW (brakeR hS.cir h1 h2 hr) fun y hy => finR hy
theorem stepR {c : qbC} {n : Int} {l : List Prs} {f : List Flt} {t : Trk} (hS : OkS c n l f) (h : Inv c f t) : Okq (fun r : Unit × (Trk × Unit) => Inv c f r.2.1) (g16 (t, l, ())) := by
 show Okq _ (F16 qe t l)
 unfold F16
 refine qB (fun _ => qef (qG h.rest)) fun _ => qB (fun _ => qW (rollR h) fun y h => ?_) fun _ => ?_
 ·generalize y.2.1 = t at h ⊢
  refine qW (readR hS.cir h hS.flt hS.nf) ?_
  rintro y3 ⟨o, ho, hs, rfl⟩
  dsimp only
  refine qB (fun _ => qW (splitR hS.cir.most ho hs) fun y hy => qB (fun hb => qb4 (Inv c f) ⟨h.cir, h.fls, h.num, h.blk, h.gos, fun e => absurd (hy e) (by rw [hb]; decide)⟩ fun z hz => qhH hS hz ho) fun _ => qhH hS h ho) fun _ => qhH hS h ho
 ·refine qW (readR hS.cir h hS.flt hS.nf) ?_
  rintro y3 ⟨o, ho, hs, rfl⟩
  dsimp only
  refine qB (fun _ => qW (splitR hS.cir.most ho hs) fun y hy => qB (fun hb => qb4 (Inv c f) ⟨h.cir, h.fls, h.num, h.blk, h.gos, fun e => absurd (hy e) (by rw [hb]; decide)⟩ fun z hz => qhH hS hz ho) fun _ => qhH hS h ho) fun _ => qhH hS h ho
theorem stopsR (c : qbC) (n : Int) (l : List Prs) (f : List Flt) (h1 : c.1.length ≤ 1000) (h2 : c.2.length ≤ 1000) (h3 : l.length ≤ 1000) (h4 : f.length ≤ 1000) : Okq (fun r : (Int × Int × Unit) × Unit => r.1.2.1 = 0 → f = [] → r.1.1 < 0) (g7 (c, n, l, f, ())) := by
 show Okq _ (F7 qe c n l f)
 unfold F7
 refine qW (scriptR c n l f h1 h2 h3 h4) fun y hy => qB (fun hb => qG fun e => ?_) fun hb => ?_
 ·exact absurd hb (by rw [show y.1.1 = 0 from e]; decide)
 have hS := hy (by simpa using hb)
 have t0 := hS.t0
 have t1 := hS.t1
 refine qW (newR c f hS.cir) fun y hy => ?_
 refine qW (S := fun o : Unit × (Trk × Unit) × Unit => Inv c f o.2.1.1) (qap (L := L7_6) (fun i (s : Trk) => ((l, n, (i : Int), ()), (s, ()), ())) (fun _ s => Inv c f s) 0 n.toNat (s := y.1.1) hy (by have := qQ; omega) ?_ ?_) fun o ho => qG fun _ e => ?_
 ·rintro N s - h
  simp only [L7_6, B7_6]
  rw [qE (by omega)]
  exact qG h
 ·rintro N i s - hi h ih
  simp only [L7_6, B7_6]
  rw [qw (by omega), cond_true, wI (x := (i : Int) + 1) (by omega) (by omega)]
  exact qW (stepR hS h) fun y hy => ih _ hy
 ·show o.2.1.1.2.2.2.2.2.1 < 0
  rw [ho.stp e]
  decide
theorem farR (c : qbC) : ∃ b : Bool, g5 (c, ()) = some ((b, ()), ()) ∧ (b = false → c.1.length ≤ 15 ∧ c.2.length ≤ 12) := by
 have hF : g5 (c, ()) = F5 qe c := rfl
 rw [hF]
 unfold F5
 by_cases h1 : (c.1.length : Int) > 15
 ·exact ⟨true, by rw [qw h1]; rfl, fun h => by cases h⟩
 rw [qE h1, cond_false]
 exact ⟨_, rfl, fun h => ⟨by omega, by have := of_decide_eq_false h; omega⟩⟩
def plusE (g : qda) (x : L10.Ent) : qda := (g.1, (g.2.1, (g.2.2.1 ++ [x], g.2.2.2)))
theorem shutR {g : qda} (hg : Near g) (h : qcJ g) {n : Int} (hn : 0 ≤ n ∧ n < g.1.1.length) : g11 (g, n, ()) = some ((true, ()), ()) := by
 have hF : g11 (g, n, ()) = F11 qe g n := rfl
 rw [hF]
 unfold F11
 have hd := qP.1 h.day
 have hi := h.ins
 by_cases hl : (g.2.2.1.length : Int) ≥ 100
 ·rw [qw hl]
  rfl
 have rest : L10.lastDay g.2.2.1 ≤ g.2.2.2.1 → (qa (g9 (g, ())) fun y2 => qY ((y2.1.1.2.2.1.length : Int) + [(g.2.2.2.1, 2, n, 3, (0 : Int))].length) (jM (y2.1.1.1, (y2.1.1.2.1, ((y2.1.1.2.2.1 ++ [(g.2.2.2.1, 2, n, 3, (0 : Int))]), y2.1.1.2.2.2))) fun z3 => qa (g29 (z3, ())) fun y4 => cond (y4.1.2.1 == 0) (qa (g30 (y4.1.1, n, ())) fun y5 => some (((!y5.1.1), ()), ())) (some ((false, ()), ())))) = some ((true, ()), ()) := by
  intro h1
  have hr : L10.rideB g.2.1 n = true := qP.2 ⟨hn.1, by show n ≤ (g.2.1.2.2.length : Int) - 1; omega⟩
  have hV : qcJ (plusE g (L10.foundE g.2.2.2.1 n)) := ⟨h.eve, L10.found_check h.book (by omega) hr h1 hd.2, h.sup, h.ins, h.loads, h.lims, h.emps, h.day, h.lim, h.emp⟩
  have hno : ¬ n ∈ opn (plusE g (L10.foundE g.2.2.2.1 n)) := fun hm => by
   have hs := opn_sub hm
   unfold rel plusE at hs
   exact L10.found_not (b := g.2.1) (l := g.2.2.1) (n := n) (d := g.2.2.2.1) h.book h1 hs
  rw [qkL hg, qb, j1 (by simp <;> omega) (by simp <;> omega), qa5]
  refine (jS hV.opens' _).trans ?_
  dsimp only
  rw [show ((0 : Int) == 0) = true from rfl, cond_true, has_eq (opn (plusE g (L10.foundE g.2.2.2.1 n))) (by have := opn_len hV; omega), qb, qE hno]
  rfl
 rw [qE hl, cond_false]
 by_cases h0 : (g.2.2.1.length : Int) > 0
 ·rw [qw h0, cond_true, wI (by omega) (by omega), qq (by omega) (by omega)]
  by_cases h1 : (gd g.2.2.1 ((g.2.2.1.length : Int) - 1)).1 > g.2.2.2.1
  ·rw [qw h1]
   rfl
  ·rw [qE h1, cond_false]
   exact rest (by unfold L10.lastDay; rw [if_neg (by omega)]; omega)
 ·rw [qE h0, cond_false]
  exact rest (by unfold L10.lastDay; rw [if_pos (by omega)]; exact hd.1)
theorem qjC (f : Eve) : ∃ e : Int, g17 (f, [], ()) = some ((e, ()), ()) := by
 cases h : qdD f with
 | true => exact ⟨0, qfN h⟩
 | false =>
  refine ⟨70, ?_⟩
  show F17 qe f [] = _
  unfold F17
  rw [qkw, qb, h]
  rfl
theorem qhn {l : List Int} (hl : l.length ≤ 1000) (most : Int) : ∃ b : Bool, g23 (l, (fun v5 => qa (some most) fun q7 => qa (g21 (v5, q7, ())) fun y6 => some y6.1.1), ()) = some ((b, ()), ()) :=
 ⟨_, L10.g23_eq l (by omega) _ (fun x => !jG x 0 most) (fun x _ => by
  rw [qb]
  show qa (F21 qe x most) _ = _
  unfold F21
  rw [qeE]
  rfl)⟩
theorem qlj {g : qda} (hg : Near g) : ∃ e : Int, g8 (g, ()) = some ((e, ()), ()) := by
 have hF : g8 (g, ()) = F8 qe g := rfl
 rw [hF]
 unfold F8
 obtain ⟨e1, h1⟩ := qjC g.1
 rw [h1, qb]
 dsimp only
 cases e1 != 0 with
 | true => exact ⟨_, rfl⟩
 | false =>
 rw [cond_false, L10.root10.1, qb]
 dsimp only
 cases (L10.checkR g.2.1 g.2.2.1).2 != 0 with
 | true => exact ⟨_, rfl⟩
 | false =>
 rw [cond_false, L05.root05.1, qb]
 dsimp only
 cases (if L05.okS g.2.2.2.2.1 = true then (0 : Int) else 50) != 0 with
 | true => exact ⟨_, rfl⟩
 | false =>
 rw [cond_false]
 cases (g.2.1.2.2.length : Int) != (g.1.1.length : Int) with
 | true => exact ⟨_, rfl⟩
 | false =>
 rw [cond_false]
 cases (g.2.2.2.2.1.2.1.length : Int) != (g.1.1.length : Int) with
 | true => exact ⟨_, rfl⟩
 | false =>
 rw [cond_false]
 cases (g.2.2.2.2.2.1.length : Int) != (g.1.1.length : Int) with
 | true => exact ⟨_, rfl⟩
 | false =>
 rw [cond_false]
 cases (g.2.2.2.2.2.2.length : Int) != (g.1.1.length : Int) with
 | true => exact ⟨_, rfl⟩
 | false =>
 rw [cond_false]
 simp only [qeE, qb]
 cases jG g.2.2.2.1 0 10000 with
 | false => exact ⟨_, rfl⟩
 | true =>
 have t1 : Mk.m20.p.g (200, ()) = some ((some 200, ()), ()) := rfl
 have t2 : Mk.m20.p.g (100, ()) = some ((some 100, ()), ()) := rfl
 obtain ⟨b1, h1⟩ := qhn hg.lims 200
 obtain ⟨b2, h2⟩ := qhn hg.emps 100
 rw [Bool.not_true, cond_false, jS t1]
 cases b1 with
 | true => exact ⟨_, (jS h1 _).trans rfl⟩
 | false =>
  refine ⟨if b2 then 120 else 0, (jS h1 _).trans ?_⟩
  simp only [cond_false]
  rw [jS t2]
  refine (jS h2 _).trans ?_
  cases b2 <;> rfl
theorem law_stopped (g : qda) (c : qbC × ((Int × ((List Prs) × (List Flt))) × Int)) : g3 (g, c, ()) = some ((true, ()), ()) := by
 have hF : g3 (g, c, ()) = F3 qe g c := rfl
 have bk : ∀ {R : Type} (k : (Bool × Unit) × Unit → Option R), qa (g6 ()) k = k ((true, ()), ()) := fun k => jS buys_eq k
 rw [hF]
 unfold F3
 obtain ⟨b, e, hn⟩ := far_eq g
 rw [e, qb]
 cases b with
 | true => exact bk _
 | false =>
 have hg := hn rfl
 rw [cond_false]
 obtain ⟨b, e, hc⟩ := farR c.1
 rw [e, qb]
 cases b with
 | true => exact bk _
 | false =>
 have hc := hc rfl
 rw [cond_false]
 by_cases h1 : c.2.1.1 > 150
 ·rw [qw h1]
  exact bk _
 rw [qE h1, cond_false]
 by_cases h2 : (c.2.1.2.1.length : Int) > 250
 ·rw [qw h2]
  exact bk _
 rw [qE h2, cond_false]
 by_cases h3 : (c.2.1.2.2.length : Int) > 8
 ·rw [qw h3]
  exact bk _
 rw [qE h3, cond_false]
 have a1 : ∀ {R : Type} (k : Option R), qY ((([] : List Prs).length : Int) + c.2.1.2.1.length) k = k := fun k => j1 (by simp) (by simp; omega) k
 have a2 : ∀ {R : Type} (k : Option R), qY ((([] : List Flt).length : Int) + c.2.1.2.2.length) k = k := fun k => j1 (by simp) (by simp; omega) k
 simp only [a1, a2, List.nil_append, qbQ, qbk, qbj]
 obtain ⟨r, er, hr⟩ := stopsR c.1 c.2.1.1 c.2.1.2.1 c.2.1.2.2 (by omega) (by omega) (by omega) (by omega)
 refine (jS er _).trans ?_
 by_cases h0 : r.1.2.1 = 0
 case neg =>
  rw [L10.neq_t h0]
  exact bk _
 rw [h0, show ((0 : Int) != 0) = false from rfl, cond_false, qkL hg, qb]
 obtain ⟨e8, h8⟩ := qlj hg
 rw [h8, qb]
 dsimp only
 cases e8 != 0 with
 | true => exact bk _
 | false =>
 obtain ⟨e9, h9, hv⟩ := check12 g
 rw [cond_false, h9, qb]
 dsimp only
 by_cases h9' : e9 = 0
 case neg =>
  rw [L10.neq_t h9']
  exact bk _
 have hV := hv h9'
 rw [h9', show ((0 : Int) != 0) = false from rfl, cond_false]
 by_cases hn0 : c.2.2 < 0
 ·rw [qw hn0]
  exact bk _
 rw [qE hn0, cond_false]
 by_cases hn1 : c.2.2 ≥ (g.1.1.length : Int)
 ·rw [qw hn1]
  exact bk _
 rw [qE hn1, cond_false]
 by_cases ha : r.1.1 < 0
 ·rw [qw ha]
  exact bk _
 rw [qE ha, cond_false]
 have hf : (c.2.1.2.2.length : Int) > 0 := by
  rcases Nat.eq_zero_or_pos c.2.1.2.2.length with hz | hz
  ·exact absurd (hr h0 (List.eq_nil_of_length_eq_zero hz)) ha
  ·omega
 rw [qw hf, cond_true, shutR hg hV ⟨by omega, by omega⟩, qb]
 exact bk _
end Go.Proofs.Tryz.V.Top
