/- Plain laws of a circuit that is played: a step; when it stops. No condition beyond those typed in each theorem. -/
import Derived.Test.YtdecnbepmnjeiaaT12p
namespace Go.Proofs.Try.V.Top
open Go.Vi
open L10 (rng jL)
set_option maxRecDepth 100000
theorem finR {c : qaY} {f : List Flt} {t : Trk} (h : Inv c f t) : Okq (fun r : Unit × (Trk × Unit) => Inv c f r.2.1) (qa (g15 (t, ())) fun y => qa (g37 (t.1, y.1.1, ())) fun x => jK (t.1, (t.2.1, (t.2.2.1, (t.2.2.2.1, (t.2.2.2.2.1, (t.2.2.2.2.2.1, ((decide (x.1.2.1 ≥ 0)), t.2.2.2.2.2.2.2))))))) fun z => jK (z.1, (z.2.1, (z.2.2.1, (z.2.2.2.1, ((IntKind.wrap .i64 (z.2.2.2.2.1 + 1)), z.2.2.2.2.2))))) fun z => some ((), (z, ()))) :=
 qQ (rowR h) fun y hy => qQ (crashR _ _ (by omega) (by rw [h.cir]; exact hy.2)) fun x _ => qd3 (qd3 (qx h.rest.rest))
theorem qhl {c : qaY} {n : Int} {l : List Prs} {f : List Flt} {t : Trk} (hS : OkS c n l f) (h : Inv c f t) {r : List (List (List Int))} (hr : Rd c.1.length r) : Okq (fun r : Unit × (Trk × Unit) => Inv c f r.2.1) (J14 qj ((l, r, ()), (t, ()), ())) := by
 have hc : t.1.1.length = c.1.length := by rw [h.cir]
 have hm := hS.cir.most
 have hl := hS.nl
 show Okq _ (K14 qj l r t)
 unfold K14
 simp only [qa8, qaJ, qaK]
 refine qw (fun _ => qdJ (by omega) (qdJ (by omega) (qcC (by omega) (by omega) ?_))) fun _ => finR h
 refine qQ (S := fun o : ((List (List (List Int))) × Unit) × ((List Bool) × Trk × Unit) × Unit => o.1.1 = r ∧ Inv c f o.2.1.2.1 ∧ o.2.1.1.length = c.1.length) (qaj (L := L14_12) (fun i (s : (List Bool) × Trk) => ((r, l, (l.length : Int), (i : Int), ()), (s.1, s.2, ()), ())) (fun _ s => Inv c f s.2 ∧ s.1.length = c.1.length) 0 l.length (s := (List.replicate (t.1.1.length : Int).toNat false, t)) ⟨h, by rw [List.length_replicate]; omega⟩ (by have := jP; omega) ?_ ?_) ?_
 ·rintro N s - ⟨h1, h2⟩
  simp only [L14_12, B14_12]
  rw [qL (by omega)]
  exact qx ⟨rfl, h1, h2⟩
 ·rintro N i ⟨op, s⟩ - hi ⟨h1, h2⟩ ih
  dsimp only at h1 h2
  have hp := hS.prs _ (j6 (l := l) (i := (i : Int)) (by omega) (by omega))
  simp only [L14_12, B14_12]
  rw [qM (by omega), cond_true]
  refine qz (by omega) (by omega) ?_
  rw [wI (by omega) (by omega)]
  exact qw (fun _ => qQ (pressR h1 h2 hp hr) fun y hy => ih (_, _) ⟨hy.1, hy.2⟩) fun _ => ih (op, s) ⟨h1, h2⟩
 ·rintro o ⟨e, h1, h2⟩
  rw [e]
  exact qQ (brakeR hS.cir h1 h2 hr) fun y hy => finR hy
theorem stepR {c : qaY} {n : Int} {l : List Prs} {f : List Flt} {t : Trk} (hS : OkS c n l f) (h : Inv c f t) : Okq (fun r : Unit × (Trk × Unit) => Inv c f r.2.1) (g14 (t, l, ())) := by
 show Okq _ (F14 qj t l)
 unfold F14
 refine qw (fun _ => qd3 (qx h.rest)) fun _ => qw (fun _ => qQ (rollR h) fun y h => ?_) fun _ => ?_
 ·generalize y.2.1 = t at h ⊢
  refine qQ (readR hS.cir h hS.flt hS.nf) ?_
  rintro y3 ⟨o, ho, hs, rfl⟩
  dsimp only
  refine qw (fun _ => qQ (splitR hS.cir.most ho hs) fun y hy => qw (fun hb => qb4 (Inv c f) ⟨h.cir, h.fls, h.num, h.blk, h.gos, fun e => absurd (hy e) (by rw [hb]; decide)⟩ fun z hz => qhl hS hz ho) fun _ => qhl hS h ho) fun _ => qhl hS h ho
 ·refine qQ (readR hS.cir h hS.flt hS.nf) ?_
  rintro y3 ⟨o, ho, hs, rfl⟩
  dsimp only
  refine qw (fun _ => qQ (splitR hS.cir.most ho hs) fun y hy => qw (fun hb => qb4 (Inv c f) ⟨h.cir, h.fls, h.num, h.blk, h.gos, fun e => absurd (hy e) (by rw [hb]; decide)⟩ fun z hz => qhl hS hz ho) fun _ => qhl hS h ho) fun _ => qhl hS h ho
theorem farR (c : qaY) : ∃ b : Bool, g4 (c, ()) = some ((b, ()), ()) ∧ (b = false → c.1.length ≤ 15 ∧ c.2.length ≤ 12) := by
 have hF : g4 (c, ()) = F4 qj c := rfl
 rw [hF]
 unfold F4
 by_cases h1 : (c.1.length : Int) > 15
 ·exact ⟨true, by rw [qM h1]; rfl, fun h => by cases h⟩
 rw [qL h1, cond_false]
 exact ⟨_, rfl, fun h => ⟨by omega, by have := of_decide_eq_false h; omega⟩⟩
end Go.Proofs.Try.V.Top
