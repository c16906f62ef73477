/- An evening's queues, plain: what each small part keeps. No condition beyond those typed in each theorem. -/
import Derived.Test.YtncngmcojppmgaaGreatB2
namespace Go.Proofs.Tryz.V.Bd
open Go.Vi
set_option maxRecDepth 100000
section
variable {G : List Gp} {n : Nat} {rs : List Bo} {ps : List Pa} {vs : List Vis} {t : Int} {A : List Int} {F : Int → Nat}
theorem Inv.tick (h : Inv G n rs ps vs t A F) {t' : Int} (ht : t ≤ t') : Inv G n rs ps vs t' A F :=
 { h with vis := fun v hv => by obtain ⟨h1, h2, h3, h4, h5, h6, h7, h8⟩ := h.vis v hv; exact ⟨h1, h2, h3, h4, h5, h6, h7, by omega⟩ }
theorem Inv.perm (h : Inv G n rs ps vs t A F) {A' : List Int} (hp : A'.Perm A) : Inv G n rs ps vs t A' F :=
 { h with
  one := fun g => by rw [hp.count_eq]; exact h.one g
  dom := fun g hg => h.dom g (by rw [hp.count_eq] at hg; exact hg) }
theorem Inv.first (h : Inv G n rs ps vs t A F) {F' : Int → Nat} {g : Int} (hF : F g = 1) (h' : ∀ g', F' g' = if g' = g then 0 else F g') : Inv G n rs ps vs t (g :: A) F' :=
 { h with
  one := fun g' => by
   have := h.one g'
   rw [List.count_cons, h' g']
   by_cases e : g' = g
   ·rw [if_pos e, e]; rw [e] at this; simp; omega
   ·rw [if_neg e, if_neg (by simpa using fun hh => e hh.symm)]; omega
  dom := fun g' hg => h.dom g' (by
   rw [List.count_cons, h' g'] at hg
   by_cases e : g' = g
   ·rw [e, hF]; omega
   ·rw [if_neg e, if_neg (by simpa using fun hh => e hh.symm)] at hg; omega) }
theorem qF (g g' : Int) (A : List Int) : (g :: A).count g' = A.count g' + if g' = g then 1 else 0 := by
 rw [List.count_cons]
 by_cases e : g' = g
 ·rw [if_pos e, if_pos (by simpa using e.symm)]
 ·rw [if_neg e, if_neg (by simpa using fun hh => e hh.symm)]
theorem qiq (g g' : Int) : [g].count g' = if g' = g then 1 else 0 := by
 rw [qF, List.count_nil, Nat.zero_add]
theorem qhF (hG : Gd G n) (h : Inv G n rs ps vs t A F) {g t' : Int} (h0 : 0 ≤ g) (h1 : g < G.length) (hw : (gd ps g).wish < (gd ps g).wants.length) :
  (qgi rs ps g t').length = rs.length ∧ (∀ g', cq (qgi rs ps g t') g' = cq rs g' + if g' = g then 1 else 0) ∧ (∀ g', co (qgi rs ps g t') g' = co rs g') ∧ ∀ g', cw (qfK ps g) g' = if g' = g then 0 else cw ps g' := by
 obtain ⟨r0, r1⟩ := h.ride hG h0 h1 hw
 have r1 : qc8 ps g < rs.length := by rw [h.rl]; exact r1
 refine ⟨qaI _ _ _, fun g' => ?_, fun g' => qd7 r0 r1 rfl g', fun g' => ?_⟩
 ·have := qdR (qf g') r0 r1 (fun b => qas b (b.q ++ [(g, t')]))
  have e : qf g' (qas (gd rs (qc8 ps g)) ((gd rs (qc8 ps g)).q ++ [(g, t')])) = qf g' (gd rs (qc8 ps g)) + if g' = g then 1 else 0 := by
   show (((gd rs (qc8 ps g)).q ++ [(g, t')]).map (·.1)).count g' = _
   rw [List.map_append, List.count_append, List.map_singleton, qiq]
   rfl
  unfold cq qgi
  omega
 ·unfold qfK
  rw [qhx h0 (by rw [h.plen]; exact h1)]
  rfl
theorem Inv.arrive (hG : Gd G n) (h : Inv G n rs ps vs t A F) {g t' : Int} (h0 : 0 ≤ g) (h1 : g < G.length) (hw : cw ps g = 1) : Inv G n (qgi rs ps g t') (qfK ps g) vs t A F := by
 have hwl := h.inq g (by omega)
 obtain ⟨k1, k2, k3, k4⟩ := qhF hG h (t' := t') h0 h1 hwl
 refine h.party h0 h1 rfl rfl k1 (fun g' => ?_) (fun g' hg => ?_) (fun g' hg => ?_)
 ·have := h.one g'
  show _ + _ + cw (qfK ps g) g' + _ + _ ≤ 1
  rw [k2, k3, k4]
  by_cases e : g' = g
  ·rw [if_pos e, if_pos e]; rw [e] at this ⊢; omega
  ·rw [if_neg e, if_neg e]; omega
 ·rw [k2, k3] at hg
  by_cases e : g' = g
  ·rw [e]; exact ⟨h0, h1⟩
  ·rw [if_neg e] at hg; exact h.dom g' (by omega)
 ·have hg : 0 < cq (qgi rs ps g t') g' + cw (qfK ps g) g' := hg
  rw [k2, k4] at hg
  by_cases e : g' = g
  ·rw [e]; exact hwl
  ·rw [if_neg e, if_neg e] at hg; exact h.inq g' hg
theorem Inv.next (hG : Gd G n) {w g : Int} (hw0 : 0 ≤ w) (hw1 : w ≤ 100) (ht0 : 0 ≤ t) (ht1 : t ≤ 5000) (h : Inv G n rs ps vs t (g :: A) F) :
  0 ≤ g ∧ g < ps.length ∧ ((gd ps g).wish ≠ ((gd ps g).wants.length : Int) → Arr rs ps g) ∧ Inv G n (nxtR w rs ps t g) (qge w ps t g) vs t A F := by
 have hone := h.one g
 rw [qF, if_pos rfl] at hone
 obtain ⟨h0, h1⟩ := h.dom g (by rw [qF, if_pos rfl]; omega)
 have h1' : g < ps.length := by rw [h.plen]; exact h1
 have hwish := h.wish g h0 h1
 refine ⟨h0, h1', fun hne => h.arr hG h0 h1 (by omega), ?_⟩
 unfold nxtR qge
 by_cases he : (gd ps g).wish = ((gd ps g).wants.length : Int)
 ·rw [if_pos he, if_pos he]
  have hc : ∀ g', cw (upd ps g fun p => qk1 p t) g' = cw ps g' := fun g' => by
   rw [qhx h0 h1']
   by_cases e : g' = g
   ·rw [if_pos e, e]
    unfold cw
    simp only [h0, h1', true_and]
    rfl
   ·rw [if_neg e]
  refine h.party h0 h1 rfl rfl rfl (fun g' => ?_) (fun g' hg => h.dom g' (by rw [qF]; omega)) (fun g' hg => h.inq g' (by rw [hc] at hg; exact hg))
  have := h.one g'
  rw [qF] at this
  rw [hc]
  omega
 ·rw [if_neg he, if_neg he]
  have hwl : (gd ps g).wish < (gd ps g).wants.length := by omega
  by_cases hz : w = 0
  ·rw [if_pos hz, if_pos hz]
   obtain ⟨k1, k2, k3, k4⟩ := qhF hG h (t' := t) h0 h1 hwl
   refine h.party h0 h1 rfl rfl k1 (fun g' => ?_) (fun g' hg => ?_) (fun g' hg => ?_)
   ·have := h.one g'
    rw [qF] at this
    show _ + _ + cw (qfK ps g) g' + _ + _ ≤ 1
    rw [k2, k3, k4]
    by_cases e : g' = g
    ·rw [if_pos e, if_pos e]; rw [if_pos e] at this; omega
    ·rw [if_neg e, if_neg e]; rw [if_neg e] at this; omega
   ·rw [k2, k3] at hg
    by_cases e : g' = g
    ·rw [e]; exact ⟨h0, h1⟩
    ·rw [if_neg e] at hg; exact h.dom g' (by rw [qF]; omega)
   ·have hg : 0 < cq (qgi rs ps g t) g' + cw (qfK ps g) g' := hg
    rw [k2, k4] at hg
    by_cases e : g' = g
    ·rw [e]; exact hwl
    ·rw [if_neg e, if_neg e] at hg; exact h.inq g' hg
  ·rw [if_neg hz, if_neg hz]
   have hwr : IntKind.wrap .i64 (t + w) = t + w := wI (by omega) (by omega)
   rw [hwr]
   have hc : ∀ g', cw (upd ps g fun p => qgE p (t + w)) g' = if g' = g then 1 else cw ps g' := fun g' => by
    rw [qhx h0 h1']
    by_cases e : g' = g
    ·rw [if_pos e, if_pos e]
     exact if_pos (show t + w ≠ -1 by omega)
    ·rw [if_neg e, if_neg e]
   refine h.party h0 h1 rfl rfl rfl (fun g' => ?_) (fun g' hg => h.dom g' (by rw [qF]; omega)) (fun g' hg => ?_)
   ·have := h.one g'
    rw [qF] at this
    rw [hc]
    by_cases e : g' = g
    ·rw [if_pos e]; rw [if_pos e] at this; omega
    ·rw [if_neg e]; rw [if_neg e] at this; omega
   ·rw [hc] at hg
    by_cases e : g' = g
    ·rw [e]; exact hwl
    ·rw [if_neg e] at hg; exact h.inq g' hg
theorem Inv.done (hG : Gd G n) (h : Inv G n rs ps vs t A F) {s : Int × Int} {on : Bool} (ht0 : 0 ≤ t) (hA : s.1 ∈ A ∨ 0 < co rs s.1) (hw : (gd ps s.1).wish < (gd ps s.1).wants.length) :
  Don ps vs s.1 ∧ Inv G n rs (qeb ps s.1) (donV ps vs s on t) t A F := by
 have hin : 0 < A.count s.1 + co rs s.1 := by
  rcases hA with hA | hA
  ·have := List.count_pos_iff.2 hA; omega
  ·omega
 obtain ⟨h0, h1⟩ := h.dom s.1 (by omega)
 have h1' : s.1 < ps.length := by rw [h.plen]; exact h1
 have hwish := h.wish s.1 h0 h1
 have hl := h.wlen hG h0 h1
 obtain ⟨r0, r1⟩ := h.ride hG h0 h1 hw
 have hone := h.one s.1
 have hwr : IntKind.wrap .i64 ((gd ps s.1).wish + 1) = (gd ps s.1).wish + 1 := wI (by omega) (by omega)
 have hpw : ∀ g' : Int, 0 ≤ g' → (gd (qeb ps s.1) g').wish = (if g' = s.1 then (gd ps g').wish + 1 else (gd ps g').wish) ∧ (gd (qeb ps s.1) g').wants = (gd ps g').wants := fun g' k0 => by
  unfold qeb
  rw [qi1 h0 h1' k0]
  by_cases e : g' = s.1
  ·rw [if_pos e, if_pos e, e]
   exact ⟨hwr, rfl⟩
  ·rw [if_neg e, if_neg e]
   exact ⟨rfl, rfl⟩
 have hcw : ∀ g', cw (qeb ps s.1) g' = cw ps g' := fun g' => by
  unfold qeb
  rw [qhx h0 h1']
  by_cases e : g' = s.1
  ·rw [if_pos e, e]
   unfold cw
   simp only [h0, h1', true_and]
   rfl
  ·rw [if_neg e]
 refine ⟨h.don hG h0 h1 hw, h.rl, ?_, fun g' => by rw [hcw]; exact h.one g', h.dom, fun g' k0 k1 => ?_, fun g' hg => ?_, ?_, fun v hv => ?_, ?_⟩
 ·unfold qeb
  rw [qiA (·.1) h0 h1' rfl]
  exact h.pl
 ·obtain ⟨e1, e2⟩ := hpw g' k0
  have := h.wish g' k0 k1
  rw [e1, e2]
  by_cases e : g' = s.1
  ·rw [if_pos e]; rw [e] at this ⊢; omega
  ·rw [if_neg e]; exact this
 ·rw [hcw] at hg
  have hne : g' ≠ s.1 := fun e => by rw [e] at hg; omega
  have k0 : 0 ≤ g' := by
   by_cases e : 0 < cq rs g'
   ·exact (h.dom g' (by omega)).1
   ·have : 0 < cw ps g' := by omega
    unfold cw at this
    split at this
    ·rename_i hh; exact hh.1
    ·omega
  obtain ⟨e1, e2⟩ := hpw g' k0
  rw [e1, e2, if_neg hne]
  exact h.inq g' hg
 ·have h2 := sum_updI (fun p : Pa => p.wish) h0 h1' (fun p => qeN p (IntKind.wrap .i64 (p.wish + 1)))
  have h3 : (qeN (gd ps s.1) (IntKind.wrap .i64 ((gd ps s.1).wish + 1))).wish = (gd ps s.1).wish + 1 := hwr
  have h4 := h.len
  unfold qeb donV
  rw [List.length_append, List.length_singleton]
  have h5 : (ps.map fun p : Pa => p.wish).sum = (ps.map (·.wish)).sum := rfl
  have h6 : ((upd ps s.1 fun p => qeN p (IntKind.wrap .i64 (p.wish + 1))).map fun p : Pa => p.wish).sum = ((upd ps s.1 fun p => qeN p (IntKind.wrap .i64 (p.wish + 1))).map (·.wish)).sum := rfl
  omega
 ·unfold donV at hv
  rcases List.mem_append.1 hv with hv | hv
  ·obtain ⟨v1, v2, v3, v4, v5⟩ := h.vis v hv
   refine ⟨v1, v2, v3, ?_, v5⟩
   rw [(hpw v.1 v1).1]
   split <;> omega
  ·rw [List.mem_singleton.1 hv]
   refine ⟨h0, h1, hwish.1, ?_, r0, r1, ht0, Int.le_refl _⟩
   show (gd ps s.1).wish < (gd (qeb ps s.1) s.1).wish
   rw [(hpw s.1 h0).1, if_pos rfl]
   omega
 ·unfold donV
  refine List.pairwise_append.2 ⟨h.dist, List.pairwise_singleton _ _, fun a ha b hb => ?_⟩
  rw [List.mem_singleton.1 hb]
  rintro ⟨e1, e2⟩
  have e1 : a.1 = s.1 := e1
  have e2 : a.2.1 = (gd ps s.1).wish := e2
  have := (h.vis a ha).2.2.2.1
  rw [e1] at this
  omega
end
end Go.Proofs.Tryz.V.Bd
