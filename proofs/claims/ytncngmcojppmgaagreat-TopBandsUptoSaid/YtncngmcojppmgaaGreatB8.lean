/- An evening's queues, plain: a ride begins, the whole step. No condition beyond those typed in each theorem. -/
import Derived.Test.YtncngmcojppmgaaGreatB7
namespace Go.Proofs.Tryz.V.Bd
open Go.Vi
set_option maxRecDepth 100000
section
variable {G : List Gp} {n : Nat} {F : Int → Nat} {rs : List Bo} {ps : List Pa} {vs : List Vis} {t g : Int} {A : List Int}
theorem Wsh.don {ps ps' : List Pa} {l : List (Int × Int)} {g : Int} (h : Wsh ps l) (hn : ∀ s ∈ l, 0 ≤ s.1 ∧ s.1 ≠ g) (hp : ∀ g' : Int, 0 ≤ g' → g' ≠ g → gd ps' g' = gd ps g') : Wsh ps' l := fun s hs => by
 obtain ⟨h0, h1⟩ := hn s hs
 rw [hp s.1 h0 h1]
 exact h s hs
theorem Inv.board (h : Inv G n rs ps vs t (g :: A) F) {r c1 c2 : Int} (r0 : 0 ≤ r) (r1 : r < rs.length) : Inv G n (brdR rs r g c2) (qfJ ps g c1) vs t A F ∧ 0 < co (brdR rs r g c2) g := by
 have hone := h.one g
 rw [qF, if_pos rfl] at hone
 obtain ⟨h0, h1⟩ := h.dom g (by rw [qF, if_pos rfl]; omega)
 have h1' : g < ps.length := by rw [h.plen]; exact h1
 have hq : ∀ g', cq (brdR rs r g c2) g' = cq rs g' := fun g' => qdo r0 r1 rfl g'
 have ho : ∀ g', co (brdR rs r g c2) g' = co rs g' + if g' = g then 1 else 0 := fun g' => by
  have := qdR (fun b : Bo => b.on.count g') r0 r1 (fun b => qh4 (qgB b c2) (b.on ++ [g]))
  have e : (qh4 (qgB (gd rs r) c2) ((gd rs r).on ++ [g])).on.count g' = (gd rs r).on.count g' + if g' = g then 1 else 0 := by
   show ((gd rs r).on ++ [g]).count g' = _
   rw [List.count_append, qiq]
  unfold co brdR
  omega
 have hcw : ∀ g', cw (qfJ ps g c1) g' = cw ps g' := fun g' => by
  unfold qfJ
  rw [qhx h0 h1']
  by_cases e : g' = g
  ·rw [if_pos e, e]
   unfold cw
   simp only [h0, h1', true_and]
   rfl
  ·rw [if_neg e]
 refine ⟨h.party h0 h1 rfl rfl (qaI _ _ _) (fun g' => ?_) (fun g' hg => h.dom g' ?_) (fun g' hg => h.inq g' ?_), by rw [ho, if_pos rfl]; omega⟩
 ·have := h.one g'
  rw [qF] at this
  show cq (brdR rs r g c2) g' + co (brdR rs r g c2) g' + cw (qfJ ps g c1) g' + _ + _ ≤ 1
  rw [hq, ho, hcw]
  omega
 ·rw [hq, ho] at hg
  rw [qF]
  omega
 ·have hg : 0 < cq (brdR rs r g c2) g' + cw (qfJ ps g c1) g' := hg
  rw [hq, hcw] at hg
  exact hg
theorem qiT (hG : Gd G n) {w t r : Int} (ht0 : 0 ≤ t) (r0 : 0 ≤ r) (r1 : r < n) {Q : List (Int × Int)} (hQ : Q.length ≤ 1000) : ∀ (suf pre : List (Int × Int)) (N0 : Nat) {seats : Int} {rs : List Bo} {ps : List Pa} {vs : List Vis} {stay : List (Int × Int)} {away : List Int}, pre ++ suf = Q → suf.length < N0 →
  Inv G n rs ps vs t ((suf ++ stay).map (·.1) ++ away) F → Wsh ps (suf ++ stay) →
  ∃ rs' ps' vs' stay' away', L29_8 N0 ((r, Q, seats, Q, (Q.length : Int), (pre.length : Int), ()), (stay, away, N w rs ps t vs, ()), ()) = some ((r, ()), (stay', away', N w rs' ps' t vs', ()), ()) ∧ Inv G n rs' ps' vs' t (stay'.map (·.1) ++ away') F ∧ Wsh ps' stay'
 | [], pre, N0, seats, rs, ps, vs, stay, away, he, hN, h, hw => by
  obtain ⟨m, rfl⟩ : ∃ m, N0 = m + 1 := ⟨N0 - 1, by omega⟩
  refine ⟨rs, ps, vs, stay, away, ?_, h, hw⟩
  simp only [L29_8, B29_8]
  rw [jC (by rw [← he]; simp), cond_false]
 | x :: suf, pre, N0, seats, rs, ps, vs, stay, away, he, hN, h, hw => by
  obtain ⟨m, rfl⟩ : ∃ m, N0 = m + 1 := ⟨N0 - 1, by omega⟩
  simp only [List.length_cons] at hN
  have r1' : r < rs.length := by rw [h.rl]; exact r1
  have hcx := h.one x.1
  have hA : ((x :: suf ++ stay).map (·.1) ++ away).count x.1 = ((suf ++ stay).map (·.1)).count x.1 + away.count x.1 + 1 := by
   rw [List.count_append, List.cons_append, List.map_cons, qF, if_pos rfl]; omega
  obtain ⟨g0, g1⟩ := h.dom x.1 (by omega)
  have hwx := hw x (by simp)
  have hdon := h.don hG g0 g1 hwx
  have hal := h.hand hG
  have hA2 : ((x :: suf ++ stay).map (·.1) ++ away).length = suf.length + stay.length + away.length + 1 := by simp; omega
  have hlen : Q.length = pre.length + suf.length + 1 := by rw [← he]; simp; omega
  have hx : gd Q (pre.length : Int) = x := qco (by rw [← he, List.getElem?_append_right (Nat.le_refl _), Nat.sub_self]; rfl)
  have hol := h.onlen hG r0 r1
  have hoth : ∀ s ∈ suf ++ stay, 0 ≤ s.1 ∧ s.1 ≠ x.1 := fun s hs => by
   have h1 : 0 < ((suf ++ stay).map (·.1)).count s.1 := List.count_pos_iff.2 (List.mem_map.2 ⟨s, hs, rfl⟩)
   refine ⟨(h.dom s.1 ?_).1, fun e => ?_⟩
   ·rw [List.count_append, List.cons_append, List.map_cons, qF]; omega
   ·rw [e] at h1; omega
  have hwr : Wsh ps (suf ++ stay) := fun s hs => hw s (by
   rcases List.mem_append.1 hs with hs | hs
   ·simp [hs]
   ·simp [hs])
  rcases step29 (w := w) (t := t) (seats := seats) (m := m) (Q := Q) r0 r1' hdon (k := pre.length) (by omega) hx hQ (stay := stay) (away := away) (by omega) (by omega) (by omega) with e | e | e | ⟨s', c1, c2, e⟩
  ·obtain ⟨_, hinv⟩ := h.done hG (s := x) (on := false) ht0 (.inl (by simp)) hwx
   obtain ⟨rs', ps', vs', stay', away', h1, h2, h3⟩ := qiT hG (w := w) ht0 r0 r1 hQ suf (pre ++ [x]) m (seats := seats) (stay := stay) (away := away ++ [x.1]) (by rw [← he]; simp) (by omega) (hinv.perm (by
    simp only [List.cons_append, List.map_cons]
    rw [← List.append_assoc]
    exact (List.perm_append_comm (l₁ := _) (l₂ := [x.1])).trans (List.Perm.refl _))) (hwr.don hoth fun g' k0 k1 => qfF g0 k0 k1)
   refine ⟨rs', ps', vs', stay', away', ?_, h2, h3⟩
   rw [e, show ((pre.length + 1 : Nat) : Int) = ((pre ++ [x]).length : Int) by simp]
   exact h1
  ·obtain ⟨rs', ps', vs', stay', away', h1, h2, h3⟩ := qiT hG (w := w) ht0 r0 r1 hQ suf (pre ++ [x]) m (seats := seats) (stay := stay ++ [x]) (away := away) (by rw [← he]; simp) (by omega) (h.perm (List.Perm.append_right away (List.Perm.map _ (by
    rw [← List.append_assoc]
    exact (List.perm_append_comm (l₁ := _) (l₂ := [x])).trans (List.Perm.refl _))))) (fun s hs => hw s (by simp at hs ⊢; rcases hs with hs | hs | hs <;> simp [hs]))
   refine ⟨rs', ps', vs', stay', away', ?_, h2, h3⟩
   rw [e, show ((pre.length + 1 : Nat) : Int) = ((pre ++ [x]).length : Int) by simp]
   exact h1
  ·have hdrop : Q.drop pre.length = x :: suf := by rw [← he, List.drop_left]
   rw [hdrop] at e
   refine ⟨rs, ps, vs, stay ++ x :: suf, away, e, h.perm (List.Perm.append_right away (List.Perm.map _ List.perm_append_comm)), fun s hs => hw s (by simp at hs ⊢; rcases hs with hs | hs | hs <;> simp [hs])⟩
  ·have h' : Inv G n rs ps vs t (x.1 :: ((suf ++ stay).map (·.1) ++ away)) F := h
   obtain ⟨hb, hco⟩ := h'.board (c1 := c1) (c2 := c2) r0 r1'
   have hpe : ∀ g' : Int, 0 ≤ g' → g' ≠ x.1 → gd (qfJ ps x.1 c1) g' = gd ps g' := fun g' k0 k1 => qd4 g0 k0 (fun hh => k1 hh.symm) _
   have hpx : gd (qfJ ps x.1 c1) x.1 = qgC (gd ps x.1) c1 := qdk g0 (by rw [h.plen]; exact g1) _
   obtain ⟨_, hinv⟩ := hb.done hG (s := x) (on := true) ht0 (.inr hco) (by rw [hpx]; exact hwx)
   obtain ⟨rs', ps', vs', stay', away', h1, h2, h3⟩ := qiT hG (w := w) ht0 r0 r1 hQ suf (pre ++ [x]) m (seats := s') (stay := stay) (away := away) (by rw [← he]; simp) (by omega) hinv (hwr.don hoth fun g' k0 k1 => (qfF g0 k0 k1).trans (hpe g' k0 k1))
   refine ⟨rs', ps', vs', stay', away', ?_, h2, h3⟩
   rw [e, show ((pre.length + 1 : Nat) : Int) = ((pre ++ [x]).length : Int) by simp]
   exact h1
theorem cond5 {X : Type} {b1 b2 b3 b4 : Bool} {A M : X} {P : X → Prop} (hA : P A) (hM : P M) : P (cond b1 A (cond b2 (cond b3 A (cond b4 A M)) (cond b4 A M))) := by
 cases b1
 ·cases b2
  ·cases b4
   ·exact hM
   ·exact hA
  ·cases b3
   ·cases b4
    ·exact hM
    ·exact hA
   ·exact hA
 ·exact hA
theorem ql1 (hG : Gd G n) {w t i : Int} (hw0 : 0 ≤ w) (hw1 : w ≤ 100) (ht0 : 0 ≤ t) (ht1 : t ≤ 5000) {rs : List Bo} {ps : List Pa} {vs : List Vis} (i0 : 0 ≤ i) (i1 : i < n) (h : Inv G n rs ps vs t [] F) :
  ∃ rs' ps' vs', g29 (N w rs ps t vs, i, ()) = some ((), (N w rs' ps' t vs', ())) ∧ Inv G n rs' ps' vs' t [] F := by
 show ∃ rs' ps' vs', F29 qi (N w rs ps t vs) i = _ ∧ _
 unfold F29
 have i1' : i < rs.length := by rw [h.rl]; exact i1
 rw [qE i0 (by show i < ((rs.map some).length : Nat); rw [List.length_map]; exact i1')]
 have hr : ∀ {R : Type} (k' : Option Bo → Option R), qc (N w rs ps t vs).2.1 i k' = k' (some (gd rs i)) := fun k' => qaH (l := rs) i0 i1' k'
 simp only [hr, qb]
 refine cond5 (P := fun X => ∃ rs' ps' vs', X = some ((), (N w rs' ps' t vs', ())) ∧ Inv G n rs' ps' vs' t [] F) ⟨rs, ps, vs, rfl, h⟩ ?_
 simp only [qcr, qY]
 have hset : ∀ (z : Bo), ((N w rs ps t vs).2.1.set i.toNat (some z)) = (upd rs i fun _ => z).map some := fun z => by
  show ((rs.map some).set i.toNat (some z)) = _
  rw [qc7]
  rfl
 rw [hset]
 have hQl := h.qlen hG i0 i1
 have hcq : ∀ s ∈ (gd rs i).q, 0 < cq rs s.1 := fun s hs => by
  have h1 : ((gd rs i).q.map (·.1)).count s.1 ≤ cq rs s.1 := qhy (qf s.1) i0 i1'
  have h2 : 0 < ((gd rs i).q.map (·.1)).count s.1 := List.count_pos_iff.2 (List.mem_map.2 ⟨s, hs, rfl⟩)
  omega
 have h1 : Inv G n (upd rs i fun b => qas b []) ps vs t (((gd rs i).q ++ ([] : List (Int × Int))).map (fun s : Int × Int => s.1) ++ ([] : List Int)) F := by
  refine h.rides (qaI _ _ _) (fun g => ?_) (fun g hg => ?_)
  ·have h2 := qfG i0 i1' [] g
   rw [qd7 i0 i1' rfl, List.append_nil, List.append_nil]
   rw [List.map_nil, List.count_nil] at h2
   rw [List.count_nil]
   omega
  ·have h2 := qfG i0 i1' [] g
   rw [List.map_nil, List.count_nil] at h2
   omega
 have hN1 : ((N w rs ps t vs).1, ((upd rs i fun _ => ((gd rs i).1, ((gd rs i).2.1, ((gd rs i).2.2.1, ((gd rs i).2.2.2.1, ([], (gd rs i).2.2.2.2.2)))))).map some), (N w rs ps t vs).2.2) = N w (upd rs i fun b => qas b []) ps t vs := rfl
 rw [hN1]
 have hr1 : ∀ {R : Type} (z : Bo) (k' : Option Bo → Option R), qc ((upd rs i fun _ => z).map some) i k' = k' (some z) := fun z k' => by
  rw [qaH i0 (by rw [qaI]; exact i1'), qdk i0 i1']
 simp only [hr1, qb]
 obtain ⟨rs2, ps2, vs2, stay, away, h2, h3, h4⟩ := qiT hG (w := w) ht0 i0 i1 (Q := (gd rs i).q) (by omega) (gd rs i).q [] qi (seats := (qas (gd rs i) []).1.1) (stay := []) (away := []) rfl (qbw (by omega)) h1 (fun s hs => by
  rw [List.append_nil] at hs
  exact h.inq s.1 (by have := hcq s hs; omega))
 have h2' : L29_8 qi ((i, (gd rs i).2.2.2.2.1, (gd rs i).1.1, (gd rs i).2.2.2.2.1, ((gd rs i).2.2.2.2.1.length : Int), 0, ()), (([] : List (Int × Int)), ([] : List Int), N w (upd rs i fun b => qas b []) ps t vs, ()), ()) = _ := h2
 rw [h2', qb]
 have i2 : i < rs2.length := by rw [h3.rl]; exact i1
 have hr2 : ∀ {R : Type} (k' : Option Bo → Option R), qc (N w rs2 ps2 t vs2).2.1 i k' = k' (some (gd rs2 i)) := fun k' => qaH (l := rs2) i0 i2 k'
 simp only [hr2, qb]
 have hset2 : ∀ (z : Bo), ((N w rs2 ps2 t vs2).2.1.set i.toNat (some z)) = (upd rs2 i fun _ => z).map some := fun z => by
  show ((rs2.map some).set i.toNat (some z)) = _
  rw [qc7]
  rfl
 rw [hset2]
 have hN2 : ((N w rs2 ps2 t vs2).1, ((upd rs2 i fun _ => ((gd rs2 i).1, ((gd rs2 i).2.1, ((gd rs2 i).2.2.1, ((gd rs2 i).2.2.2.1, (stay, (gd rs2 i).2.2.2.2.2)))))).map some), (N w rs2 ps2 t vs2).2.2) = N w (upd rs2 i fun b => qas b stay) ps2 t vs2 := rfl
 rw [hN2]
 have h5 : Inv G n (upd rs2 i fun b => qas b stay) ps2 vs2 t away F := by
  refine h3.rides (qaI _ _ _) (fun g => ?_) (fun g hg => ?_)
  ·have h6 := qfG i0 i2 stay g
   rw [qd7 i0 i2 rfl, List.count_append]
   omega
  ·have h6 := qfG i0 i2 stay g
   have h7 : 0 < (stay.map (·.1)).count g := by omega
   obtain ⟨s, hs, e⟩ := List.mem_map.1 (List.count_pos_iff.1 h7)
   rw [← e]
   exact h4 s hs
 have hal := h5.hand hG
 obtain ⟨rs3, ps3, h6, h7⟩ := qk6 hG (w := w) hw0 hw1 ht0 ht1 i away [] qi (qbw (by omega)) (by simp; omega) h5
 rw [List.nil_append] at h6
 have h6' : L29_27 qi ((i, (away.length : Int), 0, ()), (away, N w (upd rs2 i fun b => qas b stay) ps2 t vs2, ()), ()) = _ := h6
 rw [h6', qb]
 have i3 : i < rs3.length := by rw [h7.rl]; exact i1
 have hr3 : ∀ {R : Type} (k' : Option Bo → Option R), qc (N w rs3 ps3 t vs2).2.1 i k' = k' (some (gd rs3 i)) := fun k' => qaH (l := rs3) i0 i3 k'
 simp only [hr3, qb]
 by_cases c : ((gd rs3 i).2.1.length : Int) > 0
 ·rw [qX c, cond_true]
  have hset3 : ∀ (z : Bo), ((N w rs3 ps3 t vs2).2.1.set i.toNat (some z)) = (upd rs3 i fun _ => z).map some := fun z => by
   show ((rs3.map some).set i.toNat (some z)) = _
   rw [qc7]
   rfl
  rw [hset3]
  refine ⟨upd rs3 i fun b => setBegun b t, ps3, vs2, rfl, h7.rides (qaI _ _ _) (fun g => ?_) (fun g hg => ?_)⟩
  ·rw [qdo i0 i3 rfl, qd7 i0 i3 rfl]
   exact Nat.le_refl _
  ·rw [qdo i0 i3 rfl] at hg
   omega
 ·rw [jC c, cond_false]
  exact ⟨rs3, ps3, vs2, rfl, h7⟩
end
end Go.Proofs.Tryz.V.Bd
