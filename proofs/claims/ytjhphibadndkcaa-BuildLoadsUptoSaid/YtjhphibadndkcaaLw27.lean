/- Plain laws of layer 8, twenty-seventh part: the law of Pack's lorries. No condition beyond those typed in each theorem. -/
import Derived.Test.YtjhphibadndkcaaLw26
namespace Go.Proofs.Try.V
open Go.Vi
set_option maxRecDepth 100000

theorem counted_gd {n : Nat} {done s : List Int} (h : Counted n done s) {p : Int} (h0 : 0 ≤ p) (hp : p < n) : gd s p = ((done.count p : Nat) : Int) := by
  have := gd_of (h.cnt p.toNat (by omega))
  rwa [show ((p.toNat : Nat) : Int) = p by omega] at this
theorem L13_13_q {k : Kit} (hW : WOK (wts k)) (room : Int) (lorries : List Int) (vans : List (List Int)) (e : Int) (v : Nat) (hv : v < vans.length) (hr : ∀ p ∈ gd vans (v : Int), 0 ≤ p ∧ p < k.1.length) (hl : (gd vans (v : Int)).length ≤ 16) (done s : List Int) (hc : Counted k.1.length done s) (hd : done.length ≤ 1048576) {N : Nat} (hN : 100 < N) :
    ∃ r, L13_13 N ((room, lorries, vans, e, (v : Int), 0, 0, ()), (k, s, ()), ()) = some r ∧ ∃ s', r = .inr ((room, lorries, vans, e, (v : Int), wsum (wts k) (gd vans (v : Int)), ()), (k, s', ()), ()) ∧ Counted k.1.length (done ++ gd vans (v : Int)) s' := by
  have hn := hW.1
  rw [wts_len] at hn
  exact loop0 (L := L13_13) (fun i (x : Int × List Int) => ((room, lorries, vans, e, (v : Int), x.1, (i : Int), ()), (k, x.2, ()), ())) (fun i x => x.1 = wsum (wts k) ((gd vans (v : Int)).take i) ∧ Counted k.1.length (done ++ (gd vans (v : Int)).take i) x.2) (fun r => ∃ s', r = .inr ((room, lorries, vans, e, (v : Int), wsum (wts k) (gd vans (v : Int)), ()), (k, s', ()), ()) ∧ Counted k.1.length (done ++ gd vans (v : Int)) s') 0 (gd vans (v : Int)).length (N := N) (s := (0, s)) ⟨rfl, by simpa using hc⟩ (by omega)
    (by
      rintro N ⟨w, s'⟩ ⟨h1, h2⟩
      rw [List.take_length] at h1 h2
      simp only [L13_13, B13_13]
      rw [getI_gd (by omega) (by omega), dec_f (by omega)]
      refine ⟨_, rfl, s', ?_, h2⟩
      have h1' : w = wsum (wts k) (gd vans (v : Int)) := h1
      rw [h1'])
    (by
      rintro N i ⟨w, s'⟩ - hi ⟨h1, h2⟩
      have h1' : w = wsum (wts k) ((gd vans (v : Int)).take i) := h1
      have hp := hr (gd (gd vans (v : Int)) (i : Int)) (gd_mem (by omega) (by omega))
      have hsl := h2.ll
      have hcg := counted_gd h2 hp.1 hp.2
      have hcl : List.count (gd (gd vans (v : Int)) (i : Int)) (done ++ (gd vans (v : Int)).take i) ≤ 1048576 + 16 := by
        refine Nat.le_trans List.count_le_length ?_
        rw [List.length_append, List.length_take]
        omega
      have hb := wsum_bd hW ((gd vans (v : Int)).take i) (fun p hp => by rw [wts_len]; exact hr p (List.mem_of_mem_take hp))
      rw [List.length_take, Nat.min_eq_left (by omega)] at hb
      have hw := hW.2 (gd (gd vans (v : Int)) (i : Int)).toNat (by rw [wts_len]; omega)
      rw [show (((gd (gd vans (v : Int)) (i : Int)).toNat : Nat) : Int) = gd (gd vans (v : Int)) (i : Int) by omega] at hw
      have hwg : gd (wts k) (gd (gd vans (v : Int)) (i : Int)) = (gd k.1 (gd (gd vans (v : Int)) (i : Int))).1 := by
        have := wts_gd k (i := (gd (gd vans (v : Int)) (i : Int)).toNat) (by omega)
        rwa [show (((gd (gd vans (v : Int)) (i : Int)).toNat : Nat) : Int) = gd (gd vans (v : Int)) (i : Int) by omega] at this
      have hst := h2.step hp.1 hp.2
      have hs'l : s'.length = k.1.length := hsl
      generalize hpe : gd (gd vans (v : Int)) (i : Int) = p at *
      have a1 : ∀ {R : Type} (F : List Int → Option R), getI vans (v : Int) F = F (gd vans (v : Int)) := fun F => getI_gd (by omega) (by omega) F
      have a2 : ∀ {R : Type} (F : Int → Option R), getI (gd vans (v : Int)) (i : Int) F = F p := fun F => by rw [getI_gd (by omega) (by omega), hpe]
      have a3 : ∀ {R : Type} (X : Option R), inR p s'.length X = X := fun X => inR_in hp.1 (by omega) X
      have a4 : ∀ {R : Type} (F : Int → Option R), getI s' p F = F (gd s' p) := fun F => getI_gd hp.1 (by omega) F
      have a5 : ∀ {R : Type} (F : Part → Option R), getI k.1 p F = F (gd k.1 p) := fun F => getI_gd hp.1 (by omega) F
      refine .inl ⟨(w + gd (wts k) p, s'.set p.toNat (gd s' p + 1)), ⟨?_, ?_⟩, ?_⟩
      · show w + gd (wts k) p = _
        rw [take_nat hi, hpe, wsum_app, h1']
        show _ = _ + (gd (wts k) p + 0)
        rw [Int.add_zero]
      · show Counted k.1.length (done ++ (gd vans (v : Int)).take (i + 1)) (s'.set p.toNat (gd s' p + 1))
        rw [take_nat hi, hpe, ← List.append_assoc]
        have hcg' : gd s' p = _ := hcg
        rw [hcg']
        exact hst
      · simp only [L13_13, B13_13]
        simp only [a1, a2, a3, a4, a5]
        have hcg' : gd s' p = _ := hcg
        rw [dec_t (by omega), cond_true, dec_f (by omega), cond_false, dec_f (by omega), cond_false, ← hwg, w64 (x := w + gd (wts k) p) (by omega) (by omega), w64 (x := gd s' p + 1) (by omega) (by omega), w64 (by omega) (by omega)]
        rfl)
theorem L13_9_q {k : Kit} (hW : WOK (wts k)) {room : Int} (lorries : List Int) {vans : List (List Int)} (hP : Packed k room vans) (hvl : vans.length ≤ 16) (e : Int) {N : Nat} (hN : 1000 < N) :
    ∃ r, L13_9 N ((room, lorries, vans, e, 0, ()), (k, List.replicate k.1.length 0, ()), ()) = some r ∧ ∃ s', r = .inr ((room, lorries, vans, e, ()), (k, s', ()), ()) ∧ Counted k.1.length vans.flatten s' := by
  have hn := hW.1
  rw [wts_len] at hn
  have hfl : vans.flatten.length = k.1.length := by rw [hP.perm.length_eq, rangeI_length]
  exact loop0 (L := L13_9) (fun i (s : List Int) => ((room, lorries, vans, e, (i : Int), ()), (k, s, ()), ())) (fun i s => Counted k.1.length (vans.take i).flatten s) (fun r => ∃ s', r = .inr ((room, lorries, vans, e, ()), (k, s', ()), ()) ∧ Counted k.1.length vans.flatten s') 200 vans.length (N := N) (s := List.replicate k.1.length 0) ⟨by simp, fun i hi => by rw [List.getElem?_replicate, if_pos hi]; rfl⟩ (by omega)
    (by
      rintro N s h
      rw [List.take_length] at h
      simp only [L13_9, B13_9]
      rw [dec_f (by omega)]
      exact ⟨_, rfl, s, rfl, h⟩)
    (by
      rintro N v s hN hv h
      have hr : ∀ p ∈ gd vans (v : Int), 0 ≤ p ∧ p < k.1.length := fun p hp => rangeI_mem.1 (hP.perm.mem_iff.1 (List.mem_flatten.2 ⟨_, gd_mem (by omega) (by omega), hp⟩))
      have hsub : ((vans.take v).flatten).length ≤ vans.flatten.length := by
        have : (vans.take v ++ vans.drop v).flatten.length = vans.flatten.length := by rw [List.take_append_drop]
        rw [List.flatten_append, List.length_append] at this
        omega
      obtain ⟨_, e13, s', rfl, hc⟩ := L13_13_q hW room lorries vans e v hv hr (by have := hP.shrt v hv; omega) (vans.take v).flatten s h (by omega) (N := N) (by omega)
      refine .inl ⟨s', ?_, ?_⟩
      · show Counted k.1.length (vans.take (v + 1)).flatten s'
        rw [take_nat hv, List.flatten_append]
        simpa using hc
      · simp only [L13_9, B13_9]
        rw [dec_t (by omega), cond_true, e13, derefK_some, sumK_inr]
        simp only
        have := hP.fit v hv
        rw [dec_f (by omega), cond_false, w64 (by omega) (by omega)]
        rfl)
theorem L13_23_q {k : Kit} (hn : k.1.length ≤ 16) (room : Int) (lorries : List Int) (vans : List (List Int)) (e : Int) {s : List Int} {done : List Int} (hp : done.Perm (rangeI k.1.length)) (hc : Counted k.1.length done s) {N : Nat} (hN : 1000 < N) :
    L13_23 N ((room, lorries, vans, e, 0, ()), (k, s, ()), ()) = some (.inr ((room, lorries, vans, e, ()), (k, ()), ())) := by
  have hcnt := (counts_iff (n := k.1.length) (l := done) (fun x hx => rangeI_mem.1 (hp.mem_iff.1 hx))).2 ⟨hp.nodup_iff.2 (rangeI_nodup _), by rw [hp.length_eq, rangeI_length]⟩
  have hsl := hc.ll
  exact loopF (L := L13_23) (fun i => ((room, lorries, vans, e, (i : Int), ()), (k, s, ()), ())) _ 0 s.length (N := N) (by omega)
    (fun N => by
      simp only [L13_23, B13_23]
      rw [dec_f (by omega)]
      rfl)
    (fun N i _ hi => by
      have hg := counted_gd hc (p := (i : Int)) (by omega) (by omega)
      rw [hcnt i (by omega)] at hg
      simp only [L13_23, B13_23]
      rw [dec_t (by omega), cond_true, inR_in (by omega) (by omega), getI_gd (by omega) (by omega), hg, w64 (by omega) (by omega)]
      rfl)

/-! ## Any lorries -/
theorem lwK_congr {W a b : List Int} {u v : Int} : ∀ i, (∀ j : Nat, j < i → (gd a (j : Int) = u ↔ gd b (j : Int) = v)) → lwK W a u i = lwK W b v i
  | 0, _ => rfl
  | i + 1, h => by
    have h1 := h i (by omega)
    show lwK W a u i + _ = lwK W b v i + _
    rw [lwK_congr i (fun j hj => h j (by omega))]
    by_cases e : gd a (i : Int) = u
    · rw [if_pos e, if_pos (h1.1 e)]
    · rw [if_neg e, if_neg (fun e2 => e (h1.2 e2))]
theorem lwK_zero {W : List Int} (hW : WOK W) {c : List Int} {v : Int} : ∀ i, i ≤ W.length → i ≤ c.length → (lwK W c v i = 0 ↔ v ∉ c.take i)
  | 0, _, _ => by simp [lwK]
  | i + 1, h, hc => by
    have ih := lwK_zero hW (c := c) (v := v) i (by omega) (by omega)
    have hb := lwK_bd hW c v i (by omega)
    have hw := hW.2 i (by omega)
    rw [take_nat (by omega), List.mem_append, List.mem_singleton, not_or, ← ih]
    show lwK W c v i + (if gd c (i : Int) = v then gd W (i : Int) else 0) = 0 ↔ _
    by_cases e : gd c (i : Int) = v
    · rw [if_pos e]
      exact ⟨fun h => by omega, fun h => absurd e.symm h.2⟩
    · rw [if_neg e]
      exact ⟨fun h => ⟨by omega, fun e2 => e e2.symm⟩, fun h => by omega⟩
theorem idx_gd {l : List Int} {x : Int} (h : x ∈ l) : l.idxOf x < l.length ∧ gd l ((l.idxOf x : Nat) : Int) = x := by
  have h1 := List.idxOf_lt_length_of_mem h
  exact ⟨h1, gd_of (by rw [List.getElem?_eq_getElem h1, List.getElem_idxOf h1])⟩
theorem asg_names {W : List Int} {room : Int} {lor names : List Int} (hl : lor.length = W.length) (hn : names.Nodup) (hm : ∀ v, v ∈ names ↔ v ∈ lor) (hf : ∀ v ∈ names, lw W lor v ≤ room) : Asg W room names.length (lor.map fun v => ((names.idxOf v : Nat) : Int)) := by
  have hg : ∀ i : Nat, i < lor.length → gd (lor.map fun v => ((names.idxOf v : Nat) : Int)) (i : Int) = ((names.idxOf (gd lor (i : Int)) : Nat) : Int) := fun i hi => gd_of (by rw [List.getElem?_map, gd_nat hi]; rfl)
  refine ⟨by simp [hl], fun i hi => ?_, fun v hv => ?_⟩
  · rw [hg i (by omega)]
    have := (idx_gd ((hm _).2 (gd_mem (l := lor) (i := (i : Int)) (by omega) (by omega)))).1
    omega
  · have hvm : gd names (v : Int) ∈ names := gd_mem (by omega) (by omega)
    have := hf _ hvm
    unfold lw at this ⊢
    rw [List.length_map]
    rw [lwK_congr (b := lor) (v := gd names (v : Int)) lor.length (fun j hj => ?_)]
    · exact this
    · rw [hg j hj]
      have hi := idx_gd ((hm _).2 (gd_mem (l := lor) (i := (j : Int)) (by omega) (by omega)))
      constructor
      · intro h
        rw [← hi.2, h]
      · intro h
        have h1 : names[names.idxOf (gd lor (j : Int))]? = names[v]? := by rw [gd_nat hi.1, gd_nat hv, hi.2, h]
        have := (List.getElem?_inj hi.1 hn).1 h1
        omega
theorem L13_38_q {k : Kit} (hW : WOK (wts k)) (room : Int) {lorries : List Int} (hl : lorries.length = k.1.length) (vans : List (List Int)) (e : Int) {N : Nat} (hN : 1000 < N) :
    ∃ r, L13_38 N ((room, lorries, vans, e, 0, 0, ()), (k, List.replicate (k.1.length + 1) 0, ()), ()) = some r ∧ (r = .inl ((true, ()), (), ()) ∨ ∃ (u : Nat) (c : List Int), r = .inr ((vans, e, (u : Int), ()), (k, ()), ()) ∧ u ≤ k.1.length ∧ Asg (wts k) room u c) := by
  have hn := hW.1
  rw [wts_len] at hn
  exact loop0 (L := L13_38) (fun i (x : List Int × List Int) => ((room, lorries, vans, e, (x.1.length : Int), (i : Int), ()), (k, x.2, ()), ())) (fun i x => x.1.Nodup ∧ x.1.length ≤ i ∧ (∀ v, v ∈ x.1 ↔ v ∈ lorries.take i) ∧ x.2.length = k.1.length + 1 ∧ (∀ v : Nat, v ≤ k.1.length → gd x.2 (v : Int) = lwK (wts k) lorries (v : Int) i) ∧ (∀ v ∈ x.1, lwK (wts k) lorries v i ≤ room)) (fun r => r = .inl ((true, ()), (), ()) ∨ ∃ (u : Nat) (c : List Int), r = .inr ((vans, e, (u : Int), ()), (k, ()), ()) ∧ u ≤ k.1.length ∧ Asg (wts k) room u c) 0 lorries.length (N := N) (s := ([], List.replicate (k.1.length + 1) 0))
    ⟨List.nodup_nil, Nat.le_refl _, fun v => by simp, by simp, fun v hv => by show gd (List.replicate _ (0 : Int)) (v : Int) = 0; rw [gd_replicate (by omega) (by omega)], fun v h => by cases h⟩ (by omega)
    (by
      rintro N ⟨names, T⟩ ⟨h1, h2, h3, h4, h5, h6⟩
      simp only [L13_38, B13_38]
      rw [dec_f (by omega)]
      refine ⟨_, rfl, .inr ⟨names.length, _, rfl, ?_, asg_names (by rw [wts_len]; exact hl) h1 (fun v => by have := h3 v; rwa [List.take_length] at this) h6⟩⟩
      have h2' : names.length ≤ lorries.length := h2
      omega)
    (by
      rintro N i ⟨names, T⟩ - hi ⟨h1, h2, h3, h4, h5, h6⟩
      have h4' : T.length = k.1.length + 1 := h4
      have h2' : names.length ≤ i := h2
      simp only [L13_38, B13_38]
      rw [dec_t (by omega), cond_true, getI_gd (by omega) (by omega)]
      generalize hve : gd lorries (i : Int) = v
      by_cases c1 : v < 0
      · rw [dec_t c1, cond_true, works_eq]
        exact .inr ⟨_, rfl, .inl rfl⟩
      rw [dec_f c1, cond_false]
      by_cases c2 : v ≥ (T.length : Int)
      · rw [dec_t c2, cond_true, works_eq]
        exact .inr ⟨_, rfl, .inl rfl⟩
      rw [dec_f c2, cond_false]
      have hTv : gd T v = lwK (wts k) lorries v i := by
        have := h5 v.toNat (by omega)
        rwa [show ((v.toNat : Nat) : Int) = v by omega] at this
      have hb := lwK_bd hW lorries v i (by rw [wts_len]; omega)
      have hw := hW.2 i (by rw [wts_len]; omega)
      have hwg := wts_gd k (i := i) (by omega)
      have hnew : lwK (wts k) lorries v (i + 1) = gd T v + gd (wts k) (i : Int) := by
        show lwK (wts k) lorries v i + (if gd lorries (i : Int) = v then gd (wts k) (i : Int) else 0) = _
        rw [if_pos hve, hTv]
      have hold : ∀ u : Int, u ≠ v → lwK (wts k) lorries u (i + 1) = lwK (wts k) lorries u i := by
        intro u hu
        show lwK (wts k) lorries u i + (if gd lorries (i : Int) = u then gd (wts k) (i : Int) else 0) = _
        rw [if_neg (by rw [hve]; exact fun h => hu h.symm), Int.add_zero]
      have hT2 : ∀ u : Nat, u ≤ k.1.length → gd (T.set v.toNat (gd T v + gd (wts k) (i : Int))) (u : Int) = lwK (wts k) lorries (u : Int) (i + 1) := by
        intro u hu
        by_cases ee : (u : Int) = v
        · rw [ee, hnew, gd_set_self (by omega) (by omega)]
        · rw [gd_set_ne (by omega) (by omega) ee, hold _ ee]
          exact h5 u hu
      have a1 : ∀ {R : Type} (X : Option R), inR v T.length X = X := fun X => inR_in (by omega) (by omega) X
      have a2 : ∀ {R : Type} (F : Int → Option R), getI T v F = F (gd T v) := fun F => getI_gd (by omega) (by omega) F
      have a3 : ∀ {R : Type} (F : Part → Option R), getI k.1 (i : Int) F = F (gd k.1 (i : Int)) := fun F => getI_gd (by omega) (by omega) F
      have a4 : ∀ (y : Int) {R : Type} (X : Option R), inR v (T.set v.toNat y).length X = X := fun y R X => inR_in (by omega) (by rw [List.length_set]; omega) X
      have a5 : ∀ (y : Int) {R : Type} (F : Int → Option R), getI (T.set v.toNat y) v F = F y := fun y R F => by rw [getI_gd (by omega) (by rw [List.length_set]; omega), gd_set_self (by omega) (by omega)]
      simp only [a1, a2, a3, a4, a5]
      rw [← hwg, w64 (x := gd T v + gd (wts k) (i : Int)) (by omega) (by omega), w64 (x := (i : Int) + 1) (by omega) (by omega), w64 (x := (names.length : Int) + 1) (by omega) (by omega)]
      by_cases c3 : gd T v + gd (wts k) (i : Int) > room
      · rw [dec_t c3, works_eq]
        refine .inr ⟨.inl ((true, ()), (), ()), ?_, .inl rfl⟩
        cases gd T v == 0 <;> rfl
      rw [dec_f c3]
      have hz := lwK_zero hW (c := lorries) (v := v) i (by rw [wts_len]; omega) (by omega)
      by_cases c4 : gd T v = 0
      · have hnm : v ∉ names := fun h => (hz.1 (by omega)) ((h3 v).1 h)
        refine .inl ⟨(names ++ [v], T.set v.toNat (gd T v + gd (wts k) (i : Int))), ⟨?_, ?_, ?_, ?_, hT2, ?_⟩, ?_⟩
        · show (names ++ [v]).Nodup
          rw [List.nodup_append]
          exact ⟨h1, by simp, fun a ha b hb e => by simp at hb; subst hb; subst e; exact hnm ha⟩
        · show (names ++ [v]).length ≤ i + 1
          simp; omega
        · intro u
          show u ∈ names ++ [v] ↔ u ∈ lorries.take (i + 1)
          have := h3 u
          rw [take_nat hi, hve, List.mem_append, List.mem_append]
          exact or_congr this Iff.rfl
        · show (T.set v.toNat _).length = _
          rw [List.length_set]; exact h4
        · intro u hu
          show lwK (wts k) lorries u (i + 1) ≤ room
          by_cases ee : u = v
          · rw [ee, hnew]; omega
          · rw [hold u ee]
            rcases List.mem_append.1 hu with hu | hu
            · exact h6 u hu
            · exact absurd (List.mem_singleton.1 hu) ee
        · rw [show (gd T v == 0) = true by simp [c4], cond_true, cond_false]
          show _ = L13_38 N ((room, lorries, vans, e, ((names ++ [v]).length : Int), ((i + 1 : Nat) : Int), ()), _, ())
          rw [show ((names ++ [v]).length : Int) = (names.length : Int) + 1 by simp]
          rfl
      · have hnm : v ∈ names := by
          rw [h3 v]
          by_cases hh : v ∈ lorries.take i
          · exact hh
          · exact absurd (hz.2 hh) (by omega)
        refine .inl ⟨(names, T.set v.toNat (gd T v + gd (wts k) (i : Int))), ⟨h1, by show names.length ≤ i + 1; omega, ?_, ?_, hT2, ?_⟩, ?_⟩
        · intro u
          show u ∈ names ↔ u ∈ lorries.take (i + 1)
          have := h3 u
          rw [take_nat hi, hve, List.mem_append, List.mem_singleton, ← this]
          exact ⟨.inl, fun h => h.elim id (fun e => by rw [e]; exact hnm)⟩
        · show (T.set v.toNat _).length = _
          rw [List.length_set]; exact h4
        · intro u hu
          show lwK (wts k) lorries u (i + 1) ≤ room
          by_cases ee : u = v
          · rw [ee, hnew]; omega
          · rw [hold u ee]; exact h6 u hu
        · rw [show (gd T v == 0) = false by simp [c4], cond_false, cond_false]
          rfl)
end Go.Proofs.Try.V
