/- Plain laws of layer 8 (for buildStands). No condition beyond those typed in each theorem. -/
import Derived.Test.YtjhphibadndkcaaLw16
namespace Go.Proofs.Try.V
open Go.Vi
set_option maxRecDepth 100000

theorem has_set_mono {s : List Bool} {m : Nat} {q : Int} (h : has s q = true) : has (s.set m true) q = true := by
  unfold has at *
  rw [List.getD_eq_getElem?_getD] at *
  rw [List.getElem?_set]
  split
  · rename_i e
    split
    · rfl
    · rename_i hl
      rw [← e, List.getElem?_eq_none (by omega)] at h
      cases h
  · exact h
theorem canB_needs {k : Kit} {s : List Bool} {p : Int} (h : canB k s p = true) : (needsOf k p).all (has s) = true := by
  unfold canB at h
  unfold needsOf
  cases e : k.1[p.toNat]? with
  | none => rfl
  | some q =>
    rw [e] at h
    simp only [Bool.and_eq_true] at h
    exact h.1.1.2
def NeedsOK (k : Kit) (s : List Bool) : Prop := ∀ q : Int, 0 ≤ q → q < k.1.length → has s q = true → (needsOf k q).all (has s) = true
theorem NeedsOK.put {k : Kit} {s : List Bool} (hs : s.length = k.1.length) (h : NeedsOK k s) {p : Int} (h0 : 0 ≤ p) (hp : p < k.1.length) (hc : canB k s p = true) : NeedsOK k (s.set p.toNat true) := by
  intro q q0 hq hh
  rw [has_set_up h0 q0 (by omega), Bool.or_eq_true, decide_eq_true_eq] at hh
  have key : (needsOf k q).all (has s) = true := by
    rcases hh with hh | rfl
    · exact h q q0 hq hh
    · exact canB_needs hc
  rw [List.all_eq_true] at *
  exact fun x hx => has_set_mono (key x hx)
theorem errS_ok {k : Kit} {s : List Bool} (hv : valid k = true) (hs : s.length = k.1.length) : errS k s = 0 := by
  unfold errS
  rw [hv, dec_t hs]
  rfl
theorem falls_nil {k : Kit} {s : List Bool} (h : NeedsOK k s) : fallsR k s = [] := by
  unfold fallsR
  cases errS k s == 0 with
  | false => rfl
  | true =>
    rw [cond_true, List.filter_eq_nil_iff]
    intro p hp
    have hp' := rangeI_mem.1 hp
    unfold fallsB
    cases e : has s p with
    | false => simp
    | true => rw [h p hp'.1 hp'.2 e]; simp

theorem L10_16_eq' (k : Kit) (order could can : List Int) (i : Int) (s : List Bool) (hc : could.length ≤ 1048576) (hcl : can.length ≤ 1048576) (hs : s.length = k.1.length) (hok : ∀ q ∈ could, 0 ≤ q ∧ q < k.1.length ∧ (has s q = true ∨ q ∈ can)) {N : Nat} (hN : could.length + 0 < N) :
    L10_16 N ((order, could, i, 0, ()), (k, s, can, ()), ()) = some (.inr ((order, i, ()), (k, s, can, ()), ())) :=
  loopF (L := L10_16) (fun j => ((order, could, i, (j : Int), ()), (k, s, can, ()), ())) (.inr ((order, i, ()), (k, s, can, ()), ())) 0 could.length hN
    (fun N => by
      simp only [L10_16, B10_16]
      rw [dec_f (by omega)]
      rfl)
    (fun N j _ hj => by
      obtain ⟨h0, hq, hor⟩ := hok _ (gd_mem (l := could) (i := (j : Int)) (by omega) (by omega))
      simp only [L10_16, B10_16]
      simp only [dec_t (show (j : Int) < (could.length : Int) by omega), cond_true, getI_nat (gd_nat hj)]
      rw [dec_f (by omega), cond_false, dec_f (by omega), cond_false, inR_in h0 (by omega), getI_has h0 (by omega), w64 (by omega) (by omega)]
      cases hh : has s (gd could (j : Int)) with
      | true => rfl
      | false =>
        rw [hh] at hor
        rcases hor with h | h
        · cases h
        · rw [Bool.not_false, cond_true, g27_eq _ _ hcl, derefK_some, dec_t h]
          rfl)

theorem canR_mem {k : Kit} {s : List Bool} (hv : valid k = true) (hs : s.length = k.1.length) {q : Int} : q ∈ canR k s ↔ (0 ≤ q ∧ q < k.1.length) ∧ canB k s q = true := by
  unfold canR
  rw [errS_ok hv hs]
  simp only [beq_self_eq_true, cond_true, List.mem_filter, rangeI_mem]
theorem none0_needs (k : Kit) : NeedsOK k (none0 k) := fun q _ _ h => by rw [none0_has] at h; cases h
theorem L10_9_eq' {k : Kit} (hk : Small k) (hv : valid k = true) (order : List Int) (hl : order.length ≤ 1048576) (ho : ordB k (none0 k) order = true) {N : Nat} (hN : order.length + 1 + 1048577 < N) :
    L10_9 N ((order, [], 0, ()), (k, none0 k, ()), ()) = some (.inr ((), (), ())) := by
  have hf := fine_of k hv
  have h16 := hf.parts
  obtain ⟨_, h, rfl⟩ := loop0 (L := L10_9) (fun i (x : List Int × List Bool) => ((order, x.1, (i : Int), ()), (k, x.2, ()), ())) (fun i x => x.2 = goS (order.take i) (none0 k) ∧ NeedsOK k x.2 ∧ x.1.length ≤ 1048576 ∧ ∀ q ∈ x.1, 0 ≤ q ∧ q < k.1.length ∧ (has x.2 q = true ∨ canB k x.2 q = true)) (fun r => r = .inr ((), (), ())) 1048577 (order.length + 1) (s := ([], none0 k)) ⟨rfl, none0_needs k, by simp, by simp⟩ hN
    (by
      rintro N x -
      simp only [L10_9, B10_9]
      rw [dec_f (by omega)]
      exact ⟨_, rfl, rfl⟩)
    (by
      rintro N i ⟨could, s⟩ hN hi ⟨hs, hne, hcl, hco⟩
      dsimp only at hs hne hcl hco
      have hsl : s.length = k.1.length := by rw [hs, goS_len]; simp
      have hcan : (canR k s).length ≤ 1048576 := filter_len k hk _ _
      simp only [L10_9, B10_9]
      rw [dec_t (by omega), cond_true, g36_eq k hk, g34_eq k hk, derefK_some, derefK_some, errS_ok hv hsl, falls_nil hne]
      simp only [bne_self_eq_false, cond_false, List.length_nil]
      rw [dec_f (by omega), cond_false, L10_16_eq' k order could (canR k s) (i : Int) s hcl hcan hsl (fun q hq => by
        obtain ⟨h1, h2, h3⟩ := hco q hq
        exact ⟨h1, h2, h3.imp id (fun h => (canR_mem hv hsl).2 ⟨⟨h1, h2⟩, h⟩)⟩) (by omega), derefK_some, sumK_inr]
      simp only
      by_cases hlt : i < order.length
      · have ho' := ho
        rw [← List.take_append_drop i order, ordB_app, drop_nat hlt, ← hs] at ho'
        simp only [ordB, Bool.and_eq_true] at ho'
        have hp := rng_in.1 ho'.2.1.1
        have hcp := ho'.2.1.2
        simp only [dec_t (show (i : Int) < (order.length : Int) by omega), cond_true, getI_nat (gd_nat hlt)]
        rw [take_nat hlt, goS_app, ← hs, goS, goS]
        generalize gd order (i : Int) = p at hp hcp ⊢
        rw [dec_f (by omega), cond_false, dec_f (by omega), cond_false, g27_eq _ _ hcan, derefK_some, dec_t ((canR_mem hv hsl).2 ⟨hp, hcp⟩)]
        simp only [Bool.not_true, cond_false]
        rw [inR_in hp.1 (by omega), getI_has hp.1 (by omega), w64 (by omega) (by omega)]
        refine .inl ⟨(canR k s, s.set p.toNat true), ⟨rfl, hne.put hsl hp.1 hp.2 hcp, hcan, fun q hq => ?_⟩, rfl⟩
        obtain ⟨⟨q0, hq0⟩, hcq⟩ := (canR_mem hv hsl).1 hq
        refine ⟨q0, hq0, ?_⟩
        cases hh : has (s.set p.toNat true) q with
        | true => exact .inl rfl
        | false => exact .inr (canB_mono (fun z hz => has_set_mono hz) hh hcq)
      · rw [dec_f (by omega), cond_false, w64 (by omega) (by omega)]
        refine .inl ⟨(canR k s, s), ⟨?_, hne, hcan, fun q hq => ?_⟩, rfl⟩
        · rw [hs, List.take_of_length_le (by omega), List.take_of_length_le (by omega)]
        · obtain ⟨⟨q0, hq0⟩, hcq⟩ := (canR_mem hv hsl).1 hq
          exact ⟨q0, hq0, .inr hcq⟩)
  exact h
theorem law10 (k : Kit) (hk : Small k) (l : List Int) (hl : l.length ≤ 1048576) : g10 (k, l, ()) = some ((true, ()), ()) := by
  have hF : g10 (k, l, ()) = F10 fuel k l := rfl
  have hfu := fuel_big
  have hkp := hk.parts
  rw [hF]
  unfold F10
  cases decide ((l.length : Int) > 16) with
  | true => rw [cond_true, works_eq]; rfl
  | false =>
    rw [cond_false, g26_eq k hk l hl, derefK_some]
    simp only
    cases hc : (chkR k l).2 != 0 with
    | true => rw [cond_true, works_eq]; rfl
    | false =>
      obtain ⟨hv, hob⟩ := chkR_ok.1 hc
      rw [cond_false, leK_in (by omega), leK_in (by omega), lenK_in (by omega) (by omega), Int.toNat_natCast, L10_9_eq' hk hv l hl hob (by omega), derefK_some, sumK_inr, works_eq]
      rfl
end Go.Proofs.Try.V
