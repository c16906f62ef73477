/- Plain laws of layer 8: BuildLists. No condition beyond those typed in each theorem. -/
import Derived.Test.YtjhphibadndkcaaLw21
namespace Go.Proofs.Try.V
open Go.Vi
set_option maxRecDepth 100000

abbrev all1 (k : Kit) : List Bool := List.replicate k.1.length true
theorem downB_has {k : Kit} {s : List Bool} {p : Int} (h : downB k s p = true) : has s p = true := by
  unfold downB at h
  split at h
  · simp only [Bool.and_eq_true] at h
    exact h.1.1.1
  · cases h
def chkD (k : Kit) (l : List Int) : Int × Int := bif valid k then folE (folGo (downB k) k.1.length 0 l (all1 k)) else (0, 80)
theorem g45_eq (k : Kit) (hk : Small k) (l : List Int) (hl : l.length ≤ 1048576) : g45 (k, l, ()) = some (((chkD k l).1, (chkD k l).2, ()), ()) := by
  have hF : g45 (k, l, ()) = F45 fuel k l := rfl
  rw [hF]
  unfold F45 chkD
  rcases g48_eq k hk with ⟨hv, q, h⟩ | ⟨hv, y, hy, h⟩
  · rw [h, hv]; rfl
  · have hf := fine_of k hv
    have h16 := hf.parts
    rw [h, hv, derefK_some]
    simp only [Bool.not_true, cond_false, cond_true]
    rw [g83_one true k.1.length (by omega), derefK_some, derefK_some]
    rw [g60_eq (n := k.1.length) (b := downB k) (by omega) (fun s p hs h0 hp => by rw [derefK_some, g84_eq hk hf hy hs h0 hp, derefK_some]) y l hl (by simp), derefK_some]
def outG (x : Option Nat × List Bool) : ((Int × Int × Unit) × Unit × Unit) ⊕ (Unit × Unit × Unit) := match x.1 with
  | some j => .inl (((j : Int), 81, ()), (), ())
  | none => .inr ((), (), ())
theorem L46_10_at {k : Kit} (hk : Small k) (hf : Fine k) (l : List Int) (hl : l.length ≤ 1048576) {s : List Bool} (hs : s.length = k.1.length) :
    L46_10 fuel ((l, 0, ()), (k, s, ()), ()) = some (outG (folGo (downB k) k.1.length 0 l s)) := by
  have h16 := hf.parts
  obtain ⟨_, h, rfl⟩ := loop0 (L := L46_10) (fun i (s : List Bool) => ((l, (i : Int), ()), (k, s, ()), ())) (fun i s' => s'.length = k.1.length ∧ folGo (downB k) k.1.length i (l.drop i) s' = folGo (downB k) k.1.length 0 l s) (fun r => r = outG (folGo (downB k) k.1.length 0 l s)) 0 l.length (N := fuel) (s := s) ⟨hs, rfl⟩ (by have := fuel_big; omega)
    (fun N s' ⟨_, e⟩ => ⟨_, by simp only [L46_10, B46_10]; rw [dec_f (by omega)]; rfl, by rw [← e, List.drop_length]; rfl⟩)
    (fun N i s' _ hi ⟨hs', e⟩ => by
      rw [drop_nat hi] at e
      simp only [L46_10, B46_10]
      rw [dec_t (by omega), cond_true, getI_nat (gd_nat hi), getI_nat (gd_nat hi), getI_nat (gd_nat hi)]
      generalize gd l (i : Int) = p at e
      rw [folGo] at e
      rw [g57_eq, derefK_some, w64 (x := (s'.length : Int) - 1) (by omega) (by omega), w64 (x := (i : Int) + 1) (by omega) (by omega), hs']
      simp only
      cases h1 : rng p 0 ((k.1.length : Int) - 1) with
      | false =>
        rw [h1] at e
        exact .inr ⟨_, rfl, by rw [← e]; rfl⟩
      | true =>
      have h1' := rng_in.1 h1
      rw [h1, Bool.true_and] at e
      rw [Bool.not_true, cond_false, g85_eq hk hf hs' h1'.1 h1'.2, derefK_some]
      cases h2 : downB k s' p with
      | false =>
        rw [h2] at e
        exact .inr ⟨_, rfl, by rw [← e]; rfl⟩
      | true =>
        rw [h2, cond_true, downB_has h2] at e
        refine .inl ⟨s'.set p.toNat false, ⟨by simp [hs'], e⟩, ?_⟩
        rw [Bool.not_true, cond_false, inR_in h1'.1 h1'.2, getI_has h1'.1 (by omega)]
        rfl)
  exact h
theorem L44_6_at {k : Kit} (hk : Small k) (hf : Fine k) (l : List Int) (hl : l.length ≤ 1048576) {s : List Bool} (hs : s.length = k.1.length) :
    L44_6 fuel ((l, 0, ()), (k, s, ()), ()) = some (outG (folGo (canB k) k.1.length 0 l s)) := by
  have h16 := hf.parts
  obtain ⟨_, h, rfl⟩ := loop0 (L := L44_6) (fun i (s : List Bool) => ((l, (i : Int), ()), (k, s, ()), ())) (fun i s' => s'.length = k.1.length ∧ folGo (canB k) k.1.length i (l.drop i) s' = folGo (canB k) k.1.length 0 l s) (fun r => r = outG (folGo (canB k) k.1.length 0 l s)) 0 l.length (N := fuel) (s := s) ⟨hs, rfl⟩ (by have := fuel_big; omega)
    (fun N s' ⟨_, e⟩ => ⟨_, by simp only [L44_6, B44_6]; rw [dec_f (by omega)]; rfl, by rw [← e, List.drop_length]; rfl⟩)
    (fun N i s' _ hi ⟨hs', e⟩ => by
      rw [drop_nat hi] at e
      simp only [L44_6, B44_6]
      rw [dec_t (by omega), cond_true, getI_nat (gd_nat hi), getI_nat (gd_nat hi), getI_nat (gd_nat hi)]
      generalize gd l (i : Int) = p at e
      rw [folGo] at e
      rw [g57_eq, derefK_some, w64 (x := (s'.length : Int) - 1) (by omega) (by omega), w64 (x := (i : Int) + 1) (by omega) (by omega), hs']
      simp only
      cases h1 : rng p 0 ((k.1.length : Int) - 1) with
      | false =>
        rw [h1] at e
        exact .inr ⟨_, rfl, by rw [← e]; rfl⟩
      | true =>
      have h1' := rng_in.1 h1
      rw [h1, Bool.true_and] at e
      rw [Bool.not_true, cond_false, g58_eq hk hf hs' h1'.1 h1'.2, derefK_some]
      cases h2 : canB k s' p with
      | false =>
        rw [h2] at e
        exact .inr ⟨_, rfl, by rw [← e]; rfl⟩
      | true =>
        rw [h2, cond_true, canB_has h2] at e
        refine .inl ⟨s'.set p.toNat true, ⟨by simp [hs'], e⟩, ?_⟩
        rw [Bool.not_true, cond_false, inR_in h1'.1 h1'.2, getI_has h1'.1 (by omega)]
        rfl)
  exact h
theorem g44_eq (k : Kit) (hk : Small k) (l : List Int) (hl : l.length ≤ 1048576) : g44 (k, l, ()) = some (((chkR k l).1, (chkR k l).2, ()), ()) := by
  have hF : g44 (k, l, ()) = F44 fuel k l := rfl
  rw [hF]
  unfold F44 chkR
  rw [g33_eq k hk, derefK_some]
  cases hv : valid k with
  | false => rfl
  | true =>
  have hf := fine_of k hv
  have h16 := hf.parts
  simp only [cond_true]
  show cond ((0 : Int) != 0) _ _ = _
  rw [show ((0 : Int) != 0) = false by rfl, cond_false, leK_in (by omega), leK_in (by omega), lenK_in (by omega) (by omega), Int.toNat_natCast, L44_6_at hk hf l hl (by simp), derefK_some]
  unfold outG folE
  cases (folGo (canB k) k.1.length 0 l (none0 k)).1 <;> rfl
theorem g46_eq (k : Kit) (hk : Small k) (l : List Int) (hl : l.length ≤ 1048576) : g46 (k, l, ()) = some (((chkD k l).1, (chkD k l).2, ()), ()) := by
  have hF : g46 (k, l, ()) = F46 fuel k l := rfl
  rw [hF]
  unfold F46 chkD
  rw [g33_eq k hk, derefK_some]
  cases hv : valid k with
  | false => rfl
  | true =>
  have hf := fine_of k hv
  have h16 := hf.parts
  simp only [cond_true]
  show cond ((0 : Int) != 0) _ _ = _
  have e := loopF (L := L46_6) (fun i => ((l, (i : Int), ()), (k, List.replicate i true ++ List.replicate (k.1.length - i) false, ()), ())) ((l, ()), (k, all1 k, ()), ()) 0 k.1.length (N := fuel) (by have := fuel_big; omega)
    (fun N => by
      simp only [L46_6, B46_6]
      rw [dec_f (by simp)]
      simp)
    (fun N i _ hi => by
      have hlen : (List.replicate i true ++ List.replicate (k.1.length - i) false).length = k.1.length := by simp; omega
      simp only [L46_6, B46_6]
      rw [dec_t (by omega), cond_true, inR_in (by omega) (by omega), getI_has (by omega) (by omega), w64 (by omega) (by omega), Int.toNat_natCast]
      have : (List.replicate i true ++ List.replicate (k.1.length - i) false).set i true = List.replicate (i + 1) true ++ List.replicate (k.1.length - (i + 1)) false := by
        rw [List.set_append_right _ _ (by simp), List.length_replicate, Nat.sub_self, show k.1.length - i = (k.1.length - (i + 1)) + 1 by omega, List.replicate_succ, List.set_cons_zero, List.replicate_succ' (n := i), List.append_assoc]
        rfl
      rw [this]
      rfl)
  have e' : L46_6 fuel ((l, 0, ()), (k, List.replicate k.1.length false, ()), ()) = _ := e
  rw [show ((0 : Int) != 0) = false by rfl, cond_false, leK_in (by omega), leK_in (by omega), lenK_in (by omega) (by omega), Int.toNat_natCast, e', derefK_some]
  dsimp only
  rw [L46_10_at hk hf l hl (by simp), derefK_some]
  unfold outG folE
  cases (folGo (downB k) k.1.length 0 l (all1 k)).1 <;> rfl
theorem law14 (k : Kit) (hk : Small k) (l : List Int) : g14 (k, l, ()) = some ((true, ()), ()) := by
  have hF : g14 (k, l, ()) = F14 fuel k l := rfl
  rw [hF]
  unfold F14
  rw [works_eq]
  simp only [derefK_some]
  by_cases h : (l.length : Int) > 100
  · rw [dec_t h]; rfl
  rw [dec_f h, cond_false, g26_eq k hk l (by omega), derefK_some, g44_eq k hk l (by omega), derefK_some, g45_eq k hk l (by omega), derefK_some, g46_eq k hk l (by omega), derefK_some]
  simp only [bne_self_eq_false, beq_self_eq_true, cond_false, cond_true]
end Go.Proofs.Try.V
