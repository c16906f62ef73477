/- Plain laws of layer 8, twenty-eighth part: the law BuildLoads. No condition beyond those typed in each theorem. -/
import Derived.Test.YtjhphibadndkcaaLw27
namespace Go.Proofs.Try.V
open Go.Vi
set_option maxRecDepth 100000

inductive PackedAs (k : Kit) (room : Int) : Prop
  | other (h0 : (pckR k room).2 ≠ 0) (h3 : (pckR k room).2 ≠ 3)
  | none (hv : valid k = true) (hn : k.1.length ≤ 8) (h : (pckR k room).2 = 3) (hc : (ordA k).length < k.1.length ∨ fst (wts k) room (k.1.length + 1) 0 = none)
  | some (hv : valid k = true) (hn : k.1.length ≤ 8) (h : (pckR k room).2 = 0) (hl : ¬ (ordA k).length < k.1.length) (M : Nat) (l : List Int) (hM : M ≤ k.1.length) (ho : (pckR k room).1 = outP (ordA k) (M, l)) (ha : Asg (wts k) room M l) (hmin : ∀ u, u < M → srch (wts k) room u (wts k).length [] = .none)
theorem packedAs (k : Kit) (room : Int) : PackedAs k room := by
  by_cases hv : valid k = true
  case neg => exact .other (by unfold pckR; rw [if_neg hv]; decide) (by unfold pckR; rw [if_neg hv]; decide)
  by_cases hr : rng room 1 1000000 = true
  case neg => exact .other (by unfold pckR; rw [if_pos hv, if_neg hr]; decide) (by unfold pckR; rw [if_pos hv, if_neg hr]; decide)
  by_cases h8 : k.1.length ≤ 8
  case neg => exact .other (by unfold pckR; rw [if_pos hv, if_pos hr, if_neg h8]; decide) (by unfold pckR; rw [if_pos hv, if_pos hr, if_neg h8]; decide)
  by_cases hl : (ordA k).length < k.1.length
  case pos => exact .none hv h8 (by unfold pckR; rw [if_pos hv, if_pos hr, if_pos h8, if_pos hl]) (.inl hl)
  have hroom : 0 ≤ room := by
    unfold rng at hr
    rw [Bool.and_eq_true, decide_eq_true_eq, decide_eq_true_eq] at hr
    omega
  cases hs : fst (wts k) room (k.1.length + 1) 0 with
  | none => exact .none hv h8 (by unfold pckR; rw [if_pos hv, if_pos hr, if_pos h8, if_neg hl, hs]) (.inr hs)
  | some x =>
    obtain ⟨M, l⟩ := x
    obtain ⟨_, h2, h3, h4⟩ := fst_some hs
    exact .some hv h8 (by unfold pckR; rw [if_pos hv, if_pos hr, if_pos h8, if_neg hl, hs]) hl M l (by omega) (by unfold pckR; rw [if_pos hv, if_pos hr, if_pos h8, if_neg hl, hs]) (srch_asg hroom h3) (fun u hu => h4 u (by omega) hu)
theorem law13 (k : Kit) (hk : Small k) (room : Int) (lorries : List Int) (hll : lorries.length ≤ 1048576) : g13 (k, room, lorries, ()) = some ((true, ()), ()) := by
  show F13 fuel k room lorries = _
  unfold F13
  cases h8 : ((k.1.length : Int) == 8) with
  | true => rw [works_eq]; rfl
  | false =>
  have hne8 : (k.1.length : Int) ≠ 8 := beq_eq_false_iff_ne.1 h8
  have hkp := hk.parts
  have hfu := fuel_big
  rw [cond_false, g40_eq k hk, derefK_some]
  rcases packedAs k room with ⟨h0, h3⟩ | ⟨hv, hn, h, hc⟩ | ⟨hv, hn, h, hl, M, l, hM, ho, ha, hmin⟩
  · show cond ((pckR k room).2 != 0) (cond ((pckR k room).2 != 3) _ _) _ = _
    rw [show ((pckR k room).2 != 0) = true by simp [h0], show ((pckR k room).2 != 3) = true by simp [h3], cond_true, cond_true, works_eq]
    rfl
  · have hf := fine_of k hv
    have hW := wok_of hf
    simp only [h]
    simp only [show ((3 : Int) != 0) = true from rfl, show ((3 : Int) != 3) = false from rfl, show ((3 : Int) == 0) = false from rfl, cond_true, cond_false, derefK_some]
    by_cases hlen : (lorries.length : Int) = (k.1.length : Int)
    case neg =>
      rw [show ((lorries.length : Int) != (k.1.length : Int)) = true by simp only [bne_iff_ne]; exact hlen, cond_true, works_eq]
      rfl
    rw [show ((lorries.length : Int) != (k.1.length : Int)) = false by simp only [bne_eq_false_iff_eq]; exact hlen, cond_false]
    have hrep : IntKind.wrap .i64 ((k.1.length : Int) + 1) = ((k.1.length + 1 : Nat) : Int) := by rw [w64 (by omega) (by omega)]; omega
    rw [hrep, leK_in (by omega), leK_in (by omega), lenK_in (by omega) (by omega), Int.toNat_natCast]
    obtain ⟨r, e38, hr⟩ := L13_38_q hW room (lorries := lorries) (by omega) (pckR k room).1 3 (N := fuel) (by omega)
    rw [e38, derefK_some]
    rcases hr with rfl | ⟨u, c, rfl, hu, hasg⟩
    · rfl
    · rw [sumK_inr]
      have hcc : (ordA k).length < k.1.length := by
        rcases hc with hc | hc
        · exact hc
        · exact absurd (fst_none hc u (by omega) (by omega)) (srch_nil hW hasg)
      simp only [show ((3 : Int) != 0) = true from rfl, cond_true]
      rw [g43_eq hkp, derefK_some]
      simp only [alv_len]
      by_cases h6 : (k.1.length : Int) > 6
      · rw [dec_t h6, cond_true, works_eq]; rfl
      · rw [dec_f h6, cond_false, g16_eq _ (alK_small hk hf), derefK_some]
        rcases orderR_cases (alK k) with ⟨hv', _⟩ | ⟨_, _, ho⟩ | ⟨_, hfull, _⟩
        · exfalso
          have hval : valid (alK k) = true := by
            have h' := hv
            unfold valid at h' ⊢
            simp only [Bool.and_eq_true, decide_eq_true_eq] at h' ⊢
            have hfl : (alK k).2.2.flatten = rangeI k.1.length := alv_flat _
            refine ⟨⟨⟨⟨⟨h'.1.1.1.1.1, ?_⟩, h'.1.1.1.2⟩, h'.1.1.2⟩, ?_⟩, ?_⟩
            · show (alv k.1.length).length ≤ 6
              rw [alv_len]; omega
            · rw [hfl]
              exact (goodFrom_iff _ _ _).2 ⟨fun x hx => rangeI_mem.1 hx, rangeI_nodup _, fun x _ h => by cases h⟩
            · rw [hfl, rangeI_length]
          rw [hval] at hv'
          cases hv'
        · rw [ho]
          simp only [show ((3 : Int) == 3) = true from rfl, cond_true]
          rw [works_eq]
          rfl
        · exfalso
          have : (ordA k).length = k.1.length := hfull
          omega
  · have hf := fine_of k hv
    have hW := wok_of hf
    have h16 := hf.parts
    have hP := packed_of hf ha hl
    have hvl : (outP (ordA k) (M, l)).length = M := by
      show (goOut l (ordA k).reverse (List.replicate M [])).length = M
      rw [goOut_len, List.length_replicate]
    simp only [h, ho]
    simp only [show ((0 : Int) != 0) = false from rfl, show ((0 : Int) == 0) = true from rfl, cond_true, cond_false]
    generalize outP (ordA k) (M, l) = vans at hP hvl
    rw [leK_in (by omega), leK_in (by omega), lenK_in (by omega) (by omega), Int.toNat_natCast]
    obtain ⟨_, e9, s', rfl, hcnt⟩ := L13_9_q hW lorries hP (by omega) 0 (N := fuel) (by omega)
    rw [e9, derefK_some, sumK_inr]
    simp only
    rw [L13_23_q h16 room lorries vans 0 hP.perm hcnt (N := fuel) (by omega), derefK_some, sumK_inr]
    simp only
    have hrep : IntKind.wrap .i64 ((k.1.length : Int) + 1) = ((k.1.length + 1 : Nat) : Int) := by rw [w64 (by omega) (by omega)]; omega
    have hrest : cond ((lorries.length : Int) != (k.1.length : Int)) (derefK (g21 ()) fun y21 => some ((y21.1.1, ()), ())) (leK 0 (IntKind.wrap .i64 ((k.1.length : Int) + 1)) (leK (IntKind.wrap .i64 ((k.1.length : Int) + 1)) (IntKind.wrap .i64 ((k.1.length : Int) + 1)) (lenK (IntKind.wrap .i64 ((k.1.length : Int) + 1)) (derefK (L13_38 fuel ((room, lorries, vans, 0, 0, 0, ()), (k, (List.replicate (IntKind.wrap .i64 ((k.1.length : Int) + 1)).toNat (0 : Int)), ()), ())) fun o36 => sumK o36 (fun d37 => some ((d37.1.1, ()), ())) (fun d38 => cond (d38.1.2.1 != 0) (derefK (g43 (d38.2.1.1, ())) fun y39 => cond (decide ((y39.1.1.2.2.length : Int) > 6)) (derefK (g21 ()) fun y40 => some ((y40.1.1, ()), ())) (derefK (g16 (y39.1.1, ())) fun y41 => cond (y41.1.2.1 == 3) (derefK (g21 ()) fun y42 => some ((y42.1.1, ()), ())) (some ((false, ()), ())))) (cond (decide (d38.1.2.2.1 ≥ (d38.1.1.length : Int))) (derefK (g21 ()) fun y43 => some ((y43.1.1, ()), ())) (some ((false, ()), ())))))))) = some ((true, ()), ()) := by
      by_cases hlen : (lorries.length : Int) = (k.1.length : Int)
      case neg =>
        rw [show ((lorries.length : Int) != (k.1.length : Int)) = true by simp only [bne_iff_ne]; exact hlen, cond_true, works_eq]
        rfl
      rw [show ((lorries.length : Int) != (k.1.length : Int)) = false by simp only [bne_eq_false_iff_eq]; exact hlen, cond_false]
      rw [hrep, leK_in (by omega), leK_in (by omega), lenK_in (by omega) (by omega), Int.toNat_natCast]
      obtain ⟨r, e38, hr⟩ := L13_38_q hW room (lorries := lorries) (by omega) vans 0 (N := fuel) (by omega)
      rw [e38, derefK_some]
      rcases hr with rfl | ⟨u, c, rfl, hu, hasg⟩
      · rfl
      · rw [sumK_inr]
        simp only [show ((0 : Int) != 0) = false from rfl, cond_false]
        have : M ≤ u := by
          rcases Nat.lt_or_ge u M with hlt | hge
          · exact absurd (hmin u hlt) (srch_nil hW hasg)
          · exact hge
        rw [dec_t (by omega), cond_true, works_eq]
        rfl
    by_cases h6 : (vans.length : Int) ≤ 6
    · rw [dec_t h6, cond_true]
      have hsm := ldK_small hk hf hP (by omega)
      have hor := ldK_order hv hP (by omega) hl
      refine (derefK_of (g16_eq (ldK k vans) hsm) _).trans ?_
      show cond ((orderR (ldK k vans)).2 != 0) _ _ = _
      rw [hor, show ((0 : Int) != 0) = false from rfl, cond_false]
      exact hrest
    · rw [dec_f h6, cond_false]
      exact hrest
end Go.Proofs.Try.V
