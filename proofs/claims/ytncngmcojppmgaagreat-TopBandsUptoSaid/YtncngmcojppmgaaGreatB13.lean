/- An evening's queues, plain: the law. No condition beyond those typed in each theorem. -/
import Derived.Test.YtncngmcojppmgaaGreatB11
import Derived.Test.YtncngmcojppmgaaGreatB12
namespace Go.Proofs.Tryz.V.Bd
open Go.Vi
open L01 (j9 qK qbQ)
set_option maxRecDepth 100000
theorem gd_app_r {α : Type} [Inhabited α] {a b : List α} {j : Nat} (h : a.length ≤ j) : gd (a ++ b) (j : Int) = gd b ((j - a.length : Nat) : Int) := by
 unfold gd
 rw [List.getD_eq_getElem?_getD, List.getD_eq_getElem?_getD, show ((j : Int)).toNat = j by omega, show (((j - a.length : Nat) : Int)).toNat = j - a.length by omega, List.getElem?_append_right h]
def qb3 (R : List Rd) (G : List Gp) (v : Vis) : Dl := (v.2.2.2.2.2, 2, v.1, v.2.2.1, min 1000 (IntKind.wrap .i64 ((gd R v.2.2.1).2.1 * (gd G v.1).2.1)))
def qea (v : Vis) : Bool := v.2.2.2.1
theorem rideD_ok {R : List Rd} {G : List Gp} {v : Vis} (hR : ∀ b ∈ R, rdOK b = true) (hG : ∀ x ∈ G, qhi R.length x = true)
  (hv : 0 ≤ v.1 ∧ v.1 < G.length ∧ 0 ≤ v.2.2.1 ∧ v.2.2.1 < R.length ∧ 0 ≤ v.2.2.2.2.2) (ht : v.2.2.2.2.2 < 1440) : RdD G.length R.length (qb3 R G v) := by
 obtain ⟨a, b, c, d, e⟩ := hv
 refine ⟨e, ht, rfl, a, b, c, d, ?_⟩
 have h1 := hR _ (jF c d)
 have h2 := hG _ (jF a b)
 unfold rdOK at h1
 unfold qhi at h2
 simp only [Bool.and_eq_true] at h1 h2
 have h1 := qK.1 h1.2.1
 have h2 := qK.1 h2.2.1
 have h3 : 0 ≤ (gd R v.2.2.1).2.1 * (gd G v.1).2.1 := Int.mul_nonneg h1.1 (by omega)
 have h4 : (gd R v.2.2.1).2.1 * (gd G v.1).2.1 ≤ 100 * 40 := Int.mul_le_mul h1.2 h2.2 (by omega) (by omega)
 show j9 (min 1000 (IntKind.wrap .i64 ((gd R v.2.2.1).2.1 * (gd G v.1).2.1))) 0 1000 = true
 rw [wI (by omega) (by omega)]
 exact qK.2 ⟨by omega, by omega⟩
theorem deals_ok {R : List Rd} {G : List Gp} {vs : List Vis} (hR : ∀ b ∈ R, rdOK b = true) (hG : ∀ x ∈ G, qhi R.length x = true) (hv : VOK G R.length vs) (ht : ∀ v ∈ vs, qea v = true → v.2.2.2.2.2 < 1440) :
  DOK G.length R.length ((List.range G.length).map qem ++ (vs.filter qea).map (qb3 R G)) := by
 have hl : ((List.range G.length).map qem).length = G.length := by simp
 have hr : ∀ {j : Nat}, G.length ≤ j → gd ((List.range G.length).map qem ++ (vs.filter qea).map (qb3 R G)) (j : Int) = gd ((vs.filter qea).map (qb3 R G)) ((j - G.length : Nat) : Int) := fun {j} hj => by
  rw [gd_app_r (by omega), hl]
 have hup : ((vs.filter qea).map (qb3 R G)).Pairwise fun a b => a.1 ≤ b.1 := List.pairwise_map.2 (hv.up.filter _)
 refine ⟨by rw [List.length_append, hl]; omega, fun j hj => ?_, fun j hj hj2 => ?_, fun j hj hj2 => ?_⟩
 ·rw [gd_app_l (by omega) (by omega)]
  exact qco (by rw [List.getElem?_map, List.getElem?_range hj]; rfl)
 ·rw [List.length_append, hl] at hj2
  rw [hr hj]
  have := jF (l := (vs.filter qea).map (qb3 R G)) (i := ((j - G.length : Nat) : Int)) (by omega) (by omega)
  obtain ⟨v, hm, e⟩ := List.mem_map.1 this
  rw [← e]
  have hm := List.mem_filter.1 hm
  exact rideD_ok hR hG (hv.all v hm.1) (ht v hm.1 hm.2)
 ·rw [List.length_append, hl] at hj2
  rw [hr hj, hr (by omega)]
  have h1 := qdG (l := (vs.filter qea).map (qb3 R G)) (i := j - G.length) (by omega)
  have h2 := qdG (l := (vs.filter qea).map (qb3 R G)) (i := j + 1 - G.length) (by omega)
  obtain ⟨q1, h1⟩ := List.getElem?_eq_some_iff.1 h1
  obtain ⟨q2, h2⟩ := List.getElem?_eq_some_iff.1 h2
  rw [← h1, ← h2]
  exact List.pairwise_iff_getElem.1 hup _ _ q1 q2 (by omega)
theorem qlp : g5 () = some ((true, ()), ()) := by
 show F5 qi = _
 unfold F5
 have e := L01.buyT
 unfold L01.exT at e
 rw [qY, e, qb]
 show qa (g11 ([1, 1], [1, 1], ())) _ = _
 rw [L01.root01]
 rfl
theorem g10_eq (n : Nat) (hn : n ≤ 1000) : g10 (List.replicate n (0 : Int), ()) = some ((true, ()), ()) := by
 show F10 qi _ = _
 unfold F10
 have h := qbQ (L := L10_2) (fun i => ((List.replicate n (0 : Int), (i : Int), ()), (), ())) (List.replicate n (0 : Int)) (fun x => x != 0) (fun _ => .inl ((false, ()), (), ())) (.inr ((), (), ())) 0 (N := qi) (qbw (by rw [List.length_replicate]; omega))
  (fun N => by simp [L10_2, B10_2])
  (fun N i _ hi => by
   have hi' : i < n := by rwa [List.length_replicate] at hi
   simp only [L10_2, B10_2]
   rw [qX (by omega), cond_true, qp (by omega) (by omega), wI (by omega) (by omega)]
   cases (gd (List.replicate n (0 : Int)) (i : Int)) != 0 <;> rfl)
 have h' : L10_2 qi ((List.replicate n (0 : Int), 0, ()), (), ()) = _ := h
 have e : (List.replicate n (0 : Int)).findIdx? (fun x => x != 0) = none := by
  rw [List.findIdx?_eq_none_iff]
  intro x hx
  rw [(List.mem_replicate.1 hx).2]; rfl
 rw [h', e, qb]
 rfl
theorem loop9 (l : List Gp) (p : Int) (f : (List Rd) × Int) (z : L01.Fair) (vs : List Vis) (hl : l.length ≤ 1000) : ∀ (m k N0 : Nat), l.length = k + m → m < N0 →
  L3_9 N0 ((l, p, f, (k : Int), ()), (z, (List.range k).map qem, vs, ()), ()) = some ((l, p, f, ()), (z, (List.range l.length).map qem, vs, ()), ())
 | 0, k, N0, hk, hN => by
  obtain ⟨q, rfl⟩ : ∃ q, N0 = q + 1 := ⟨N0 - 1, by omega⟩
  simp only [L3_9, B3_9]
  rw [jC (by omega), cond_false, show l.length = k by omega]
 | m + 1, k, N0, hk, hN => by
  obtain ⟨q, rfl⟩ : ∃ q, N0 = q + 1 := ⟨N0 - 1, by omega⟩
  rw [← loop9 l p f z vs hl m (k + 1) q (by omega) (by omega)]
  simp only [L3_9, B3_9]
  rw [qX (by omega), cond_true, jR (by simp only [List.length_singleton]; omega) (by simp only [List.length_singleton, List.length_map, List.length_range]; omega), jE (by omega), List.range_succ, List.map_append]
  rfl
theorem loop13 (l : List Gp) (p : Int) (f : (List Rd) × Int) (z : L01.Fair) (vs : List Vis) (hv : ∀ v ∈ vs, 0 ≤ v.1 ∧ v.1 < l.length ∧ 0 ≤ v.2.2.1 ∧ v.2.2.1 < f.1.length ∧ 0 ≤ v.2.2.2.2.2) (hl : l.length ≤ 1000) (hf : f.1.length ≤ 1000) (hvs : vs.length ≤ 1000) :
  ∀ (suf pre : List Vis) (ds : List Dl) (N0 : Nat), pre ++ suf = vs → suf.length < N0 → ds.length + suf.length ≤ 5000 →
  L3_13 N0 ((l, p, f, (pre.length : Int), ()), (z, ds, vs, ()), ()) = some (.inl ((true, ()), (), ())) ∨
  (L3_13 N0 ((l, p, f, (pre.length : Int), ()), (z, ds, vs, ()), ()) = some (.inr ((l, p, f, ()), (z, ds ++ (suf.filter qea).map (qb3 f.1 l), ()), ())) ∧ ∀ v ∈ suf, qea v = true → v.2.2.2.2.2 < 1440)
 | [], pre, ds, N0, he, hN, hd => by
  obtain ⟨q, rfl⟩ : ∃ q, N0 = q + 1 := ⟨N0 - 1, by omega⟩
  refine .inr ⟨?_, fun v hv => by cases hv⟩
  simp only [L3_13, B3_13]
  rw [jC (by rw [← he]; simp), cond_false, List.filter_nil, List.map_nil, List.append_nil]
 | x :: suf, pre, ds, N0, he, hN, hd => by
  obtain ⟨q, rfl⟩ : ∃ q, N0 = q + 1 := ⟨N0 - 1, by omega⟩
  simp only [List.length_cons] at hN hd
  have hlen : vs.length = pre.length + suf.length + 1 := by rw [← he]; simp; omega
  have hx : gd vs (pre.length : Int) = x := qco (by rw [← he, List.getElem?_append_right (Nat.le_refl _), Nat.sub_self]; rfl)
  obtain ⟨a, b, c, d, e⟩ := hv x (by rw [← he]; simp)
  have ih := fun ds h => loop13 l p f z vs hv hl hf hvs suf (pre ++ [x]) ds q (by rw [← he]; simp) (by omega) h
  have hp : ((pre ++ [x]).length : Int) = ((pre.length + 1 : Nat) : Int) := by simp
  simp only [L3_13, B3_13]
  rw [qX (by omega), cond_true, qE (by omega) (by omega), qp (by omega) (by omega), hx, jC (by omega), cond_false, jC (by omega), cond_false, jC (by omega), cond_false, jC (by omega), cond_false]
  cases ho : x.2.2.2.1 with
  | false =>
   have hxo : qea x = false := ho
   simp only [cond_false]
   rw [jE (by omega), ← hp]
   rcases ih ds (by omega) with h | ⟨h, h2⟩
   ·exact .inl h
   ·refine .inr ⟨?_, fun v hv hv2 => ?_⟩
    ·rw [h, List.filter_cons, hxo]; rfl
    ·rcases List.mem_cons.1 hv with rfl | hv
     ·rw [hxo] at hv2; cases hv2
     ·exact h2 v hv hv2
  | true =>
   have hxo : qea x = true := ho
   simp only [cond_true]
   by_cases ht : x.2.2.2.2.2 < 1440
   ·rw [jC (by omega), cond_false, qp c d, qp a b, jR (by simp only [List.length_singleton]; omega) (by simp only [List.length_singleton]; omega), qY, jE (by omega), ← hp]
    rcases ih (ds ++ [qb3 f.1 l x]) (by simp only [List.length_append, List.length_singleton]; omega) with h | ⟨h, h2⟩
    ·exact .inl h
    ·refine .inr ⟨?_, fun v hv hv2 => ?_⟩
     ·rw [List.filter_cons, hxo, if_pos rfl, List.map_cons, show ds ++ qb3 f.1 l x :: (suf.filter qea).map (qb3 f.1 l) = (ds ++ [qb3 f.1 l x]) ++ (suf.filter qea).map (qb3 f.1 l) by simp]
      exact h
     ·rcases List.mem_cons.1 hv with rfl | hv
      ·exact ht
      ·exact h2 v hv hv2
   ·rw [qX (by omega), cond_true, qlp]
    exact .inl rfl
theorem law_bands (f : (List Rd) × Int) (l : List Gp) (price : Int) : g3 (f, l, price, ()) = some ((true, ()), ()) := by
 have bk : ∀ {R : Type} (k : (Bool × Unit) × Unit → Option R), qa (g5 ()) k = k ((true, ()), ()) := fun k => qcg qlp k
 show F3 qi f l price = _
 unfold F3
 simp only [bk]
 obtain ⟨b, h4, hb⟩ := far_ok f l
 rw [h4, qb]
 cases b with
 | true => rfl
 | false =>
  obtain ⟨b1, b2, b3⟩ := hb rfl
  rw [cond_false]
  by_cases hl : l.length ≤ 12
  ·rw [jC (by omega), cond_false]
   by_cases h0 : 0 ≤ price
   ·rw [jC (by omega), cond_false]
    by_cases h1 : price ≤ 1000000
    ·rw [jC (by omega), cond_false, g7_eq f (by omega), qb, g8_eq l (by omega) b3, qb]
     obtain ⟨vs, e, h6, h7⟩ := g6_ok f l
     rw [h6, qb]
     by_cases he : e = 0
     ·obtain ⟨v, hg, hr, hp⟩ := h7 he
      subst he
      have hn := hg.rides
      have vl := v.len
      rw [show ((0 : Int) != 0) = false from rfl, cond_false, qY]
      have e9 := loop9 l price f (Fr l.length f.1.length price) vs (by omega) l.length 0 qi (by omega) (qbw (by omega))
      have e9' : L3_9 qi ((l, price, f, 0, ()), (((l.length : Int), (f.1.length : Int), [7], [0], ([] : List (Int × Int)), (0 : Int), price, 1440), ([] : List (Int × (Int × (Int × (Int × Int))))), vs, ()), ()) = _ := e9
      rw [e9', qb]
      have e13 := loop13 l price f (Fr l.length f.1.length price) vs v.all (by omega) (by omega) (by omega) vs [] ((List.range l.length).map qem) qi rfl (qbw (by omega)) (by simp only [List.length_map, List.length_range]; omega)
      have e0 : ((([] : List Vis).length : Nat) : Int) = 0 := rfl
      rw [e0] at e13
      rcases e13 with e13 | ⟨e13, ht⟩
      ·simp only
       rw [e13]
       rfl
      ·simp only
       rw [e13, qb]
       show cond (decide (((((List.range l.length).map qem ++ (vs.filter qea).map (qb3 f.1 l)).length : Nat) : Int) > 200)) _ _ = _
       by_cases hd : ((List.range l.length).map qem ++ (vs.filter qea).map (qb3 f.1 l)).length ≤ 200
       ·rw [jC (by omega), cond_false]
        have ht9 := tok_ok (p := price) hl hn h0 h1 (deals_ok hr hp v ht) hd
        rw [ht9, qb]
        show cond (((List.replicate f.1.length (0 : Int)).length : Int) != (f.1.length : Int)) _ _ = _
        rw [List.length_replicate, show ((f.1.length : Int) != (f.1.length : Int)) = false by simp, cond_false]
        show qa (g10 (List.replicate f.1.length (0 : Int), ())) _ = _
        rw [g10_eq _ (by omega), qb]
        simp only [Bool.not_true, cond_false]
        have e1 : g11 ((Ct l.length f.1.length price l.length).1, [7], ()) = some ((true, ()), ()) := L01.g11_eq [7] [7] (by simp)
        rw [e1, qb]
        simp only [Bool.not_true, cond_false]
        have hm : (l.length : Int) * price ≤ 12 * 1000000 := Int.mul_le_mul (by omega) h1 h0 (by omega)
        have hm0 : 0 ≤ (l.length : Int) * price := Int.mul_nonneg (by omega) h0
        have e2 : g11 ((Ct l.length f.1.length price l.length).2.1, [IntKind.wrap .i64 (price * (l.length : Int))], ()) = some ((true, ()), ()) := by
         rw [Int.mul_comm price, wI (by omega) (by omega)]
         have := L01.g11_eq [(l.length : Int) * price] [(l.length : Int) * price] (by simp)
         rw [decide_eq_true rfl] at this
         exact this
        rw [e2, qb]
        rfl
       ·rw [qX (by omega), cond_true]
     ·have : (e != 0) = true := by simpa using he
      rw [this, cond_true]
    ·rw [qX (by omega), cond_true]
   ·rw [qX (by omega), cond_true]
  ·rw [qX (by omega), cond_true]
end Go.Proofs.Tryz.V.Bd
