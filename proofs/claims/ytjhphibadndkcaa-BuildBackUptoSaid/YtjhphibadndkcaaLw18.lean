/- Plain laws of layer 8 (for buildPins). No condition beyond those typed in each theorem. -/
import Derived.Test.YtjhphibadndkcaaLw17
namespace Go.Proofs.Try.V
open Go.Vi
set_option maxRecDepth 100000

theorem val_cons0 (x : Int) (l : List Int) : val (x :: l) 0 = x := rfl
theorem val_succ (x : Int) (l : List Int) (i : Nat) : val (x :: l) ((i + 1 : Nat) : Int) = val l (i : Int) := by
  unfold val
  rw [List.getD_eq_getElem?_getD, List.getD_eq_getElem?_getD, show (((i + 1 : Nat) : Int)).toNat = i + 1 by omega, show ((i : Int)).toNat = i by omega, List.getElem?_cons_succ]
theorem sum_sub : ∀ (a b c : List Int), a.length = b.length → c.length = b.length → (∀ i : Nat, i < b.length → val a (i : Int) = val b (i : Int) - val c (i : Int)) → a.sum = b.sum - c.sum
  | [], [], [], _, _, _ => by simp
  | [], _ :: _, _, h, _, _ => by simp at h
  | _ :: _, [], _, h, _, _ => by simp at h
  | _, [], _ :: _, _, h, _ => by simp at h
  | _, _ :: _, [], _, h, _ => by simp at h
  | x :: a, y :: b, z :: c, h1, h2, h => by
    have h0 : val (x :: a) 0 = val (y :: b) 0 - val (z :: c) 0 := h 0 (by simp)
    rw [val_cons0, val_cons0, val_cons0] at h0
    have ih := sum_sub a b c (by simpa using h1) (by simpa using h2) (fun i hi => by
      have := h (i + 1) (by simp; omega)
      rwa [val_succ, val_succ, val_succ] at this)
    simp only [List.sum_cons]
    omega
theorem sum_zero : ∀ {a : List Int}, (∀ i : Nat, i < a.length → 0 ≤ val a (i : Int)) → 0 ≤ a.sum ∧ (a.sum = 0 ↔ ∀ i : Nat, i < a.length → val a (i : Int) = 0)
  | [], _ => by simp
  | x :: a, h => by
    have h0 : 0 ≤ val (x :: a) 0 := h 0 (by simp)
    rw [val_cons0] at h0
    obtain ⟨h1, h2⟩ := sum_zero (a := a) (fun i hi => by
      have := h (i + 1) (by simp; omega)
      rwa [val_succ] at this)
    simp only [List.sum_cons]
    refine ⟨by omega, fun e i hi => ?_, fun e => ?_⟩
    · cases i with
      | zero => show val (x :: a) 0 = 0; rw [val_cons0]; omega
      | succ i => rw [val_succ]; exact h2.1 (by omega) i (by simpa using hi)
    · have e0 : val (x :: a) 0 = 0 := e 0 (by simp)
      rw [val_cons0] at e0
      have := h2.2 (fun i hi => by
        have := e (i + 1) (by simp; omega)
        rwa [val_succ] at this)
      omega
theorem sum_set : ∀ (a : List Int) (i : Nat) (c : Int), i < a.length → (a.set i c).sum = a.sum - val a (i : Int) + c
  | [], i, c, h => by simp at h
  | x :: a, 0, c, _ => by
    rw [List.set_cons_zero, List.sum_cons, List.sum_cons, show ((0 : Nat) : Int) = 0 from rfl, val_cons0]
    omega
  | x :: a, i + 1, c, h => by
    rw [List.set_cons_succ, List.sum_cons, List.sum_cons, val_succ, sum_set a i c (by simpa using h)]
    omega
theorem pinsOf_val {k : Kit} {p : Int} {q : Part} (h : k.1[p.toNat]? = some q) : val (pinsOf k) p = q.2.2.1 := by
  unfold val pinsOf
  rw [List.getD_eq_getElem?_getD, List.getElem?_map, h]
  rfl
theorem pinsOf_in {k : Kit} (hf : Fine k) {q : Int} (h0 : 0 ≤ q) (hq : q < k.1.length) : 0 ≤ val (pinsOf k) q ∧ val (pinsOf k) q ≤ 9 := (start_inv hf).v q h0 hq
theorem sum_take_bound {a : List Int} (h : ∀ x ∈ a, 0 ≤ x ∧ x ≤ 9) : ∀ i : Nat, i ≤ a.length → 0 ≤ (a.take i).sum ∧ (a.take i).sum ≤ 9 * i
  | 0, _ => by simp
  | i + 1, hi => by
    have := sum_take_bound h i (by omega)
    rw [take_nat (by omega), List.sum_append, List.sum_cons, List.sum_nil]
    have hm := h _ (gd_mem (l := a) (i := (i : Int)) (by omega) (by omega))
    omega

theorem L11_7_eq' {k : Kit} (hf : Fine k) (l : List Stp) (r : Bool) (left pins : List Int) {N : Nat} (hN : k.1.length + 0 < N) :
    L11_7 N ((l, r, left, 0, 0, 0, ()), (k, pins, ()), ()) = some ((l, r, left, (pinsOf k).sum, 0, ()), (k, pins, ()), ()) := by
  have h16 := hf.parts
  have hpl : (pinsOf k).length = k.1.length := by simp [pinsOf]
  have hall : ∀ x ∈ pinsOf k, 0 ≤ x ∧ x ≤ 9 := by
    intro x hx
    obtain ⟨i, hi, rfl⟩ := List.mem_iff_getElem.1 hx
    have := pinsOf_in hf (q := (i : Int)) (by omega) (by omega)
    unfold val at this
    rw [List.getD_eq_getElem?_getD, show ((i : Int)).toNat = i by omega, List.getElem?_eq_getElem hi] at this
    exact this
  exact loopF (L := L11_7) (fun i => ((l, r, left, ((pinsOf k).take i).sum, 0, (i : Int), ()), (k, pins, ()), ())) ((l, r, left, (pinsOf k).sum, 0, ()), (k, pins, ()), ()) 0 k.1.length hN
    (fun N => by
      simp only [L11_7, B11_7]
      rw [dec_f (by omega), ← hpl, List.take_length]
      rfl)
    (fun N i _ hi => by
      have h1 := sum_take_bound hall i (by omega)
      have h2 := sum_take_bound hall (i + 1) (by omega)
      have e : gd (pinsOf k) (i : Int) = (gd k.1 (i : Int)).2.2.1 := pinsOf_val (by rw [show ((i : Int)).toNat = i by omega]; exact gd_nat hi)
      rw [take_nat (by omega), List.sum_append, List.sum_cons, List.sum_nil, e] at h2
      simp only [L11_7, B11_7]
      rw [dec_t (by omega), cond_true, getI_nat (gd_nat hi), w64 (by omega) (by omega), w64 (by omega) (by omega), take_nat (by omega), List.sum_append, List.sum_cons, List.sum_nil, e, Int.add_zero]
      rfl)

theorem L11_21_eq' {k : Kit} (_hf : Fine k) (l : List Stp) (r : Bool) (left : List Int) (all set i p : Int) (order pins : List Int) {q : Part} (h0 : 0 ≤ p) (hq : k.1[p.toNat]? = some q) (hnl : q.2.2.2.length ≤ 1048576) (hpl : pins.length = k.1.length) (hin : ∀ x ∈ q.2.2.2, (0 ≤ x ∧ x < k.1.length) ∧ val pins x = val (pinsOf k) x) {N : Nat} (hN : q.2.2.2.length + 0 < N) :
    L11_21 N ((l, r, left, all, set, i, p, 0, ()), (k, order, pins, ()), ()) = some (.inr ((l, r, left, all, set, i, p, ()), (k, order, pins, ()), ())) :=
  loopF (L := L11_21) (fun j => ((l, r, left, all, set, i, p, (j : Int), ()), (k, order, pins, ()), ())) (.inr ((l, r, left, all, set, i, p, ()), (k, order, pins, ()), ())) 0 q.2.2.2.length hN
    (fun N => by
      simp only [L11_21, B11_21, getI_some h0 hq]
      rw [dec_f (by omega)]
      rfl)
    (fun N j _ hj => by
      obtain ⟨⟨x0, hx⟩, e⟩ := hin _ (gd_mem (l := q.2.2.2) (i := (j : Int)) (by omega) (by omega))
      have hqx : k.1[(gd q.2.2.2 (j : Int)).toNat]? = some (k.1[(gd q.2.2.2 (j : Int)).toNat]'(by omega)) := List.getElem?_eq_getElem (by omega)
      generalize k.1[(gd q.2.2.2 (j : Int)).toNat]'(by omega) = z at hqx
      simp only [L11_21, B11_21, getI_some h0 hq]
      simp only [dec_t (show (j : Int) < (q.2.2.2.length : Int) by omega), cond_true, getI_nat (gd_nat hj)]
      rw [inR_in x0 (by omega), getI_val x0 (by omega), getI_some x0 hqx, e, pinsOf_val hqx, bne_self_eq_false, cond_false, w64 (by omega) (by omega)]
      rfl)

structure PInv (k : Kit) (l : List Stp) (st : LSt) (i : Nat) (set : Int) (order pins : List Int) : Prop where
  pl : pins.length = k.1.length
  ord : ordB k (none0 k) order = true
  ol : order.length ≤ i
  sum : set = pins.sum
  low : 0 ≤ set ∧ set ≤ i
  run : ∃ left, LInv k (left, goS order (none0 k)) ∧ (∀ q : Int, 0 ≤ q → q < k.1.length → val left q = val (pinsOf k) q - val pins q) ∧ logGo k i (l.drop i) (left, goS order (none0 k)) = (none, st)

theorem L11_12_eq' {k : Kit} (hk : Small k) (hf : Fine k) (l : List Stp) (hl : l.length ≤ 1048576) (r : Bool) (left0 : List Int) (all : Int) (st : LSt) (hlog : logGo k 0 l (pinsOf k, none0 k) = (none, st)) {N : Nat} (hN : l.length + 1048577 < N) :
    ∃ set order pins, PInv k l st l.length set order pins ∧ L11_12 N ((l, r, left0, all, 0, 0, ()), (k, [], List.replicate k.1.length 0, ()), ()) = some (.inr ((r, left0, all, set, ()), (k, order, pins, ()), ())) := by
  have h16 := hf.parts
  obtain ⟨_, h, set, order, pins, hP, rfl⟩ := loop0 (L := L11_12) (fun i (x : Int × List Int × List Int) => ((l, r, left0, all, x.1, (i : Int), ()), (k, x.2.1, x.2.2, ()), ())) (fun i x => PInv k l st i x.1 x.2.1 x.2.2) (fun y => ∃ set order pins, PInv k l st l.length set order pins ∧ y = .inr ((r, left0, all, set, ()), (k, order, pins, ()), ())) 1048577 l.length (s := (0, [], List.replicate k.1.length 0))
    ⟨by simp, rfl, by simp, by simp, by simp, pinsOf k, start_inv hf, fun q h0 hq => by
      have : val (List.replicate k.1.length 0) q = 0 := gd_replicate h0 hq
      dsimp only
      rw [this]; omega, hlog⟩ hN
    (by
      rintro N ⟨set, order, pins⟩ hP
      simp only [L11_12, B11_12]
      rw [dec_f (by omega)]
      exact ⟨_, rfl, set, order, pins, hP, rfl⟩)
    (by
      rintro N i ⟨set, order, pins⟩ hN hi hP
      dsimp only at hP ⊢
      obtain ⟨left, hL, hval, hgo⟩ := hP.run
      have hpl := hP.pl
      rw [drop_nat hi] at hgo
      simp only [L11_12, B11_12]
      simp only [dec_t (show (i : Int) < (l.length : Int) by omega), cond_true, getI_nat (gd_nat hi)]
      generalize gd l (i : Int) = x at hgo ⊢
      obtain ⟨kd, p⟩ := x
      rw [logGo] at hgo
      cases hst : stepL k (kd, p) (left, goS order (none0 k)) with
      | none => rw [hst] at hgo; cases hgo
      | some st' =>
      have hst0 := hst
      rw [hst] at hgo
      dsimp only at hgo
      have hi' := stepL_inv hL hst
      unfold stepL at hst
      cases h1 : rng p 0 ((k.1.length : Int) - 1) with
      | false => rw [h1] at hst; cases hst
      | true =>
      have hp := rng_in.1 h1
      rw [h1, cond_true] at hst
      dsimp only at hst ⊢
      have hln := hL.s
      rw [dec_f (by omega), cond_false, dec_f (by omega), cond_false]
      cases h2 : kd == 1 with
      | true =>
        obtain rfl : kd = 1 := by simpa using h2
        rw [h2, cond_true] at hst
        have hq : k.1[p.toNat]? = some (k.1[p.toNat]'(by omega)) := List.getElem?_eq_getElem (by omega)
        generalize k.1[p.toNat]'(by omega) = q at hq
        have hnl := hk.needs q (List.mem_of_getElem? hq)
        have hnq : needsOf k p = q.2.2.2 := by unfold needsOf; rw [hq]
        have hni := needs_in hf hp.1 hp.2
        rw [hnq] at hni hst
        cases hc : canB k (goS order (none0 k)) p && q.2.2.2.all (fun v => val left v == 0) with
        | false => rw [hc] at hst; cases hst
        | true =>
          rw [hc, cond_true] at hst
          cases hst
          rw [Bool.and_eq_true, List.all_eq_true] at hc
          rw [show ((1 : Int) == 2) = false from rfl, cond_false, L11_21_eq' hf l r left0 all set (i : Int) p order pins hp.1 hq hnl hpl (fun x hx => ⟨⟨(hni x hx).1, (hni x hx).2.1⟩, by
            have h3 := hc.2 x hx
            simp only [beq_iff_eq] at h3
            have := hval x (hni x hx).1 (hni x hx).2.1
            omega⟩) (by omega), derefK_some, sumK_inr]
          have hol := hP.ol
          simp only
          rw [lenK_in (by simp; omega) (by simp; omega), w64 (by omega) (by omega)]
          refine .inl ⟨(set, order ++ [p], pins), ⟨hpl, ?_, by simp; omega, hP.sum, by have := hP.low; dsimp only; omega, left, ?_, hval, ?_⟩, rfl⟩
          · rw [ordB_app, hP.ord]
            simp only [ordB, hc.1, h1, Bool.and_true]
          · rw [goS_app]
            exact hi'
          · rw [goS_app]
            exact hgo
      | false =>
        rw [h2, cond_false] at hst
        cases h3 : kd == 2 with
        | false => rw [h3] at hst; cases hst
        | true =>
          rw [h3, cond_true] at hst
          cases hc : has (goS order (none0 k)) p && !(val left p == 0) with
          | false => rw [hc] at hst; cases hst
          | true =>
            rw [hc, cond_true] at hst
            cases hst
            have hpv := hval p hp.1 hp.2
            have hlv := hL.v p hp.1 hp.2
            have hpo := pinsOf_in hf hp.1 hp.2
            dsimp only at hlv
            have hlow := hP.low
            rw [cond_true, inR_in hp.1 (by omega), getI_val hp.1 (by omega), inR_in hp.1 (by omega), getI_val hp.1 (by omega), w64 (by omega) (by omega), w64 (by omega) (by omega), w64 (by omega) (by omega)]
            refine .inl ⟨(set + 1, order, pins.set p.toNat (val pins p + 1)), ⟨by simp [hpl], hP.ord, Nat.le_succ_of_le hP.ol, ?_, by dsimp only; omega, left.set p.toNat (val left p - 1), hi', fun q q0 hq => ?_, hgo⟩, rfl⟩
            · rw [sum_set _ _ _ (by omega), show ((p.toNat : Nat) : Int) = p by omega, hP.sum]
              omega
            · have hll := hL.p
              dsimp only at hll
              by_cases e : q = p
              · rw [e, val_set_self hp.1 (by omega), val_set_self hp.1 (by omega)]
                omega
              · rw [val_set_ne hp.1 q0 e, val_set_ne hp.1 q0 e]
                exact hval q q0 hq)
  exact ⟨set, order, pins, hP, h⟩

theorem L11_29_eq' {k : Kit} (hf : Fine k) (r : Bool) (left : List Int) (all set : Int) (order pins : List Int) (hpl : pins.length = k.1.length) (hll : left.length = k.1.length) (hlv : ∀ q : Int, 0 ≤ q → q < k.1.length → (0 ≤ val left q ∧ val left q ≤ 9) ∧ val left q = val (pinsOf k) q - val pins q) {N : Nat} (hN : pins.length + 0 < N) :
    L11_29 N ((r, left, all, set, 0, ()), (k, order, pins, ()), ()) = some (.inr ((r, all, set, ()), (k, order, ()), ())) := by
  have h16 := hf.parts
  exact loopF (L := L11_29) (fun j => ((r, left, all, set, (j : Int), ()), (k, order, pins, ()), ())) (.inr ((r, all, set, ()), (k, order, ()), ())) 0 pins.length hN
    (fun N => by
      simp only [L11_29, B11_29]
      rw [dec_f (by omega)]
      rfl)
    (fun N j _ hj => by
      have h := hlv (j : Int) (by omega) (by omega)
      have hq : k.1[j]? = some (k.1[j]'(by omega)) := List.getElem?_eq_getElem (by omega)
      generalize k.1[j]'(by omega) = q at hq
      have e := pinsOf_val (k := k) (p := (j : Int)) (q := q) (by rw [show ((j : Int)).toNat = j by omega]; exact hq)
      simp only [L11_29, B11_29]
      rw [dec_t (by omega), cond_true, getI_val (by omega) (by omega), getI_nat hq, inR_in (by omega) (by omega), getI_val (by omega) (by omega), w64 (by omega) (by omega), w64 (by omega) (by omega), show (val left (j : Int) != q.2.2.1 - val pins (j : Int)) = false by simp only [bne_eq_false_iff_eq]; omega]
      rfl)

theorem law11 (k : Kit) (hk : Small k) (l : List Stp) (hl : l.length ≤ 1048576) : g11 (k, l, ()) = some ((true, ()), ()) := by
  have hF : g11 (k, l, ()) = F11 fuel k l := rfl
  have hfu := fuel_big
  rw [hF]
  unfold F11
  rw [g30_eq k hk l hl, derefK_some]
  simp only
  cases he : (out61f k l).2.2.2 != 0 with
  | true => rw [cond_true, works_eq]; rfl
  | false =>
    obtain ⟨hv, hn, ho, hi⟩ := out61f_ok he
    have hf := fine_of k hv
    have h16 := hf.parts
    have hlog : logGo k 0 l (pinsOf k, none0 k) = (none, (logR k l).2) := by
      show logR k l = _
      rw [← hn]
    obtain ⟨set, order, pins, hP, h12⟩ := L11_12_eq' hk hf l hl (readyR k l).1 (readyR k l).2 (pinsOf k).sum (logR k l).2 hlog (N := fuel) (by omega)
    obtain ⟨left, hL, hval, hgo⟩ := hP.run
    rw [List.drop_length] at hgo
    have hst : (left, goS order (none0 k)) = (logR k l).2 := (Prod.mk.inj hgo).2
    have hr2 : (readyR k l).2 = left := by unfold readyR; rw [he, cond_false, ← hst]
    have hr1 : (readyR k l).1 = readyB k (left, goS order (none0 k)) := by unfold readyR; rw [he, cond_false, hst]
    have hll := hL.p
    have hls := hL.s
    have hpl := hP.pl
    dsimp only at hll hls
    rw [cond_false, g33_eq k hk, hv, derefK_some]
    simp only [cond_true, bne_self_eq_false, cond_false]
    rw [leK_in (by omega), leK_in (by omega), lenK_in (by omega) (by omega), Int.toNat_natCast, L11_7_eq' hf l _ _ _ (by omega), derefK_some]
    simp only
    rw [h12, derefK_some, sumK_inr]
    simp only
    rw [hr2, len_ne, dec_t (by omega), Bool.not_true, cond_false, L11_29_eq' hf _ left _ set order pins hpl hll (fun q h0 hq => ⟨hL.v q h0 hq, hval q h0 hq⟩) (by omega), derefK_some, sumK_inr]
    simp only
    have hol := hP.ol
    have hchk : ((chkR k order).2 != 0) = false := chkR_ok.2 ⟨hv, hP.ord⟩
    rw [g26_eq k hk order (by omega), derefK_some]
    simp only
    rw [hchk, cond_false, hr1]
    have hcnt := ordB_count (k := k) (by simp) hP.ord
    simp only [none0, List.count_replicate_self] at hcnt
    have hsum := sum_sub left (pinsOf k) pins (by simp [pinsOf, hll]) (by simp [pinsOf, hpl]) (fun i hi => hval (i : Int) (by omega) (by simpa [pinsOf] using hi))
    have hz := sum_zero (a := left) (fun i hi => (hL.v (i : Int) (by omega) (by omega)).1)
    have hset := hP.sum
    have key : readyB k (left, goS order (none0 k)) = (decide (set = (pinsOf k).sum) && decide (order.length = k.1.length)) := by
      rw [Bool.eq_iff_iff, Bool.and_eq_true, decide_eq_true_eq, decide_eq_true_eq]
      unfold readyB
      simp only [List.all_eq_true, Bool.and_eq_true, beq_iff_eq]
      constructor
      · intro hh
        constructor
        · have := hz.2.2 (fun i hi => (hh (i : Int) (rangeI_mem.2 ⟨by omega, by omega⟩)).2)
          omega
        · rcases Nat.eq_zero_or_pos ((goS order (none0 k)).count false) with h0 | h0
          · simp only [none0] at h0; omega
          · obtain ⟨i, hi', e⟩ := has_mem.1 (List.count_pos_iff.1 h0)
            have := (hh (i : Int) (rangeI_mem.2 ⟨by omega, by omega⟩)).1
            rw [e] at this; cases this
      · rintro ⟨h1, h2⟩ p hp
        have hp' := rangeI_mem.1 hp
        refine ⟨count_zero_has (by simp only [none0]; omega) hp'.1 (by omega), ?_⟩
        have := hz.2.1 (by omega) p.toNat (by omega)
        rwa [show ((p.toNat : Nat) : Int) = p by omega] at this
    rw [key]
    by_cases e1 : set = (pinsOf k).sum
    · rw [show (set == (pinsOf k).sum) = true by simpa using e1, dec_t e1, cond_true, Bool.true_and, works_eq]
      have : ((order.length : Int) == (k.1.length : Int)) = decide (order.length = k.1.length) := by
        by_cases h : order.length = k.1.length
        · rw [dec_t h, h]; simp
        · rw [dec_f h]; simp only [beq_eq_false_iff_ne, ne_eq]; omega
      rw [this, beq_self_eq_true]
      rfl
    · rw [show (set == (pinsOf k).sum) = false by simpa using e1, dec_f e1, cond_false, Bool.false_and, works_eq]
      rfl
end Go.Proofs.Try.V
