/- Plain laws of layer 8 (BuildLists): what can be taken down; CheckOrder and CheckDown by the program and by the document. No condition beyond those typed in each theorem. -/
import Derived.Test.YtjhphibadndkcaaLw20
namespace Go.Proofs.Try.V
open Go.Vi
set_option maxRecDepth 100000

theorem g75_eq {s : List Int} (hs : s.length ≤ 1048576) (b : Int) : g75 (s, b, ()) = some ((decide (b ∈ s), ()), ()) := by
  have hG : g75 (s, b, ()) = F75 fuel s b := rfl
  have hH : g92 (s, b, ()) = F92 fuel s b := rfl
  obtain ⟨i, hi, h⟩ := L92_2_eq' s hs b s [] fuel rfl (by have := fuel_big; omega)
  have h' : L92_2 fuel ((s, b, (s.length : Int), 0, ()), (), ()) = _ := h
  rw [hG]
  unfold F75
  rw [hH]
  unfold F92
  rw [h', derefK_some]
  by_cases hb : b ∈ s
  · rw [dec_t hb]
    simp only [cond_true, sumK_inl, derefK_some]
    rw [dec_t (by omega)]
  · rw [dec_f hb]
    rfl

/-! ## Below -/
theorem aboveGo_nohigh (high low : Int) : ∀ (r : List Int) (seen : Bool), high ∉ r → aboveGo high low seen r = false
  | [], _, _ => rfl
  | x :: r, seen, h => by
    simp only [List.mem_cons, not_or] at h
    simp only [aboveGo]
    rw [show (x == high) = false by simp; exact fun e => h.1 e.symm, Bool.and_false, Bool.false_or]
    exact aboveGo_nohigh high low r _ h.2
theorem aboveGo_low (high low : Int) (post : List Int) (hpost : high ∉ post) : ∀ (pre : List Int) (seen : Bool), high ∉ pre → aboveGo high low seen (pre ++ high :: post) = (seen || decide (low ∈ pre))
  | [], seen, _ => by
    rw [List.nil_append]
    simp only [aboveGo]
    rw [aboveGo_nohigh high low post _ hpost]
    simp
  | x :: pre, seen, h => by
    simp only [List.mem_cons, not_or] at h
    rw [List.cons_append]
    simp only [aboveGo]
    rw [show (x == high) = false by simp; exact fun e => h.1 e.symm, Bool.and_false, Bool.false_or, aboveGo_low high low post hpost pre _ h.2, Bool.or_assoc]
    congr 1
    rw [Bool.eq_iff_iff, Bool.or_eq_true, beq_iff_eq, decide_eq_true_iff, decide_eq_true_iff, List.mem_cons]
    constructor
    · rintro (h | h); exact .inl h.symm; exact .inr h
    · rintro (h | h); exact .inl h.symm; exact .inr h
theorem Fine.low {k : Kit} (h : Fine k) {p : Int} (h0 : 0 ≤ p) (hp : p < k.1.length) : ∃ pre post, (pre, p, post) ∈ allSpots k.2.2 ∧ (∀ low, aboveB k.2.2 p low = decide (low ∈ pre)) ∧ (∀ x ∈ pre, 0 ≤ x ∧ x < k.1.length) := by
  have hm := h.all p.toNat (by omega)
  rw [show ((p.toNat : Nat) : Int) = p by omega] at hm
  obtain ⟨van, hvan, hpv⟩ := List.mem_flatten.1 hm
  obtain ⟨A, B, hAB⟩ := List.append_of_mem hvan
  obtain ⟨pre, post, hpp⟩ := List.append_of_mem hpv
  have hn := h.nodup
  rw [hAB, List.flatten_append, List.flatten_cons, hpp, List.nodup_append] at hn
  obtain ⟨_, hn2, hd⟩ := hn
  rw [List.nodup_append] at hn2
  obtain ⟨hn3, _, hd2⟩ := hn2
  rw [List.nodup_append] at hn3
  obtain ⟨_, hn4, hd3⟩ := hn3
  have hA : ∀ v ∈ A, p ∉ v := fun v hv hpv => hd p (List.mem_flatten.2 ⟨v, hv, hpv⟩) p (by simp) rfl
  have hB : ∀ v ∈ B, p ∉ v := fun v hv hpv => hd2 p (by simp) p (List.mem_flatten.2 ⟨v, hv, hpv⟩) rfl
  have hpre : p ∉ pre := fun hq => hd3 p hq p List.mem_cons_self rfl
  have hpost : p ∉ post := (List.nodup_cons.1 hn4).1
  have hin : ∀ x ∈ van, 0 ≤ x ∧ x < k.1.length := fun x hx => h.flat x (List.mem_flatten.2 ⟨van, hvan, hx⟩)
  refine ⟨pre, post, ?_, fun low => ?_, fun x hx => hin x (by rw [hpp]; simp [hx])⟩
  · unfold allSpots
    rw [List.mem_flatMap]
    exact ⟨van, hvan, by rw [hpp]; exact spots_in pre [] p post⟩
  · unfold aboveB
    rw [hAB, List.any_append, List.any_cons, hpp, aboveGo_low p low post hpost pre _ hpre]
    have e1 : A.any (fun v => aboveGo p low false v) = false := by
      rw [List.any_eq_false]
      intro v hv
      rw [aboveGo_nohigh p low v _ (hA v hv)]
      simp
    have e2 : B.any (fun v => aboveGo p low false v) = false := by
      rw [List.any_eq_false]
      intro v hv
      rw [aboveGo_nohigh p low v _ (hB v hv)]
      simp
    rw [e1, e2]
    simp

/-! ## What can be taken down -/
def needB (k : Kit) (s : List Bool) (p : Int) (i : Nat) : Bool := has s (i : Int) && decide (p ∈ needsOf k (i : Int))
def lowB (k : Kit) (s : List Bool) (p : Int) (i : Nat) : Bool := has s (i : Int) && aboveB k.2.2 p (i : Int)
def downB (k : Kit) (s : List Bool) (p : Int) : Bool :=
  match k.1[p.toNat]? with
  | some q => has s p && decide (q.1 ≤ k.2.1) && !(List.range k.1.length).any (needB k s p) && !(List.range k.1.length).any (lowB k s p)
  | none => false
theorem downB_eq {k : Kit} {s : List Bool} {p : Int} {q : Part} (h : k.1[p.toNat]? = some q) : downB k s p = (has s p && decide (q.1 ≤ k.2.1) && !(List.range k.1.length).any (needB k s p) && !(List.range k.1.length).any (lowB k s p)) := by
  unfold downB
  rw [h]
theorem L84_2_at {k : Kit} (hk : Small k) {y : Yard} (hy : Yards k y) {s : List Bool} (hs : s.length = k.1.length) (p : Int) :
    L84_2 fuel ((y, p, k.1, (k.1.length : Int), 0, ()), (s, ()), ()) = some (bif (List.range k.1.length).any (needB k s p) then .inl ((false, ()), (), ()) else .inr ((y, p, ()), (s, ()), ())) := by
  have hp := hk.parts
  obtain ⟨_, h, rfl⟩ := loop0 (L := L84_2) (fun i (_ : Unit) => ((y, p, k.1, (k.1.length : Int), (i : Int), ()), (s, ()), ())) (fun i _ => (List.range i).any (needB k s p) = false)
    (fun r => r = bif (List.range k.1.length).any (needB k s p) then .inl ((false, ()), (), ()) else .inr ((y, p, ()), (s, ()), ())) 0 k.1.length (N := fuel) (s := ()) rfl (by have := fuel_big; omega)
    (fun N _ h => ⟨_, by simp only [L84_2, B84_2]; rw [dec_f (by omega)]; rfl, by rw [h]; rfl⟩)
    (fun N i _ _ hi h => by
      have hq : k.1[i]? = some (k.1[i]'hi) := List.getElem?_eq_getElem hi
      generalize k.1[i]'hi = q at hq
      have hnq : needsOf k (i : Int) = q.2.2.2 := by unfold needsOf; rw [Int.toNat_natCast, hq]
      have hnl := hk.needs q (List.mem_of_getElem? hq)
      simp only [L84_2, B84_2]
      rw [dec_t (by omega), cond_true, getI_nat hq, getI_has (by omega) (by omega), w64 (by omega) (by omega), g75_eq hnl]
      simp only [derefK_some]
      have hstep : (List.range (i + 1)).any (needB k s p) = needB k s p i := by
        rw [List.range_succ, List.any_append, h]
        simp
      have hval : needB k s p i = (has s (i : Int) && decide (p ∈ q.2.2.2)) := by unfold needB; rw [hnq]
      have hall : needB k s p i = true → (List.range k.1.length).any (needB k s p) = true := fun hh => List.any_eq_true.2 ⟨i, List.mem_range.2 hi, hh⟩
      cases h1 : has s (i : Int) with
      | false =>
        rw [h1, Bool.false_and] at hval
        exact .inl ⟨(), by rw [hstep, hval], rfl⟩
      | true =>
        rw [h1, Bool.true_and] at hval
        cases h2 : decide (p ∈ q.2.2.2) with
        | false =>
          rw [h2] at hval
          exact .inl ⟨(), by rw [hstep, hval], rfl⟩
        | true =>
          rw [h2] at hval
          exact .inr ⟨_, rfl, by rw [hall hval]; rfl⟩)
  exact h
theorem g84_eq {k : Kit} (hk : Small k) (h : Fine k) {y : Yard} (hy : Yards k y) {s : List Bool} (hs : s.length = k.1.length) {p : Int} (h0 : 0 ≤ p) (hp : p < k.1.length) : g84 (y, s, p, ()) = some ((downB k s p, ()), ()) := by
  have hyk := hy.1
  have hF : g84 (y, s, p, ()) = F84 fuel y s p := rfl
  rw [hF]
  unfold F84
  rw [hyk, L84_2_at hk hy hs, derefK_some]
  obtain ⟨_, many, lies, hst⟩ := hy
  obtain ⟨pre, post, hd, hab, hpre⟩ := h.low h0 hp
  obtain ⟨_, hsb⟩ := hst.spot _ hd
  have hq : k.1[p.toNat]? = some (k.1[p.toNat]'(by omega)) := List.getElem?_eq_getElem (by omega)
  generalize k.1[p.toNat]'(by omega) = q at hq
  have hpl : pre.length ≤ 1048576 := by
    obtain ⟨v, hv, hdv⟩ := List.mem_flatMap.1 hd
    have := congrArg List.length (spots_mem v [] hdv)
    have := hk.van v hv
    simp at *
    omega
  rw [downB_eq hq]
  cases (List.range k.1.length).any (needB k s p) with
  | true => rw [Bool.not_true, Bool.and_false, Bool.false_and]; rfl
  | false =>
  simp only [cond_false, sumK_inr]
  rw [getI_has h0 (by omega)]
  cases has s p with
  | false => rfl
  | true =>
  rw [cond_true, hyk, getI_some h0 hq, Bool.true_and]
  by_cases hw : q.1 ≤ k.2.1
  · rw [dec_t hw, cond_true, getI_some h0 hsb, g63_eq (b := fun b => has s b) (by rw [List.length_reverse]; exact hpl) (fun x hx => by
      have hx' := hpre x (List.mem_reverse.1 hx)
      have hG : g97 (x, s, ()) = F97 fuel x s := rfl
      rw [hG]
      unfold F97
      rw [getI_has hx'.1 (by omega)]
      rfl), derefK_some]
    have : (pre.reverse.any fun b => has s b) = (List.range k.1.length).any (lowB k s p) := by
      rw [Bool.eq_iff_iff, List.any_eq_true, List.any_eq_true]
      constructor
      · rintro ⟨x, hx, hh⟩
        have hxm := List.mem_reverse.1 hx
        have hx' := hpre x hxm
        refine ⟨x.toNat, List.mem_range.2 (by omega), ?_⟩
        unfold lowB
        rw [show ((x.toNat : Nat) : Int) = x by omega, hh, hab, dec_t hxm]
        rfl
      · rintro ⟨i, hi, hh⟩
        unfold lowB at hh
        rw [Bool.and_eq_true, hab, decide_eq_true_iff] at hh
        exact ⟨(i : Int), List.mem_reverse.2 hh.2, hh.1⟩
    rw [this]
    simp
  · rw [dec_f hw]
    rfl

theorem L85_11_at (k : Kit) (s : List Bool) (p i : Int) (n : List Int) (hn : n.length ≤ 1048576) (N : Nat) (hN : n.length < N) :
    L85_11 N ((s, p, i, n, 0, ()), (k, ()), ()) = some (bif decide (p ∈ n) then .inl ((false, ()), (), ()) else .inr ((s, p, i, ()), (k, ()), ())) := by
  obtain ⟨_, h, rfl⟩ := loop0 (L := L85_11) (fun m (_ : Unit) => ((s, p, i, n, (m : Int), ()), (k, ()), ())) (fun m _ => p ∉ n.take m)
    (fun r => r = bif decide (p ∈ n) then .inl ((false, ()), (), ()) else .inr ((s, p, i, ()), (k, ()), ())) 0 n.length (N := N) (s := ()) (by simp) (by omega)
    (fun N _ h => ⟨_, by simp only [L85_11, B85_11]; rw [dec_f (by omega)]; rfl, by rw [List.take_length] at h; rw [dec_f h]; rfl⟩)
    (fun N m _ _ hm h => by
      simp only [L85_11, B85_11]
      rw [dec_t (by omega), cond_true, getI_gd (by omega) (by omega), w64 (by omega) (by omega)]
      cases hb : gd n (m : Int) == p with
      | true =>
        have : p ∈ n := by rw [← eq_of_beq hb]; exact gd_mem (by omega) (by omega)
        exact .inr ⟨_, rfl, by rw [dec_t this]; rfl⟩
      | false =>
        refine .inl ⟨(), ?_, rfl⟩
        rw [take_nat hm, List.mem_append, List.mem_singleton, not_or]
        exact ⟨h, fun e => by rw [← e] at hb; simp at hb⟩)
  exact h
theorem g85_eq {k : Kit} (hk : Small k) (h : Fine k) {s : List Bool} (hs : s.length = k.1.length) {p : Int} (h0 : 0 ≤ p) (hp : p < k.1.length) : g85 (k, s, p, ()) = some ((downB k s p, ()), ()) := by
  have hF : g85 (k, s, p, ()) = F85 fuel k s p := rfl
  rw [hF]
  unfold F85
  have hkp := hk.parts
  have hq : k.1[p.toNat]? = some (k.1[p.toNat]'(by omega)) := List.getElem?_eq_getElem (by omega)
  generalize k.1[p.toNat]'(by omega) = q at hq
  rw [downB_eq hq, getI_has h0 (by omega)]
  cases has s p with
  | false => rfl
  | true =>
  rw [Bool.not_true, cond_false, getI_some h0 hq, Bool.true_and]
  by_cases hw : q.1 ≤ k.2.1
  case neg =>
    rw [dec_f hw, dec_t (by omega : q.1 > k.2.1)]
    rfl
  rw [dec_t hw, dec_f (by omega : ¬ q.1 > k.2.1), cond_false, Bool.true_and]
  obtain ⟨_, e, rfl⟩ := loop0 (L := L85_4) (fun i (_ : Unit) => ((s, p, (i : Int), ()), (k, ()), ())) (fun i _ => ∀ j, j < i → needB k s p j = false ∧ lowB k s p j = false)
    (fun r => r = bif (!(List.range k.1.length).any (needB k s p) && !(List.range k.1.length).any (lowB k s p)) then .inr ((), (), ()) else .inl ((false, ()), (), ())) 1048577 k.1.length (N := fuel) (s := ()) (fun j hj => absurd hj (Nat.not_lt_zero _)) (by have := fuel_big; omega)
    (fun N _ hh => by
      refine ⟨_, by simp only [L85_4, B85_4]; rw [dec_f (by omega)]; rfl, ?_⟩
      have e1 : (List.range k.1.length).any (needB k s p) = false := by
        rw [List.any_eq_false]
        intro j hj
        rw [(hh j (List.mem_range.1 hj)).1]
        simp
      have e2 : (List.range k.1.length).any (lowB k s p) = false := by
        rw [List.any_eq_false]
        intro j hj
        rw [(hh j (List.mem_range.1 hj)).2]
        simp
      rw [e1, e2]
      rfl)
    (fun N i _ hN hi hh => by
      have hqi : k.1[i]? = some (k.1[i]'hi) := List.getElem?_eq_getElem hi
      generalize k.1[i]'hi = qi at hqi
      have hnq : needsOf k (i : Int) = qi.2.2.2 := by unfold needsOf; rw [Int.toNat_natCast, hqi]
      have hnl := hk.needs qi (List.mem_of_getElem? hqi)
      simp only [L85_4, B85_4]
      rw [dec_t (by omega), cond_true, getI_has (by omega) (by omega), w64 (by omega) (by omega), g87_eq k hk, derefK_some, getI_nat hqi, L85_11_at k s p (i : Int) qi.2.2.2 hnl N (by omega), derefK_some]
      have hnv : needB k s p i = (has s (i : Int) && decide (p ∈ qi.2.2.2)) := by unfold needB; rw [hnq]
      have hlv : lowB k s p i = (has s (i : Int) && aboveB k.2.2 p (i : Int)) := rfl
      have next : needB k s p i = false → lowB k s p i = false → ∀ j, j < i + 1 → needB k s p j = false ∧ lowB k s p j = false := fun q1 q2 j hj => by
        by_cases hji : j = i
        · rw [hji]; exact ⟨q1, q2⟩
        · exact hh j (by omega)
      cases h1 : has s (i : Int) with
      | false =>
        rw [h1, Bool.false_and] at hnv hlv
        exact .inl ⟨(), next hnv hlv, rfl⟩
      | true =>
        rw [h1, Bool.true_and] at hnv hlv
        cases h2 : aboveB k.2.2 p (i : Int) with
        | true =>
          rw [h2] at hlv
          have : (List.range k.1.length).any (lowB k s p) = true := List.any_eq_true.2 ⟨i, List.mem_range.2 hi, hlv⟩
          exact .inr ⟨_, rfl, by rw [this]; simp⟩
        | false =>
          rw [h2] at hlv
          cases h3 : decide (p ∈ qi.2.2.2) with
          | true =>
            rw [h3] at hnv
            have : (List.range k.1.length).any (needB k s p) = true := List.any_eq_true.2 ⟨i, List.mem_range.2 hi, hnv⟩
            exact .inr ⟨_, rfl, by rw [this]; rfl⟩
          | false =>
            rw [h3] at hnv
            refine .inl ⟨(), next hnv hlv, ?_⟩
            simp only [Bool.not_true, cond_false, sumK_inr]
            rw [w64 (by omega) (by omega)]
            rfl)
  have e' : L85_4 fuel ((s, p, 0, ()), (k, ()), ()) = _ := e
  rw [e', derefK_some]
  cases (!(List.range k.1.length).any (needB k s p) && !(List.range k.1.length).any (lowB k s p)) <;> rfl
end Go.Proofs.Try.V
