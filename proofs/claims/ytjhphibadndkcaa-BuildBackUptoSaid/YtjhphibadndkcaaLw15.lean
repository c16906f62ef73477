/- Plain laws of layer 8 (for buildLogs). No condition beyond those typed in each theorem. -/
import Derived.Test.YtjhphibadndkcaaLw14
import Derived.Test.YtjhphibadndkcaaLw12
namespace Go.Proofs.Try.V
open Go.Vi
set_option maxRecDepth 100000

abbrev LSt := List Int × List Bool
abbrev Stp := Int × Int
def pinsOf (k : Kit) : List Int := k.1.map (·.2.2.1)
def stepL (k : Kit) (x : Stp) (st : LSt) : Option LSt :=
  bif rng x.2 0 ((k.1.length : Int) - 1) then
    bif x.1 == 1 then (bif canB k st.2 x.2 && (needsOf k x.2).all (fun q => val st.1 q == 0) then some (st.1, st.2.set x.2.toNat true) else none)
    else bif x.1 == 2 then (bif has st.2 x.2 && !(val st.1 x.2 == 0) then some (st.1.set x.2.toNat (val st.1 x.2 - 1), st.2) else none)
    else none
  else none
def logGo (k : Kit) : Nat → List Stp → LSt → Option Nat × LSt
  | _, [], st => (none, st)
  | i, x :: r, st => match stepL k x st with
    | some st' => logGo k (i + 1) r st'
    | none => (some i, st)
def logR (k : Kit) (l : List Stp) : Option Nat × LSt := logGo k 0 l (pinsOf k, List.replicate k.1.length false)
structure LInv (k : Kit) (st : LSt) : Prop where
  p : st.1.length = k.1.length
  s : st.2.length = k.1.length
  v : ∀ q : Int, 0 ≤ q → q < k.1.length → 0 ≤ val st.1 q ∧ val st.1 q ≤ 9

theorem stepL_inv {k : Kit} {x : Stp} {st st' : LSt} (h : LInv k st) (e : stepL k x st = some st') : LInv k st' := by
  unfold stepL at e
  cases h1 : rng x.2 0 ((k.1.length : Int) - 1) with
  | false => rw [h1] at e; cases e
  | true =>
  rw [h1, cond_true] at e
  simp only [rng, Bool.and_eq_true, decide_eq_true_eq] at h1
  cases h2 : x.1 == 1 with
  | true =>
    rw [h2, cond_true] at e
    cases h3 : canB k st.2 x.2 && (needsOf k x.2).all (fun q => val st.1 q == 0) with
    | false => rw [h3] at e; cases e
    | true =>
      rw [h3, cond_true] at e
      cases e
      exact ⟨h.p, by simp [h.s], h.v⟩
  | false =>
    rw [h2, cond_false] at e
    cases h4 : x.1 == 2 with
    | false => rw [h4] at e; cases e
    | true =>
      rw [h4, cond_true] at e
      cases h3 : has st.2 x.2 && !(val st.1 x.2 == 0) with
      | false => rw [h3] at e; cases e
      | true =>
        rw [h3, cond_true] at e
        cases e
        simp only [Bool.and_eq_true, Bool.not_eq_true', beq_eq_false_iff_ne, ne_eq] at h3
        refine ⟨by simp [h.p], h.s, fun q h0 hq => ?_⟩
        have hx := h.v x.2 h1.1 (by omega)
        by_cases e : q = x.2
        · rw [e]
          show 0 ≤ val (st.1.set x.2.toNat (val st.1 x.2 - 1)) x.2 ∧ val (st.1.set x.2.toNat (val st.1 x.2 - 1)) x.2 ≤ 9
          rw [val_set_self h1.1 (by rw [h.p]; omega)]
          omega
        · show 0 ≤ val (st.1.set x.2.toNat (val st.1 x.2 - 1)) q ∧ val (st.1.set x.2.toNat (val st.1 x.2 - 1)) q ≤ 9
          rw [val_set_ne h1.1 h0 e]
          exact h.v q h0 hq
theorem start_inv {k : Kit} (hf : Fine k) : LInv k (pinsOf k, List.replicate k.1.length false) := by
  refine ⟨by simp [pinsOf], by simp, fun q h0 hq => ?_⟩
  have hq' : k.1[q.toNat]? = some (k.1[q.toNat]'(by omega)) := List.getElem?_eq_getElem (by omega)
  generalize k.1[q.toNat]'(by omega) = p at hq'
  have := (hf.each _ _ hq').2.2.1
  simp only [rng, Bool.and_eq_true, decide_eq_true_eq] at this
  have e : val (pinsOf k) q = p.2.2.1 := by
    unfold val pinsOf
    rw [List.getD_eq_getElem?_getD, List.getElem?_map, hq']
    rfl
  show 0 ≤ val (pinsOf k) q ∧ val (pinsOf k) q ≤ 9
  rw [e]
  omega
theorem logGo_inv {k : Kit} : ∀ (l : List Stp) (i : Nat) (st : LSt), LInv k st → LInv k (logGo k i l st).2
  | [], _, _, h => h
  | x :: r, i, st, h => by
    unfold logGo
    cases e : stepL k x st with
    | none => exact h
    | some st' => exact logGo_inv r (i + 1) st' (stepL_inv h e)

theorem L61_8_eq' {k : Kit} (hf : Fine k) (l : List Stp) (y : Option Yard) (s : List Bool) {N : Nat} (hN : k.1.length + 0 < N) :
    L61_8 N ((l, y, k.1, (k.1.length : Int), 0, ()), ([], s, ()), ()) = some ((l, y, ()), (pinsOf k, s, ()), ()) := by
  have h16 := hf.parts
  exact loopF (L := L61_8) (fun i => ((l, y, k.1, (k.1.length : Int), (i : Int), ()), ((k.1.take i).map (·.2.2.1), s, ()), ())) (((l, y, ()), (pinsOf k, s, ()), ())) 0 k.1.length hN
    (fun N => by
      simp only [L61_8, B61_8]
      rw [dec_f (by omega), List.take_length]
      rfl)
    (fun N i _ hi => by
      simp only [L61_8, B61_8]
      rw [dec_t (by omega), cond_true, getI_nat (gd_nat hi), lenK_in (by simp; omega) (by simp; omega), w64 (by omega) (by omega), take_nat hi, List.map_append]
      rfl)

theorem g88_eq {pins : List Int} {p : Int} (h0 : 0 ≤ p) (h : p < pins.length) : g88 (p, pins, ()) = some ((decide (val pins p > 0), ()), ()) := by
  have hF : g88 (p, pins, ()) = F88 fuel p pins := rfl
  rw [hF]
  unfold F88
  rw [getI_val h0 h]

theorem any_loose {pins : List Int} : ∀ {l : List Int}, (∀ q ∈ l, 0 ≤ val pins q) → (!l.any fun q => decide (val pins q > 0)) = l.all fun q => val pins q == 0
  | [], _ => rfl
  | q :: l, h => by
    rw [List.any_cons, List.all_cons, Bool.not_or, any_loose (fun q hq => h q (List.mem_cons_of_mem _ hq))]
    congr 1
    have := h q List.mem_cons_self
    by_cases e : val pins q = 0
    · rw [e]; rfl
    · rw [dec_t (by omega), show (val pins q == 0) = false by simpa using e]; rfl

def out61 (x : Option Nat × LSt) : ((Int × Int × Unit) × ((List Bool) × (List Int) × Unit) × Unit) ⊕ ((Unit) × ((List Int) × (List Bool) × Unit) × Unit) := match x.1 with
  | some j => .inl (((j : Int), 81, ()), ([], [], ()), ())
  | none => .inr ((), (x.2.1, x.2.2, ()), ())
theorem L61_14_eq' {k : Kit} (hk : Small k) (hf : Fine k) {y : Yard} (hy : Yards k y) (l : List Stp) (hl : l.length ≤ 1048576) {st : LSt} (hst : LInv k st) {N : Nat} (hN : l.length + 0 < N) :
    L61_14 N ((some y, l, (l.length : Int), 0, ()), (st.1, st.2, ()), ()) = some (out61 (logGo k 0 l st)) := by
  have h16 := hf.parts
  obtain ⟨_, h, rfl⟩ := loop0 (L := L61_14) (fun i (st : LSt) => ((some y, l, (l.length : Int), (i : Int), ()), (st.1, st.2, ()), ())) (fun i s => LInv k s ∧ logGo k i (l.drop i) s = logGo k 0 l st) (fun r => r = out61 (logGo k 0 l st)) 0 l.length (s := st) ⟨hst, rfl⟩ hN
    (by
      rintro N s ⟨hs, e⟩
      simp only [L61_14, B61_14]
      rw [dec_f (by omega)]
      refine ⟨_, rfl, ?_⟩
      rw [← e, List.drop_length]
      rfl)
    (by
      rintro N i s - hi ⟨hs, e⟩
      rw [drop_nat hi] at e
      simp only [L61_14, B61_14]
      rw [dec_t (by omega), cond_true, getI_nat (gd_nat hi)]
      generalize gd l (i : Int) = x at e
      obtain ⟨kd, p⟩ := x
      simp only [logGo, stepL] at e
      simp only [g54_eq, derefK_some]
      have hsl := hs.s
      have hpl := hs.p
      rw [w64 (x := (s.2.length : Int) - 1) (by omega) (by omega), w64 (x := (i : Int) + 1) (by omega) (by omega), hs.s]
      cases h1 : rng p 0 ((k.1.length : Int) - 1) with
      | false =>
        rw [h1] at e
        exact .inr ⟨_, rfl, by rw [← e]; rfl⟩
      | true =>
      have h1' := h1
      simp only [rng, Bool.and_eq_true, decide_eq_true_eq] at h1'
      have hp : p < k.1.length := by omega
      rw [h1, cond_true] at e
      simp only [cond_true]
      cases h2 : kd == 1 with
      | true =>
        obtain rfl : kd = 1 := by simpa using h2
        simp only [h2, cond_true] at e
        simp only [cond_true, show ((1 : Int) == 2) = false from rfl, cond_false]
        rw [g56_eq hk hf hy hs.s h1'.1 hp, derefK_some]
        cases hc : canB k s.2 p with
        | false =>
          rw [hc] at e
          exact .inr ⟨_, rfl, by rw [← e]; rfl⟩
        | true =>
          rw [hc] at e
          have hyk := hy.1
          have hq : k.1[p.toNat]? = some (k.1[p.toNat]'(by omega)) := List.getElem?_eq_getElem (by omega)
          generalize k.1[p.toNat]'(by omega) = q at hq
          have hnl := hk.needs q (List.mem_of_getElem? hq)
          have hnq : needsOf k p = q.2.2.2 := by unfold needsOf; rw [hq]
          have hni := needs_in hf h1'.1 hp
          rw [hnq] at hni e
          simp only [cond_true]
          rw [hyk, getI_some h1'.1 hq, g63_eq hnl (b := fun v => decide (val s.1 v > 0)) (fun v hv => by
            have := hni v hv
            rw [g88_eq this.1 (by omega)]; rfl), derefK_some]
          simp only
          rw [any_loose (fun v hv => (hs.v v (hni v hv).1 (hni v hv).2.1).1)]
          cases hz : q.2.2.2.all fun v => val s.1 v == 0 with
          | false =>
            rw [hz] at e
            exact .inr ⟨_, rfl, by rw [← e]; rfl⟩
          | true =>
            rw [hz] at e
            refine .inl ⟨(s.1, s.2.set p.toNat true), ⟨⟨hs.p, by simp [hs.s], hs.v⟩, e⟩, ?_⟩
            rw [cond_true, inR_in h1'.1 (by omega), getI_has h1'.1 (by omega)]
            rfl
      | false =>
        simp only [h2, cond_false] at e
        simp only [cond_false]
        cases h3 : kd == 2 with
        | false =>
          rw [h3] at e
          exact .inr ⟨_, rfl, by rw [← e]; rfl⟩
        | true =>
          rw [h3, cond_true] at e
          rw [cond_true, inR_in h1'.1 (by omega), getI_has h1'.1 (by omega)]
          cases h4 : has s.2 p with
          | false =>
            rw [h4] at e
            exact .inr ⟨_, rfl, by rw [← e]; rfl⟩
          | true =>
            have hv := hs.v p h1'.1 hp
            rw [h4] at e
            rw [cond_true, g88_eq h1'.1 (by omega), derefK_some]
            by_cases h5 : val s.1 p = 0
            · rw [show (val s.1 p == 0) = true by simpa using h5] at e
              rw [dec_f (by omega)]
              exact .inr ⟨_, rfl, by rw [← e]; rfl⟩
            · rw [show (val s.1 p == 0) = false by simpa using h5] at e
              rw [dec_t (by omega)]
              have hnew : stepL k (kd, p) s = some (s.1.set p.toNat (val s.1 p - 1), s.2) := by
                simp only [stepL, h1, h2, h3, h4, cond_true, cond_false, show (val s.1 p == 0) = false by simpa using h5, Bool.not_false, Bool.and_true]
              refine .inl ⟨(s.1.set p.toNat (val s.1 p - 1), s.2), ⟨stepL_inv hs hnew, e⟩, ?_⟩
              rw [cond_true, inR_in h1'.1 (by omega), getI_val h1'.1 (by omega), inR_in h1'.1 (by omega), getI_val h1'.1 (by omega), w64 (by omega) (by omega)]
              rfl)
  exact h

/-! ## The document's -/
theorem L62_4_eq' {k : Kit} (hf : Fine k) (l : List Stp) (s : List Bool) {N : Nat} (hN : k.1.length + 0 < N) :
    L62_4 N ((l, 0, ()), (k, [], s, ()), ()) = some ((l, ()), (k, pinsOf k, s, ()), ()) := by
  have h16 := hf.parts
  exact loopF (L := L62_4) (fun i => ((l, (i : Int), ()), (k, (k.1.take i).map (·.2.2.1), s, ()), ())) (((l, ()), (k, pinsOf k, s, ()), ())) 0 k.1.length hN
    (fun N => by
      simp only [L62_4, B62_4]
      rw [dec_f (by omega), List.take_length]
      rfl)
    (fun N i _ hi => by
      simp only [L62_4, B62_4]
      rw [dec_t (by omega), cond_true, getI_nat (gd_nat hi), lenK_in (by simp; omega) (by simp; omega), w64 (by omega) (by omega), take_nat hi, List.map_append]
      rfl)
theorem L62_19_eq' (k : Kit) (l : List Stp) (i : Int) (x : Stp) (pins : List Int) (s : List Bool) (n : List Int) (hn : n.length ≤ 1048576) (hr : ∀ q ∈ n, 0 ≤ q ∧ q < pins.length) {N : Nat} (hN : n.length + 0 < N) :
    L62_19 N ((l, i, n, true, 0, ()), (k, pins, x, s, ()), ()) = some ((l, i, n.all (fun q => val pins q == 0), ()), (k, pins, x, s, ()), ()) := by
  exact loopF (L := L62_19) (fun j => ((l, i, n, (n.take j).all (fun q => val pins q == 0), (j : Int), ()), (k, pins, x, s, ()), ())) ((l, i, n.all (fun q => val pins q == 0), ()), (k, pins, x, s, ()), ()) 0 n.length hN
    (fun N => by
      simp only [L62_19, B62_19]
      rw [dec_f (by omega), List.take_length]
      rfl)
    (fun N j _ hj => by
      have hq := hr _ (gd_mem (l := n) (i := (j : Int)) (by omega) (by omega))
      simp only [L62_19, B62_19]
      rw [dec_t (by omega), cond_true, getI_nat (gd_nat hj), w64 (by omega) (by omega), take_nat hj, List.all_append]
      cases (n.take j).all fun q => val pins q == 0 with
      | false => rfl
      | true =>
        rw [cond_true, inR_in hq.1 hq.2, getI_val hq.1 hq.2]
        simp)

def out62 (x : Option Nat × LSt) : ((Int × Unit) × ((List Int) × (List Bool) × Unit) × Unit) ⊕ ((Unit) × ((List Int) × (List Bool) × Unit) × Unit) := match x.1 with
  | some j => .inl (((j : Int), ()), (x.2.1, x.2.2, ()), ())
  | none => .inr ((), (x.2.1, x.2.2, ()), ())
theorem L62_8_eq' {k : Kit} (hk : Small k) (hf : Fine k) (l : List Stp) (hl : l.length ≤ 1048576) {st : LSt} (hst : LInv k st) {N : Nat} (hN : l.length + 1048577 < N) :
    L62_8 N ((l, 0, ()), (k, st.1, st.2, ()), ()) = some (out62 (logGo k 0 l st)) := by
  have h16 := hf.parts
  obtain ⟨_, h, rfl⟩ := loop0 (L := L62_8) (fun i (st : LSt) => ((l, (i : Int), ()), (k, st.1, st.2, ()), ())) (fun i s => LInv k s ∧ logGo k i (l.drop i) s = logGo k 0 l st) (fun r => r = out62 (logGo k 0 l st)) 1048577 l.length (s := st) ⟨hst, rfl⟩ hN
    (by
      rintro N s ⟨hs, e⟩
      simp only [L62_8, B62_8]
      rw [dec_f (by omega)]
      refine ⟨_, rfl, ?_⟩
      rw [← e, List.drop_length]
      rfl)
    (by
      rintro N i s hN' hi ⟨hs, e⟩
      rw [drop_nat hi] at e
      simp only [L62_8, B62_8]
      rw [dec_t (by omega), cond_true, getI_nat (gd_nat hi)]
      generalize gd l (i : Int) = x at e
      obtain ⟨kd, p⟩ := x
      simp only [logGo, stepL] at e
      simp only [g57_eq, derefK_some]
      have hsl := hs.s
      have hpl := hs.p
      rw [w64 (x := (s.2.length : Int) - 1) (by omega) (by omega), w64 (x := (i : Int) + 1) (by omega) (by omega), hs.s]
      cases h1 : rng p 0 ((k.1.length : Int) - 1) with
      | false =>
        rw [h1] at e
        exact .inr ⟨_, rfl, by rw [← e]; rfl⟩
      | true =>
      have h1' := h1
      simp only [rng, Bool.and_eq_true, decide_eq_true_eq] at h1'
      have hp : p < k.1.length := by omega
      rw [h1, cond_true] at e
      simp only [Bool.not_true, cond_false]
      cases h2 : kd == 1 with
      | true =>
        obtain rfl : kd = 1 := by simpa using h2
        simp only [h2, cond_true] at e
        have hq : k.1[p.toNat]? = some (k.1[p.toNat]'(by omega)) := List.getElem?_eq_getElem (by omega)
        generalize k.1[p.toNat]'(by omega) = q at hq
        have hnl := hk.needs q (List.mem_of_getElem? hq)
        have hnq : needsOf k p = q.2.2.2 := by unfold needsOf; rw [hq]
        have hni := needs_in hf h1'.1 hp
        rw [hnq] at hni e
        rw [cond_true, getI_some h1'.1 hq]
        rw [L62_19_eq' k l (i : Int) (1, p) s.1 s.2 q.2.2.2 hnl (fun v hv => by have := hni v hv; omega) (by omega), derefK_some]
        simp only
        cases hz : q.2.2.2.all fun v => val s.1 v == 0 with
        | false =>
          rw [hz, Bool.and_false] at e
          exact .inr ⟨_, rfl, by rw [← e]; rfl⟩
        | true =>
          rw [hz, Bool.and_true] at e
          simp only [Bool.not_true, cond_false]
          rw [g58_eq hk hf hs.s h1'.1 hp, derefK_some]
          cases hc : canB k s.2 p with
          | false =>
            rw [hc] at e
            exact .inr ⟨_, rfl, by rw [← e]; rfl⟩
          | true =>
            rw [hc] at e
            refine .inl ⟨(s.1, s.2.set p.toNat true), ⟨⟨hs.p, by simp [hs.s], hs.v⟩, e⟩, ?_⟩
            simp only [Bool.not_true, cond_false]
            rw [inR_in h1'.1 (by omega), getI_has h1'.1 (by omega)]
            rw [w64 (x := (i : Int) + 1) (by omega) (by omega)]
            rfl
      | false =>
        simp only [h2, cond_false] at e
        simp only [cond_false]
        cases h3 : kd == 2 with
        | false =>
          rw [h3] at e
          exact .inr ⟨_, rfl, by rw [← e]; rfl⟩
        | true =>
          rw [h3, cond_true] at e
          rw [cond_true, inR_in h1'.1 (by omega), getI_has h1'.1 (by omega)]
          cases h4 : has s.2 p with
          | false =>
            rw [h4] at e
            exact .inr ⟨_, rfl, by rw [← e]; rfl⟩
          | true =>
            have hv := hs.v p h1'.1 hp
            rw [h4] at e
            rw [Bool.not_true, cond_false, inR_in h1'.1 (by omega), getI_val h1'.1 (by omega)]
            cases h5 : val s.1 p == 0 with
            | true =>
              rw [h5] at e
              exact .inr ⟨_, rfl, by rw [← e]; rfl⟩
            | false =>
              rw [h5] at e
              have hnew : stepL k (kd, p) s = some (s.1.set p.toNat (val s.1 p - 1), s.2) := by
                simp only [stepL, h1, h2, h3, h4, h5, cond_true, cond_false, Bool.not_false, Bool.and_true]
              refine .inl ⟨(s.1.set p.toNat (val s.1 p - 1), s.2), ⟨stepL_inv hs hnew, e⟩, ?_⟩
              rw [cond_false, inR_in h1'.1 (by omega), getI_val h1'.1 (by omega), inR_in h1'.1 (by omega), getI_val h1'.1 (by omega), w64 (by omega) (by omega)]
              rfl)
  exact h

def out61f (k : Kit) (l : List Stp) : List Bool × List Int × Int × Int := bif valid k then (bif decide ((l.length : Int) > 300) then ([], [], 0, 2) else match (logR k l).1 with
  | some j => ([], [], (j : Int), 81)
  | none => ((logR k l).2.2, (logR k l).2.1, 0, 0)) else ([], [], 0, 80)
theorem g61_eq (k : Kit) (hk : Small k) (l : List Stp) (hl : l.length ≤ 1048576) : g61 (k, l, ()) = some (((out61f k l).1, (out61f k l).2.1, (out61f k l).2.2.1, (out61f k l).2.2.2, ()), ()) := by
  have hF : g61 (k, l, ()) = F61 fuel k l := rfl
  have hfu := fuel_big
  rw [hF]
  unfold F61 out61f
  rcases g48_eq k hk with ⟨hv, q, h⟩ | ⟨hv, y, hy, h⟩
  · rw [h, hv]; rfl
  · have hf := fine_of k hv
    have h16 := hf.parts
    rw [h, hv, derefK_some]
    simp only [Bool.not_true, cond_false, cond_true]
    cases decide ((l.length : Int) > 300) with
    | true => rfl
    | false =>
      simp only [cond_false]
      rw [leK_in (by omega), leK_in (by omega), lenK_in (by omega) (by omega), L61_8_eq' hf l (some y) _ (by omega), derefK_some]
      simp only [Int.toNat_natCast]
      rw [L61_14_eq' hk hf hy l hl (st := (pinsOf k, List.replicate k.1.length false)) (start_inv hf) (by omega), derefK_some]
      unfold out61 logR
      cases (logGo k 0 l (pinsOf k, List.replicate k.1.length false)).1 <;> rfl
theorem g62_eq (k : Kit) (hk : Small k) (hf : Fine k) (l : List Stp) (hl : l.length ≤ 1048576) : g62 (k, l, ()) = some (((match (logR k l).1 with | some j => (j : Int) | none => -1), (logR k l).2.2, (logR k l).2.1, ()), ()) := by
  have hF : g62 (k, l, ()) = F62 fuel k l := rfl
  have hfu := fuel_big
  have h16 := hf.parts
  rw [hF]
  unfold F62
  rw [leK_in (by omega), leK_in (by omega), lenK_in (by omega) (by omega)]
  simp only [Int.toNat_natCast]
  rw [L62_4_eq' hf l _ (by omega), derefK_some]
  simp only
  rw [L62_8_eq' hk hf l hl (st := (pinsOf k, List.replicate k.1.length false)) (start_inv hf) (by omega), derefK_some]
  unfold out62 logR
  cases (logGo k 0 l (pinsOf k, List.replicate k.1.length false)).1 <;> rfl

theorem g29_eq (k : Kit) (hk : Small k) (l : List Stp) (hl : l.length ≤ 1048576) : g29 (k, l, ()) = some (((out61f k l).2.2.1, (out61f k l).2.2.2, ()), ()) := by
  have hF : g29 (k, l, ()) = F29 fuel k l := rfl
  rw [hF]
  unfold F29 out61f
  rw [g33_eq k hk, derefK_some]
  cases hv : valid k with
  | false => rfl
  | true =>
    simp only [cond_true, bne_self_eq_false, cond_false]
    cases decide ((l.length : Int) > 300) with
    | true => rfl
    | false =>
      simp only [cond_false]
      rw [g62_eq k hk (fine_of k hv) l hl, derefK_some]
      cases (logR k l).1 with
      | none => rfl
      | some j => simp only; rw [dec_t (by omega)]; rfl
theorem g28_eq (k : Kit) (hk : Small k) (l : List Stp) (hl : l.length ≤ 1048576) : g28 (k, l, ()) = some (((out61f k l).2.2.1, (out61f k l).2.2.2, ()), ()) := by
  have hF : g28 (k, l, ()) = F28 fuel k l := rfl
  rw [hF]
  unfold F28
  rw [g61_eq k hk l hl, derefK_some]

def readyB (k : Kit) (st : LSt) : Bool := (rangeI k.1.length).all fun p => has st.2 p && val st.1 p == 0
def readyR (k : Kit) (l : List Stp) : Bool × List Int := bif (out61f k l).2.2.2 != 0 then (false, []) else (readyB k (logR k l).2, (logR k l).2.1)
theorem out61f_ok {k : Kit} {l : List Stp} (h : ((out61f k l).2.2.2 != 0) = false) : valid k = true ∧ (logR k l).1 = none ∧ out61f k l = ((logR k l).2.2, (logR k l).2.1, 0, 0) ∧ LInv k (logR k l).2 := by
  unfold out61f at *
  cases hv : valid k with
  | false => rw [hv] at h; cases h
  | true =>
    rw [hv] at h
    rw [cond_true] at h ⊢
    cases hd : decide ((l.length : Int) > 300) with
    | true => rw [hd] at h; cases h
    | false =>
      rw [hd] at h
      rw [cond_false] at h ⊢
      cases hl : (logR k l).1 with
      | some j => rw [hl] at h; cases h
      | none => exact ⟨rfl, rfl, rfl, logGo_inv l 0 _ (start_inv (fine_of k hv))⟩
theorem has_mem {s : List Bool} : false ∈ s ↔ ∃ i : Nat, i < s.length ∧ has s (i : Int) = false := by
  constructor
  · intro h
    obtain ⟨i, hi, e⟩ := List.mem_iff_getElem.1 h
    refine ⟨i, hi, ?_⟩
    unfold has
    rw [List.getD_eq_getElem?_getD, show ((i : Int)).toNat = i by omega, List.getElem?_eq_getElem hi, e]
    rfl
  · rintro ⟨i, hi, e⟩
    unfold has at e
    rw [List.getD_eq_getElem?_getD, show ((i : Int)).toNat = i by omega, List.getElem?_eq_getElem hi] at e
    have e : s[i] = false := e
    rw [← e]
    exact List.getElem_mem hi
theorem any_val {S : List Int} (b : Int → Bool) : S.any b = true ↔ ∃ i : Nat, i < S.length ∧ b (val S (i : Int)) = true := by
  have e : ∀ (i : Nat) (hi : i < S.length), val S (i : Int) = S[i] := fun i hi => by
    unfold val
    rw [List.getD_eq_getElem?_getD, show ((i : Int)).toNat = i by omega, List.getElem?_eq_getElem hi]
    rfl
  rw [List.any_eq_true]
  constructor
  · rintro ⟨x, hx, hb⟩
    obtain ⟨i, hi, rfl⟩ := List.mem_iff_getElem.1 hx
    exact ⟨i, hi, by rw [e i hi]; exact hb⟩
  · rintro ⟨i, hi, hb⟩
    exact ⟨S[i], List.getElem_mem hi, by rw [← e i hi]; exact hb⟩
theorem g30_eq (k : Kit) (hk : Small k) (l : List Stp) (hl : l.length ≤ 1048576) : g30 (k, l, ()) = some (((readyR k l).1, (readyR k l).2, (out61f k l).2.2.2, ()), ()) := by
  have hF : g30 (k, l, ()) = F30 fuel k l := rfl
  rw [hF]
  unfold F30 readyR
  rw [g61_eq k hk l hl, derefK_some]
  simp only
  cases h : (out61f k l).2.2.2 != 0 with
  | true => rfl
  | false =>
    obtain ⟨hv, hn, ho, hi⟩ := out61f_ok h
    have h16 := (fine_of k hv).parts
    have hs := hi.s
    have hp := hi.p
    rw [ho]
    simp only [cond_false]
    rw [g55_eq (by omega), derefK_some]
    simp only
    have key : readyB k (logR k l).2 = (!decide (false ∈ (logR k l).2.2) && !(logR k l).2.1.any fun v => decide (v > 0)) := by
      rw [Bool.eq_iff_iff]
      unfold readyB
      simp only [List.all_eq_true, Bool.and_eq_true, Bool.not_eq_true', decide_eq_false_iff_not, beq_iff_eq]
      rw [has_mem, ← Bool.not_eq_true, any_val]
      constructor
      · intro hh
        refine ⟨?_, ?_⟩
        · rintro ⟨i, hi', e⟩
          have := (hh (i : Int) (rangeI_mem.2 ⟨by omega, by omega⟩)).1
          rw [e] at this
          cases this
        · rintro ⟨i, hi', e⟩
          have := (hh (i : Int) (rangeI_mem.2 ⟨by omega, by omega⟩)).2
          rw [decide_eq_true_eq] at e
          omega
      · rintro ⟨h1, h2⟩ p hp'
        have hp2 := rangeI_mem.1 hp'
        have hv' := hi.v p hp2.1 hp2.2
        have e : ((p.toNat : Nat) : Int) = p := by omega
        refine ⟨?_, ?_⟩
        · cases hf : has (logR k l).2.2 p with
          | true => rfl
          | false => exact absurd ⟨p.toNat, by omega, by rw [e]; exact hf⟩ h1
        · rcases Int.lt_or_le 0 (val (logR k l).2.1 p) with h3 | h3
          · exact absurd ⟨p.toNat, by omega, by rw [e]; exact decide_eq_true h3⟩ h2
          · omega
    rw [key]
    cases hd : decide (false ∈ (logR k l).2.2) with
    | true => rfl
    | false =>
      simp only [Bool.not_false, cond_true, Bool.true_and]
      rw [g63_eq (f := fun v3 => derefK (g64 (v3, ())) fun y4 => some y4.1.1) (by omega) (b := fun v => decide (v > 0)) (fun v _ => rfl), derefK_some]
theorem L31_7_eq' (s : List Bool) (pins : List Int) (hs : s.length ≤ 1048576) (hp : pins.length = s.length) {N : Nat} (hN : s.length + 0 < N) :
    L31_7 N ((true, 0, ()), (s, pins, ()), ()) = some (((rangeI s.length).all fun p => has s p && val pins p == 0, ()), (pins, ()), ()) := by
  exact loopF (L := L31_7) (fun j => (((rangeI j).all fun p => has s p && val pins p == 0, (j : Int), ()), (s, pins, ()), ())) (((rangeI s.length).all fun p => has s p && val pins p == 0, ()), (pins, ()), ()) 0 s.length hN
    (fun N => by
      simp only [L31_7, B31_7]
      rw [dec_f (by omega)]
      rfl)
    (fun N j _ hj => by
      have e : rangeI (j + 1) = rangeI j ++ [(j : Int)] := by unfold rangeI; rw [List.range_succ, List.map_append]; rfl
      simp only [L31_7, B31_7]
      rw [dec_t (by omega), cond_true, w64 (by omega) (by omega), e, List.all_append]
      cases (rangeI j).all fun p => has s p && val pins p == 0 with
      | false => rfl
      | true =>
        rw [cond_true, inR_in (by omega) (by omega), getI_has (by omega) (by omega), inR_in (by omega) (by omega), getI_val (by omega) (by omega)]
        simp only [List.all_cons, List.all_nil, Bool.and_true, Bool.true_and]
        cases has s (j : Int) <;> rfl)
theorem g31_eq (k : Kit) (hk : Small k) (l : List Stp) (hl : l.length ≤ 1048576) : g31 (k, l, ()) = some (((readyR k l).1, (readyR k l).2, (out61f k l).2.2.2, ()), ()) := by
  have hF : g31 (k, l, ()) = F31 fuel k l := rfl
  rw [hF]
  unfold F31 readyR
  rw [g29_eq k hk l hl, derefK_some]
  simp only
  cases h : (out61f k l).2.2.2 != 0 with
  | true => rfl
  | false =>
    obtain ⟨hv, hn, ho, hi⟩ := out61f_ok h
    have h16 := (fine_of k hv).parts
    have hs := hi.s
    have hp := hi.p
    have hfu := fuel_big
    simp only [cond_false]
    rw [g62_eq k hk (fine_of k hv) l hl, derefK_some, hn]
    simp only
    rw [L31_7_eq' _ _ (by omega) (by omega) (by omega), derefK_some, ho, hs]
    rfl

theorem readyR_len (k : Kit) (l : List Stp) : (readyR k l).2.length ≤ 1048576 := by
  unfold readyR
  cases h : (out61f k l).2.2.2 != 0 with
  | true => simp
  | false =>
    obtain ⟨hv, hn, ho, hi⟩ := out61f_ok h
    have h16 := (fine_of k hv).parts
    have hp := hi.p
    rw [cond_false]
    simp only
    omega
theorem law7 (k : Kit) (hk : Small k) (l : List Stp) (hl : l.length ≤ 1048576) : g7 (k, l, ()) = some ((true, ()), ()) := by
  have hF : g7 (k, l, ()) = F7 fuel k l := rfl
  rw [hF]
  unfold F7
  rw [g28_eq k hk l hl, g29_eq k hk l hl, derefK_some, derefK_some]
  simp only [bne_self_eq_false, cond_false]
  rw [g30_eq k hk l hl, g31_eq k hk l hl, derefK_some, derefK_some]
  simp only [beq_self_eq_true, cond_true]
  rw [g18_self _ (readyR_len k l), derefK_some]
  simp only [cond_true]
  rw [works_eq]
  rfl
end Go.Proofs.Try.V
