/- Plain laws: a circuit's play, the motors of its blocks. No condition beyond those typed in each theorem. -/
import Derived.Test.YtdecnbepmnjeiaaT12w
namespace Go.Proofs.Try.V.Top
open Go.Vi
open L10 (rng jL)
open L05 (smK)
set_option maxRecDepth 100000
def qg1 (c : qaY) (row : List Spt) : Prop := row.length = c.2.length ∧ ∀ x ∈ row, 0 ≤ x.1 ∧ x.1 < c.1.length
theorem playR (c : qaY) (n : Int) (l : List Prs) (f : List Flt) (h1 : c.1.length ≤ 1000) (h2 : c.2.length ≤ 1000) (h3 : l.length ≤ 1000) (h4 : f.length ≤ 1000) : Okq (fun r : ((List (List Spt)) × Int × Unit) × Unit => r.1.2.1 = 0 → OkC c ∧ (r.1.1.length : Int) = n ∧ ∀ row ∈ r.1.1, qg1 c row) (g6 (c, n, l, f, ())) := by
 show Okq _ (F6 qj c n l f)
 unfold F6
 refine qQ (scriptR c n l f h1 h2 h3 h4) fun y hy => qw (fun hb => qx fun e => ?_) fun hb => ?_
 ·exact absurd hb (by rw [show y.1.1 = 0 from e]; decide)
 have hS := hy (by simpa using hb)
 have t0 := hS.t0
 have t1 := hS.t1
 refine qQ (newR c f hS.cir) fun y hy => ?_
 refine qQ (S := fun o : Unit × ((List (List Spt)) × Unit) × Unit => (o.2.1.1.length : Int) = n ∧ ∀ row ∈ o.2.1.1, qg1 c row) (qaj (L := L6_6) (fun i (s : (List (List Spt)) × Trk) => ((l, n, (i : Int), ()), (s.1, s.2, ()), ())) (fun i s => Inv c f s.2 ∧ s.1.length = i ∧ ∀ row ∈ s.1, qg1 c row) 0 n.toNat (s := ([], y.1.1)) ⟨hy, rfl, fun _ h => by cases h⟩ (by have := jP; omega) ?_ ?_) fun o ho => qx fun _ => ⟨hS.cir, ho⟩
 ·rintro N ⟨out, s⟩ - ⟨h, hl, hr⟩
  simp only [L6_6, B6_6]
  rw [qL (by omega)]
  exact qx ⟨by dsimp only at hl ⊢; omega, hr⟩
 ·rintro N i ⟨out, s⟩ - hi ⟨h, hl, hr⟩ ih
  dsimp only at hl
  simp only [L6_6, B6_6]
  rw [qM (by omega), cond_true, wI (x := (i : Int) + 1) (by omega) (by omega)]
  refine qQ (stepR hS h) fun y hy => qQ (rowR hy) fun z hz => qcC (by omega) (by simp only [List.length_singleton]; omega) ?_
  refine ih (_, _) ⟨hy, by simp only [List.length_append, List.length_singleton]; omega, fun row hrow => ?_⟩
  rcases List.mem_append.1 hrow with hrow | hrow
  ·exact hr row hrow
  ·rw [List.mem_singleton.1 hrow]
   exact ⟨hz.1.1, hz.2⟩
abbrev Mot := Int × (Int × (List Int))
def qcQ (m : Mot) (k : Nat) : L05.Sup := ([((-1), (m.2.1, ((0 : Int), 1)))], ((m.2.2.take k).map (fun x => ((0 : Int), ((0 : Int), (x, (0 : Int))))), (1000, ((0 : Int), 230))))
theorem take_one {α : Type} [Inhabited α] {l : List α} {i : Nat} (h : i < l.length) : l.take (i + 1) = l.take i ++ [gd l (i : Int)] := by
 rw [List.take_add_one, qep h]
 rfl
theorem supM_eq (c : qaY) (m : Mot) (rows : List (List Spt)) (hm : m.2.2.length ≤ 1000) : L3_8 qj ((c, m, rows, 0, ()), (qcQ m 0, ()), ()) = some ((c, m, rows, ()), (qcQ m m.2.2.length, ()), ()) :=
 qee (L := L3_8) (fun (i : Nat) => ((c, m, rows, (i : Int), ()), (qcQ m i, ()), ())) ((c, m, rows, ()), (qcQ m m.2.2.length, ()), ()) 0 m.2.2.length (N := qj) (by have := jP; omega)
  (fun N => by
   simp only [L3_8, B3_8]
   rw [qL (by omega)]
   rfl)
  (fun N i _ hi => by
   simp only [L3_8, B3_8]
   rw [qM (by omega), cond_true]
   have hl : (qcQ m i).2.1.length = i := by
    show ((m.2.2.take i).map _).length = i
    rw [List.length_map, List.length_take]
    omega
   have hk : ∀ {R : Type} (k : Option R), qN ((i : Int) + [((0 : Int), (0 : Int), gd m.2.2 (i : Int), (0 : Int))].length) k = k := fun k => qaq (by simp only [List.length_singleton]; omega) (by simp only [List.length_singleton]; omega) k
   simp only [qv (l := m.2.2) (i := (i : Int)) (by omega) (by omega), qa8, qaJ, qaK, hl, hk]
   rw [wI (x := (i : Int) + 1) (by omega) (by omega)]
   have e : qcQ m (i + 1) = ((qcQ m i).1, ((qcQ m i).2.1 ++ [((0 : Int), (0 : Int), gd m.2.2 (i : Int), (0 : Int))], (qcQ m i).2.2)) := by
    unfold qcQ
    rw [take_one (by omega), List.map_append]
    rfl
   rw [e]
   rfl)
theorem gd_map {α β : Type} [Inhabited α] [Inhabited β] (f : α → β) {l : List α} {k : Nat} (h : k < l.length) : gd (l.map f) (k : Int) = f (gd l (k : Int)) := by
 refine gd_of ?_
 rw [List.getElem?_map, qep h]
 rfl
theorem bestR (c : qaY) (m : Mot) (rows : List (List Spt)) (s : L05.Sup) (most t3 t4 : Int) {a : List Int} (h0 : 0 < a.length) (h1 : a.length ≤ 20) {N : Nat} (hN : 30 ≤ N) :
  Okq (fun o => ∃ b : Nat, o = ((c, m, rows, most, (b : Int), t3, t4, ()), (s, a, ()), ()) ∧ b < a.length ∧ ∀ j : Nat, j < a.length → gd a (j : Int) ≤ gd a (b : Int)) (L3_19 N ((c, m, rows, most, 0, 1, t3, t4, ()), (s, a, ()), ())) := by
 refine qid (L := L3_19) (fun i (b : Nat) => ((c, m, rows, most, (b : Int), (i : Int), t3, t4, ()), (s, a, ()), ())) (fun i b => b < i ∧ b < a.length ∧ ∀ j : Nat, j < i → gd a (j : Int) ≤ gd a (b : Int)) 0 a.length ?_ ?_ (a.length - 1) 1 N 0 (by omega) (by omega) ⟨by omega, h0, fun j hj => by
  obtain rfl : j = 0 := by omega
  exact Int.le_refl _⟩
 ·rintro N b - ⟨_, hb, hj⟩
  simp only [L3_19, B3_19]
  rw [qL (by omega)]
  exact qx ⟨b, rfl, hb, hj⟩
 ·rintro N i b - hi ⟨hbi, hb, hj⟩ ih
  simp only [L3_19, B3_19]
  rw [qM (by omega), cond_true, wI (x := (i : Int) + 1) (by omega) (by omega)]
  refine j3 (by omega) (by omega) (qz (by omega) (by omega) (j3 (by omega) (by omega) (qz (by omega) (by omega) (qw (fun h => ?_) fun h => ?_))))
  ·have h := of_decide_eq_true h
   refine ih i ⟨by omega, by omega, fun j hj' => ?_⟩
   by_cases e : j = i
   ·subst e
    exact Int.le_refl _
   ·have := hj j (by omega)
    omega
  ·have h := of_decide_eq_false h
   refine ih b ⟨by omega, hb, fun j hj' => ?_⟩
   by_cases e : j = i
   ·subst e
    omega
   ·exact hj j (by omega)
structure GInv (a : List Int) (K k : Nat) (x : Int × List Int) : Prop where
 len : x.2.length = a.length
 bd : ∀ i : Nat, i < a.length → 0 ≤ gd x.2 (i : Int) ∧ gd x.2 (i : Int) ≤ 1000
 most : 0 ≤ x.1 ∧ x.1 ≤ 1000 * k
 cov : ∀ p, Cov p a.length K → ∃ q, Cov q a.length (K - k) ∧ smK a p a.length ≤ x.1 + smK x.2 q a.length
theorem greatR (c : qaY) (m : Mot) (rows : List (List Spt)) (s : L05.Sup) {a : List Int} (h0 : 0 < a.length) (h1 : a.length ≤ 20) (hb : ∀ i : Nat, i < a.length → 0 ≤ gd a (i : Int) ∧ gd a (i : Int) ≤ 1000) (hK : c.2.length ≤ 20) :
  Okq (fun o => ∃ most : Int, o = ((c, m, rows, most, ()), (s, ()), ()) ∧ ∀ p, Cov p a.length c.2.length → smK a p a.length ≤ most) (L3_16 qj ((c, m, rows, 0, (c.2.length : Int), 0, ()), (s, a, ()), ())) := by
 refine qaj (L := L3_16) (fun k (x : Int × List Int) => ((c, m, rows, x.1, (c.2.length : Int), (k : Int), ()), (s, x.2, ()), ())) (GInv a c.2.length) 40 c.2.length (s := (0, a)) ⟨rfl, hb, ⟨Int.le_refl _, by omega⟩, fun p hp => ⟨p, hp, by show smK a p _ ≤ 0 + smK a p _; omega⟩⟩ (by have := jP; omega) ?_ ?_
 ·rintro N x - h
  simp only [L3_16, B3_16]
  rw [qL (by omega)]
  refine qx ⟨x.1, rfl, fun p hp => ?_⟩
  obtain ⟨q, ⟨xs, hx, hq⟩, he⟩ := h.cov p hp
  rw [qgd (a := x.2) (p := q) a.length fun i hi => by
   cases hi' : q i with
   | false => rfl
   | true =>
    have h2 := hq i hi hi'
    rw [List.eq_nil_of_length_eq_zero (by omega : xs.length = 0)] at h2
    cases h2] at he
  omega
 ·rintro N k x hN hk h ih
  have hl := h.len
  have hm := h.most
  simp only [L3_16, B3_16]
  rw [qM (by omega), cond_true]
  refine qQ (bestR c m rows s x.1 (c.2.length : Int) (k : Int) (a := x.2) (by omega) (by omega) (by omega)) ?_
  rintro o ⟨b, rfl, hb, hj⟩
  have hx := h.bd b (by omega)
  dsimp only
  refine j3 (by omega) (by omega) (qz (by omega) (by omega) (j3 (by omega) (by omega) (qz (by omega) (by omega) ?_)))
  rw [wI (x := (k : Int) + 1) (by omega) (by omega), wI (by omega) (by omega), Int.toNat_natCast]
  refine ih (_, _) ⟨by simp only [List.length_set]; exact hl, fun i hi => ?_, ⟨by dsimp only; omega, by dsimp only; omega⟩, fun p hp => ?_⟩
  ·rw [L05.gd_set_nat hb]
   split
   ·omega
   ·exact h.bd i hi
  ·obtain ⟨q, hq, he⟩ := h.cov p hp
   have hk' : c.2.length - k = (c.2.length - (k + 1)) + 1 := by omega
   rw [hk'] at hq
   obtain ⟨q', hq', he'⟩ := cov_step (a := x.2) hl.symm (by omega) (fun i hi => (h.bd i hi).1) (fun i hi => hj i (by omega)) hq
   exact ⟨q', hq', by dsimp only; omega⟩
def qgi (c : qaY) (row : List Spt) : Nat → Nat
 | 0 => 0
 | i + 1 => if (gd row (i : Int)).2.1 < (gd c.1 (gd row (i : Int)).1).1 then qgi c row i ||| 2 ^ (gd row (i : Int)).1.toNat else qgi c row i
theorem qh0 {c : qaY} {row : List Spt} (h : qg1 c row) : ∀ i, i ≤ row.length → qgi c row i < 2 ^ c.1.length
 | 0, _ => Nat.two_pow_pos _
 | i + 1, hi => by
  have ih := qh0 h i (by omega)
  have hx := h.2 _ (j6 (l := row) (i := (i : Int)) (by omega) (by omega))
  unfold qgi
  split
  ·exact Nat.or_lt_two_pow ih (Nat.pow_lt_pow_right (by omega) (by omega))
  ·exact ih
theorem qiQ {c : qaY} {row : List Spt} {j : Nat} : ∀ i, i ≤ row.length → (qgi c row i).testBit j = true → j ∈ row.map fun x => x.1.toNat
 | 0, _, h => by
  rw [show qgi c row 0 = 0 from rfl, Nat.zero_testBit] at h
  cases h
 | i + 1, hi, h => by
  have ih := qiQ (c := c) (row := row) (j := j) i (by omega)
  unfold qgi at h
  split at h
  ·rw [Nat.testBit_or, Bool.or_eq_true] at h
   rcases h with h | h
   ·exact ih h
   ·by_cases e : (gd row (i : Int)).1.toNat = j
    ·exact List.mem_map.2 ⟨_, j6 (by omega) (by omega), e⟩
    ·rw [Nat.testBit_two_pow_of_ne e] at h
     cases h
  ·exact ih h
def Wm (c : qaY) (rows : List (List Spt)) : Nat → Nat
 | 0 => 0
 | t + 1 => qgi c (gd rows (t : Int)) (gd rows (t : Int)).length
theorem Wm_lt {c : qaY} {rows : List (List Spt)} (h : ∀ row ∈ rows, qg1 c row) : ∀ t, Wm c rows t < 2 ^ c.1.length
 | 0 => Nat.two_pow_pos _
 | t + 1 => by
  show qgi c (gd rows (t : Int)) (gd rows (t : Int)).length < _
  by_cases ht : t < rows.length
  ·exact qh0 (h _ (j6 (by omega) (by omega))) _ (Nat.le_refl _)
  ·have e : gd rows (t : Int) = [] := gd_out (by omega) (by omega)
   rw [e]
   exact Nat.two_pow_pos _
theorem qjF {n : Nat} (h : n ≤ 15) : 2 ^ n ≤ 32768 := Nat.pow_le_pow_right (n := 2) (by omega) h
theorem shl_i {i : Int} (h0 : 0 ≤ i) (h1 : i ≤ 61) : qgh .i64 1 i = ((2 ^ i.toNat : Nat) : Int) := by
 have := L05.shl_n (i := i.toNat) (by omega)
 rwa [show ((i.toNat : Nat) : Int) = i by omega] at this
theorem runR (c : qaY) (hc : c.1.length ≤ 15 ∧ c.2.length ≤ 12) (m : Mot) (rows : List (List Spt)) (s : L05.Sup) (want : List Int) (sw : List L05.Swi) (last : Int) {t : Nat} (ht : t < rows.length) (hr : qg1 c (gd rows (t : Int))) {N : Nat} (hN : 30 ≤ N) :
  L3_36 N ((c, m, rows, last, (t : Int), 0, 0, ()), (s, want, sw, ()), ()) = some (.inr ((c, m, rows, last, (t : Int), ((Wm c rows (t + 1) : Nat) : Int), ()), (s, want, sw, ()), ())) := by
 have hl := hr.1
 exact qee (L := L3_36) (fun (i : Nat) => ((c, m, rows, last, (t : Int), ((qgi c (gd rows (t : Int)) i : Nat) : Int), (i : Int), ()), (s, want, sw, ()), ())) (.inr ((c, m, rows, last, (t : Int), ((Wm c rows (t + 1) : Nat) : Int), ()), (s, want, sw, ()), ())) 0 (gd rows (t : Int)).length (N := N) (by omega)
  (fun N => by
   simp only [L3_36, B3_36]
   rw [qv (by omega) (by omega), qL (by omega)]
   rfl)
  (fun N i _ hi => by
   have hx := hr.2 _ (j6 (l := gd rows (t : Int)) (i := (i : Int)) (by omega) (by omega))
   have hlt := qh0 hr i (by omega)
   have hp := qjF hc.1
   have hp2 : 2 ^ (gd (gd rows (t : Int)) (i : Int)).1.toNat ≤ 32768 := qjF (by omega)
   simp only [L3_36, B3_36]
   rw [qv (by omega) (by omega), qM (by omega), cond_true, qv (by omega) (by omega), qv (by omega) (by omega), qL (by omega), cond_false, qL (by omega), cond_false, qv (by omega) (by omega), L05.u64_in (by omega) (by omega), L05.negK_in (by omega), wI (x := (i : Int) + 1) (by omega) (by omega)]
   conv => rhs; unfold qgi
   by_cases h : (gd (gd rows (t : Int)) (i : Int)).2.1 < (gd c.1 (gd (gd rows (t : Int)) (i : Int)).1).1
   ·rw [qM h, cond_true, if_pos h, shl_i (by omega) (by omega), L05.or_n (by omega) (by omega)]
    rfl
   ·rw [qL h, cond_false, if_neg h]
    rfl)
theorem diffR (c : qaY) (hc : c.1.length ≤ 15) (m : Mot) (rows : List (List Spt)) (s : L05.Sup) (want : List Int) {sw : List L05.Swi} (hw : sw.length ≤ 100000) (t : Int) {a b : Nat} (ha : a < 2 ^ c.1.length) (hb : b < 2 ^ c.1.length) {N : Nat} (hN : 30 ≤ N) :
  L3_44 N ((c, m, rows, (a : Int), t, (b : Int), 0, ()), (s, want, sw, ()), ()) = some ((c, m, rows, t, (b : Int), ()), (s, want, sw ++ L05.swt t a b c.1.length, ()), ()) := by
 have hp := qjF hc
 have hsl : ∀ n, (L05.swt t a b n).length ≤ n := fun n => by
  induction n with
  | zero => exact Nat.le_refl _
  | succ n ih =>
   unfold L05.swt L05.swb
   rw [List.length_append]
   split
   ·simp only [List.length_singleton]; omega
   ·split
    ·simp only [List.length_singleton]; omega
    ·simp only [List.length_nil]; omega
 have e := qee (L := L3_44) (fun (i : Nat) => ((c, m, rows, (a : Int), t, (b : Int), (i : Int), ()), (s, want, sw ++ L05.swt t a b i, ()), ())) ((c, m, rows, t, (b : Int), ()), (s, want, sw ++ L05.swt t a b c.1.length, ()), ()) 0 c.1.length (N := N) (by omega)
  (fun N => by
   simp only [L3_44, B3_44]
   rw [qL (by omega)]
   rfl)
  (fun N i _ hi => by
   have hs := hsl i
   have ha' : qai .and .i64 (qbu .i64 (a : Int) (i : Int)) 1 = if a.testBit i then 1 else 0 := L05.bit_n (by omega) (by omega)
   have hb' : qai .and .i64 (qbu .i64 (b : Int) (i : Int)) 1 = if b.testBit i then 1 else 0 := L05.bit_n (by omega) (by omega)
   simp only [L3_44, B3_44]
   rw [qM (by omega), cond_true]
   simp only [L05.u64_in (n := (i : Int)) (by omega) (by omega), L05.negK_in (a := (i : Int)) (by omega), ha', hb', wI (x := (i : Int) + 1) (by omega) (by omega)]
   conv => rhs; unfold L05.swt L05.swb
   cases h1 : a.testBit i <;> cases h2 : b.testBit i <;> simp only [Bool.false_eq_true, if_true, if_false, Bool.not_true, Bool.not_false, Bool.and_true, Bool.and_false, Bool.true_and, Bool.false_and, cond_true, cond_false, List.append_assoc, List.append_nil, show ((0 : Int) == 1) = false from rfl, show ((1 : Int) == 0) = false from rfl, show ((1 : Int) == 1) = true from rfl, show ((0 : Int) == 0) = true from rfl] <;> first | rfl | (rw [qaq (by omega) (by rw [List.length_append, List.length_singleton]; omega)]; rfl))
 rw [← e]
 show _ = L3_44 N ((c, m, rows, (a : Int), t, (b : Int), 0, ()), (s, want, sw ++ [], ()), ())
 rw [List.append_nil]
theorem sws_le (W : Nat → Nat) (n : Nat) : ∀ T, (L05.sws W n T).length ≤ n * T
 | 0 => Nat.le_refl _
 | T + 1 => by
  have ih := sws_le W n T
  have hsl : ∀ k, (L05.swt (T : Int) (W T) (W (T + 1)) k).length ≤ k := fun k => by
   induction k with
   | zero => exact Nat.le_refl _
   | succ k ih =>
    unfold L05.swt L05.swb
    rw [List.length_append]
    split
    ·simp only [List.length_singleton]; omega
    ·split
     ·simp only [List.length_singleton]; omega
     ·simp only [List.length_nil]; omega
  unfold L05.sws
  rw [List.length_append, Nat.mul_succ]
  have := hsl n
  omega
theorem switchR (c : qaY) (hc : c.1.length ≤ 15 ∧ c.2.length ≤ 12) (m : Mot) {rows : List (List Spt)} (hn : rows.length ≤ 500) (hr : ∀ row ∈ rows, qg1 c row) (s : L05.Sup) :
  L3_32 qj ((c, m, rows, 0, 0, ()), (s, [], [], ()), ()) = some (.inr ((m, ()), (s, (List.range rows.length).map (fun i => ((Wm c rows (i + 1) : Nat) : Int)), L05.sws (Wm c rows) c.1.length rows.length, ()), ())) :=
 qee (L := L3_32) (fun (t : Nat) => ((c, m, rows, ((Wm c rows t : Nat) : Int), (t : Int), ()), (s, (List.range t).map (fun i => ((Wm c rows (i + 1) : Nat) : Int)), L05.sws (Wm c rows) c.1.length t, ()), ())) (.inr ((m, ()), (s, (List.range rows.length).map (fun i => ((Wm c rows (i + 1) : Nat) : Int)), L05.sws (Wm c rows) c.1.length rows.length, ()), ())) 40 rows.length (N := qj) (by have := jP; omega)
  (fun N => by
   simp only [L3_32, B3_32]
   rw [qL (by omega)]
   rfl)
  (fun N t hN ht => by
   have hw := sws_le (Wm c rows) c.1.length t
   have hw2 : c.1.length * t ≤ 15 * 500 := Nat.mul_le_mul hc.1 (by omega)
   simp only [L3_32, B3_32]
   rw [qM (by omega), cond_true, runR c hc m rows s _ _ _ ht (hr _ (j6 (by omega) (by omega))) (by omega), qd, qex]
   dsimp only
   rw [diffR c hc.1 m rows s _ (by omega) (t : Int) (Wm_lt hr t) (Wm_lt hr (t + 1)) (by omega), qd]
   dsimp only
   rw [qaq (by omega) (by rw [List.length_map, List.length_range, List.length_singleton]; omega), wI (x := (t : Int) + 1) (by omega) (by omega), List.range_succ, List.map_append]
   rfl)
theorem law_motors (c : qaY) (l : List Prs) (m : Mot) : g3 (c, l, m, ()) = some ((true, ()), ()) := by
 have hF : g3 (c, l, m, ()) = F3 qj c l m := rfl
 have bk : ∀ {R : Type} (k : (Bool × Unit) × Unit → Option R), qa (g5 ()) k = k ((true, ()), ()) := fun k => qad buys_eq k
 rw [hF]
 unfold F3
 obtain ⟨b, e, hc⟩ := farR c
 rw [e, qd]
 cases b with
 | true => exact bk _
 | false =>
 have hc := hc rfl
 rw [cond_false]
 by_cases h1 : (l.length : Int) > 250
 ·rw [qM h1]
  exact bk _
 rw [qL h1, cond_false]
 by_cases h2 : m.1 > 60
 ·rw [qM h2]
  exact bk _
 rw [qL h2, cond_false]
 by_cases h3 : (m.2.2.length : Int) = (c.1.length : Int)
 case neg =>
  rw [L10.neq_t h3]
  exact bk _
 rw [show ((m.2.2.length : Int) != (c.1.length : Int)) = false by rw [h3]; simp, cond_false]
 have a1 : ∀ {R : Type} (k : Option R), qN ((([] : List Prs).length : Int) + l.length) k = k := fun k => qaq (by simp) (by simp; omega) k
 have a2 : ∀ {R : Type} (k : Option R), qN ((([] : List Blk).length : Int) + c.1.length) k = k := fun k => qaq (by simp) (by simp; omega) k
 have a3 : ∀ {R : Type} (k : Option R), qN ((([] : List Int).length : Int) + c.2.length) k = k := fun k => qaq (by simp) (by simp; omega) k
 simp only [a1, a2, a3, List.nil_append, qa8, qaK, qaJ]
 obtain ⟨r, er, hr⟩ := playR c m.1 l [] (by omega) (by omega) (by omega) (by simp)
 refine (qad er _).trans ?_
 by_cases h0 : r.1.2.1 = 0
 case neg =>
  rw [L10.neq_t h0]
  exact bk _
 obtain ⟨hC, hT, hrow⟩ := hr h0
 have h2l := hC.two
 rw [h0, show ((0 : Int) != 0) = false from rfl, cond_false, qb8]
 refine (qad (supM_eq c m r.1.1 (by omega)) _).trans ?_
 dsimp only
 rw [L05.mot_check, qd]
 cases hs : L05.okS (qcQ m m.2.2.length) with
 | false => exact bk _
 | true =>
 rw [if_pos rfl, show ((0 : Int) != 0) = false from rfl, cond_false]
 have hsl : (qcQ m m.2.2.length).2.1.length = m.2.2.length := by
  show ((m.2.2.take _).map _).length = _
  rw [List.length_map, List.take_length]
 have hga : ∀ k : Nat, k < (qcQ m m.2.2.length).2.1.length → (gd (qcQ m m.2.2.length).2.1 (k : Int)).2.2.1 = gd m.2.2 (k : Int) := fun k hk => by
  unfold qcQ
  dsimp only
  rw [List.take_length, gd_map _ (by omega)]
 have hamp : ∀ i : Nat, i < m.2.2.length → 0 ≤ gd m.2.2 (i : Int) ∧ gd m.2.2 (i : Int) ≤ 1000 := fun i hi => by
  have h1 := L05.okL_1 (L05.okS_ld hs (k := i) (by omega))
  rw [hga i (by omega)] at h1
  omega
 rw [qaq (by simp) (by simp; omega)]
 obtain ⟨o, eo, most, rfl, hcov⟩ := greatR c m r.1.1 (qcQ m m.2.2.length) (a := m.2.2) (by omega) (by omega) hamp (by omega)
 refine (qad eo _).trans ?_
 dsimp only
 by_cases h5 : most > m.2.1
 ·rw [qM h5]
  exact bk _
 rw [qL h5, cond_false]
 by_cases h6 : most > 1000
 ·rw [qM h6]
  exact bk _
 rw [qL h6, cond_false]
 refine (qad (switchR c hc m (by omega) hrow (qcQ m m.2.2.length)) _).trans ?_
 rw [qex]
 dsimp only
 by_cases h7 : ((L05.sws (Wm c r.1.1) c.1.length r.1.1.length).length : Int) > 100
 ·rw [qM h7]
  exact bk _
 rw [qL h7, cond_false]
 have hn : (qcQ m m.2.2.length).2.1.length = c.1.length := by omega
 obtain ⟨e8, e9⟩ := L05.mot05 hs (W := Wm c r.1.1) (T := r.1.1.length) (by omega) rfl (fun t => by rw [hn]; exact Wm_lt hrow t) (fun t ht k hk => by
  refine L05.mot_ovr hs hga ?_
  have hle := hcov (Wm c r.1.1 (t + 1)).testBit ⟨(gd r.1.1 (t : Int)).map fun x => x.1.toNat, by
   rw [List.length_map, (hrow _ (j6 (l := r.1.1) (i := (t : Int)) (by omega) (by omega))).1]
   exact Nat.le_refl _, fun i _ h => qiQ _ (Nat.le_refl _) h⟩
  rw [hsl]
  have hb1 : (qcQ m m.2.2.length).1.length = 1 := rfl
  unfold L05.bO L05.brs
  by_cases hk1 : k = (qcQ m m.2.2.length).1.length
  ·rw [if_pos hk1, if_pos (by omega)]
   show smK m.2.2 _ _ ≤ 1000
   omega
  ·have hk0 : k = 0 := by omega
   subst hk0
   rw [if_neg hk1, if_neg (by omega)]
   show smK m.2.2 _ _ ≤ m.2.1
   omega) (by rw [hn]; omega)
 rw [hn] at e8 e9
 rw [hT] at e8 e9
 refine (qad e8 _).trans ?_
 refine (qad e9 _).trans ?_
 dsimp only
 rw [show ((0 : Int) == 0) = true from rfl, cond_true, cond_true, show ((([] : List (Int × Int)).length : Int) == 0) = true from rfl, cond_true, L01.g10_eq _ _ (by simp; omega), qd, qM rfl]
 exact bk _
end Go.Proofs.Try.V.Top
