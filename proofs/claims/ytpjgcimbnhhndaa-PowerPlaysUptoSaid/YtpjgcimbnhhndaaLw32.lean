/- Plain laws of layer 5, thirty-second part: a night by the document is the play. No condition beyond those typed in each theorem. -/
import Derived.Test.YtpjgcimbnhhndaaLw31
namespace Go.Proofs.Try.V
open Go.Vi
set_option maxRecDepth 100000

/-! ## The boards' turns, the generator first -/
def sl (n j : Nat) : Nat := if j = 0 then n else j - 1
theorem sl_bO {n j : Nat} (hj : j ≤ n) : bO n (sl n j) = (j : Int) - 1 := by
  unfold bO sl
  by_cases h : j = 0
  · rw [if_pos h, if_pos rfl]; omega
  · rw [if_neg h, if_neg (by omega)]; omega
theorem sl_le {n j : Nat} (hj : j ≤ n) : sl n j ≤ n := by unfold sl; split <;> omega
/-- A board's turn. -/
def rb1 (s : Sup) (S : Nat) (t : Int) (q : (List Bool) × ((List Int) × (List (Int × Int)))) (k : Nat) : (List Bool) × ((List Int) × (List (Int × Int))) :=
  if ov1 s S q.2.1 k > dly s (bO s.1.length k) then (q.1.set k false, q.2.1.set k 0, q.2.2 ++ [(t, bO s.1.length k)]) else (q.1, q.2.1.set k (ov1 s S q.2.1 k), q.2.2)
def rbK (s : Sup) (S : Nat) (t : Int) (q : (List Bool) × ((List Int) × (List (Int × Int)))) : Nat → (List Bool) × ((List Int) × (List (Int × Int)))
  | 0 => q
  | j + 1 => rb1 s S t (rbK s S t q j) (sl s.1.length j)
/-- Whose turn has been. -/
def pr (n j k : Nat) : Bool := if k = n then decide (1 ≤ j) else decide (k + 1 < j)
theorem pr_succ {n j k : Nat} (hj : j ≤ n) (hk : k ≤ n) : pr n (j + 1) k = (decide (k = sl n j) || pr n j k) := by
  unfold pr sl
  by_cases h : k = n
  · rw [if_pos h, if_pos h]
    by_cases h0 : j = 0
    · rw [if_pos h0, dec_t (by omega), dec_t h]; rfl
    · rw [dec_t (p := 1 ≤ j + 1) (by omega), dec_t (p := 1 ≤ j) (by omega), Bool.or_true]
  · rw [if_neg h, if_neg h]
    by_cases h0 : j = 0
    · rw [if_pos h0, dec_f h, dec_f (by omega), dec_f (by omega)]; rfl
    · rw [if_neg h0]
      by_cases h1 : k = j - 1
      · rw [dec_t h1, dec_t (p := k + 1 < j + 1) (by omega)]; rfl
      · rw [dec_f h1, Bool.false_or]
        by_cases h2 : k + 1 < j
        · rw [dec_t h2, dec_t (by omega)]
        · rw [dec_f h2, dec_f (by omega)]
theorem rbK_at {s : Sup} {S : Nat} {t : Int} {q : (List Bool) × ((List Int) × (List (Int × Int)))} (h1 : q.1.length = s.1.length + 1) (h2 : q.2.1.length = s.1.length + 1) : ∀ j, j ≤ s.1.length + 1 →
    (rbK s S t q j).1.length = s.1.length + 1 ∧ (rbK s S t q j).2.1.length = s.1.length + 1 ∧
    (∀ k : Nat, k ≤ s.1.length → gd (rbK s S t q j).1 (k : Int) = if (pr s.1.length j k && opn s S q.2.1 k) = true then false else gd q.1 (k : Int)) ∧
    (∀ k : Nat, k ≤ s.1.length → gd (rbK s S t q j).2.1 (k : Int) = if pr s.1.length j k = true then (if opn s S q.2.1 k = true then 0 else ov1 s S q.2.1 k) else gd q.2.1 (k : Int)) ∧
    (rbK s S t q j).2.2 = q.2.2 ++ ((List.range j).filter (fun i => opn s S q.2.1 (sl s.1.length i))).map (fun (i : Nat) => (t, bO s.1.length (sl s.1.length i)))
  | 0, _ => by
    have hp : ∀ k, pr s.1.length 0 k = false := fun k => by unfold pr; split <;> exact dec_f (by omega)
    exact ⟨h1, h2, fun k _ => by rw [hp, Bool.false_and]; rfl, fun k _ => by rw [hp]; rfl, by simp [rbK]⟩
  | j + 1, hj => by
    obtain ⟨i1, i2, i3, i4, i5⟩ := rbK_at (S := S) (t := t) h1 h2 j (by omega)
    have hle := sl_le (n := s.1.length) (j := j) (by omega)
    have hnp : pr s.1.length j (sl s.1.length j) = false := by
      unfold pr sl
      by_cases h0 : j = 0
      · rw [if_pos h0, if_pos rfl]; exact dec_f (by omega)
      · rw [if_neg h0, if_neg (by omega)]; exact dec_f (by omega)
    have ho : ov1 s S (rbK s S t q j).2.1 (sl s.1.length j) = ov1 s S q.2.1 (sl s.1.length j) := ov1_eq (by rw [i4 _ hle, hnp]; rfl)
    have hs : rbK s S t q (j + 1) = rb1 s S t (rbK s S t q j) (sl s.1.length j) := rfl
    rw [hs]
    unfold rb1
    rw [ho, List.range_succ, List.filter_append, List.map_append]
    by_cases hop : ov1 s S q.2.1 (sl s.1.length j) > dly s (bO s.1.length (sl s.1.length j))
    · have hopn : opn s S q.2.1 (sl s.1.length j) = true := dec_t hop
      rw [if_pos hop]
      refine ⟨by simp [i1], by simp [i2], fun k hk => ?_, fun k hk => ?_, ?_⟩
      · show gd ((rbK s S t q j).1.set _ false) (k : Int) = _
        rw [gd_set_nat (by omega), i3 k hk, pr_succ (by omega) hk]
        by_cases e : k = sl s.1.length j
        · rw [if_pos e, dec_t e, Bool.true_or, Bool.true_and, e, if_pos hopn]
        · rw [if_neg e, dec_f e, Bool.false_or]
      · show gd ((rbK s S t q j).2.1.set _ 0) (k : Int) = _
        rw [gd_set_nat (by omega), i4 k hk, pr_succ (by omega) hk]
        by_cases e : k = sl s.1.length j
        · rw [if_pos e, dec_t e, Bool.true_or, if_pos rfl, e, if_pos hopn]
        · rw [if_neg e, dec_f e, Bool.false_or]
      · show (rbK s S t q j).2.2 ++ [_] = _
        rw [i5]
        simp [hopn]
    · have hopn : opn s S q.2.1 (sl s.1.length j) = false := dec_f hop
      rw [if_neg hop]
      refine ⟨i1, by simp [i2], fun k hk => ?_, fun k hk => ?_, ?_⟩
      · show gd (rbK s S t q j).1 (k : Int) = _
        rw [i3 k hk, pr_succ (by omega) hk]
        by_cases e : k = sl s.1.length j
        · rw [dec_t e, Bool.true_or, Bool.true_and, e, hopn, Bool.and_false]
        · rw [dec_f e, Bool.false_or]
      · show gd ((rbK s S t q j).2.1.set _ _) (k : Int) = _
        rw [gd_set_nat (by omega), i4 k hk, pr_succ (by omega) hk]
        by_cases e : k = sl s.1.length j
        · rw [if_pos e, dec_t e, Bool.true_or, if_pos rfl, e, if_neg (by rw [hopn]; decide)]
        · rw [if_neg e, dec_f e, Bool.false_or]
      · show (rbK s S t q j).2.2 = _
        rw [i5]
        simp [hopn]

theorem g72_q (s : Sup) {j : Nat} (hj : j ≤ s.1.length) : g72 (s, (j : Int) - 1, ()) = some ((((sl s.1.length j : Nat) : Int), ()), ()) := by
  show F72 fuel s ((j : Int) - 1) = _
  unfold F72 sl
  by_cases h : j = 0
  · rw [if_pos h, dec_t (by omega)]; rfl
  · rw [if_neg h, dec_f (by omega), cond_false, show (j : Int) - 1 = ((j - 1 : Nat) : Int) by omega]
theorem g75_q (s : Sup) {b : Int} (hb : b < s.1.length) : g75 (s, b, ()) = some ((dly s b, ()), ()) := by
  show F75 fuel s b = _
  unfold F75 dly
  by_cases h : b < 0
  · rw [dec_t h, if_pos h]; rfl
  · rw [dec_f h, if_neg h, cond_false, getI_gd (by omega) hb]
theorem ov1_q {s : Sup} {S : Nat} {ov : List Int} {k : Nat} : ov1 s S ov k = if ovr s S (bO s.1.length k) = true then gd ov (k : Int) + 1 else 0 := by
  unfold ov1 ovr
  by_cases h : mx3 s S (bO s.1.length k) ≤ brs s (bO s.1.length k)
  · rw [if_pos h, if_neg (by rw [decide_eq_true_iff]; omega)]
  · rw [if_neg h, if_pos (by rw [decide_eq_true_iff]; omega)]
set_option maxHeartbeats 1000000 in
theorem L63_24_step {s : Sup} (hs : okS s = true) {S : Nat} (hS : S < 65536) (ticks : Int) (l : List Swi) (t : Int) (on : List Bool) (rows : List Int) {q : (List Bool) × ((List Int) × (List (Int × Int)))} {j : Nat} (hj : j ≤ s.1.length) (h1 : q.1.length = s.1.length + 1) (h2 : q.2.1.length = s.1.length + 1)
    (hb : 0 ≤ gd q.2.1 ((sl s.1.length j : Nat) : Int) ∧ gd q.2.1 ((sl s.1.length j : Nat) : Int) ≤ 1000000) (ht : q.2.2.length ≤ 1000000) (N : Nat) :
    L63_24 (N + 1) ((ticks, l, s, t, (S : Int), (j : Int) - 1, ()), ((on, q.1, q.2.1), rows, q.2.2, ()), ()) =
      L63_24 N ((ticks, l, s, t, (S : Int), ((j + 1 : Nat) : Int) - 1, ()), ((on, (rb1 s S t q (sl s.1.length j)).1, (rb1 s S t q (sl s.1.length j)).2.1), rows, (rb1 s S t q (sl s.1.length j)).2.2, ()), ()) := by
  have hl := okS_le hs
  obtain ⟨cl, ov, tr⟩ := q
  simp only at h1 h2 hb ht ⊢
  have hk := sl_le hj
  have hbo := sl_bO hj
  generalize hkd : sl s.1.length j = k at *
  have a1 : ∀ {R : Type} (X : Option R), inR (k : Int) (s.1.length + 1) X = X := fun X => inR_in (by omega) (by omega) X
  have a2 : ∀ {R : Type} (m : List Int) (hm : m.length = s.1.length + 1) (F : Int → Option R), getI m (k : Int) F = F (gd m (k : Int)) := fun m hm F => getI_gd (by omega) (by omega) F
  have a3 : ∀ {R : Type} (m : List Bool) (hm : m.length = s.1.length + 1) (F : Bool → Option R), getI m (k : Int) F = F (gd m (k : Int)) := fun m hm F => getI_gd (by omega) (by omega) F
  have a5 : ∀ (m : List Int) (hm : m.length = s.1.length + 1) (v : Int), gd (m.set k v) (k : Int) = v := fun m hm v => by
    rw [gd_set_nat (by omega), if_pos rfl]
  have a7 : IntKind.wrap .i64 (gd ov (k : Int) + 1) = gd ov (k : Int) + 1 := wI (by omega) (by omega)
  have a8 : IntKind.wrap .i64 ((j : Int) - 1 + 1) = ((j + 1 : Nat) : Int) - 1 := by rw [wI (by omega) (by omega)]; omega
  have a9 : ∀ {R : Type} (X : Option R), lenK ((tr.length : Int) + ([(t, (j : Int) - 1)].length : Nat)) X = X := fun X => lenK_in (by simp; omega) (by simp; omega) X
  have a10 : decide ((j : Int) - 1 < (s.1.length : Int)) = true := dec_t (by omega)
  have a11 : g72 (s, (j : Int) - 1, ()) = some (((k : Int), ()), ()) := by rw [g72_q s hj, hkd]
  have a12 : g24 (s, (S : Int), (j : Int) - 1, ()) = some ((ovr s S ((j : Int) - 1), ()), ()) := g24_eq hs (by omega) (by omega)
  have a13 : g75 (s, (j : Int) - 1, ()) = some ((dly s ((j : Int) - 1), ()), ()) := g75_q s (by omega)
  simp only [L63_24, B63_24, a10, cond_true, bindV_eq, List.length_set, h1, h2, a1, a2, a3, a5, a7, a8, a9, a11, a12, a13, derefK_some, Int.toNat_natCast]
  have ho := ov1_q (s := s) (S := S) (ov := ov) (k := k)
  rw [hbo] at ho
  unfold rb1
  rw [hbo]
  cases hov : ovr s S ((j : Int) - 1) with
  | true =>
    rw [hov, if_pos rfl] at ho
    simp only [ho, List.set_set, Bool.not_true, cond_false]
    by_cases h3 : gd ov (k : Int) + 1 > dly s ((j : Int) - 1)
    · rw [dec_t h3, if_pos h3]; rfl
    · rw [dec_f h3, if_neg h3]; rfl
  | false =>
    rw [hov, if_neg (by decide)] at ho
    simp only [ho, List.set_set, Bool.not_false, cond_true]
    by_cases h3 : 0 > dly s ((j : Int) - 1)
    · rw [dec_t h3, if_pos h3]; rfl
    · rw [dec_f h3, if_neg h3]; rfl
theorem L63_24_q {s : Sup} (hs : okS s = true) {S : Nat} (hS : S < 65536) (ticks : Int) (l : List Swi) (t : Int) (on : List Bool) (rows : List Int) {q : (List Bool) × ((List Int) × (List (Int × Int)))} (h1 : q.1.length = s.1.length + 1) (h2 : q.2.1.length = s.1.length + 1)
    (hb : ∀ k : Nat, k ≤ s.1.length → 0 ≤ gd q.2.1 (k : Int) ∧ gd q.2.1 (k : Int) ≤ 1000000) (ht : q.2.2.length ≤ 100000) {N : Nat} (hN : 2000 ≤ N) :
    L63_24 N ((ticks, l, s, t, (S : Int), -1, ()), ((on, q.1, q.2.1), rows, q.2.2, ()), ()) =
      some ((ticks, l, s, t, ()), ((on, (rbK s S t q (s.1.length + 1)).1, (rbK s S t q (s.1.length + 1)).2.1), rows, (rbK s S t q (s.1.length + 1)).2.2, ()), ()) := by
  have hl := okS_le hs
  exact loopF (L := L63_24) (fun j => ((ticks, l, s, t, (S : Int), (j : Int) - 1, ()), ((on, (rbK s S t q j).1, (rbK s S t q j).2.1), rows, (rbK s S t q j).2.2, ()), ()))
    ((ticks, l, s, t, ()), ((on, (rbK s S t q (s.1.length + 1)).1, (rbK s S t q (s.1.length + 1)).2.1), rows, (rbK s S t q (s.1.length + 1)).2.2, ()), ()) 0 (s.1.length + 1) (N := N) (by omega)
    (fun N => by
      simp only [L63_24, B63_24]
      rw [dec_f (by omega)]
      rfl)
    (fun N j _ hj => by
      obtain ⟨i1, i2, i3, i4, i5⟩ := rbK_at (S := S) (t := t) h1 h2 j (by omega)
      have hle := sl_le (n := s.1.length) (j := j) (by omega)
      have hnp : pr s.1.length j (sl s.1.length j) = false := by
        unfold pr sl
        by_cases h0 : j = 0
        · rw [if_pos h0, if_pos rfl]; exact dec_f (by omega)
        · rw [if_neg h0, if_neg (by omega)]; exact dec_f (by omega)
      have hlen : (rbK s S t q j).2.2.length ≤ 1000000 := by
        rw [i5, List.length_append, List.length_map]
        have := List.length_filter_le (fun i => opn s S q.2.1 (sl s.1.length i)) (List.range j)
        rw [List.length_range] at this
        omega
      exact L63_24_step hs hS ticks l t on rows (by omega) i1 i2 (by rw [i4 _ hle, hnp]; exact hb _ hle) hlen N)

/-! ## What is told -/
def fl (q : Nat → Bool) (n : Nat) : List Int := ((List.range n).filter q).map fun (k : Nat) => (k : Int)
theorem fl_fix (q : Nat → Bool) (n : Nat) : fixO n (fl q (n + 1)) = if q n = true then -1 :: fl q n else fl q n := by
  have hno : (fl q n).findIdx? (· == (n : Int)) = none := by
    rw [List.findIdx?_eq_none_iff]
    intro x hx
    obtain ⟨k, hk, rfl⟩ := List.mem_map.1 hx
    have := List.mem_range.1 (List.mem_filter.1 hk).1
    exact beq_eq_false_iff_ne.2 (by omega)
  have hs : fl q (n + 1) = if q n = true then fl q n ++ [(n : Int)] else fl q n := by
    unfold fl
    rw [List.range_succ, List.filter_append, List.map_append]
    by_cases h : q n = true
    · rw [if_pos h]; simp [h]
    · rw [if_neg h]; simp [h]
  rw [hs]
  unfold fixO
  by_cases h : q n = true
  · rw [if_pos h, if_pos h, List.findIdx?_append, hno]
    simp
  · rw [if_neg h, if_neg h, hno]
theorem told_q (q : Nat → Bool) (n : Nat) (t : Int) : ((List.range (n + 1)).filter (fun i => q (sl n i))).map (fun (i : Nat) => (t, bO n (sl n i))) = (if q n = true then -1 :: fl q n else fl q n).map fun b => (t, b) := by
  have h2 : ((List.range' 1 n).filter (fun i => q (sl n i))).map (fun (i : Nat) => (t, bO n (sl n i))) = (fl q n).map fun b => (t, b) := by
    have e : List.range' 1 n = (List.range n).map (· + 1) := by
      rw [List.range'_eq_map_range]
      exact List.map_congr_left fun k _ => by omega
    unfold fl
    rw [e, List.filter_map, List.map_map, List.map_map]
    have e2 : ((fun i => q (sl n i)) ∘ fun x => x + 1) = q := by funext x; simp [sl]
    rw [e2]
    refine List.map_congr_left fun k hk => ?_
    have := List.mem_range.1 (List.mem_filter.1 hk).1
    show (t, bO n (sl n (k + 1))) = (t, (k : Int))
    rw [sl_bO (by omega)]
    congr 1
    omega
  rw [List.range_eq_range', List.range'_succ, List.filter_cons]
  have e0 : sl n 0 = n := rfl
  rw [e0]
  by_cases h : q n = true
  · rw [if_pos h, if_pos h, List.map_cons, List.map_cons, h2, e0]
    unfold bO
    rw [if_pos rfl]
  · rw [if_neg h, if_neg h, h2]

/-! ## A tick, a night -/
theorem tick_q {s : Sup} (hs : okS s = true) {ticks : Int} {l : List Swi} (hx : l.all (okX s ticks) = true) (t : Int) {n : Nat} {p : PSt} (h : POK s n p) :
    rbK s (tickSet s l t p) t ((tickSt s l t p).2, p.ov, p.trips) (s.1.length + 1) = ((tick s l t p).cl, (tick s l t p).ov, (tick s l t p).trips) := by
  have hl := okS_le hs
  have h1 := trnK_ok hl hx t (st := (p.on, p.cl)) ⟨h.on, h.cl⟩ l.length (Nat.le_refl _)
  obtain ⟨i1, i2, i3, i4, i5⟩ := rbK_at (s := s) (S := tickSet s l t p) (t := t) (q := ((tickSt s l t p).2, p.ov, p.trips)) h1.2 h.ol (s.1.length + 1) (Nat.le_refl _)
  obtain ⟨j1, j2, j3, j4, j5⟩ := brdK_at (s := s) (S := tickSet s l t p) (q := ((tickSt s l t p).2, p.ov, [])) h1.2 h.ol (s.1.length + 1) (Nat.le_refl _)
  have hpr : ∀ k, k ≤ s.1.length → pr s.1.length (s.1.length + 1) k = true := fun k hk => by
    unfold pr
    split
    · exact dec_t (by omega)
    · exact dec_t (by omega)
  refine Prod.ext ?_ (Prod.ext ?_ ?_)
  · refine ext_gd (i1.trans j1.symm) fun k hk => ?_
    have hk' : k ≤ s.1.length := by
      have hk2 : k < s.1.length + 1 := by first | exact Nat.lt_of_lt_of_eq hk i1 | exact Nat.lt_of_lt_of_eq hk j1
      omega
    rw [i3 k hk', hpr k hk', Bool.true_and]
    refine Eq.trans ?_ (j3 k).symm
    by_cases ho : opn s (tickSet s l t p) p.ov k = true
    · rw [if_pos ho, if_pos ⟨by omega, ho⟩]
    · rw [if_neg ho, if_neg (fun hh => ho hh.2)]
  · refine ext_gd (i2.trans j2.symm) fun k hk => ?_
    have hk' : k ≤ s.1.length := by
      have hk2 : k < s.1.length + 1 := by first | exact Nat.lt_of_lt_of_eq hk i2 | exact Nat.lt_of_lt_of_eq hk j2
      omega
    rw [i4 k hk', hpr k hk', if_pos rfl]
    refine Eq.trans ?_ (j4 k).symm
    rw [if_pos (show k < s.1.length + 1 by omega)]
  · rw [i5]
    show p.trips ++ _ = p.trips ++ (fixO s.1.length (tickB s l t p).2.2).map (fun b => (t, b))
    have e : (tickB s l t p).2.2 = fl (opn s (tickSet s l t p) p.ov) (s.1.length + 1) := j5.trans (by
      show [] ++ _ = _
      rw [List.nil_append]
      rfl)
    rw [e, fl_fix, told_q]
theorem L63_9_step {s : Sup} (hs : okS s = true) {ticks : Int} (ht : 0 ≤ ticks ∧ ticks ≤ 500) {l : List Swi} (hx : l.all (okX s ticks) = true) (hll : l.length ≤ 100) {N : Nat} (hN : 2000 ≤ N) {i : Nat} (hi : (i : Int) < ticks) {p : PSt} (hp : POK s i p) :
    L63_9 (N + 1) ((ticks, l, s, (i : Int), ()), ((bl s.2.1.length p.on, p.cl, p.ov), p.rows, p.trips, ()), ()) =
      L63_9 N ((ticks, l, s, ((i + 1 : Nat) : Int), ()), ((bl s.2.1.length (tick s l (i : Int) p).on, (tick s l (i : Int) p).cl, (tick s l (i : Int) p).ov), (tick s l (i : Int) p).rows, (tick s l (i : Int) p).trips, ()), ()) := by
  have hl := okS_le hs
  have h1 := trnK_ok hl hx (i : Int) (st := (p.on, p.cl)) ⟨hp.on, hp.cl⟩ l.length (Nat.le_refl _)
  have hset : tickSet s l (i : Int) p < 65536 := by
    have := drwK_lt s (tickSt s l (i : Int) p).1 (tickSt s l (i : Int) p).2 s.2.1.length
    have h16 : 2 ^ s.2.1.length ≤ 2 ^ 16 := Nat.pow_le_pow_right (by omega) hl.2
    show drwK s _ _ s.2.1.length < 65536
    omega
  have htl := hp.tl
  have e1 := L63_12_q hl hx (by omega) (i : Int) p.rows p.trips (st := (p.on, p.cl)) ⟨hp.on, hp.cl⟩ p.ov hN
  have e2 := L63_18_q hs ticks l (i : Int) p.rows p.trips (tickSt s l (i : Int) p).1 (cl := (tickSt s l (i : Int) p).2) h1.2 p.ov hN
  have e3 := L63_24_q (q := ((tickSt s l (i : Int) p).2, p.ov, p.trips)) hs hset ticks l (i : Int) (bl s.2.1.length (tickSt s l (i : Int) p).1) (p.rows ++ [((tickSet s l (i : Int) p : Nat) : Int)]) h1.2 hp.ol (fun k hk => ⟨(hp.bd k hk).1, Int.le_trans (hp.bd k hk).2 (by omega)⟩) (Nat.le_trans htl (by omega)) hN
  rw [tick_q hs hx (i : Int) hp] at e3
  simp only [L63_9, B63_9]
  rw [dec_t hi, cond_true, e1, derefK_some]
  refine (derefK_of e2 _).trans ?_
  rw [lenK_in (by simp only [hp.rl]; simp; omega) (by simp only [hp.rl]; simp; omega)]
  refine (derefK_of e3 _).trans ?_
  show L63_9 N ((ticks, l, s, IntKind.wrap .i64 ((i : Int) + 1), ()), _) = _
  rw [wI (x := (i : Int) + 1) (by omega) (by omega)]
  rfl
theorem g63_eq {s : Sup} (hs : okS s = true) {ticks : Int} (ht : 0 ≤ ticks ∧ ticks ≤ 500) {l : List Swi} (hx : l.all (okX s ticks) = true) (hll : l.length ≤ 100) :
    g63 (s, ticks, l, ()) = some (((ply s l ticks.toNat).rows, (ply s l ticks.toNat).trips, ()), ()) := by
  have hl := okS_le hs
  have hfu := fuel_ge
  show F63 fuel s ticks l = _
  unfold F63
  have w1 : IntKind.wrap .i64 ((s.1.length : Int) + 1) = ((s.1.length + 1 : Nat) : Int) := by rw [wI (by omega) (by omega)]; omega
  simp only [w1, Int.toNat_natCast, leK_in (show (0 : Int) ≤ (s.2.1.length : Int) by omega), leK_in (show (0 : Int) ≤ ((s.1.length + 1 : Nat) : Int) by omega), leK_in (Int.le_refl (s.2.1.length : Int)), leK_in (Int.le_refl ((s.1.length + 1 : Nat) : Int)),
    lenK_in (show (0 : Int) ≤ (s.2.1.length : Int) by omega) (show (s.2.1.length : Int) ≤ 274877906944 by omega), lenK_in (show (0 : Int) ≤ ((s.1.length + 1 : Nat) : Int) by omega) (show ((s.1.length + 1 : Nat) : Int) ≤ 274877906944 by omega), agreeK_two, agreeK_one, derefK_some]
  have e1 := loopF (L := L63_3) (fun i => ((ticks, l, s, (i : Int), ()), ((List.replicate s.2.1.length false, List.replicate i true ++ List.replicate (s.1.length + 1 - i) false, List.replicate (s.1.length + 1) (0 : Int)), ()), ()))
    ((ticks, l, s, ()), ((List.replicate s.2.1.length false, List.replicate (s.1.length + 1) true, List.replicate (s.1.length + 1) (0 : Int)), ()), ()) 0 (s.1.length + 1) (N := fuel) (by omega)
    (fun N => by
      simp only [L63_3, B63_3, List.length_append, List.length_replicate]
      rw [dec_f (by omega), Nat.sub_self, List.replicate_zero, List.append_nil]
      rfl)
    (fun N i _ hi => by
      have hlen : (List.replicate i true ++ List.replicate (s.1.length + 1 - i) false).length = s.1.length + 1 := by simp; omega
      simp only [L63_3, B63_3]
      rw [hlen, dec_t (by omega), cond_true, inR_in (by omega) (by omega), getI_gd (by omega) (by omega), wI (x := (i : Int) + 1) (by omega) (by omega), show ((i : Int) + 1) = ((i + 1 : Nat) : Int) by omega, Int.toNat_natCast]
      have : (List.replicate i true ++ List.replicate (s.1.length + 1 - i) false).set i true = List.replicate (i + 1) true ++ List.replicate (s.1.length + 1 - (i + 1)) false := by
        apply List.ext_getElem
        · simp; omega
        · intro j h1 h2
          simp only [List.getElem_set, List.getElem_append, List.getElem_replicate, List.length_replicate]
          by_cases e : i = j
          · subst e; simp
          · rw [if_neg e]
            by_cases h3 : j < i
            · rw [dif_pos h3, dif_pos (by omega)]
            · rw [dif_neg h3, dif_neg (by omega)]
      rw [this])
  have e1' : L63_3 fuel ((ticks, l, s, 0, ()), ((List.replicate s.2.1.length false, List.replicate (s.1.length + 1) false, List.replicate (s.1.length + 1) (0 : Int)), ()), ()) = some ((ticks, l, s, ()), ((List.replicate s.2.1.length false, List.replicate (s.1.length + 1) true, List.replicate (s.1.length + 1) (0 : Int)), ()), ()) := e1
  refine (derefK_of e1' _).trans ?_
  have e2 := loopF (L := L63_9) (fun i => ((ticks, l, s, (i : Int), ()), ((bl s.2.1.length (ply s l i).on, (ply s l i).cl, (ply s l i).ov), (ply s l i).rows, (ply s l i).trips, ()), ()))
    ((), ((ply s l ticks.toNat).rows, (ply s l ticks.toNat).trips, ()), ()) 2000 ticks.toNat (N := fuel) (by omega)
    (fun N => by
      simp only [L63_9, B63_9]
      rw [dec_f (by omega)]
      rfl)
    (fun N i hN hi => L63_9_step hs ht hx hll hN (by omega) (ply_ok hl hx i))
  have e2' : L63_9 fuel ((ticks, l, s, 0, ()), ((List.replicate s.2.1.length false, List.replicate (s.1.length + 1) true, List.replicate (s.1.length + 1) (0 : Int)), ([] : List Int), ([] : List (Int × Int)), ()), ()) = some ((), ((ply s l ticks.toNat).rows, (ply s l ticks.toNat).trips, ()), ()) := by
    rw [← bl_zero]
    exact e2
  refine (derefK_of e2' _).trans ?_
  rfl

/-! ## The law -/
theorem g29_eq (s : Sup) (ticks : Int) (l : List Swi) : g29 (s, ticks, l, ()) = some ((if ckW s ticks l = 0 then (ply s l ticks.toNat).rows else [], ckW s ticks l, ()), ()) := by
  show F29 fuel s ticks l = _
  unfold F29
  rw [g22_eq, derefK_some]
  show (bif ckW s ticks l != 0 then _ else _) = _
  by_cases hc : ckW s ticks l = 0
  · obtain ⟨hs, ht, hll, hx⟩ := ckW_0 hc
    rw [hc, if_pos rfl, g63_eq hs ht hx hll]
    rfl
  · rw [show (ckW s ticks l != 0) = true from bne_iff_ne.2 hc, if_neg hc]
    rfl
theorem g32_eq (s : Sup) (ticks : Int) (l : List Swi) : g32 (s, ticks, l, ()) = some ((if ckW s ticks l = 0 then (ply s l ticks.toNat).trips else [], ckW s ticks l, ()), ()) := by
  show F32 fuel s ticks l = _
  unfold F32
  rw [g22_eq, derefK_some]
  show (bif ckW s ticks l != 0 then _ else _) = _
  by_cases hc : ckW s ticks l = 0
  · obtain ⟨hs, ht, hll, hx⟩ := ckW_0 hc
    rw [hc, if_pos rfl, g63_eq hs ht hx hll]
    rfl
  · rw [show (ckW s ticks l != 0) = true from bne_iff_ne.2 hc, if_neg hc]
    rfl
theorem plays_law (s : Sup) (ticks : Int) (l : List Swi) : g5 (s, ticks, l, ()) = some ((true, ()), ()) := by
  have hfu := fuel_ge
  show F5 fuel s ticks l = _
  unfold F5
  obtain ⟨b, hb⟩ : ∃ b, g21 (ticks, ()) = some ((b, ()), ()) := by
    show ∃ b, F21 fuel ticks = _
    unfold F21
    by_cases h : ticks > 50
    · rw [dec_t h, cond_true]; exact ⟨_, rfl⟩
    · rw [dec_f h, cond_false]; exact ⟨_, rfl⟩
  rw [hb, derefK_some]
  cases b with
  | true => rw [works_eq]; rfl
  | false =>
  rw [cond_false, g27_eq, derefK_some, g28_eq, derefK_some]
  show (bif (if okS s then (0 : Int) else 50) != (if okS s then (0 : Int) else 50) then _ else _) = _
  rw [show ((if okS s then (0 : Int) else 50) != (if okS s then (0 : Int) else 50)) = false by simp, cond_false, g23_eq, derefK_some, g29_eq, derefK_some]
  show (bif ckW s ticks l != ckW s ticks l then _ else _) = _
  have hlen : (if ckW s ticks l = 0 then (ply s l ticks.toNat).rows else []).length ≤ 1000 ∧ (if ckW s ticks l = 0 then (ply s l ticks.toNat).trips else []).length ≤ 100000 := by
    by_cases hc : ckW s ticks l = 0
    · obtain ⟨hs, ht, hll, hx⟩ := ckW_0 hc
      have hp := ply_ok (okS_le hs) hx ticks.toNat
      have h1 := hp.rl
      have h2 := hp.tl
      rw [if_pos hc, if_pos hc]
      omega
    · rw [if_neg hc, if_neg hc]
      simp
  rw [show (ckW s ticks l != ckW s ticks l) = false by simp, cond_false]
  rw [g30_eq _ _ (by simp only; omega), derefK_some]
  simp only [decide_true, Bool.not_true, cond_false]
  rw [g31_eq, derefK_some, g32_eq, derefK_some]
  show (bif ckW s ticks l != ckW s ticks l then _ else _) = _
  rw [show (ckW s ticks l != ckW s ticks l) = false by simp, cond_false]
  generalize htr : (if ckW s ticks l = 0 then (ply s l ticks.toNat).trips else []) = tr at *
  show (bif (tr.length : Int) != (tr.length : Int) then _ else _) = _
  rw [show ((tr.length : Int) != (tr.length : Int)) = false by simp, cond_false]
  have e := loopF (L := L5_14) (fun i => (((i : Int), ()), (tr, tr, ()), ())) (.inr ((), (), ())) 0 tr.length (N := fuel) (by omega)
    (fun N => by
      simp only [L5_14, B5_14]
      rw [dec_f (by omega)]
      rfl)
    (fun N i _ hi => by
      simp only [L5_14, B5_14]
      have a1 : ∀ {R : Type} (X : Option R), inR (i : Int) tr.length X = X := fun X => inR_in (by omega) (by omega) X
      have a2 : ∀ {R : Type} (F : Int × Int → Option R), getI tr (i : Int) F = F (gd tr (i : Int)) := fun F => getI_gd (by omega) (by omega) F
      rw [dec_t (by omega), cond_true, wI (x := (i : Int) + 1) (by omega) (by omega), show ((i : Int) + 1) = ((i + 1 : Nat) : Int) by omega]
      simp [a1, a2])
  have e' : L5_14 fuel ((0, ()), (tr, tr, ()), ()) = some (.inr ((), (), ())) := e
  refine (derefK_of e' _).trans ?_
  show derefK (g18 ()) _ = _
  rw [works_eq]
  rfl
end Go.Proofs.Try.V
