/- Plain laws of layer 10, fourth part: right entries; the open ones; the checks in force. No condition beyond those typed in each theorem. -/
import Derived.Test.YtjkchkjdpcnmkaaLw3
namespace Go.Proofs.Try.V
open Go.Vi
set_option maxRecDepth 100000

/-! ## Right entries -/
structure Good (b : Book) (l : List Ent) : Prop where
  book : bookOK b = true
  len : l.length ≤ 100
  right : ∀ i, i < l.length → rightB b (l.take i) (gd l (i : Int)) = true
theorem good_of {b : Book} {l : List Ent} (h : (checkR b l).2 = 0) : Good b l := by
  obtain ⟨h1, h2, h3⟩ := check_ok h
  refine ⟨h1, h2, fun i hi => ?_⟩
  have := findIdx_none (l := List.range l.length) (q := fun i => !rightB b (l.take i) (gd l (i : Int)))
  have h3' : ((List.range l.length).findIdx? fun i => !rightB b (l.take i) (gd l (i : Int))) = none := h3
  rw [h3'] at this
  have := List.all_eq_true.1 this.symm i (by simpa using hi)
  simpa using this
theorem good_iff {b : Book} {l : List Ent} (h : Good b l) : checkR b l = (0, 0) := by
  have : badAt b l = none := by
    have e := findIdx_none (l := List.range l.length) (q := fun i => !rightB b (l.take i) (gd l (i : Int)))
    have hall : ((List.range l.length).all fun x => !(fun i => !rightB b (l.take i) (gd l (i : Int))) x) = true := by
      rw [List.all_eq_true]
      intro i hi
      simp only [List.mem_range] at hi
      simp [h.right i hi]
    rw [hall] at e
    exact Option.isNone_iff_eq_none.1 e
  unfold checkR
  rw [if_pos h.book, if_pos h.len, this]
theorem gd_take {α : Type} [Inhabited α] {l : List α} {k i : Nat} (h : i < k) (_hl : i < l.length) : gd (l.take k) (i : Int) = gd l (i : Int) := by
  unfold gd
  rw [List.getD_eq_getElem?_getD, List.getD_eq_getElem?_getD, Int.toNat_natCast, List.getElem?_take_of_lt h]
theorem Good.take {b : Book} {l : List Ent} (h : Good b l) (k : Nat) : Good b (l.take k) := by
  refine ⟨h.book, by have := h.len; simp; omega, fun i hi => ?_⟩
  rw [List.length_take] at hi
  rw [List.take_take, gd_take (by omega) (by omega), show min i k = i by omega]
  exact h.right i (by omega)
theorem upto_take (l : List Ent) (day : Int) : ∃ k, upto l day = l.take k := by
  refine ⟨match l.findIdx? (fun x => decide (x.1 > day)) with | some i => i | none => l.length, ?_⟩
  rw [← upto_eq, ← take_idx]
  rfl
theorem Good.upto {b : Book} {l : List Ent} (h : Good b l) (day : Int) : Good b (upto l day) := by
  obtain ⟨k, e⟩ := upto_take l day
  rw [e]
  exact h.take k
/-- What the functions need of entries; the document also asks them of lists with one more Tested. -/
structure Fit (b : Book) (l : List Ent) : Prop where
  book : bookOK b = true
  len : l.length ≤ 1000
  day : ∀ i, i < l.length → lastDay (l.take i) ≤ (gd l (i : Int)).1 ∧ (gd l (i : Int)).1 ≤ 10000
  sev : ∀ i, i < l.length → ((gd l (i : Int)).2.1 == 2) = true → 1 ≤ (gd l (i : Int)).2.2.2.1 ∧ (gd l (i : Int)).2.2.2.1 ≤ 3
theorem Good.fit {b : Book} {l : List Ent} (h : Good b l) : Fit b l := by
  refine ⟨h.book, by have := h.len; omega, fun i hi => ?_, fun i hi h2 => ?_⟩
  · have := h.right i hi
    unfold rightB at this
    rw [Bool.and_eq_true] at this
    exact rng_iff.1 this.1
  · have := h.right i hi
    unfold rightB kindB at this
    have h2 := eq_of_beq h2
    rw [h2] at this
    simp only [Bool.and_eq_true] at this
    have h3 := this.2
    rw [if_neg (by decide), if_pos (by decide)] at h3
    simp only [Bool.and_eq_true] at h3
    exact rng_iff.1 h3.1.2
theorem lastDay_take {l : List Ent} {i : Nat} (hi : i < l.length) : lastDay (l.take (i + 1)) = (gd l (i : Int)).1 := by
  unfold lastDay
  have e : (l.take (i + 1)).length = i + 1 := by simp; omega
  rw [if_neg (by omega), e, show (((i + 1 : Nat) : Int) - 1) = (i : Int) by omega, gd_take (by omega) hi]
theorem Fit.sorted {b : Book} {l : List Ent} (h : Fit b l) : ∀ i j, i ≤ j → j < l.length → (gd l (i : Int)).1 ≤ (gd l (j : Int)).1 := by
  intro i j hij hj
  induction j with
  | zero => obtain rfl : i = 0 := by omega
            exact Int.le_refl _
  | succ j ih =>
    rcases Nat.lt_or_ge i (j + 1) with h1 | h1
    · have h2 := ih (by omega) (by omega)
      have h3 := (h.day (j + 1) hj).1
      rw [lastDay_take (by omega)] at h3
      omega
    · obtain rfl : i = j + 1 := by omega
      exact Int.le_refl _
theorem Fit.day0 {b : Book} {l : List Ent} (h : Fit b l) (i : Nat) (hi : i < l.length) : 0 ≤ (gd l (i : Int)).1 ∧ (gd l (i : Int)).1 ≤ 10000 := by
  have h0 := h.day 0 (by omega)
  have e : lastDay (l.take 0) = 0 := rfl
  rw [e] at h0
  have := h.sorted 0 i (by omega) hi
  have := (h.day i hi).2
  have e0 : gd l ((0 : Nat) : Int) = gd l 0 := rfl
  rw [e0] at *
  omega
theorem Fit.mem {b : Book} {l : List Ent} (h : Fit b l) {x : Ent} (hx : x ∈ l) : 0 ≤ x.1 ∧ x.1 ≤ 10000 := by
  obtain ⟨i, hi, rfl⟩ := List.mem_iff_getElem.1 hx
  have := h.day0 i hi
  rwa [gd_of (List.getElem?_eq_getElem hi)] at this

/-! ## Lists of numbers that a loop gathers -/
def fil (p : Nat → Bool) (n : Nat) : List Int := ((List.range n).filter p).map fun i : Nat => (i : Int)
theorem fil_succ (p : Nat → Bool) (n : Nat) : fil p (n + 1) = if p n then fil p n ++ [(n : Int)] else fil p n := by
  unfold fil
  rw [List.range_succ, List.filter_append]
  cases h : p n <;> simp [h]
theorem fil_len (p : Nat → Bool) (n : Nat) : (fil p n).length ≤ n := by
  unfold fil
  rw [List.length_map]
  have := List.length_filter_le p (List.range n)
  simpa using this
theorem fil_congr {p q : Nat → Bool} {n : Nat} (h : ∀ i, i < n → p i = q i) : fil p n = fil q n := by
  unfold fil
  congr 1
  exact List.filter_congr fun x hx => h x (by simpa using hx)
/-- A loop that gathers the numbers with p. -/
theorem loopFil {D R : Type} {L : Nat → D → Option R} (mk : Nat → List Int → D) (p : Nat → Bool) (n c : Nat) (res : List Int → R) {N : Nat} (hN : n + c < N) (hend : ∀ N s, s.length ≤ n → L (N + 1) (mk n s) = some (res s))
    (hstep : ∀ N i s, c ≤ N → i < n → s.length ≤ i → L (N + 1) (mk i s) = L N (mk (i + 1) (if p i then s ++ [(i : Int)] else s))) : L N (mk 0 []) = some (res (fil p n)) :=
  loopF (L := L) (fun i => mk i (fil p i)) (res (fil p n)) c n hN (fun N => hend N _ (fil_len p n)) (fun N i hc hi => by rw [hstep N i _ hc hi (fil_len p i), fil_succ])
theorem agreeK_same {R : Type} {x : Option R} {l : List (Option R)} (h : ∀ y ∈ l, y = x) : agreeK (x :: l) = x := by
  cases x with
  | none =>
    have : ∀ y ∈ none :: l, y = none := by
      intro y hy
      rcases List.mem_cons.1 hy with rfl | hy
      · rfl
      · exact h y hy
    cases he : agreeK (none :: l) with
    | none => rfl
    | some r => exact absurd (agreeK_some he none List.mem_cons_self) (by simp)
  | some r => exact agreeK_of (by
      intro y hy
      rcases List.mem_cons.1 hy with rfl | hy
      · rfl
      · exact h y hy)

/-! ## Open entries -/
def openL (l : List Ent) : List Int := fil (fun i => openB l (i : Int)) l.length
theorem g56_eq (b : Book) (l : List Ent) (hl : l.length ≤ 1048576) : g56 ((b, l), ()) = some ((openL l, ()), ()) := by
  show F56 fuel (b, l) = _
  unfold F56
  have e := loopFil (L := L56_2) (fun i s => ((l, (l.length : Int), (i : Int), ()), ((b, l), s, ()), ())) (fun i => openB l (i : Int)) l.length 0 (fun s => ((), (s, ()), ())) (N := fuel) (by have := fuel_ge; omega)
    (fun N s _ => by simp [L56_2, B56_2])
    (fun N i s _ hi hs => by
      simp only [L56_2, B56_2]
      rw [dec_t (by omega), cond_true, getI_gd (by omega) (by omega), g74_eq b l _ hl, derefK_some, lenK_in (by simp; omega) (by simp; omega), wI (by omega) (by omega)]
      unfold openB
      have hr : rng (i : Int) 0 ((l.length : Int) - 1) = true := rng_iff.2 ⟨by omega, by omega⟩
      rw [hr]
      cases (gd l (i : Int)).2.1 == 2 with
      | false => rfl
      | true => cases mendedB l (i : Int) <;> rfl)
  have e' : L56_2 fuel ((l, (l.length : Int), 0, ()), ((b, l), [], ()), ()) = _ := e
  rw [show ((b, l) : Log).2 = l from rfl]
  rw [e', derefK_some]
  rfl

/-! ## The last day of a wanted entry -/
def lastE (want : Ent → Bool) (ride : Int) (l : List Ent) : Int := l.foldl (fun acc x => if want x then x.1 else if x.2.1 == 6 && x.2.2.1 == ride then -1 else acc) (-1)
def scanE (want : Ent → Bool) (ride : Int) : List Ent → Option Int
  | [] => none
  | x :: r => if want x then some x.1 else if x.2.1 == 6 && x.2.2.1 == ride then some (-1) else scanE want ride r
theorem lastE_scan (want : Ent → Bool) (ride : Int) (l : List Ent) : lastE want ride l = (scanE want ride l.reverse).getD (-1) := by
  unfold lastE
  rw [List.foldl_eq_foldr_reverse]
  induction l.reverse with
  | nil => rfl
  | cons x r ih =>
    rw [List.foldr_cons, ih, scanE]
    split
    · rfl
    · split
      · rfl
      · rfl
theorem R70_eq (n : Nat) (ride : Int) (f : Ent → Option Bool) (want : Ent → Bool) (hf : ∀ x, f x = some (want x)) (v : Int) : ∀ r : List Ent, R70_2 n r (ride, f, v, ()) = some (match scanE want ride r with | some d => (.ret, (d, ())) | none => (.norm, (v, ())))
  | [] => rfl
  | x :: r => by
    have ih := R70_eq n ride f want hf v r
    simp only [R70_2, Q70_2, hf, derefK_some, scanE]
    rw [ih]
    cases want x with
    | true => rfl
    | false =>
      cases x.2.1 == 6 with
      | false => rfl
      | true => cases x.2.2.1 == ride <;> rfl
theorem it84_at (b : Book) (l : List Ent) (hl : l.length ≤ 1048576) : It.it84.g ((b, l), ()) = some (l.reverse : List Ent) := by
  show lenK (l.length : Int) (some (l.reverse : List Ent)) = _
  rw [lenK_in (by omega) (by omega)]
theorem g70_eq (b : Book) (l : List Ent) (hl : l.length ≤ 1048576) (ride : Int) (f : Ent → Option Bool) (want : Ent → Bool) (hf : ∀ x, f x = some (want x)) : g70 ((b, l), ride, f, ()) = some ((lastE want ride l, ()), ()) := by
  show F70 fuel (b, l) ride f = _
  unfold F70
  show derefK (It.it84.g ((b, l), ())) _ = _
  rw [it84_at b l hl]
  show derefK (R70_2 fuel (l.reverse : List Ent) (ride, f, 0, ())) _ = _
  rw [R70_eq fuel ride f want hf, derefK_some, lastE_scan]
  cases scanE want ride l.reverse <;> rfl
theorem lastE_in {want : Ent → Bool} {ride : Int} {b : Book} {l : List Ent} (h : Fit b l) : -1 ≤ lastE want ride l ∧ lastE want ride l ≤ 10000 := by
  rw [lastE_scan]
  have key : ∀ r : List Ent, (∀ x ∈ r, 0 ≤ x.1 ∧ x.1 ≤ 10000) → -1 ≤ (scanE want ride r).getD (-1) ∧ (scanE want ride r).getD (-1) ≤ 10000 := by
    intro r
    induction r with
    | nil => intro _; exact ⟨Int.le_refl _, by show (-1 : Int) ≤ 10000; decide⟩
    | cons x r ih =>
      intro hx
      have h1 := hx x List.mem_cons_self
      have h2 := ih fun y hy => hx y (List.mem_cons_of_mem _ hy)
      unfold scanE
      split
      · show -1 ≤ x.1 ∧ x.1 ≤ 10000
        omega
      · split
        · exact ⟨Int.le_refl _, by show (-1 : Int) ≤ 10000; decide⟩
        · exact h2
  exact key _ fun x hx => h.mem (List.mem_reverse.1 hx)

/-! ## Checks in force -/
def wantC (rule : Int) (x : Ent) : Bool := x.2.1 == 1 && x.2.2.1 == rule
def lastC (b : Book) (l : List Ent) (rule : Int) : Int := lastE (wantC rule) (gd b.1 rule).1 l
def untilR (b : Book) (l : List Ent) (rule : Int) : Int := if lastC b l rule < 0 then -1 else lastC b l rule + (gd b.1 rule).2.1 - 1
def forceB (b : Book) (l : List Ent) (rule day : Int) : Bool := decide (0 ≤ lastC b l rule) && decide (day - lastC b l rule < (gd b.1 rule).2.1)
theorem rule_in {b : Book} (hb : bookOK b = true) {rule : Int} (hr : ruleB b rule = true) : rideB b (gd b.1 rule).1 = true ∧ 1 ≤ (gd b.1 rule).2.1 ∧ (gd b.1 rule).2.1 ≤ 10000 := by
  have hr := rng_iff.1 hr
  simp only [bookOK, Bool.and_eq_true] at hb
  have h2 := List.all_eq_true.1 hb.1.1.2 _ (gd_mem (l := b.1) hr.1 (by omega))
  unfold ruleOK at h2
  simp only [Bool.and_eq_true] at h2
  exact ⟨h2.1.1, rng_iff.1 h2.1.2⟩
theorem g55_eq (b : Book) (l : List Ent) (h : Fit b l) (rule : Int) (hr : ruleB b rule = true) : g55 ((b, l), rule, ()) = some ((untilR b l rule, ()), ()) := by
  show F55 fuel (b, l) rule = _
  unfold F55 untilR
  have hr' := rng_iff.1 hr
  have hl := h.len
  obtain ⟨_, h1, h2⟩ := rule_in h.book hr
  rw [getI_gd (by omega) (by show rule < (b.1.length : Int); omega), g70_eq b l (by omega) _ _ (wantC rule) (fun x => by
    show derefK (F73 fuel x rule) _ = _
    unfold F73 wantC
    cases x.2.1 == 1 <;> rfl), derefK_some]
  have h3 := lastE_in (want := wantC rule) (ride := (gd b.1 rule).1) h
  show cond (decide (lastC b l rule < 0)) _ _ = _
  have h3 : -1 ≤ lastC b l rule ∧ lastC b l rule ≤ 10000 := h3
  by_cases h4 : lastC b l rule < 0
  · rw [dec_t h4, if_pos h4]
    rfl
  · rw [dec_f h4, if_neg h4, cond_false, getI_gd (by omega) (by show rule < (b.1.length : Int); omega)]
    show some ((IntKind.wrap .i64 (IntKind.wrap .i64 (lastC b l rule + (gd b.1 rule).2.1) - 1), ()), ()) = _
    rw [wI (x := lastC b l rule + (gd b.1 rule).2.1) (by omega) (by omega), wI (by omega) (by omega)]
theorem g58_eq (b : Book) (l : List Ent) (h : Fit b l) (rule day : Int) (hd : 0 ≤ day ∧ day ≤ 10000) (hr : ruleB b rule = true) : g58 (b, l, rule, day, ()) = some ((forceB b l rule day, ()), ()) := by
  show F58 fuel b l rule day = _
  unfold F58 forceB
  have hr' := rng_iff.1 hr
  have hl := h.len
  let fol (i : Nat) : Int := lastC b (l.take i) rule
  have hs : ∀ i, i < l.length → fol (i + 1) = if wantC rule (gd l (i : Int)) then (gd l (i : Int)).1 else if (gd l (i : Int)).2.1 == 6 && (gd l (i : Int)).2.2.1 == (gd b.1 rule).1 then -1 else fol i := by
    intro i hi
    show lastC b (l.take (i + 1)) rule = _
    unfold lastC lastE
    rw [take_nat hi, List.foldl_append]
    rfl
  have e := loopF (L := L58_3) (fun i => ((l, rule, day, fol i, (i : Int), ()), (b, ()), ())) ((rule, day, fol l.length, ()), (b, ()), ()) 0 l.length (N := fuel) (by have := fuel_ge; omega)
    (fun N => by simp [L58_3, B58_3])
    (fun N i _ hi => by
      simp only [L58_3, B58_3]
      have g1 : ∀ {R : Type} (k : Ent → Option R), getI l (i : Int) k = k (gd l (i : Int)) := fun k => getI_gd (by omega) (by omega) k
      have g2 : ∀ {R : Type} (k : Rule → Option R), getI b.1 rule k = k (gd b.1 rule) := fun k => getI_gd (by omega) (by omega) k
      rw [dec_t (by omega), cond_true, wI (by omega) (by omega), hs i hi]
      simp only [g1, g2]
      unfold wantC
      cases h1 : (gd l (i : Int)).2.1 == 1 with
      | false =>
        cases (gd l (i : Int)).2.1 == 6 with
        | false => rfl
        | true => cases (gd l (i : Int)).2.2.1 == (gd b.1 rule).1 <;> rfl
      | true =>
        have h6 : ((gd l (i : Int)).2.1 == 6) = false := by
          have := eq_of_beq h1
          rw [this]
          rfl
        rw [h6]
        cases (gd l (i : Int)).2.2.1 == rule <;> rfl)
  have e' : L58_3 fuel ((l, rule, day, -1, 0, ()), (b, ()), ()) = _ := e
  rw [e', derefK_some]
  have hf : fol l.length = lastC b l rule := by
    show lastC b (l.take l.length) rule = _
    rw [List.take_length]
  rw [hf]
  have h3 : -1 ≤ lastC b l rule ∧ lastC b l rule ≤ 10000 := lastE_in (want := wantC rule) (ride := (gd b.1 rule).1) h
  by_cases h4 : 0 ≤ lastC b l rule
  · rw [dec_t (p := lastC b l rule ≥ 0) h4, cond_true, Bool.true_and]
    show getI b.1 rule _ = _
    rw [getI_gd (by omega) (by omega)]
    show some ((decide (IntKind.wrap .i64 (day - lastC b l rule) < (gd b.1 rule).2.1), ()), ()) = _
    rw [wI (by omega) (by omega)]
  · rw [dec_f (p := lastC b l rule ≥ 0) h4]
    rfl
theorem until_lt {b : Book} {l : List Ent} {rule day : Int} (hd : 0 ≤ day) : decide (untilR b l rule < day) = !forceB b l rule day := by
  unfold untilR forceB
  by_cases h : lastC b l rule < 0
  · rw [if_pos h, dec_f (p := 0 ≤ lastC b l rule) (by omega), dec_t (by omega)]
    rfl
  · rw [if_neg h, dec_t (p := 0 ≤ lastC b l rule) (by omega), Bool.true_and]
    by_cases h2 : day - lastC b l rule < (gd b.1 rule).2.1
    · rw [dec_t h2, dec_f (by omega)]; rfl
    · rw [dec_f h2, dec_t (by omega)]; rfl
end Go.Proofs.Try.V
