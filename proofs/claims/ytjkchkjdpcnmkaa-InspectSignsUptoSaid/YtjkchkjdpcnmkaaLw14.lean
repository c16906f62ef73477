/- Plain laws of layer 10, fourteenth part: InspectAfter. No condition beyond those typed in each theorem. -/
import Derived.Test.YtjkchkjdpcnmkaaLw13
namespace Go.Proofs.Try.V
open Go.Vi
set_option maxRecDepth 100000

theorem agree1 {R : Type} (x : Option R) : agreeK [x] = x := agreeK_same (by simp)
theorem agree2 {R : Type} (x : Option R) : agreeK [x, x] = x := agreeK_same (by simp)
theorem agree3 {R : Type} (x : Option R) : agreeK [x, x, x] = x := agreeK_same (by simp)
theorem agree4 {R : Type} (x : Option R) : agreeK [x, x, x, x] = x := agreeK_same (by simp)
theorem agree5 {R : Type} (x : Option R) : agreeK [x, x, x, x, x] = x := agreeK_same (by simp)

def hasB (l : List Int) (n : Int) : Bool := l.any fun x => x == n
theorem g21_eq (l : List Int) (hl : l.length ≤ 1048576) (n : Int) : g21 (l, n, ()) = some ((hasB l n, ()), ()) := by
  show F21 fuel l n = _
  unfold F21
  have e := loopAll (L := L21_2) (fun i => ((l, n, (i : Int), ()), (), ())) l (fun x => !(x == n)) (.inl ((true, ()), (), ())) (.inr ((), (), ())) 0 (N := fuel) (by have := fuel_ge; omega)
    (fun N => by simp [L21_2, B21_2])
    (fun N i _ hi => by
      simp only [L21_2, B21_2]
      rw [dec_t (by omega), cond_true, getI_gd (by omega) (by omega), wI (by omega) (by omega)]
      cases gd l (i : Int) == n <;> rfl)
  have e' : L21_2 fuel ((l, n, 0, ()), (), ()) = _ := e
  rw [e', derefK_some]
  have : hasB l n = !l.all (fun x => !(x == n)) := by
    rw [← any_not]
    unfold hasB
    simp only [Bool.not_not]
  rw [this]
  cases l.all (fun x => !(x == n)) <;> rfl
theorem has_fil (p : Nat → Bool) (k i : Nat) : hasB (fil p k) (i : Int) = (decide (i < k) && p i) := by
  rw [Bool.eq_iff_iff]
  unfold hasB
  rw [List.any_eq_true, Bool.and_eq_true, decide_eq_true_iff]
  constructor
  · rintro ⟨x, hx, he⟩
    obtain ⟨j, hj, hp, rfl⟩ := fil_mem hx
    obtain rfl : j = i := by have := eq_of_beq he; omega
    exact ⟨hj, hp⟩
  · rintro ⟨h, hp⟩
    exact ⟨(i : Int), List.mem_map.2 ⟨i, List.mem_filter.2 ⟨List.mem_range.2 h, hp⟩, rfl⟩, by simp⟩
theorem has_rel (b : Book) (l : List Ent) (day : Int) {i : Nat} (hi : i < b.2.2.length) : hasB (relL b l day) (i : Int) = relB b l day i := by
  unfold relL
  rw [has_fil, dec_t hi, Bool.true_and]
theorem has_due (b : Book) (l : List Ent) (day : Int) {i : Nat} (hi : i < b.1.length) : hasB (dueL b l day) (i : Int) = !forceB b l (i : Int) day := by
  unfold dueL
  rw [has_fil, dec_t hi, Bool.true_and]
theorem rel_len (b : Book) (l : List Ent) (day : Int) : (relL b l day).length ≤ b.2.2.length := fil_len _ _
theorem due_len (b : Book) (l : List Ent) (day : Int) : (dueL b l day).length ≤ b.1.length := fil_len _ _
theorem upto_all {l : List Ent} {day : Int} (h : ∀ x ∈ l, x.1 ≤ day) : upto l day = l := by
  induction l with
  | nil => rfl
  | cons y r ih =>
    have hy := h y List.mem_cons_self
    have hr := ih fun x hx => h x (List.mem_cons_of_mem _ hx)
    unfold upto at hr ⊢
    rw [List.takeWhile_cons, dec_t hy, if_pos rfl, hr]
theorem relB_iff (b : Book) (l : List Ent) (day : Int) (i : Nat) : relB b l day i = (chkB b l (i : Int) day b.1.length && soundB l (i : Int) && (lastE (wantT (i : Int)) (i : Int) l == day) && decide (day ≤ insR b l (i : Int))) := by
  unfold relB whyL
  by_cases h4 : insR b l (i : Int) < day
  · rw [if_pos h4, dec_f (p := day ≤ insR b l (i : Int)) (by omega)]
    cases chkB b l (i : Int) day b.1.length <;> cases soundB l (i : Int) <;> cases lastE (wantT (i : Int)) (i : Int) l == day <;> rfl
  · rw [if_neg h4, dec_t (p := day ≤ insR b l (i : Int)) (by omega)]
    cases chkB b l (i : Int) day b.1.length <;> cases soundB l (i : Int) <;> cases lastE (wantT (i : Int)) (i : Int) l == day <;> rfl
theorem has_why1 (b : Book) (l : List Ent) (ride day : Int) : hasB (whyL b l ride day) 1 = !chkB b l ride day b.1.length := by
  unfold whyL
  by_cases h4 : insR b l ride < day
  · rw [if_pos h4]
    cases chkB b l ride day b.1.length <;> cases soundB l ride <;> cases lastE (wantT ride) ride l == day <;> rfl
  · rw [if_neg h4]
    cases chkB b l ride day b.1.length <;> cases soundB l ride <;> cases lastE (wantT ride) ride l == day <;> rfl
theorem has_why3 (b : Book) (l : List Ent) (ride day : Int) : hasB (whyL b l ride day) 3 = !(lastE (wantT ride) ride l == day) := by
  unfold whyL
  by_cases h4 : insR b l ride < day
  · rw [if_pos h4]
    cases chkB b l ride day b.1.length <;> cases soundB l ride <;> cases lastE (wantT ride) ride l == day <;> rfl
  · rw [if_neg h4]
    cases chkB b l ride day b.1.length <;> cases soundB l ride <;> cases lastE (wantT ride) ride l == day <;> rfl
theorem why_len (b : Book) (l : List Ent) (ride day : Int) : (whyL b l ride day).length ≤ 4 := by
  unfold whyL
  split <;> split <;> split <;> split <;> simp
theorem chkB_iff (b : Book) (l : List Ent) (ride day : Int) (n : Nat) : chkB b l ride day n = true ↔ ∀ i : Nat, i < n → (gd b.1 (i : Int)).1 = ride → forceB b l (i : Int) day = true := by
  unfold chkB
  rw [List.all_eq_true]
  constructor
  · intro h i hi he
    have := h i (List.mem_range.2 hi)
    rw [he] at this
    simpa using this
  · intro h i hi
    have := h i (List.mem_range.1 hi)
    by_cases he : (gd b.1 (i : Int)).1 = ride
    · rw [this he, Bool.or_true]
    · rw [neq_t he, Bool.true_or]

/-! ## One entry more -/
theorem Good.app {b : Book} {l : List Ent} {x : Ent} (h : Good b (l ++ [x])) : Good b l ∧ rightB b l x = true := by
  have h1 := h.take l.length
  rw [List.take_left' rfl] at h1
  have h2 := h.right l.length (by simp)
  rw [List.take_left' rfl, gd_last] at h2
  exact ⟨h1, h2⟩
theorem lastDay_ge {b : Book} {l : List Ent} (h : Fit b l) : 0 ≤ lastDay l := by
  unfold lastDay
  split
  · exact Int.le_refl _
  · rename_i hn
    have := h.day0 (l.length - 1) (by omega)
    rw [show (l.length : Int) - 1 = ((l.length - 1 : Nat) : Int) by omega]
    exact this.1
theorem days_le {b : Book} {l : List Ent} (h : Fit b l) {x : Ent} (hx : x ∈ l) : x.1 ≤ lastDay l := by
  obtain ⟨i, hi, he⟩ := List.mem_iff_getElem.1 hx
  have e : gd l (i : Int) = x := gd_of (by rw [List.getElem?_eq_getElem hi, he])
  have := h.sorted i (l.length - 1) (by omega) (by omega)
  unfold lastDay
  rw [if_neg (by omega), show (l.length : Int) - 1 = ((l.length - 1 : Nat) : Int) by omega, ← e]
  exact this
theorem right_day {b : Book} {l : List Ent} {x : Ent} (hl : Fit b l) (h : rightB b l x = true) : 0 ≤ x.1 ∧ x.1 ≤ 10000 ∧ ∀ y ∈ l, y.1 ≤ x.1 := by
  unfold rightB at h
  rw [Bool.and_eq_true] at h
  have h1 := rng_iff.1 h.1
  have h2 := lastDay_ge hl
  exact ⟨by omega, h1.2, fun y hy => Int.le_trans (days_le hl hy) h1.1⟩
theorem dayErr_good {b : Book} {l : List Ent} {day : Int} (h : Good b l) (h0 : 0 ≤ day) (h1 : day ≤ 10000) : dayErr b l day = 0 := by
  unfold dayErr
  rw [good_iff h, if_pos rfl, if_pos (rng_iff.2 ⟨h0, h1⟩)]
theorem rideErr_good {b : Book} {l : List Ent} {ride day : Int} (h : Good b l) (hr : rideB b ride = true) (h0 : 0 ≤ day) (h1 : day ≤ 10000) : rideErr b l ride day = 0 := by
  unfold rideErr
  rw [good_iff h, if_pos rfl, if_pos (by rw [hr, rng_iff.2 ⟨h0, h1⟩]; rfl)]

/-! ## An accident -/
def accE (d ride : Int) : Ent := (d, 6, ride, 0, 0)
theorem acc_last (want : Ent → Bool) (l : List Ent) (d ride r : Int) (hw : want (accE d r) = false) : lastE want ride (l ++ [accE d r]) = if r = ride then -1 else lastE want ride l := by
  rw [lastE_app, hw, if_neg (by simp)]
  by_cases h : r = ride
  · rw [if_pos h, if_pos (by simp [accE, h])]
  · rw [if_neg h, if_neg (by simp [accE, h])]
theorem acc_force (b : Book) (l : List Ent) (d day r rule : Int) : forceB b (l ++ [accE d r]) rule day = if r = (gd b.1 rule).1 then false else forceB b l rule day := by
  unfold forceB lastC
  rw [acc_last _ _ _ _ _ rfl]
  split
  · rfl
  · rfl
theorem acc_rel (b : Book) (l : List Ent) (d day r : Int) (hd : 0 ≤ day) (i : Nat) : relB b (l ++ [accE d r]) day i = (relB b l day i && ((i : Int) != r)) := by
  rw [relB_iff, relB_iff, soundB_tested rfl rfl, insR_app, acc_last _ _ _ _ _ rfl]
  by_cases h : r = (i : Int)
  · rw [if_pos h, h]
    have : ((-1 : Int) == day) = false := by simp; omega
    rw [this]
    simp
  · rw [if_neg h]
    have e1 : ((i : Int) != r) = true := neq_t (Ne.symm h)
    have e2 : chkB b (l ++ [accE d r]) (i : Int) day b.1.length = chkB b l (i : Int) day b.1.length := by
      rw [Bool.eq_iff_iff, chkB_iff, chkB_iff]
      have : ∀ k : Nat, (gd b.1 (k : Int)).1 = (i : Int) → forceB b (l ++ [accE d r]) (k : Int) day = forceB b l (k : Int) day := by
        intro k hk
        rw [acc_force, hk, if_neg h]
      constructor
      · intro hh k hk he
        rw [← this k he]
        exact hh k hk he
      · intro hh k hk he
        rw [this k he]
        exact hh k hk he
    rw [e1, e2, Bool.and_true]
    rfl
theorem law13 (b : Book) (l : List Ent) (w : Int × Int) (hb : Sized b) (hl : l.length ≤ 1048576) : g13 (b, l, w, ()) = some ((true, ()), ()) := by
  show F13 fuel b l w = _
  unfold F13
  rw [g16_eq, derefK_some, works_eq]
  simp only [derefK_some]
  have h1 : ∀ {R : Type} (k : Option R), lenK (l.length : Int) k = k := fun k => lenK_in (by omega) (by omega) k
  cases decide (30 < l.length ∧ l.length ≤ 100) with
  | true => rfl
  | false =>
  rw [cond_false]
  by_cases hn : (l.length : Int) ≥ 100
  · rw [dec_t hn]; rfl
  rw [dec_f hn, cond_false]
  by_cases hw1 : w.1 < 0
  · rw [dec_t hw1]; rfl
  rw [dec_f hw1, cond_false]
  by_cases hw2 : w.1 ≥ (b.2.2.length : Int)
  · rw [dec_t hw2]; rfl
  rw [dec_f hw2, cond_false]
  simp only [h1, agree1, agree2, agree3, agree4, agree5, enumK]
  rw [lenK_in (by simp; omega) (by simp; omega)]
  show derefK (g18 (b, (l ++ [accE w.2 w.1]), ())) _ = _
  rw [g18_eq, derefK_some]
  by_cases hc : (checkR b (l ++ [accE w.2 w.1])).2 = 0
  case neg =>
    show cond ((checkR b (l ++ [accE w.2 w.1])).2 != 0) _ _ = _
    rw [neq_t hc]
    rfl
  have hg := good_of hc
  obtain ⟨hgl, hr⟩ := hg.app
  obtain ⟨hd0, hd1, hdl⟩ := right_day hgl.fit hr
  have hd0 : 0 ≤ w.2 := hd0
  have hd1 : w.2 ≤ 10000 := hd1
  have hdl : ∀ y ∈ l, y.1 ≤ w.2 := hdl
  have hride : rideB b w.1 = true := rng_iff.2 ⟨by omega, by omega⟩
  have u1 : upto l w.2 = l := upto_all hdl
  have u2 : upto (l ++ [accE w.2 w.1]) w.2 = l ++ [accE w.2 w.1] := upto_all fun x hx => by
    rcases List.mem_append.1 hx with hx | hx
    · exact hdl x hx
    · rw [List.mem_singleton.1 hx]
      exact Int.le_refl _
  have z1 := dayErr_good hgl hd0 hd1
  have z2 := dayErr_good hg hd0 hd1
  have z3 := rideErr_good hg hride hd0 hd1
  have hs := sized_of hgl.book
  have hs1 := hs.rules
  have hs2 := hs.rides
  have v1 := rel_len b l w.2
  have v2 := rel_len b (l ++ [accE w.2 w.1]) w.2
  have v3 := due_len b (l ++ [accE w.2 w.1]) w.2
  have v4 := why_len b (l ++ [accE w.2 w.1]) w.1 w.2
  show cond ((checkR b (l ++ [accE w.2 w.1])).2 != 0) _ (derefK (g20 (b, l, w.2, ())) fun y8 => derefK (g20 (b, (l ++ [accE w.2 w.1]), w.2, ())) fun y9 => derefK (g29 (b, (l ++ [accE w.2 w.1]), w.2, ())) fun y10 => derefK (g22 (b, (l ++ [accE w.2 w.1]), w.1, w.2, ())) _) = _
  rw [hc, g20_eq, derefK_some, g20_eq, derefK_some, g29_eq, derefK_some, g22_eq, derefK_some, z1, z2, z3, u1, u2]
  simp only [if_true]
  show derefK (g21 (whyL b (l ++ [accE w.2 w.1]) w.1 w.2, 3, ())) _ = _
  have e3 : (lastE (wantT w.1) w.1 (l ++ [accE w.2 w.1]) == w.2) = false := by
    rw [acc_last _ _ _ _ _ rfl, if_pos rfl]
    simp
    omega
  rw [g21_eq _ (by omega), derefK_some, has_why3, e3]
  show derefK (L13_14 fuel ((whyL b (l ++ [accE w.2 w.1]) w.1 w.2, 0, ()), (b, w, relL b l w.2, relL b (l ++ [accE w.2 w.1]) w.2, dueL b (l ++ [accE w.2 w.1]) w.2, ()), ())) _ = _
  have e := loopF (L := L13_14) (fun i => ((whyL b (l ++ [accE w.2 w.1]) w.1 w.2, (i : Int), ()), (b, w, relL b l w.2, relL b (l ++ [accE w.2 w.1]) w.2, dueL b (l ++ [accE w.2 w.1]) w.2, ()), ())) (.inr ((), (b, w, relL b l w.2, relL b (l ++ [accE w.2 w.1]) w.2, ()), ())) 0 b.1.length (N := fuel) (by have := fuel_ge; omega)
    (fun N => by simp [L13_14, B13_14])
    (fun N i _ hi => by
      simp only [L13_14, B13_14]
      rw [dec_t (by omega), cond_true, getI_gd (by omega) (by omega), wI (x := (i : Int) + 1) (by omega) (by omega)]
      cases hride : (gd b.1 (i : Int)).1 == w.1 with
      | false => rfl
      | true =>
        have hride := eq_of_beq hride
        have f : forceB b (l ++ [accE w.2 w.1]) (i : Int) w.2 = false := by rw [acc_force, if_pos hride.symm]
        rw [cond_true, g21_eq _ (by omega), derefK_some, has_due _ _ _ hi, f, g21_eq _ (by omega), derefK_some, has_why1]
        have f2 : chkB b (l ++ [accE w.2 w.1]) w.1 w.2 b.1.length = false := by
          cases h : chkB b (l ++ [accE w.2 w.1]) w.1 w.2 b.1.length with
          | false => rfl
          | true => rw [(chkB_iff _ _ _ _ _).1 h i hi hride] at f; cases f
        rw [f2]
        rfl)
  have e' : L13_14 fuel ((whyL b (l ++ [accE w.2 w.1]) w.1 w.2, 0, ()), (b, w, relL b l w.2, relL b (l ++ [accE w.2 w.1]) w.2, dueL b (l ++ [accE w.2 w.1]) w.2, ()), ()) = _ := e
  rw [e', derefK_some]
  show derefK (L13_19 fuel ((0, ()), (b, w, relL b l w.2, relL b (l ++ [accE w.2 w.1]) w.2, ()), ())) _ = _
  have d := loopF (L := L13_19) (fun i => (((i : Int), ()), (b, w, relL b l w.2, relL b (l ++ [accE w.2 w.1]) w.2, ()), ())) (.inr ((), (), ())) 0 b.2.2.length (N := fuel) (by have := fuel_ge; omega)
    (fun N => by simp [L13_19, B13_19])
    (fun N i _ hi => by
      simp only [L13_19, B13_19]
      rw [dec_t (by omega), cond_true, g21_eq _ (by omega), derefK_some, g21_eq _ (by omega), derefK_some, has_rel _ _ _ hi, has_rel _ _ _ hi, acc_rel b l _ _ _ hd0, wI (x := (i : Int) + 1) (by omega) (by omega)]
      dsimp only
      cases relB b l w.2 i with
      | false => rfl
      | true => cases (i : Int) != w.1 <;> rfl)
  have d' : L13_19 fuel ((0, ()), (b, w, relL b l w.2, relL b (l ++ [accE w.2 w.1]) w.2, ()), ()) = _ := d
  rw [d']
  rfl
end Go.Proofs.Try.V
