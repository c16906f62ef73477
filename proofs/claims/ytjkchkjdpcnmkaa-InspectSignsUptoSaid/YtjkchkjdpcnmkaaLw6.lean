/- Plain laws of layer 10, sixth part: the reasons, by the document. No condition beyond those typed in each theorem. -/
import Derived.Test.YtjkchkjdpcnmkaaLw5
namespace Go.Proofs.Try.V
open Go.Vi
set_option maxRecDepth 100000

theorem lastE_succ (want : Ent → Bool) (ride : Int) {l : List Ent} {i : Nat} (hi : i < l.length) : lastE want ride (l.take (i + 1)) = if want (gd l (i : Int)) then (gd l (i : Int)).1 else if (gd l (i : Int)).2.1 == 6 && (gd l (i : Int)).2.2.1 == ride then -1 else lastE want ride (l.take i) := by
  unfold lastE
  rw [take_nat hi, List.foldl_append]
  rfl
theorem insR_succ (b : Book) (ride : Int) {l : List Ent} {i : Nat} (hi : i < l.length) : insR b (l.take (i + 1)) ride = if (gd l (i : Int)).2.1 == 5 && (gd l (i : Int)).2.2.1 == ride then (gd l (i : Int)).2.2.2.1 else insR b (l.take i) ride := by
  unfold insR
  rw [take_nat hi, List.foldl_append]
  rfl
theorem lastE_le {want : Ent → Bool} {ride : Int} {b : Book} {l : List Ent} (h : Fit b l) : ∀ i, i ≤ l.length → lastE want ride (l.take i) ≤ lastDay (l.take i)
  | 0, _ => by show (-1 : Int) ≤ 0; decide
  | i + 1, hi => by
    have ih := lastE_le (want := want) (ride := ride) h i (by omega)
    have h1 := h.day i (by omega)
    have h2 := h.day0 i (by omega)
    rw [lastE_succ want ride (by omega), lastDay_take (by omega)]
    split
    · exact Int.le_refl _
    · split <;> omega
theorem tested_succ {b : Book} {l : List Ent} (h : Fit b l) {ride day : Int} (hd : 0 ≤ day) (hm : ∀ i : Nat, i < l.length → (gd l (i : Int)).1 ≤ day) {i : Nat} (hi : i < l.length) :
    (lastE (wantT ride) ride (l.take (i + 1)) == day) = if (gd l (i : Int)).2.2.1 == ride then (if (gd l (i : Int)).2.1 == 4 then (lastE (wantT ride) ride (l.take i) == day) || (gd l (i : Int)).1 == day else if (gd l (i : Int)).2.1 == 6 then false else lastE (wantT ride) ride (l.take i) == day) else lastE (wantT ride) ride (l.take i) == day := by
  rw [lastE_succ _ _ hi]
  unfold wantT
  have h1 := lastE_le (want := wantT ride) (ride := ride) h i (by omega)
  have h2 := h.day i hi
  have h3 := hm i hi
  cases (gd l (i : Int)).2.2.1 == ride with
  | false => simp
  | true =>
    simp only [Bool.and_true, if_true]
    cases h4 : (gd l (i : Int)).2.1 == 4 with
    | true =>
      simp only [if_true]
      rw [Bool.eq_iff_iff]
      simp only [Bool.or_eq_true, beq_iff_eq]
      constructor
      · exact fun e => .inr e
      · rintro (e | e)
        · have e' : lastE (wantT ride) ride (l.take i) = day := e
          omega
        · exact e
    | false =>
      simp only [Bool.false_eq_true, if_false]
      cases (gd l (i : Int)).2.1 == 6 with
      | false => rfl
      | true =>
        simp only [if_true]
        rw [beq_eq_false_iff_ne]
        omega
theorem many_succ {b : Book} {l : List Ent} (_h : Fit b l) (ride : Int) (i : Nat) : manyL l ride (fil (fun i => openB l (i : Int)) (i + 1)) = if openB l (i : Int) then manyL l ride (fil (fun i => openB l (i : Int)) i ++ [(i : Int)]) else manyL l ride (fil (fun i => openB l (i : Int)) i) := by
  rw [fil_succ]
  split <;> rfl

theorem L51_4_at (b : Book) (l : List Ent) (h : Fit b l) (ride day : Int) (hd : 0 ≤ day ∧ day ≤ 10000) : L51_4 fuel ((l, ride, day, true, 0, ()), (b, ([] : List Int), ()), ()) = some ((l, ride, day, chkB b l ride day b.1.length, ()), (b, [], ()), ()) := by
  have hs := (sized_of h.book).rules
  exact loopF (L := L51_4) (fun i => ((l, ride, day, chkB b l ride day i, (i : Int), ()), (b, [], ()), ())) ((l, ride, day, chkB b l ride day b.1.length, ()), (b, [], ()), ()) 0 b.1.length (N := fuel) (by have := fuel_ge; omega)
    (fun N => by simp [L51_4, B51_4])
    (fun N i _ hi => by
      simp only [L51_4, B51_4]
      rw [dec_t (by omega), cond_true, getI_gd (by omega) (by omega), wI (by omega) (by omega), chkB_succ, g58_eq b l h _ day hd (ruleB_of hi), derefK_some]
      cases chkB b l ride day i with
      | false => rfl
      | true => cases (gd b.1 (i : Int)).1 != ride <;> rfl)
theorem L51_13_at (b : Book) (l : List Ent) (h : Fit b l) (ride day : Int) (hd : 0 ≤ day ∧ day ≤ 10000) (hm : ∀ i : Nat, i < l.length → (gd l (i : Int)).1 ≤ day) (out : List Int) : L51_13 fuel ((l, ride, day, false, gd b.2.2 ride, 0, ()), (out, [0, 0, 0, 0], ()), ()) =
    some ((day, lastE (wantT ride) ride l == day, insR b l ride, ()), (out, manyL l ride (openL l), ()), ()) := by
  have hl := h.len
  have e0 : (lastE (wantT ride) ride (l.take 0) == day) = false := beq_eq_false_iff_ne.2 (by show (-1 : Int) ≠ day; omega)
  have e1 : insR b (l.take 0) ride = gd b.2.2 ride := rfl
  have e2 : manyL l ride (fil (fun i => openB l (i : Int)) 0) = [0, 0, 0, 0] := rfl
  have e : L51_13 fuel ((l, ride, day, lastE (wantT ride) ride (l.take 0) == day, insR b (l.take 0) ride, ((0 : Nat) : Int), ()), (out, manyL l ride (fil (fun i => openB l (i : Int)) 0), ()), ()) = _ := loopF (L := L51_13) (fun i => ((l, ride, day, lastE (wantT ride) ride (l.take i) == day, insR b (l.take i) ride, (i : Int), ()), (out, manyL l ride (fil (fun i => openB l (i : Int)) i), ()), ())) ((day, lastE (wantT ride) ride l == day, insR b l ride, ()), (out, manyL l ride (openL l), ()), ()) 0 l.length (N := fuel) (by have := fuel_ge; omega)
    (fun N => by
      simp only [L51_13, B51_13, List.take_length]
      rw [dec_f (by omega)]
      rfl)
    (fun N i _ hi => by
      simp only [L51_13, B51_13]
      have g1 : ∀ {R : Type} (k : Ent → Option R), getI l (i : Int) k = k (gd l (i : Int)) := fun k => getI_gd (by omega) (by omega) k
      rw [dec_t (by omega), cond_true, wI (x := (i : Int) + 1) (by omega) (by omega), tested_succ h hd.1 hm hi, insR_succ b ride hi, many_succ h]
      simp only [g1]
      have hch : openB l (i : Int) = true → ((gd l (i : Int)).2.1 == 2) = true := fun ho => by
        unfold openB at ho
        simp only [Bool.and_eq_true] at ho
        exact ho.1.2
      unfold bne
      cases hr : (gd l (i : Int)).2.2.1 == ride with
      | false =>
        simp only [Bool.not_false, cond_true, Bool.false_eq_true, if_false, Bool.and_false]
        cases openB l (i : Int) with
        | false => rfl
        | true => rw [manyL_other _ _ _ _ hr]; rfl
      | true =>
        simp only [Bool.not_true, cond_false, if_true, Bool.and_true]
        cases h2 : (gd l (i : Int)).2.1 == 2 with
        | true =>
          have e2 := eq_of_beq h2
          rw [e2, g59_eq l _ (by omega), derefK_some, cond_true]
          cases ho : openB l (i : Int) with
          | false => rfl
          | true =>
            have hf := h.found ho
            obtain ⟨k1, k2⟩ := manyL_same l ride (fil (fun i => openB l (i : Int)) i) _ hr hf.2
            have hc := cntL_le l ride (fil (fun i => openB l (i : Int)) i) (gd l (i : Int)).2.2.2.1
            have hfl := fil_len (fun i => openB l (i : Int)) i
            have hlen := manyL_len l ride (fil (fun i => openB l (i : Int)) i)
            rw [cond_true, inR_in (by omega) (by omega), getI_gd (by omega) (by omega), inR_in (by omega) (by omega), getI_gd (by omega) (by omega), k2, k1, wI (by omega) (by omega)]
            rfl
        | false =>
          have ho : openB l (i : Int) = false := by
            cases ho : openB l (i : Int) with
            | false => rfl
            | true => rw [hch ho] at h2; cases h2
          rw [ho]
          simp only [cond_false, Bool.false_eq_true, if_false]
          cases h4 : (gd l (i : Int)).2.1 == 4 with
          | true =>
            have e4 := eq_of_beq h4
            rw [e4]
            cases lastE (wantT ride) ride (l.take i) == day <;> rfl
          | false =>
            cases h6 : (gd l (i : Int)).2.1 == 6 with
            | true =>
              have e6 := eq_of_beq h6
              rw [e6]
              rfl
            | false => cases (gd l (i : Int)).2.1 == 5 <;> rfl)
  rw [e0, e1, e2] at e
  exact e

theorem g51_eq (b : Book) (l : List Ent) (h : Fit b l) (ride day : Int) (hd : 0 ≤ day ∧ day ≤ 10000) (hr : rideB b ride = true) (hm : ∀ i : Nat, i < l.length → (gd l (i : Int)).1 ≤ day) : g51 (b, l, ride, day, ()) = some ((whyL b l ride day, ()), ()) := by
  show F51 fuel b l ride day = _
  unfold F51 whyL soundB
  have hr' := rng_iff.1 hr
  have hr' : 0 ≤ ride ∧ ride < (b.2.2.length : Int) := by omega
  have hc3 := (cntL_le l ride (openL l) 3).1
  rw [L51_4_at b l h ride day hd, derefK_some]
  dsimp only
  have hrep : List.replicate (4 : Int).toNat (0 : Int) = [0, 0, 0, 0] := rfl
  simp only [hrep, leK_in (show (0 : Int) ≤ 4 by decide), leK_in (Int.le_refl 4), lenK_in (show (0 : Int) ≤ 4 by decide) (show (4 : Int) ≤ 549755813888 by decide)]
  have g3 : ∀ {R : Type} (k : Int → Option R), getI (manyL l ride (openL l)) 3 k = k (cntL l ride (openL l) 3) := fun k => by
    rw [getI_gd (by decide) (by rw [manyL_len]; decide)]; rfl
  have g2 : ∀ {R : Type} (k : Int → Option R), getI (manyL l ride (openL l)) 2 k = k (cntL l ride (openL l) 2) := fun k => by
    rw [getI_gd (by decide) (by rw [manyL_len]; decide)]; rfl
  have i3 : ∀ {R : Type} (k : Option R), inR 3 (manyL l ride (openL l)).length k = k := fun k => inR_in (by decide) (by rw [manyL_len]; decide) k
  have i2 : ∀ {R : Type} (k : Option R), inR 2 (manyL l ride (openL l)).length k = k := fun k => inR_in (by decide) (by rw [manyL_len]; decide) k
  have gi : ∀ {R : Type} (k : Int → Option R), getI b.2.2 ride k = k (gd b.2.2 ride) := fun k => getI_gd hr'.1 hr'.2 k
  simp only [gi, L51_13_at b l h ride day hd hm, derefK_some, i3, i2, g3, g2]
  by_cases h4 : insR b l ride < day
  · rw [dec_t h4, if_pos h4]
    by_cases h3 : cntL l ride (openL l) 3 = 0
    · rw [h3, dec_f (by omega)]
      by_cases h2 : cntL l ride (openL l) 2 ≤ 1
      · rw [dec_f (by omega), dec_t h2]
        cases chkB b l ride day b.1.length <;> cases lastE (wantT ride) ride l == day <;> rfl
      · rw [dec_t (by omega), dec_f h2]
        cases chkB b l ride day b.1.length <;> cases lastE (wantT ride) ride l == day <;> rfl
    · rw [dec_t (by omega), show (cntL l ride (openL l) 3 == 0) = false from beq_eq_false_iff_ne.2 h3]
      cases chkB b l ride day b.1.length <;> cases lastE (wantT ride) ride l == day <;> rfl
  · rw [dec_f h4, if_neg h4]
    by_cases h3 : cntL l ride (openL l) 3 = 0
    · rw [h3, dec_f (by omega)]
      by_cases h2 : cntL l ride (openL l) 2 ≤ 1
      · rw [dec_f (by omega), dec_t h2]
        cases chkB b l ride day b.1.length <;> cases lastE (wantT ride) ride l == day <;> rfl
      · rw [dec_t (by omega), dec_f h2]
        cases chkB b l ride day b.1.length <;> cases lastE (wantT ride) ride l == day <;> rfl
    · rw [dec_t (by omega), show (cntL l ride (openL l) 3 == 0) = false from beq_eq_false_iff_ne.2 h3]
      cases chkB b l ride day b.1.length <;> cases lastE (wantT ride) ride l == day <;> rfl
end Go.Proofs.Try.V
