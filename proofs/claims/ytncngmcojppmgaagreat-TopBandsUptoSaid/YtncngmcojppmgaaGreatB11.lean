/- An evening's queues, plain: which evenings are right; the copies. No condition beyond those typed in each theorem. -/
import Derived.Test.YtncngmcojppmgaaGreatB10
namespace Go.Proofs.Tryz.V.Bd
open Go.Vi
open L01 (j9 qK qbQ qfq qdi qdr)
set_option maxRecDepth 100000
theorem g23_eq (x lo hi : Int) : g23 (x, lo, hi, ()) = some ((j9 x lo hi, ()), ()) := by
 show F23 qi x lo hi = _
 unfold F23 j9
 by_cases h : lo ≤ x
 ·rw [qX (p := x ≥ lo) h]; rfl
 ·rw [jC (p := x ≥ lo) h]; rfl
theorem g64_eq (l : List Rd) (hl : l.length ≤ 1000) (f : Rd → Option Bool) (q : Rd → Bool) (hf : ∀ x ∈ l, f x = some (q x)) : g64 (l, f, ()) = some ((qfq l q, ()), ()) := by
 show F64 qi l f = _
 unfold F64
 have h := qbQ (L := L64_2) (fun i => ((l, f, (l.length : Int), (i : Int), ()), (), ())) l q (fun i => .inl (((i : Int), ()), (), ())) (.inr ((), (), ())) 0 (N := qi) (qbw (by omega))
  (fun N => by simp [L64_2, B64_2])
  (fun N i _ hi => by
   simp only [L64_2, B64_2]
   rw [qX (by omega), cond_true, qp (by omega) (by omega), hf _ (jF (by omega) (by omega)), qb, wI (by omega) (by omega)]
   cases q (gd l (i : Int)) <;> rfl)
 have h' : L64_2 qi ((l, f, (l.length : Int), 0, ()), (), ()) = _ := h
 rw [h', qb]
 unfold qfq
 cases l.findIdx? q <;> rfl
theorem g44_eq (l : List Gp) (hl : l.length ≤ 1000) (f : Gp → Option Bool) (q : Gp → Bool) (hf : ∀ x ∈ l, f x = some (q x)) : g44 (l, f, ()) = some ((qfq l q, ()), ()) := by
 show F44 qi l f = _
 unfold F44
 have h := qbQ (L := L44_2) (fun i => ((l, f, (l.length : Int), (i : Int), ()), (), ())) l q (fun i => .inl (((i : Int), ()), (), ())) (.inr ((), (), ())) 0 (N := qi) (qbw (by omega))
  (fun N => by simp [L44_2, B44_2])
  (fun N i _ hi => by
   simp only [L44_2, B44_2]
   rw [qX (by omega), cond_true, qp (by omega) (by omega), hf _ (jF (by omega) (by omega)), qb, wI (by omega) (by omega)]
   cases q (gd l (i : Int)) <;> rfl)
 have h' : L44_2 qi ((l, f, (l.length : Int), 0, ()), (), ()) = _ := h
 rw [h', qb]
 unfold qfq
 cases l.findIdx? q <;> rfl
theorem g42_eq (l : List Rd) (hl : l.length ≤ 1000) (f : Rd → Option Bool) (q : Rd → Bool) (hf : ∀ x ∈ l, f x = some (q x)) : g42 (l, f, ()) = some ((l.any q, ()), ()) := by
 show F42 qi l f = _
 unfold F42
 rw [g64_eq l hl f q hf, qb, qdi]
theorem g25_eq (l : List Gp) (hl : l.length ≤ 1000) (f : Gp → Option Bool) (q : Gp → Bool) (hf : ∀ x ∈ l, f x = some (q x)) : g25 (l, f, ()) = some ((l.any q, ()), ()) := by
 show F25 qi l f = _
 unfold F25
 rw [g44_eq l hl f q hf, qb, qdi]
def rdOK (b : Rd) : Bool := j9 b.1 1 40 && (j9 b.2.1 0 100 && (j9 b.2.2.1 1 100 && j9 b.2.2.2.1 0 100))
theorem g41_eq (b : Rd) : g41 (b, ()) = some ((!rdOK b, ()), ()) := by
 show F41 qi b = _
 unfold F41 rdOK
 simp only [g23_eq, qb]
 cases j9 b.1 1 40 <;> cases j9 b.2.1 0 100 <;> cases j9 b.2.2.1 1 100 <;> cases j9 b.2.2.2.1 0 100 <;> rfl
def qhi (n : Nat) (x : Gp) : Bool := j9 x.1 0 2000 && (j9 x.2.1 1 40 && (j9 x.2.2.1 0 10000 && (j9 x.2.2.2.2 0 2000 && (decide (x.2.2.2.1.length ≤ 10) && x.2.2.2.1.all fun r => j9 r 0 ((n : Int) - 1)))))
theorem g21_eq (x : Gp) (f : (List Rd) × Int) (hf : f.1.length ≤ 1000) : g21 (x, f, ()) = some ((!qhi f.1.length x, ()), ()) := by
 show F21 qi x f = _
 unfold F21 qhi
 simp only [g23_eq, qb]
 cases j9 x.1 0 2000
 ·rfl
 cases j9 x.2.1 1 40
 ·rfl
 cases j9 x.2.2.1 0 10000
 ·rfl
 cases j9 x.2.2.2.2 0 2000
 ·rfl
 simp only [Bool.not_true, cond_false, Bool.true_and]
 by_cases hl : x.2.2.2.1.length ≤ 10
 ·rw [jC (by omega), cond_false, qX hl, Bool.true_and]
  have h := L01.g24_eq x.2.2.2.1 (by omega) (fun v5 => qa (g22 (v5, f, ())) fun y6 => some y6.1.1) (fun r => !j9 r 0 ((f.1.length : Int) - 1)) (fun r _ => by
   show qa (F22 qi r f) _ = _
   unfold F22
   rw [wI (by omega) (by omega), g23_eq]
   rfl)
  rw [h, qb, qdr]
 ·rw [qX (by omega), cond_true, jC hl]
  rfl
theorem check_ok (f : (List Rd) × Int) (l : List Gp) : ∃ e : Int, g13 (f, l, ()) = some ((e, ()), ()) ∧ (e = 0 → Gd l f.1.length ∧ 0 ≤ f.2 ∧ f.2 ≤ 100 ∧ (∀ b ∈ f.1, rdOK b = true) ∧ ∀ x ∈ l, qhi f.1.length x = true) := by
 have h20 : ∃ e : Int, g20 (f, ()) = some ((e, ()), ()) ∧ (e = 0 → f.1.length ≤ 8 ∧ 0 ≤ f.2 ∧ f.2 ≤ 100 ∧ ∀ b ∈ f.1, rdOK b = true) := by
  show ∃ e : Int, F20 qi f = _ ∧ _
  unfold F20
  by_cases h8 : f.1.length ≤ 8
  ·rw [jC (by omega), cond_false, g23_eq, qb]
   cases hw : j9 f.2 0 100 with
   | false => exact ⟨70, rfl, fun h => by cases h⟩
   | true =>
    rw [g42_eq f.1 (by omega) (fun v2 => qa (g41 (v2, ())) fun y3 => some y3.1.1) (fun b => !rdOK b) (fun b _ => by rw [g41_eq]; rfl), qdr]
    cases ha : f.1.all rdOK with
    | false => exact ⟨70, rfl, fun h => by cases h⟩
    | true => exact ⟨0, rfl, fun _ => ⟨h8, (qK.1 hw).1, (qK.1 hw).2, fun b hb => List.all_eq_true.1 ha b hb⟩⟩
  ·rw [qX (by omega), cond_true]
   exact ⟨70, rfl, fun h => by cases h⟩
 obtain ⟨e, h1, h2⟩ := h20
 show ∃ e : Int, F13 qi f l = _ ∧ _
 unfold F13
 rw [h1, qb]
 by_cases he : e = 0
 ·obtain ⟨h8, w0, w1, hr⟩ := h2 he
  subst he
  rw [show ((0 : Int) != 0) = false from rfl, cond_false]
  by_cases h60 : l.length ≤ 60
  ·rw [jC (by omega), cond_false, g25_eq l (by omega) (fun v2 => qa (g21 (v2, f, ())) fun y3 => some y3.1.1) (fun x => !qhi f.1.length x) (fun x _ => by rw [g21_eq x f (by omega)]; rfl), qb, qdr]
   cases ha : l.all (qhi f.1.length) with
   | false => exact ⟨71, rfl, fun h => by cases h⟩
   | true =>
    refine ⟨0, rfl, fun _ => ⟨⟨h60, h8, fun x hx => ?_, fun x hx => ?_⟩, w0, w1, hr, fun x hx => List.all_eq_true.1 ha x hx⟩⟩
    ·have := List.all_eq_true.1 ha x hx
     unfold qhi at this
     rw [Bool.and_eq_true] at this
     exact qK.1 this.1
    ·have := List.all_eq_true.1 ha x hx
     unfold qhi at this
     simp only [Bool.and_eq_true, decide_eq_true_eq] at this
     refine ⟨this.2.2.2.2.1, fun r hr => ?_⟩
     have := qK.1 (List.all_eq_true.1 this.2.2.2.2.2 r hr)
     omega
  ·rw [qX (by omega), cond_true]
   exact ⟨71, rfl, fun h => by cases h⟩
 ·have : (e != 0) = true := by simpa using he
  rw [this, cond_true]
  exact ⟨e, rfl, fun h => absurd h he⟩
theorem far_ok (f : (List Rd) × Int) (l : List Gp) : ∃ b : Bool, g4 (f, l, ()) = some ((b, ()), ()) ∧ (b = false → f.1.length ≤ 10 ∧ l.length ≤ 70 ∧ ∀ x ∈ l, x.2.2.2.1.length ≤ 20) := by
 show ∃ b : Bool, F4 qi f l = _ ∧ _
 unfold F4
 by_cases h10 : f.1.length ≤ 10
 ·rw [jC (by omega), cond_false]
  by_cases h70 : l.length ≤ 70
  ·rw [jC (by omega), cond_false]
   have h := qbQ (L := L4_4) (fun i => ((l, (i : Int), ()), (), ())) l (fun x => decide ((x.2.2.2.1.length : Int) > 20)) (fun _ => .inl ((true, ()), (), ())) (.inr ((), (), ())) 0 (N := qi) (qbw (by omega))
    (fun N => by simp [L4_4, B4_4])
    (fun N i _ hi => by
     simp only [L4_4, B4_4]
     rw [qX (by omega), cond_true, qp (by omega) (by omega), wI (by omega) (by omega)]
     cases decide (((gd l (i : Int)).2.2.2.1.length : Int) > 20) <;> rfl)
   have h' : L4_4 qi ((l, 0, ()), (), ()) = _ := h
   rw [h', qb]
   cases hi : l.findIdx? (fun x => decide ((x.2.2.2.1.length : Int) > 20)) with
   | some i => exact ⟨true, rfl, fun h => by cases h⟩
   | none =>
    refine ⟨false, rfl, fun _ => ⟨h10, h70, fun x hx => ?_⟩⟩
    have := L01.findIdx_none (l := l) (q := fun x => decide ((x.2.2.2.1.length : Int) > 20))
    rw [hi] at this
    have := List.all_eq_true.1 this.symm x hx
    simp only [Bool.not_eq_true', decide_eq_false_iff_not] at this
    omega
  ·rw [qX (by omega), cond_true]
   exact ⟨true, rfl, fun h => by cases h⟩
 ·rw [qX (by omega), cond_true]
  exact ⟨true, rfl, fun h => by cases h⟩
theorem g7_eq (f : (List Rd) × Int) (hf : f.1.length ≤ 1000) : g7 (f, ()) = some ((f, ()), ()) := by
 show F7 qi f = _
 unfold F7
 rw [jR (by omega) (by simp only [List.length_nil]; omega)]
 rfl
theorem loop8c (l : List Gp) (hl : l.length ≤ 1000) (hw : ∀ x ∈ l, x.2.2.2.1.length ≤ 20) : ∀ (m k : Nat) (N0 : Nat), l.length = k + m → m < N0 → L8_3 N0 (((k : Int), ()), (l, ()), ()) = some ((), (l, ()), ())
 | 0, k, N0, hk, hN => by
  obtain ⟨q, rfl⟩ : ∃ q, N0 = q + 1 := ⟨N0 - 1, by omega⟩
  simp only [L8_3, B8_3]
  rw [jC (by omega), cond_false]
 | m + 1, k, N0, hk, hN => by
  obtain ⟨q, rfl⟩ : ∃ q, N0 = q + 1 := ⟨N0 - 1, by omega⟩
  have h0 : (0 : Int) ≤ (k : Int) := by omega
  have h1 : (k : Int) < l.length := by omega
  have hx := hw _ (jF h0 h1)
  rw [← loop8c l hl hw m (k + 1) q (by omega) (by omega)]
  simp only [L8_3, B8_3]
  rw [qX (by omega), cond_true, qE h0 (by omega), qp h0 h1, jR (by omega) (by simp only [List.length_nil]; omega), qE h0 (by omega), qp h0 h1, qY, jE (by omega)]
  obtain ⟨hn, e⟩ := qd5 h0 h1
  have e2 : (gd l (k : Int)).1 = (gd l (k : Int)).1 := rfl
  have hs : l.set (k : Int).toNat ((gd l (k : Int)).1, ((gd l (k : Int)).2.1, ((gd l (k : Int)).2.2.1, ((([] : List Int) ++ (gd l (k : Int)).2.2.2.1), (gd l (k : Int)).2.2.2.2)))) = l := by
   rw [List.nil_append]
   show l.set (k : Int).toNat (gd l (k : Int)) = l
   rw [← e, List.set_getElem_self]
  rw [hs]
theorem g8_eq (l : List Gp) (hl : l.length ≤ 1000) (hw : ∀ x ∈ l, x.2.2.2.1.length ≤ 20) : g8 (l, ()) = some ((l, ()), ()) := by
 show F8 qi l = _
 unfold F8
 rw [jR (by omega) (by simp only [List.length_nil]; omega), List.nil_append]
 have h := loop8c l hl hw l.length 0 qi (by omega) (qbw (by omega))
 have h' : L8_3 qi ((0, ()), (l, ()), ()) = _ := h
 rw [h', qb]
theorem g6_ok (f : (List Rd) × Int) (l : List Gp) : ∃ (vs : List Vis) (e : Int), g6 (f, l, ()) = some ((vs, e, ()), ()) ∧ (e = 0 → VOK l f.1.length vs ∧ Gd l f.1.length ∧ (∀ b ∈ f.1, rdOK b = true) ∧ ∀ x ∈ l, qhi f.1.length x = true) := by
 obtain ⟨e, h1, h2⟩ := check_ok f l
 show ∃ (vs : List Vis) (e : Int), F6 qi f l = _ ∧ _
 unfold F6
 rw [h1, qb]
 by_cases he : e = 0
 ·obtain ⟨hG, w0, w1, hr, hg⟩ := h2 he
  subst he
  obtain ⟨o, h3, h4⟩ := play_ok (R := f.1) (w := f.2) hG w0 w1
  have h3' : g14 (f, l, ()) = some ((o, ()), ()) := h3
  rw [show ((0 : Int) != 0) = false from rfl, cond_false, h3', qb]
  exact ⟨_, 0, rfl, fun _ => ⟨h4, hG, hr, hg⟩⟩
 ·have : (e != 0) = true := by simpa using he
  rw [this, cond_true]
  exact ⟨_, e, rfl, fun h => absurd h he⟩
end Go.Proofs.Tryz.V.Bd
