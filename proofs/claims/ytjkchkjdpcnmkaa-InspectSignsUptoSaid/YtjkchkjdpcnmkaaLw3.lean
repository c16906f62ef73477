/- Plain laws of layer 10, third part: the log that is made, and the errors, by the program and by the document; the entries up to a day; the open ones. No condition beyond those typed in each theorem. -/
import Derived.Test.YtjkchkjdpcnmkaaLw2
namespace Go.Proofs.Try.V
open Go.Vi
set_option maxRecDepth 100000

theorem gd_range {n i : Nat} (h : i < n) : gd (List.range n) (i : Int) = i := gd_of (by simp [h])
/-- The first entry that is wrong. -/
def badAt (b : Book) (l : List Ent) : Option Nat := (List.range l.length).findIdx? fun i => !rightB b (l.take i) (gd l (i : Int))
def badB (b : Book) (l : List Ent) (i : Nat) : Bool := !rightB b (l.take i) (gd l (i : Int))

theorem g44_bad (b : Book) (l : List Ent) (h : bookOK b = false) : ∃ z, g44 (b, l, ()) = some ((z, 0, 100, ()), ()) := by
  refine ⟨(([], ([], [])), []), ?_⟩
  show F44 fuel b l = _
  unfold F44
  rw [g60_eq, derefK_some, h]
  rfl
theorem g44_many (b : Book) (l : List Ent) (h : bookOK b = true) (hl : 100 < l.length) : ∃ z, g44 (b, l, ()) = some ((z, 0, 2, ()), ()) := by
  refine ⟨(([], ([], [])), []), ?_⟩
  show F44 fuel b l = _
  unfold F44
  rw [g60_eq, derefK_some, h]
  show cond (decide ((l.length : Int) > 100)) _ _ = _
  rw [dec_t (by omega)]
  rfl
theorem g44_eq (b : Book) (l : List Ent) (h : bookOK b = true) (hl : l.length ≤ 100) :
    g44 (b, l, ()) = some ((match badAt b l with | some i => ((b, l.take i), (i : Int), 101, ()) | none => ((b, l), 0, 0, ())), ()) := by
  have hb := sized_of h
  show F44 fuel b l = _
  unfold F44
  rw [g60_eq, derefK_some, h]
  show cond (decide ((l.length : Int) > 100)) _ _ = _
  rw [dec_f (by omega), cond_false]
  have e := loopIdx (L := L44_8) (fun i => ((l, (l.length : Int), (i : Int), ()), ((b, l.take i), ()), ())) (List.range l.length) (badB b l) (fun i => .inl (((i : Int), 101, ()), ((b, l.take i), ()), ())) (.inr ((), ((b, l), ()), ())) 0 (N := fuel) (by have := fuel_ge; simp; omega)
    (fun N => by simp [L44_8, B44_8])
    (fun N i _ hi => by
      rw [List.length_range] at hi
      simp only [L44_8, B44_8]
      rw [gd_range hi, dec_t (by omega), cond_true, getI_gd (by omega) (by omega), g67_eq b _ _ hb (by simp; omega), derefK_some, lenK_in (by simp; omega) (by simp; omega), wI (by omega) (by omega), ← take_nat hi]
      unfold badB
      cases rightB b (l.take i) (gd l (i : Int)) <;> rfl)
  have e' : L44_8 fuel ((l, (l.length : Int), 0, ()), ((b, []), ()), ()) = _ := e
  rw [e', derefK_some]
  have : badAt b l = (List.range l.length).findIdx? (badB b l) := rfl
  rw [this]
  cases (List.range l.length).findIdx? (badB b l) <;> rfl

def checkR (b : Book) (l : List Ent) : Int × Int :=
  if bookOK b then (if l.length ≤ 100 then (match badAt b l with | some i => ((i : Int), 101) | none => (0, 0)) else (0, 2)) else (0, 100)
theorem g18_eq (b : Book) (l : List Ent) : g18 (b, l, ()) = some (((checkR b l).1, (checkR b l).2, ()), ()) := by
  show F18 fuel b l = _
  unfold F18 checkR
  cases h : bookOK b with
  | false =>
    obtain ⟨z, e⟩ := g44_bad b l h
    rw [e]
    rfl
  | true =>
    by_cases hl : l.length ≤ 100
    · rw [g44_eq b l h hl, derefK_some, if_pos hl]
      cases badAt b l <;> rfl
    · obtain ⟨z, e⟩ := g44_many b l h (by omega)
      rw [e, if_neg hl]
      rfl
theorem g19_eq (b : Book) (l : List Ent) : g19 (b, l, ()) = some (((checkR b l).1, (checkR b l).2, ()), ()) := by
  show F19 fuel b l = _
  unfold F19 checkR
  rw [g45_eq, derefK_some]
  cases h : bookOK b with
  | false => rfl
  | true =>
  have hb := sized_of h
  show cond (decide ((l.length : Int) > 100)) _ _ = _
  by_cases hl : l.length ≤ 100
  case neg =>
    rw [dec_t (by omega), if_neg hl]
    rfl
  rw [dec_f (by omega), cond_false, if_pos hl]
  have e := loopIdx (L := L19_7) (fun i => ((l, (i : Int), ()), (b, ()), ())) (List.range l.length) (badB b l) (fun i => .inl (((i : Int), 101, ()), (), ())) (.inr ((), (), ())) 0 (N := fuel) (by have := fuel_ge; simp; omega)
    (fun N => by simp [L19_7, B19_7])
    (fun N i _ hi => by
      rw [List.length_range] at hi
      simp only [L19_7, B19_7]
      rw [gd_range hi, dec_t (by omega), cond_true, leK_in (by omega), leK_in (by omega), getI_gd (by omega) (by omega), g46_eq b _ _ hb (by simp; omega), derefK_some, wI (by omega) (by omega), Int.toNat_natCast]
      unfold badB
      cases rightB b (l.take i) (gd l (i : Int)) <;> rfl)
  have e' : L19_7 fuel ((l, 0, ()), (b, ()), ()) = _ := e
  rw [e', derefK_some]
  have : badAt b l = (List.range l.length).findIdx? (badB b l) := rfl
  rw [this]
  cases (List.range l.length).findIdx? (badB b l) <;> rfl

/-! ## Up to a day -/
def upto (l : List Ent) (day : Int) : List Ent := l.takeWhile fun x => decide (x.1 ≤ day)
theorem take_idx {α : Type} (q : α → Bool) : ∀ (l : List α), l.take (match l.findIdx? q with | some i => i | none => l.length) = l.takeWhile fun x => !q x
  | [] => rfl
  | x :: l => by
    have ih := take_idx q l
    rw [List.findIdx?_cons, List.takeWhile_cons]
    cases q x with
    | true => rfl
    | false =>
      simp only [Bool.false_eq_true, if_false, Bool.not_false, if_true]
      cases h : l.findIdx? q with
      | none =>
        rw [h] at ih
        simp only [Option.map_none, List.length_cons, List.take_succ_cons]
        rw [ih]
      | some i =>
        rw [h] at ih
        simp only [Option.map_some, List.take_succ_cons]
        rw [ih]
theorem idx_le {α : Type} {q : α → Bool} {l : List α} {i : Nat} (h : l.findIdx? q = some i) : i < l.length := (List.findIdx?_eq_some_iff_findIdx_eq.1 h).1
theorem upto_eq (l : List Ent) (day : Int) : l.takeWhile (fun x => !decide (x.1 > day)) = upto l day := by
  unfold upto
  congr 1
  funext x
  by_cases h : x.1 ≤ day
  · rw [dec_f (by omega), dec_t h]; rfl
  · rw [dec_t (by omega), dec_f h]; rfl
theorem upto_len (l : List Ent) (day : Int) : (upto l day).length ≤ l.length := (List.takeWhile_sublist _).length_le
theorem g68_eq (b : Book) (l : List Ent) (day : Int) (hl : l.length ≤ 1048576) : g68 ((b, l), day, ()) = some (((b, upto l day), ()), ()) := by
  show F68 fuel (b, l) day = _
  unfold F68
  rw [g82_eq l (by omega) _ (fun x => decide (x.1 > day)) (fun x _ => by rfl), derefK_some, ← upto_eq, ← take_idx]
  unfold idxI
  cases h : l.findIdx? fun x => decide (x.1 > day) with
  | none =>
    show some (((b, l), ()), ()) = _
    simp
  | some i =>
    have := idx_le h
    show cond (decide ((i : Int) ≥ 0)) _ _ = _
    rw [dec_t (by omega), cond_true]
    show leK 0 (i : Int) (leK (i : Int) (l.length : Int) _) = _
    rw [leK_in (by omega), leK_in (by omega)]
    simp
theorem g28_eq (l : List Ent) (day : Int) (hl : l.length ≤ 1048576) : g28 (l, day, ()) = some ((upto l day, ()), ()) := by
  show F28 fuel l day = _
  unfold F28
  have e := loopIdx (L := L28_2) (fun i => ((l, day, (i : Int), ()), (), ())) l (fun x => decide (x.1 > day)) (fun i => ((l, (i : Int), ()), (), ())) ((l, (l.length : Int), ()), (), ()) 0 (N := fuel) (by have := fuel_ge; omega)
    (fun N => by simp [L28_2, B28_2])
    (fun N i _ hi => by
      simp only [L28_2, B28_2]
      rw [dec_t (by omega), cond_true, getI_gd (by omega) (by omega), wI (by omega) (by omega)]
      by_cases h : (gd l (i : Int)).1 ≤ day
      · rw [dec_t h, dec_f (by omega)]; rfl
      · rw [dec_f h, dec_t (by omega)]; rfl)
  have e' : L28_2 fuel ((l, day, 0, ()), (), ()) = _ := e
  rw [e', derefK_some, ← upto_eq, ← take_idx]
  cases h : l.findIdx? fun x => decide (x.1 > day) with
  | none =>
    show leK 0 (l.length : Int) (leK (l.length : Int) (l.length : Int) _) = _
    rw [leK_in (by omega), leK_in (by omega)]
    simp
  | some i =>
    have := idx_le h
    show leK 0 (i : Int) (leK (i : Int) (l.length : Int) _) = _
    rw [leK_in (by omega), leK_in (by omega)]
    simp

/-! ## Errors -/
def dayErr (b : Book) (l : List Ent) (day : Int) : Int := if (checkR b l).2 = 0 then (if rng day 0 10000 then 0 else 1) else (checkR b l).2
def rideErr (b : Book) (l : List Ent) (ride day : Int) : Int := if (checkR b l).2 = 0 then (if rideB b ride && rng day 0 10000 then 0 else 1) else (checkR b l).2
theorem check_ok {b : Book} {l : List Ent} (h : (checkR b l).2 = 0) : bookOK b = true ∧ l.length ≤ 100 ∧ badAt b l = none := by
  unfold checkR at h
  split at h
  · rename_i hb
    split at h
    · rename_i hl
      split at h
      · simp at h
      · rename_i hn
        exact ⟨hb, hl, hn⟩
    · simp at h
  · simp at h
theorem g44_ok {b : Book} {l : List Ent} (h : (checkR b l).2 = 0) : g44 (b, l, ()) = some (((b, l), 0, 0, ()), ()) := by
  obtain ⟨h1, h2, h3⟩ := check_ok h
  rw [g44_eq b l h1 h2, h3]
theorem g44_err {b : Book} {l : List Ent} (h : (checkR b l).2 ≠ 0) : ∃ z at_, g44 (b, l, ()) = some ((z, at_, (checkR b l).2, ()), ()) := by
  cases hb : bookOK b with
  | false =>
    obtain ⟨z, e⟩ := g44_bad b l hb
    refine ⟨z, 0, ?_⟩
    rw [e]
    simp [checkR, hb]
  | true =>
    by_cases hl : l.length ≤ 100
    · rw [g44_eq b l hb hl]
      cases hbd : badAt b l with
      | none =>
        exfalso
        apply h
        simp [checkR, hb, hl, hbd]
      | some i =>
        exact ⟨(b, l.take i), (i : Int), by simp [checkR, hb, hl, hbd]⟩
    · obtain ⟨z, e⟩ := g44_many b l hb (by omega)
      refine ⟨z, 0, ?_⟩
      rw [e]
      simp [checkR, hb, hl]
theorem neq_t {a b : Int} (h : a ≠ b) : (a != b) = true := by simpa using h
theorem g47_ok {b : Book} {l : List Ent} {day : Int} (h : dayErr b l day = 0) : g47 (b, l, day, ()) = some (((b, upto l day), 0, ()), ()) := by
  show F47 fuel b l day = _
  unfold F47
  unfold dayErr at h
  split at h
  case isFalse hc => exact absurd h hc
  rename_i hc
  have hl := (check_ok hc).2.1
  split at h
  case isFalse => cases h
  rename_i hd
  rw [g44_ok hc, derefK_some]
  show derefK (g62 (day, 0, 10000, ())) _ = _
  rw [g62_eq, derefK_some, hd]
  show derefK (g68 ((b, l), day, ())) _ = _
  rw [g68_eq b l day (by omega)]
  rfl
theorem g47_err {b : Book} {l : List Ent} {day : Int} (h : dayErr b l day ≠ 0) : ∃ z, g47 (b, l, day, ()) = some ((z, dayErr b l day, ()), ()) := by
  show ∃ z, F47 fuel b l day = _
  unfold F47
  unfold dayErr at h ⊢
  split at h
  case isFalse hc =>
    obtain ⟨z, a, e⟩ := g44_err hc
    refine ⟨z, ?_⟩
    rw [e, derefK_some, if_neg hc]
    show cond ((checkR b l).2 != 0) _ _ = _
    rw [neq_t hc]
    rfl
  rename_i hc
  split at h
  case isTrue => exact absurd rfl h
  rename_i hd
  rw [g44_ok hc, derefK_some, if_pos hc]
  refine ⟨(b, l), ?_⟩
  show derefK (g62 (day, 0, 10000, ())) _ = _
  rw [g62_eq, derefK_some, if_neg hd, (Bool.not_eq_true _).mp hd]
  rfl
theorem g57_eq (b : Book) (l : List Ent) (day : Int) : g57 (b, l, day, ()) = some ((dayErr b l day, ()), ()) := by
  show F57 fuel b l day = _
  unfold F57 dayErr
  rw [g19_eq, derefK_some]
  show cond ((checkR b l).2 != 0) _ _ = _
  by_cases h : (checkR b l).2 = 0
  · rw [if_pos h, h]
    show derefK (g63 (day, 0, 10000, ())) _ = _
    rw [g63_eq, derefK_some]
    cases rng day 0 10000 <;> rfl
  · rw [if_neg h, neq_t h]
    rfl
theorem g50_eq (b : Book) (l : List Ent) (ride day : Int) : g50 (b, l, ride, day, ()) = some ((rideErr b l ride day, ()), ()) := by
  show F50 fuel b l ride day = _
  unfold F50 rideErr
  rw [g19_eq, derefK_some]
  show cond ((checkR b l).2 != 0) _ _ = _
  by_cases h : (checkR b l).2 = 0
  · have hb := (sized_of (check_ok h).1).rides
    rw [if_pos h, h]
    show derefK (g63 (ride, 0, IntKind.wrap .i64 ((b.2.2.length : Int) - 1), ())) _ = _
    rw [wI (by omega) (by omega), g63_eq, derefK_some]
    show cond (!rideB b ride) _ _ = _
    cases rideB b ride with
    | false => rfl
    | true =>
      show derefK (g63 (day, 0, 10000, ())) _ = _
      rw [g63_eq, derefK_some]
      cases rng day 0 10000 <;> rfl
  · rw [if_neg h, neq_t h]
    rfl
theorem rideErr_day {b : Book} {l : List Ent} {ride day : Int} (h : rideErr b l ride day = 0) : dayErr b l day = 0 ∧ rideB b ride = true := by
  unfold rideErr at h
  unfold dayErr
  split at h
  · rename_i hc
    rw [if_pos hc]
    split at h
    · rename_i hr
      rw [Bool.and_eq_true] at hr
      exact ⟨by rw [if_pos hr.2], hr.1⟩
    · cases h
  · rename_i hc
    exact absurd h hc
theorem g49_ok {b : Book} {l : List Ent} {ride day : Int} (h : rideErr b l ride day = 0) : g49 (b, l, ride, day, ()) = some (((b, upto l day), 0, ()), ()) := by
  obtain ⟨hd, hr⟩ := rideErr_day h
  have hb : Sized b := by
    unfold rideErr at h
    split at h
    · rename_i hc; exact sized_of (check_ok hc).1
    · rename_i hc; exact absurd h hc
  show F49 fuel b l ride day = _
  unfold F49
  rw [g47_ok hd, derefK_some]
  show derefK (g61 ((b, upto l day), ride, ())) _ = _
  rw [g61_eq b _ ride hb, derefK_some, hr]
  rfl
theorem g49_err {b : Book} {l : List Ent} {ride day : Int} (h : rideErr b l ride day ≠ 0) : ∃ z, g49 (b, l, ride, day, ()) = some ((z, rideErr b l ride day, ()), ()) := by
  show ∃ z, F49 fuel b l ride day = _
  unfold F49
  by_cases hd : dayErr b l day = 0
  · have hc : (checkR b l).2 = 0 := by
      unfold dayErr at hd
      split at hd
      · assumption
      · rename_i hc; exact absurd hd hc
    have hdr : rng day 0 10000 = true := by
      unfold dayErr at hd
      rw [if_pos hc] at hd
      split at hd
      · assumption
      · cases hd
    rw [g47_ok hd, derefK_some]
    refine ⟨(b, upto l day), ?_⟩
    show derefK (g61 ((b, upto l day), ride, ())) _ = _
    rw [g61_eq b _ ride (sized_of (check_ok hc).1), derefK_some]
    unfold rideErr at h ⊢
    rw [if_pos hc, hdr] at h ⊢
    cases hr : rideB b ride with
    | true => rw [hr] at h; exact absurd rfl h
    | false => rfl
  · obtain ⟨z, e⟩ := g47_err hd
    have e2 : rideErr b l ride day = dayErr b l day := by
      unfold dayErr at hd ⊢
      unfold rideErr
      split
      · rename_i hc
        rw [if_pos hc] at hd
        split at hd
        · exact absurd rfl hd
        · rename_i hr
          rw [(Bool.not_eq_true _).mp hr, Bool.and_false]
      · rfl
    refine ⟨z, ?_⟩
    rw [e, derefK_some, e2]
    show cond (dayErr b l day == 0) _ _ = _
    rw [show (dayErr b l day == 0) = false by simpa using hd]
    rfl
end Go.Proofs.Try.V
