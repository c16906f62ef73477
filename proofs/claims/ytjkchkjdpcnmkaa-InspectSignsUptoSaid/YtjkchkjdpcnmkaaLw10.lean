/- Plain laws of layer 10, tenth part: InspectWhys. No condition beyond those typed in each theorem. -/
import Derived.Test.YtjkchkjdpcnmkaaLw9
namespace Go.Proofs.Try.V
open Go.Vi
set_option maxRecDepth 100000

theorem g25_some (b : Book) (l : List Ent) (day : Int) (hb : Sized b) (hl : l.length ≤ 1048576) : ∃ y, g25 (b, l, day, ()) = some ((y, ()), ()) := by
  show ∃ y, F25 fuel b l day = _
  unfold F25
  have h1 := hb.rules
  have h2 := hb.rides
  obtain ⟨r1, e1, s1, rfl⟩ := loop0 (L := L25_3) (fun i (s : Bool) => ((l, day, s, (i : Int), ()), (b, ()), ())) (fun _ _ => True) (fun r => ∃ s, r = ((l, day, s, ()), (b, ()), ())) 0 b.1.length (N := fuel) (s := false) trivial (by have := fuel_ge; omega)
    (fun N s _ => ⟨_, by simp only [L25_3, B25_3]; rw [dec_f (by omega)]; rfl, s, rfl⟩)
    (fun N i s _ hi _ => by
      simp only [L25_3, B25_3]
      rw [dec_t (by omega), cond_true, getI_gd (by omega) (by omega), wI (by omega) (by omega)]
      cases s with
      | true => exact .inl ⟨true, trivial, rfl⟩
      | false => exact .inl ⟨_, trivial, rfl⟩)
  have e1' : L25_3 fuel ((l, day, false, 0, ()), (b, ()), ()) = _ := e1
  rw [e1', derefK_some]
  dsimp only
  obtain ⟨r2, e2, s2, rfl⟩ := loop0 (L := L25_7) (fun i (s : Bool) => ((l, day, s, (i : Int), ()), (b, ()), ())) (fun _ _ => True) (fun r => ∃ s, r = ((l, day, s, ()), (b, ()), ())) 0 b.2.2.length (N := fuel) (s := s1) trivial (by have := fuel_ge; omega)
    (fun N s _ => ⟨_, by simp only [L25_7, B25_7]; rw [dec_f (by omega)]; rfl, s, rfl⟩)
    (fun N i s _ hi _ => by
      simp only [L25_7, B25_7]
      rw [dec_t (by omega), cond_true, getI_gd (by omega) (by omega), wI (x := (i : Int) + 1) (by omega) (by omega)]
      cases s with
      | true => exact .inl ⟨_, trivial, rfl⟩
      | false => exact .inl ⟨false, trivial, rfl⟩)
  have e2' : L25_7 fuel ((l, day, s1, 0, ()), (b, ()), ()) = _ := e2
  rw [e2', derefK_some]
  dsimp only
  obtain ⟨r3, e3, s3, rfl⟩ := loop0 (L := L25_11) (fun i (s : Bool) => ((l, day, s, (i : Int), ()), (b, ()), ())) (fun _ _ => True) (fun r => ∃ s, r = ((day, s, ()), (b, ()), ())) 0 l.length (N := fuel) (s := s2) trivial (by have := fuel_ge; omega)
    (fun N s _ => ⟨_, by simp only [L25_11, B25_11]; rw [dec_f (by omega)]; rfl, s, rfl⟩)
    (fun N i s _ hi _ => by
      simp only [L25_11, B25_11]
      rw [dec_t (by omega), cond_true, getI_gd (by omega) (by omega), getI_gd (by omega) (by omega), wI (x := (i : Int) + 1) (by omega) (by omega)]
      cases s with
      | false => exact .inl ⟨false, trivial, rfl⟩
      | true =>
        cases (gd l (i : Int)).2.1 != 5 with
        | true => exact .inl ⟨true, trivial, rfl⟩
        | false => exact .inl ⟨_, trivial, rfl⟩)
  have e3' : L25_11 fuel ((l, day, s2, 0, ()), (b, ()), ()) = _ := e3
  rw [e3', derefK_some]
  dsimp only
  rw [g45_eq, derefK_some]
  dsimp only
  cases s3 with
  | true => exact ⟨_, rfl⟩
  | false =>
    simp only [Bool.not_false, cond_true]
    cases (if bookOK b then (0 : Int) else 100) == 0 with
    | false => exact ⟨_, rfl⟩
    | true => cases decide ((b.2.2.length : Int) > 0) <;> exact ⟨_, rfl⟩
theorem law5 (b : Book) (l : List Ent) (w : Int × Int) (hb : Sized b) (hl : l.length ≤ 1048576) : g5 (b, l, w, ()) = some ((true, ()), ()) := by
  show F5 fuel b l w = _
  unfold F5
  obtain ⟨y, hy⟩ := g25_some b l w.2 hb hl
  rw [g16_eq, derefK_some, g22_eq, g23_eq, g26_eq, g27_eq, works_eq, hy]
  simp only [derefK_some]
  have e : (rideErr b l w.1 w.2 != rideErr b l w.1 w.2) = false := by simp
  have e1 : ((untilA b l w.1 w.2).1 == (untilA b l w.1 w.2).1) = true := by simp
  have e2 : ((untilA b l w.1 w.2).2 == (untilA b l w.1 w.2).2) = true := by simp
  have h1 : (if rideErr b l w.1 w.2 = 0 then whyL b (upto l w.2) w.1 w.2 else []).length ≤ 1099511627776 := by
    split
    · unfold whyL
      split <;> split <;> split <;> split <;> simp
    · simp
  rw [e, e1, e2, g24_eq _ h1]
  cases decide (30 < l.length ∧ l.length ≤ 100) with
  | true => rfl
  | false => cases y <;> rfl
end Go.Proofs.Try.V
