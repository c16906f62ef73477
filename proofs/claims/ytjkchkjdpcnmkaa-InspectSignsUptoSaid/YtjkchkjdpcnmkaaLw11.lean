/- Plain laws of layer 10, eleventh part: InspectVisits. No condition beyond those typed in each theorem. -/
import Derived.Test.YtjkchkjdpcnmkaaLw10
namespace Go.Proofs.Try.V
open Go.Vi
set_option maxRecDepth 100000

def everyF (b : Book) (ride : Int) (n : Nat) : Int := (List.range n).foldl (fun (acc : Int) (i : Nat) => if (gd b.1 (i : Int)).1 == ride && (acc == 0 || decide ((gd b.1 (i : Int)).2.1 < acc)) then (gd b.1 (i : Int)).2.1 else acc) 0
theorem everyF_succ (b : Book) (ride : Int) (n : Nat) : everyF b ride (n + 1) = if (gd b.1 (n : Int)).1 == ride && (everyF b ride n == 0 || decide ((gd b.1 (n : Int)).2.1 < everyF b ride n)) then (gd b.1 (n : Int)).2.1 else everyF b ride n := by
  unfold everyF
  rw [List.range_succ, List.foldl_append]
  rfl
theorem everyF_in {b : Book} (hb : bookOK b = true) (ride : Int) : ∀ n, n ≤ b.1.length → 0 ≤ everyF b ride n ∧ everyF b ride n ≤ 10000
  | 0, _ => by show (0 : Int) ≤ 0 ∧ (0 : Int) ≤ 10000; omega
  | n + 1, hn => by
    have ih := everyF_in hb ride n (by omega)
    have := rule_in hb (ruleB_of (b := b) (i := n) (by omega))
    rw [everyF_succ]
    split <;> omega
def vis (a every : Int) (n : Nat) : List Int := (List.range n).map fun i : Nat => a + every * (i : Int)
theorem vis_succ (a every : Int) (n : Nat) : vis a every (n + 1) = vis a every n ++ [a + every * (n : Int)] := by
  unfold vis
  rw [List.range_succ, List.map_append]
  rfl
theorem vis_len (a every : Int) (n : Nat) : (vis a every n).length = n := by simp [vis]
/-- How many visits. -/
def many (a to every : Int) : Nat := if 0 < every then ((to - a) / every).toNat + 1 else 0
theorem many_iff {a to every : Int} (h : a ≤ to) (he : 0 < every) (i : Nat) : a + every * (i : Int) ≤ to ↔ i < many a to every := by
  unfold many
  rw [if_pos he]
  have h0 : 0 ≤ (to - a) / every := Int.ediv_nonneg (by omega) (by omega)
  have h1 := Int.le_ediv_iff_mul_le (a := (i : Int)) (b := to - a) he
  rw [Int.mul_comm] at h1
  constructor
  · intro h2
    have := h1.2 (by omega)
    omega
  · intro h2
    have := h1.1 (by omega)
    omega
theorem many_le {a to every : Int} (h0 : 0 ≤ a) (h : a ≤ to) (ht : to ≤ 10000) : many a to every ≤ 10001 := by
  unfold many
  split
  · rename_i he
    have := Int.ediv_le_self every (show 0 ≤ to - a by omega)
    have : (to - a) / every ≤ to - a := Int.ediv_le_self every (by omega)
    omega
  · omega
theorem day_in {a to every : Int} {i : Nat} (h0 : 0 ≤ a) (ht : to ≤ 10000) (he : 0 ≤ every) (h : a + every * (i : Int) ≤ to) : 0 ≤ a + every * (i : Int) ∧ a + every * (i : Int) ≤ 10000 := by
  have : 0 ≤ every * (i : Int) := Int.mul_nonneg he (by omega)
  omega
theorem mul_succ_i (a every : Int) (i : Nat) : a + every * ((i + 1 : Nat) : Int) = a + every * (i : Int) + every := by
  rw [Int.natCast_succ, Int.mul_add, Int.mul_one]
  omega

def visitsR (b : Book) (ride a to : Int) : List Int × Int :=
  if bookOK b then
    (if rideB b ride && rng to 0 10000 && rng a 0 to then
      (if many a to (everyF b ride b.1.length) ≤ 1000 then (vis a (everyF b ride b.1.length) (many a to (everyF b ride b.1.length)), 0) else ([], 2))
    else ([], 1))
  else ([], 100)

theorem g34_eq (b : Book) (ride a to : Int) : g34 (b, ride, a, to, ()) = some (((visitsR b ride a to).1, (visitsR b ride a to).2, ()), ()) := by
  show F34 fuel b ride a to = _
  unfold F34 visitsR
  rw [g60_eq, derefK_some]
  cases hb : bookOK b with
  | false => rfl
  | true =>
  have hs := sized_of hb
  have hr := hs.rules
  show derefK (g61 ((b, []), ride, ())) _ = _
  rw [g61_eq b _ _ hs, derefK_some]
  cases rideB b ride with
  | false => rfl
  | true =>
  simp only [Bool.not_true, cond_false, g62_eq, derefK_some, if_true, Bool.true_and]
  cases ht : rng to 0 10000 with
  | false => rfl
  | true =>
  cases ha : rng a 0 to with
  | false => rfl
  | true =>
  have ht := rng_iff.1 ht
  have ha := rng_iff.1 ha
  simp only [Bool.not_true, cond_false, Bool.and_self, if_true]
  have e1 := loopF (L := L34_8) (fun i => ((ride, a, to, everyF b ride i, b.1, (b.1.length : Int), (i : Int), ()), (([] : List Int), ()), ())) ((a, to, everyF b ride b.1.length, ()), ([], ()), ()) 0 b.1.length (N := fuel) (by have := fuel_ge; omega)
    (fun N => by simp [L34_8, B34_8])
    (fun N i _ hi => by
      simp only [L34_8, B34_8]
      rw [dec_t (by omega), cond_true, getI_gd (by omega) (by omega), wI (by omega) (by omega), everyF_succ]
      cases (gd b.1 (i : Int)).1 == ride with
      | false => rfl
      | true =>
        cases everyF b ride i == 0 with
        | true => rfl
        | false => cases decide ((gd b.1 (i : Int)).2.1 < everyF b ride i) <;> rfl)
  have e1' : L34_8 fuel ((ride, a, to, 0, b.1, (b.1.length : Int), 0, ()), ([], ()), ()) = _ := e1
  rw [e1', derefK_some]
  obtain ⟨ev, hev⟩ : ∃ ev, everyF b ride b.1.length = ev := ⟨_, rfl⟩
  have hin := everyF_in hb ride b.1.length (Nat.le_refl _)
  rw [hev] at hin ⊢
  have hmany := many_le (every := ev) ha.1 ha.2 ht.2
  have e2 : L34_14 fuel ((to, ev, a, ()), ([], ()), ()) = some ((), (vis a ev (many a to ev), ()), ()) := by
    by_cases h0 : 0 < ev
    · have e := loopF (L := L34_14) (fun i => ((to, ev, a + ev * (i : Int), ()), (vis a ev i, ()), ())) ((), (vis a ev (many a to ev), ()), ()) 0 (many a to ev) (N := fuel) (by have := fuel_ge; omega)
        (fun N => by
          simp only [L34_14, B34_14]
          rw [dec_t (p := ev > 0) h0, cond_true, dec_f (fun h => Nat.lt_irrefl _ ((many_iff ha.2 h0 _).1 h))]
          rfl)
        (fun N i _ hi => by
          have h1 := (many_iff ha.2 h0 i).2 hi
          have h2 := day_in ha.1 ht.2 hin.1 h1
          have h3 := vis_len a ev i
          simp only [L34_14, B34_14]
          rw [dec_t (p := ev > 0) h0, cond_true, dec_t h1, cond_true, lenK_in (by simp; omega) (by simp; omega), wI (by omega) (by omega), vis_succ, mul_succ_i])
      have e' : L34_14 fuel ((to, ev, a + ev * ((0 : Nat) : Int), ()), ([], ()), ()) = _ := e
      rwa [show a + ev * ((0 : Nat) : Int) = a by simp] at e'
    · obtain ⟨k, hk⟩ : ∃ k, fuel = k + 1 := ⟨fuel - 1, by have := fuel_ge; omega⟩
      have : many a to ev = 0 := by unfold many; rw [if_neg h0]
      rw [hk, this]
      simp only [L34_14, B34_14]
      rw [dec_f (p := ev > 0) h0]
      rfl
  have e2' : L34_14 fuel ((to, ev, a, ()), ([], ()), ()) = _ := e2
  show derefK (L34_14 fuel ((to, ev, a, ()), ([], ()), ())) _ = _
  rw [e2', derefK_some]
  show cond (decide (((vis a ev (many a to ev)).length : Int) > 1000)) _ _ = _
  rw [vis_len]
  by_cases hm : many a to ev ≤ 1000
  · rw [dec_f (by omega), if_pos hm]
    rfl
  · rw [dec_t (by omega), if_neg hm]
    rfl
theorem g35_eq (b : Book) (ride a to : Int) : g35 (b, ride, a, to, ()) = some (((visitsR b ride a to).1, (visitsR b ride a to).2, ()), ()) := by
  show F35 fuel b ride a to = _
  unfold F35 visitsR
  rw [g45_eq, derefK_some]
  cases hb : bookOK b with
  | false => rfl
  | true =>
  have hs := sized_of hb
  have hr := hs.rules
  have hrr := hs.rides
  show derefK (g63 (ride, 0, IntKind.wrap .i64 ((b.2.2.length : Int) - 1), ())) _ = _
  rw [wI (by omega) (by omega), g63_eq, derefK_some]
  show cond (!rideB b ride) _ _ = _
  cases rideB b ride with
  | false => rfl
  | true =>
  simp only [Bool.not_true, cond_false, g63_eq, derefK_some, if_true, Bool.true_and]
  cases ht : rng to 0 10000 with
  | false => rfl
  | true =>
  cases ha : rng a 0 to with
  | false => rfl
  | true =>
  have ht := rng_iff.1 ht
  have ha := rng_iff.1 ha
  simp only [Bool.not_true, cond_false, Bool.and_self, if_true]
  have e1 := loopF (L := L35_8) (fun i => ((ride, a, to, everyF b ride i, (i : Int), ()), (b, ()), ())) ((a, to, everyF b ride b.1.length, ()), (), ()) 0 b.1.length (N := fuel) (by have := fuel_ge; omega)
    (fun N => by simp [L35_8, B35_8])
    (fun N i _ hi => by
      simp only [L35_8, B35_8]
      have g1 : ∀ {R : Type} (k : Rule → Option R), getI b.1 (i : Int) k = k (gd b.1 (i : Int)) := fun k => getI_gd (by omega) (by omega) k
      rw [dec_t (by omega), cond_true, wI (by omega) (by omega), everyF_succ]
      simp only [g1]
      cases (gd b.1 (i : Int)).1 == ride with
      | false => rfl
      | true =>
        cases everyF b ride i == 0 with
        | true => rfl
        | false => cases decide ((gd b.1 (i : Int)).2.1 < everyF b ride i) <;> rfl)
  have e1' : L35_8 fuel ((ride, a, to, 0, 0, ()), (b, ()), ()) = _ := e1
  rw [e1', derefK_some]
  obtain ⟨ev, hev⟩ : ∃ ev, everyF b ride b.1.length = ev := ⟨_, rfl⟩
  have hin := everyF_in hb ride b.1.length (Nat.le_refl _)
  rw [hev] at hin ⊢
  have hround : ∀ N i, i < many a to ev → i ≤ 1000 → L35_14 (N + 1) ((to, ev, a + ev * (i : Int), ()), (vis a ev i, ()), ()) = if i = 1000 then some (.inl ((2, ()), ([], ()), ())) else L35_14 N ((to, ev, a + ev * ((i + 1 : Nat) : Int), ()), (vis a ev (i + 1), ()), ()) := by
    intro N i hi h1000
    have h0 : 0 < ev := by
      unfold many at hi
      split at hi
      · assumption
      · omega
    have h1 := (many_iff ha.2 h0 i).2 hi
    have h2 := day_in ha.1 ht.2 hin.1 h1
    have h3 := vis_len a ev i
    simp only [L35_14, B35_14]
    rw [dec_t h1, cond_true, dec_t (p := ev > 0) h0, cond_true, lenK_in (by simp; omega) (by simp; omega), wI (by omega) (by omega), ← vis_succ, vis_len, ← mul_succ_i]
    by_cases h4 : i = 1000
    · rw [dec_t (by omega), if_pos h4]
      rfl
    · rw [dec_f (by omega), if_neg h4]
      rfl
  show derefK (L35_14 fuel ((to, ev, a, ()), ([], ()), ())) _ = _
  by_cases hm : many a to ev ≤ 1000
  · have e := loopF (L := L35_14) (fun i => ((to, ev, a + ev * (i : Int), ()), (vis a ev i, ()), ())) (.inr ((), (vis a ev (many a to ev), ()), ())) 0 (many a to ev) (N := fuel) (by have := fuel_ge; omega)
      (fun N => by
        simp only [L35_14, B35_14]
        by_cases h0 : 0 < ev
        · rw [dec_f (p := a + ev * ((many a to ev : Nat) : Int) ≤ to) (fun h => Nat.lt_irrefl _ ((many_iff ha.2 h0 _).1 h))]
          rfl
        · rw [dec_f (p := ev > 0) h0]
          cases decide (a + ev * ((many a to ev : Nat) : Int) ≤ to) <;> rfl)
      (fun N i _ hi => by rw [hround N i hi (by omega), if_neg (by omega)])
    have e' : L35_14 fuel ((to, ev, a + ev * ((0 : Nat) : Int), ()), ([], ()), ()) = _ := e
    rw [show a + ev * ((0 : Nat) : Int) = a by simp] at e'
    rw [e', derefK_some, if_pos hm]
    rfl
  · have e := loopF (L := L35_14) (fun i => ((to, ev, a + ev * (i : Int), ()), (vis a ev i, ()), ())) (.inl ((2, ()), ([], ()), ())) 0 1000 (N := fuel) (by have := fuel_ge; omega)
      (fun N => by rw [hround N 1000 (by omega) (by omega), if_pos rfl])
      (fun N i _ hi => by rw [hround N i (by omega) (by omega), if_neg (by omega)])
    have e' : L35_14 fuel ((to, ev, a + ev * ((0 : Nat) : Int), ()), ([], ()), ()) = _ := e
    rw [show a + ev * ((0 : Nat) : Int) = a by simp] at e'
    rw [e', derefK_some, if_neg hm]
    rfl
theorem law10 (b : Book) (s : Int × (Int × Int)) : g10 (b, s, ()) = some ((true, ()), ()) := by
  show F10 fuel b s = _
  unfold F10
  rw [g34_eq, derefK_some, g35_eq, derefK_some, works_eq]
  dsimp only
  rw [show ((visitsR b s.1 s.2.1 s.2.2).2 == (visitsR b s.1 s.2.1 s.2.2).2) = true by simp, g24_eq _ (by
    unfold visitsR
    split
    · split
      · split
        · rename_i h
          rw [vis_len]
          omega
        · simp
      · simp
    · simp)]
  rfl
end Go.Proofs.Try.V
