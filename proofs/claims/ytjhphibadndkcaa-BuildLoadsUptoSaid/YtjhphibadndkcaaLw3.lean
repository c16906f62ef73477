/- Plain laws of layer 8, third part: which kits the program takes for valid, and the yard that it makes. No condition beyond those typed in each theorem. -/
import Derived.Test.YtjhphibadndkcaaLw2
namespace Go.Proofs.Try.V
open Go.Vi
set_option maxRecDepth 100000

theorem goodFrom_append (n : Nat) : ∀ (a seen b : List Int), goodFrom n seen (a ++ b) = (goodFrom n seen a && goodFrom n (seen ++ a) b)
  | [], seen, b => by simp [goodFrom]
  | x :: a, seen, b => by simp [goodFrom, goodFrom_append n a (seen ++ [x]) b, Bool.and_assoc]
def allSpots (vans : List (List Int)) : List Spot := vans.flatMap (spotsFrom [])
theorem allSpots_parts (vans : List (List Int)) : (allSpots vans).map (·.2.1) = vans.flatten := by
  induction vans with
  | nil => rfl
  | cons v vs ih => 
    unfold allSpots at *
    simp only [List.flatMap_cons, List.map_append, ih, spots_parts, List.flatten_cons]
theorem spots_in : ∀ (pre q : List Int) (p : Int) (post : List Int), (q ++ pre, p, post) ∈ spotsFrom q (pre ++ p :: post)
  | [], q, p, post => by simp [spotsFrom]
  | x :: pre, q, p, post => by
    have := spots_in pre (q ++ [x]) p post
    simp only [List.append_assoc, List.singleton_append] at this
    exact List.mem_cons_of_mem _ this

theorem L78_7_eq' (n : Nat) (hn : n ≤ 16) (kit : Kit) (vans : List (List Int)) (hv : vans.length ≤ 1048576) (hv2 : ∀ v ∈ vans, v.length ≤ 1048576) : ∀ (r pre : List (List Int)) (done : List Spot) (many : Int) (ab be : List (List Int)) (lies : List Int) (N : Nat), vans = pre ++ r → r.length + 1048576 < N → done.length + r.flatten.length ≤ 1048576 → Stood n done many ab be lies →
    (goodFrom n (done.map (·.2.1)) r.flatten = false ∧ L78_7 N ((n, many, vans, (vans.length : Int), (pre.length : Int), ()), ((kit, (ab, be)), lies, ()), ()) = some (.inl ((none, false, ()), (), ()))) ∨
    (goodFrom n (done.map (·.2.1)) r.flatten = true ∧ ∃ many' ab' be' lies', Stood n (done ++ allSpots r) many' ab' be' lies' ∧
      L78_7 N ((n, many, vans, (vans.length : Int), (pre.length : Int), ()), ((kit, (ab, be)), lies, ()), ()) = some (.inr ((n, many', ()), ((kit, (ab', be')), ()), ())))
  | [], pre, done, many, ab, be, lies, N, hpr, hN, hb, h => by
    obtain ⟨k, rfl⟩ := pos_of_lt hN
    refine .inr ⟨rfl, many, ab, be, lies, by simpa [allSpots] using h, ?_⟩
    subst hpr
    simp [L78_7, B78_7]
  | x :: r, pre, done, many, ab, be, lies, N, hpr, hN, hb, h => by
    obtain ⟨k, rfl⟩ := pos_of_lt hN
    simp only [List.length_cons, List.flatten_cons, List.length_append] at hN hb
    have hlt : ((pre.length : Nat) : Int) < (vans.length : Int) := by rw [hpr]; exact lt_app pre x r
    have hget : ∀ {R : Type} (kk : List Int → Option R), getI vans (pre.length : Int) kk = kk x := fun kk => by rw [hpr]; exact getI_app pre x r kk rfl
    simp only [L78_7, B78_7]
    rw [dec_t hlt, cond_true, hget, List.flatten_cons, goodFrom_append]
    have hin := L78_10_eq' n hn kit vans (vans.length : Int) (pre.length : Int) x (hv2 x (by rw [hpr]; simp)) x [] done many ab be lies k rfl (by have := hv2 x (by rw [hpr]; simp); omega) (by omega) h
    rcases hin with ⟨hg, he⟩ | ⟨hg, many', ab', be', lies', hs, he⟩
    · have he' : L78_10 k ((n, many, x, vans, (vans.length : Int), (pre.length : Int), x, (x.length : Int), 0, ()), ((kit, (ab, be)), lies, ()), ()) = _ := he
      rw [hg, he']
      exact .inl ⟨rfl, rfl⟩
    · have he' : L78_10 k ((n, many, x, vans, (vans.length : Int), (pre.length : Int), x, (x.length : Int), 0, ()), ((kit, (ab, be)), lies, ()), ()) = _ := he
      rw [hg, he', derefK_some, sumK_inr, Bool.true_and]
      dsimp only
      rw [w64 (x := (pre.length : Int) + 1) (by omega) (by omega)]
      have ih := L78_7_eq' n hn kit vans hv hv2 r (pre ++ [x]) (done ++ spotsFrom [] x) many' ab' be' lies' k (by rw [hpr]; simp) (by omega) (by
        have := congrArg List.length (spots_parts x [])
        rw [List.length_map] at this
        simp only [List.length_append]
        omega) hs
      rw [len_app] at ih
      simp only [List.map_append, spots_parts, List.append_assoc] at ih
      have e : spotsFrom [] x ++ allSpots r = allSpots (x :: r) := rfl
      rw [e] at ih
      exact ih

theorem g78_eq (k : Kit) (vans : List (List Int)) (hn : k.1.length ≤ 16) (hv : vans.length ≤ 1048576) (hv2 : ∀ v ∈ vans, v.length ≤ 1048576) (hf : vans.flatten.length ≤ 1048576) :
    (goodFrom k.1.length [] vans.flatten = false ∧ g78 (k, vans, ()) = some ((none, false, ()), ())) ∨
    (goodFrom k.1.length [] vans.flatten = true ∧ ∃ many ab be lies, Stood k.1.length (allSpots vans) many ab be lies ∧
      g78 (k, vans, ()) = some ((some ((k.1, (k.2.1, vans)), (ab, be)), decide (vans.flatten.length = k.1.length), ()), ())) := by
  have hF : g78 (k, vans, ()) = F78 fuel k vans := rfl
  rw [hF]
  unfold F78
  simp only [enumK_eq, bindV_eq, leK_in (show (0 : Int) ≤ (k.1.length : Int) by omega), leK_in (Int.le_refl (k.1.length : Int)), lenK_in (show (0 : Int) ≤ (k.1.length : Int) by omega) (by omega), agreeK_one, agreeK_two]
  have h0 : Stood k.1.length [] 0 (List.replicate (k.1.length : Int).toNat ([] : List Int)) (List.replicate (k.1.length : Int).toNat ([] : List Int)) (List.replicate (k.1.length : Int).toNat 0) :=
    ⟨by simp, by simp, rfl, by simp, by simp, by simp, fun i hi => by simp [hi], by simp⟩
  have := L78_7_eq' k.1.length hn (k.1, (k.2.1, vans)) vans hv hv2 vans [] [] 0 _ _ _ fuel rfl (by have := fuel_big; omega) (by simpa using hf) h0
  rcases this with ⟨hg, he⟩ | ⟨hg, many, ab, be, lies, hs, he⟩
  · refine .inl ⟨hg, ?_⟩
    have he' : L78_7 fuel ((k.1.length, 0, vans, (vans.length : Int), 0, ()), (((k.1, (k.2.1, vans)), (List.replicate (k.1.length : Int).toNat ([] : List Int), List.replicate (k.1.length : Int).toNat ([] : List Int))), (List.replicate (k.1.length : Int).toNat 0), ()), ()) = _ := he
    rw [he']
    rfl
  · refine .inr ⟨hg, many, ab, be, lies, hs, ?_⟩
    have he' : L78_7 fuel ((k.1.length, 0, vans, (vans.length : Int), 0, ()), (((k.1, (k.2.1, vans)), (List.replicate (k.1.length : Int).toNat ([] : List Int), List.replicate (k.1.length : Int).toNat ([] : List Int))), (List.replicate (k.1.length : Int).toNat 0), ()), ()) = _ := he
    rw [he', derefK_some, sumK_inr]
    have hm : many = vans.flatten.length := by
      rw [hs.many, List.nil_append, ← allSpots_parts, List.length_map]
    have e : (many == (k.1.length : Int)) = decide (vans.flatten.length = k.1.length) := by
      rw [hm]
      by_cases h : vans.flatten.length = k.1.length
      · simp [h]
      · rw [decide_eq_false h]
        simp only [beq_eq_false_iff_ne, ne_eq]
        omega
    simp only [e]

def valid (k : Kit) : Bool := decide (k.1.length ≤ 16) && decide (k.2.2.length ≤ 6) && rng k.2.1 1 1000000 && partsOK k.1.length 0 k.1 && goodFrom k.1.length [] k.2.2.flatten && decide (k.2.2.flatten.length = k.1.length)
structure Small (k : Kit) : Prop where
  parts : k.1.length ≤ 1048576
  needs : ∀ p ∈ k.1, p.2.2.2.length ≤ 1048576
  vans : k.2.2.length ≤ 1048576
  van : ∀ v ∈ k.2.2, v.length ≤ 1048576
  flat : k.2.2.flatten.length ≤ 1048576
abbrev Yard := Kit × ((List (List Int)) × (List (List Int)))
def Yards (k : Kit) (y : Yard) : Prop := y.1 = k ∧ ∃ many lies, Stood k.1.length (allSpots k.2.2) many y.2.1 y.2.2 lies

theorem g48_eq (k : Kit) (hk : Small k) : (valid k = false ∧ ∃ q, g48 (k, ()) = some ((q, false, ()), ())) ∨ (valid k = true ∧ ∃ y, Yards k y ∧ g48 (k, ()) = some ((some y, true, ()), ())) := by
  have hF : g48 (k, ()) = F48 fuel k := rfl
  rw [hF]
  unfold F48 valid
  by_cases h1 : k.1.length ≤ 16
  case neg => rw [dec_t (by omega : (k.1.length : Int) > 16), dec_f h1]; exact .inl ⟨rfl, _, rfl⟩
  rw [dec_f (by omega : ¬ (k.1.length : Int) > 16), dec_t h1, cond_false]
  by_cases h2 : k.2.2.length ≤ 6
  case neg => rw [dec_t (by omega : (k.2.2.length : Int) > 6), dec_f h2]; exact .inl ⟨rfl, _, rfl⟩
  rw [dec_f (by omega : ¬ (k.2.2.length : Int) > 6), dec_t h2, cond_false, g54_eq, derefK_some]
  cases h3 : rng k.2.1 1 1000000 with
  | false => exact .inl ⟨rfl, _, rfl⟩
  | true =>
  simp only [Bool.not_true, cond_false, Bool.true_and]
  have hp := L48_5_eq' k k.1.length k.1 [] fuel (by simpa using hk.parts) hk.needs (by have := fuel_big; omega)
  have hp' : L48_5 fuel (((k.1.length : Int), k.1, (k.1.length : Int), 0, ()), (k, ()), ()) = some (cond (partsOK (k.1.length : Int) 0 k.1) (.inr ((), (k, ()), ())) (.inl ((none, false, ()), (), ()))) := hp
  rw [hp', derefK_some]
  cases h4 : partsOK (k.1.length : Int) 0 k.1 with
  | false => exact .inl ⟨rfl, _, rfl⟩
  | true =>
  simp only [cond_true, sumK_inr, Bool.true_and]
  rcases g78_eq k k.2.2 h1 hk.vans hk.van hk.flat with ⟨h5, h6⟩ | ⟨h5, many, ab, be, lies, hs, h6⟩
  · rw [h5, h6]
    exact .inl ⟨rfl, _, rfl⟩
  · rw [h5, h6, derefK_some]
    by_cases h7 : k.2.2.flatten.length = k.1.length
    · rw [dec_t h7]
      exact .inr ⟨rfl, _, ⟨rfl, many, lies, hs⟩, rfl⟩
    · rw [dec_f h7]
      exact .inl ⟨rfl, _, rfl⟩
end Go.Proofs.Try.V
