/- Plain laws of layer 8, second part: what a yard holds; the program's look at a kit. No condition beyond those typed in each theorem. -/
import Derived.Test.YtjhphibadndkcaaLw1
namespace Go.Proofs.Try.V
open Go.Vi
set_option maxRecDepth 100000

abbrev Spot := List Int × (Int × List Int)
def spotsFrom : List Int → List Int → List Spot
  | _, [] => []
  | pre, x :: r => (pre, x, r) :: spotsFrom (pre ++ [x]) r
theorem spots_parts : ∀ (r pre : List Int), (spotsFrom pre r).map (·.2.1) = r
  | [], _ => rfl
  | x :: r, pre => by simp [spotsFrom, spots_parts r]
theorem spots_mem : ∀ (r pre : List Int) {d : Spot}, d ∈ spotsFrom pre r → d.1 ++ d.2.1 :: d.2.2 = pre ++ r
  | [], _, d, h => by simp [spotsFrom] at h
  | x :: r, pre, d, h => by
    simp only [spotsFrom, List.mem_cons] at h
    rcases h with rfl | h
    · rfl
    · rw [spots_mem r _ h]; simp

/-- What the yard holds behind some spots. -/
structure Stood (n : Nat) (done : List Spot) (many : Int) (ab be : List (List Int)) (lies : List Int) : Prop where
  nodup : (done.map (·.2.1)).Nodup
  rng : ∀ d ∈ done, 0 ≤ d.2.1 ∧ d.2.1 < n
  many : many = done.length
  la : ab.length = n
  lb : be.length = n
  ll : lies.length = n
  lie : ∀ i, i < n → lies[i]? = some (if (i : Int) ∈ done.map (·.2.1) then 1 else 0)
  spot : ∀ d ∈ done, ab[d.2.1.toNat]? = some d.2.2 ∧ be[d.2.1.toNat]? = some d.1.reverse

def goodFrom (n : Nat) : List Int → List Int → Bool
  | _, [] => true
  | seen, x :: r => rng x 0 (n - 1) && !decide (x ∈ seen) && goodFrom n (seen ++ [x]) r

theorem Stood.step {n : Nat} {done : List Spot} {many : Int} {ab be : List (List Int)} {lies : List Int} (h : Stood n done many ab be lies) {pre r : List Int} {x : Int} (hx0 : 0 ≤ x) (hx : x < n) (hn : x ∉ done.map (·.2.1)) :
    Stood n (done ++ [(pre, x, r)]) (many + 1) (ab.set x.toNat r) (be.set x.toNat pre.reverse) (lies.set x.toNat 1) where
  nodup := by
    rw [List.map_append, List.nodup_append]
    exact ⟨h.nodup, by simp, fun a ha b hb e => by simp at hb; subst hb; subst e; exact hn ha⟩
  rng := by
    intro d hd
    rcases List.mem_append.1 hd with hd | hd
    · exact h.rng d hd
    · simp at hd; subst hd; exact ⟨hx0, hx⟩
  many := by rw [h.many]; simp
  la := by simp [h.la]
  lb := by simp [h.lb]
  ll := by simp [h.ll]
  lie := by
    intro i hi
    rw [List.getElem?_set]
    by_cases e : x.toNat = i
    · subst e
      rw [if_pos rfl, if_pos (by rw [h.ll]; exact hi), if_pos]
      simp only [List.map_append, List.mem_append]
      right
      simp
      omega
    · rw [if_neg e, h.lie i hi]
      congr 1
      have : (i : Int) ∈ (done ++ [(pre, x, r)]).map (·.2.1) ↔ (i : Int) ∈ done.map (·.2.1) := by
        simp only [List.map_append, List.mem_append]
        constructor
        · rintro (h | h)
          · exact h
          · simp at h; omega
        · exact .inl
      simp only [this]
  spot := by
    intro d hd
    rcases List.mem_append.1 hd with hd | hd
    · have hne : x.toNat ≠ d.2.1.toNat := by
        intro e
        have := h.rng d hd
        have : x = d.2.1 := by omega
        exact hn (List.mem_map.2 ⟨d, hd, this.symm⟩)
      rw [List.getElem?_set_ne hne, List.getElem?_set_ne hne]
      exact h.spot d hd
    · simp at hd
      subst hd
      exact ⟨by rw [List.getElem?_set_self (by rw [h.la]; omega)], by rw [List.getElem?_set_self (by rw [h.lb]; omega)]⟩

theorem g93_eq {l : List Int} (h : l.length ≤ 1048576) : g93 (l, ()) = some ((l, ()), ()) := by
  show lenK (l.length : Int) _ = _
  rw [lenK_in (by omega) (by omega)]
theorem g94_eq (l : List Int) : g94 (l, ()) = some ((), l.reverse, ()) := rfl

theorem L78_10_eq' (n : Nat) (hn : n ≤ 16) (kit : Kit) (t31 : List (List Int)) (t32 t33 : Int) (van : List Int) (hv : van.length ≤ 1048576) : ∀ (r pre : List Int) (done : List Spot) (many : Int) (ab be : List (List Int)) (lies : List Int) (N : Nat), van = pre ++ r → r.length < N → done.length + r.length ≤ 1048576 → Stood n done many ab be lies →
    (goodFrom n (done.map (·.2.1)) r = false ∧ L78_10 N ((n, many, van, t31, t32, t33, van, (van.length : Int), (pre.length : Int), ()), ((kit, (ab, be)), lies, ()), ()) = some (.inl ((none, false, ()), (), ()))) ∨
    (goodFrom n (done.map (·.2.1)) r = true ∧ ∃ many' ab' be' lies', Stood n (done ++ spotsFrom pre r) many' ab' be' lies' ∧
      L78_10 N ((n, many, van, t31, t32, t33, van, (van.length : Int), (pre.length : Int), ()), ((kit, (ab, be)), lies, ()), ()) = some (.inr ((n, many', t31, t32, t33, ()), ((kit, (ab', be')), lies', ()), ())))
  | [], pre, done, many, ab, be, lies, N, hpr, hN, hb, h => by
    obtain ⟨k, rfl⟩ := pos_of_lt hN
    refine .inr ⟨rfl, many, ab, be, lies, by simpa [spotsFrom] using h, ?_⟩
    subst hpr
    simp [L78_10, B78_10]
  | x :: r, pre, done, many, ab, be, lies, N, hpr, hN, hb, h => by
    obtain ⟨k, rfl⟩ := pos_of_lt hN
    simp only [List.length_cons] at hN hb
    simp only [L78_10, B78_10]
    have hlt : ((pre.length : Nat) : Int) < (van.length : Int) := by rw [hpr]; exact lt_app pre x r
    have hget : ∀ {R : Type} (kk : Int → Option R), getI van (pre.length : Int) kk = kk x := fun kk => by rw [hpr]; exact getI_app pre x r kk rfl
    rw [dec_t hlt, cond_true, hget, w64 (by omega) (by omega), g54_eq, derefK_some]
    simp only [goodFrom]
    cases h1 : rng x 0 ((n : Int) - 1) with
    | false => exact .inl ⟨rfl, by simp⟩
    | true =>
    simp only [rng, Bool.and_eq_true, decide_eq_true_eq] at h1
    have hx0 := h1.1
    have hx : x < n := by omega
    simp only [Bool.not_true, cond_false, Bool.true_and]
    rw [inR_in hx0 (by rw [h.ll]; omega), getI_some hx0 (h.lie x.toNat (by omega))]
    rw [show ((x.toNat : Nat) : Int) = x by omega]
    by_cases hm : x ∈ done.map (·.2.1)
    · rw [if_pos hm, dec_t hm]
      exact .inl ⟨rfl, rfl⟩
    · rw [if_neg hm, dec_f hm, dec_f (by omega : ¬ (0 : Int) > 0), cond_false, inR_in hx0 (by rw [h.ll]; omega), getI_in hx0 (by rw [h.ll]; omega)]
      have htk : van.take (pre.length : Int).toNat = pre := by rw [hpr]; simp
      have hdr : van.drop ((pre.length : Int) + 1).toNat = r := by
        rw [hpr, show ((pre.length : Int) + 1).toNat = pre.length + 1 by omega, List.drop_append]
        simp
      have hmb : many = done.length := h.many
      rw [w64 (x := many + 1) (by omega) (by omega), w64 (x := (pre.length : Int) + 1) (by omega) (by omega)]
      have hpl : pre.length ≤ 1048576 := by omega
      simp only [htk, hdr, g93_eq hpl, derefK_some, bindV_eq, enumK_eq, g94_eq, leK_in (show (0 : Int) ≤ (pre.length : Int) + 1 by omega), leK_in (show (pre.length : Int) + 1 ≤ (van.length : Int) by omega), leK_in (show (0 : Int) ≤ (pre.length : Int) by omega), leK_in (show (pre.length : Int) ≤ (van.length : Int) by omega)]
      have e1 : ∀ {R : Type} {l : List (List Int)} (hl : l.length = n) (kk : Option R), inR x l.length kk = kk := fun hl kk => inR_in hx0 (by rw [hl]; exact hx) kk
      have e2 : ∀ {R : Type} {l : List (List Int)} (hl : l.length = n) (kk : List Int → Option R), getI l x kk = kk (l[x.toNat]'(by omega)) := fun hl kk => getI_in hx0 (by rw [hl]; exact hx) kk
      have hs := h.step (pre := pre) (r := r) hx0 hx hm
      simp only [e1 h.la, e2 h.la, e1 h.lb, e2 h.lb, agreeK_one, agreeK_two]
      have hl2 : (be.set x.toNat pre).length = n := by simp [h.lb]
      simp only [e1 hl2, e2 hl2, List.getElem_set_self, List.set_set]
      have ih := L78_10_eq' n hn kit t31 t32 t33 van hv r (pre ++ [x]) (done ++ [(pre, x, r)]) (many + 1) _ _ _ k (by rw [hpr]; simp) (by omega) (by simp; omega) hs
      rw [len_app] at ih
      simp only [List.map_append, List.map_cons, List.map_nil, List.append_assoc] at ih
      simpa [spotsFrom] using ih
end Go.Proofs.Try.V
