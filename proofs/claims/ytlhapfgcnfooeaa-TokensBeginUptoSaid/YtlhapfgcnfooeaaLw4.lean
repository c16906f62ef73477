/- Plain laws of layer 1: the program's table of prices, and the cheapest of them. No condition beyond those typed in each theorem. -/
import Derived.Test.YtlhapfgcnfooeaaLw3
namespace Go.Proofs.Try.V
open Go.Vi
set_option maxRecDepth 100000

theorem gd_setN {α : Type} [Inhabited α] {l : List α} {i : Nat} {c : α} (h : i < l.length) (j : Nat) : gd (l.set i c) (j : Int) = if j = i then c else gd l (j : Int) := by
  by_cases e : j = i
  · subst e
    have := gd_set_self (l := l) (i := (j : Int)) (c := c) (by omega) (by omega)
    rw [Int.toNat_natCast] at this
    rw [this, if_pos rfl]
  · have := gd_set_ne (l := l) (i := (i : Int)) (j := (j : Int)) (c := c) (by omega) (by omega) (by omega)
    rw [Int.toNat_natCast] at this
    rw [this, if_neg e]

/-- All rows at first. -/
theorem fill68 (l : List Bun) (n : Int) (m : Nat) (hm : m ≤ 2000) (hk : l.length ≤ 6) {N : Nat} (hN : 100 < N) :
    ∃ o : List (List Int), o.length = l.length + 1 ∧ (∀ i : Nat, i < l.length + 1 → gd o (i : Int) = List.replicate (m + 1) NO) ∧
      L68_4 N ((l, n, (m : Int), ((List.replicate (l.length + 1) ([] : List Int)).length : Int), 0, ()), ((List.replicate (l.length + 1) ([] : List Int)), ()), ()) = some ((l, n, (m : Int), ()), (o, ()), ()) := by
  rw [List.length_replicate]
  obtain ⟨r, hr, o, h1, h2, rfl⟩ := loop0 (L := L68_4) (fun (t : Nat) (o : List (List Int)) => ((l, n, (m : Int), ((l.length + 1 : Nat) : Int), (t : Int), ()), (o, ()), ()))
    (fun t o => o.length = l.length + 1 ∧ ∀ i : Nat, i < t → gd o (i : Int) = List.replicate (m + 1) NO)
    (fun r => ∃ o : List (List Int), o.length = l.length + 1 ∧ (∀ i : Nat, i < l.length + 1 → gd o (i : Int) = List.replicate (m + 1) NO) ∧ r = ((l, n, (m : Int), ()), (o, ()), ())) 0 (l.length + 1) (N := N) (s := List.replicate (l.length + 1) []) ⟨by simp, fun i hi => by omega⟩ (by omega)
    (fun N o h => ⟨_, by simp [L68_4, B68_4], o, h.1, h.2, rfl⟩)
    (fun N t o _ ht ⟨h1, h2⟩ => by
      refine .inl ⟨o.set t (List.replicate (m + 1) NO), ⟨by rw [List.length_set, h1], fun i hi => ?_⟩, ?_⟩
      · rw [gd_setN (by omega)]
        by_cases e : i = t
        · rw [if_pos e]
        · rw [if_neg e]; exact h2 i (by omega)
      · simp only [L68_4, B68_4]
        rw [dec_t (by omega), cond_true, show IntKind.wrap .i64 ((m : Int) + 1) = ((m + 1 : Nat) : Int) by rw [wI (by omega) (by omega)]; omega, g54_one _ _ (by omega), derefK_some, inR_in (by omega) (by omega), getI_gd (by omega) (by omega), wI (by omega) (by omega), Int.toNat_natCast]
        rfl)
  exact ⟨o, h1, h2, hr⟩
/-- The whole table. -/
theorem tab68 (l : List Bun) (hl : Fine l) (n most : Int) (M : Nat) (hM : M ≤ 3000) (hk : l.length ≤ 6) (o : List (List Int)) (ho : Tab l M o l.length) {N : Nat} (hN : 4000 < N) :
    ∃ o', Tab l M o' 0 ∧ L68_10 N ((l, n, most, (l.length : Int) - 1, ()), (o, ()), ()) = some ((l, n, most, ()), (o', ()), ()) := by
  obtain ⟨r, hr, o', h1, rfl⟩ := loop0 (L := L68_10) (fun (j : Nat) (o : List (List Int)) => ((l, n, most, (l.length : Int) - 1 - (j : Int), ()), (o, ()), ()))
    (fun j o => Tab l M o (l.length - j))
    (fun r => ∃ o' : List (List Int), Tab l M o' 0 ∧ r = ((l, n, most, ()), (o', ()), ())) 3001 l.length (N := N) (s := o) ho (by omega)
    (fun N o h => ⟨_, by simp only [L68_10, B68_10]; rw [dec_f (by omega), cond_false], o, by rwa [show l.length - l.length = 0 by omega] at h, rfl⟩)
    (fun N j o hc hj h => by
      obtain ⟨i, hi⟩ : ∃ i : Nat, i = l.length - (j + 1) := ⟨_, rfl⟩
      rw [show l.length - j = i + 1 by omega] at h
      obtain ⟨o', h', e⟩ := row68 l hl hk n most M hM i (by omega) o h (N := N) (by omega)
      refine .inl ⟨o', by rwa [← hi], ?_⟩
      simp only [L68_10, B68_10]
      rw [show (l.length : Int) - 1 - (j : Int) = (i : Int) by omega, dec_t (by omega), cond_true, inR_in (by omega) (by rw [h.1]; omega), getI_gd (by omega) (by rw [h.1]; omega), h.2.1 i (by omega), e, derefK_some]
      simp only
      rw [wI (by omega) (by omega), show (l.length : Int) - 1 - ((j + 1 : Nat) : Int) = (i : Int) - 1 by omega])
  refine ⟨o', h1, ?_⟩
  rw [← hr]
  simp

/-- t is the first of the cheapest. -/
def First (c : List Int) (n M t : Nat) : Prop := n ≤ t ∧ t < M ∧ ∀ t' : Nat, n ≤ t' → t' < M → gd c (t : Int) ≤ gd c (t' : Int) ∧ (gd c (t' : Int) = gd c (t : Int) → t ≤ t')
theorem arg68 (l : List Bun) (n m : Nat) (hm : m ≤ 2000) (hn : n ≤ m) (o : List (List Int)) (h0 : 0 < o.length) (h1 : (gd o 0).length = m + 1) {N : Nat} (hN : 4000 < N) :
    ∃ t, First (gd o 0) n (m + 1) t ∧ L68_22 N ((l, (m : Int), (n : Int), (n : Int), ()), (o, ()), ()) = some ((l, (t : Int), ()), (o, ()), ()) := by
  obtain ⟨r, hr, t, h1, rfl⟩ := loop0 (L := L68_22) (fun (j : Nat) (t : Nat) => ((l, (m : Int), (t : Int), ((n + j : Nat) : Int), ()), (o, ()), ()))
    (fun j t => n ≤ t ∧ (t < n + j ∨ t = n) ∧ ∀ t' : Nat, n ≤ t' → t' < n + j → gd (gd o 0) (t : Int) ≤ gd (gd o 0) (t' : Int) ∧ (gd (gd o 0) (t' : Int) = gd (gd o 0) (t : Int) → t ≤ t'))
    (fun r => ∃ t : Nat, First (gd o 0) n (m + 1) t ∧ r = ((l, (t : Int), ()), (o, ()), ())) 0 (m + 1 - n) (N := N) (s := n) ⟨by omega, by omega, fun t' h1 h2 => by omega⟩ (by omega)
    (fun N t h => ⟨_, by simp only [L68_22, B68_22]; rw [dec_f (by omega), cond_false], t, ⟨h.1, by omega, fun t' h1 h2 => h.2.2 t' h1 (by omega)⟩, rfl⟩)
    (fun N j t _ hj ⟨q1, q2, q3⟩ => by
      left
      have e1 : ∀ {α : Type} (k : Option α), inR 0 o.length k = k := fun k => inR_in (by omega) (by omega) k
      have e2 : ∀ {α : Type} (k : List Int → Option α), getI o 0 k = k (gd o 0) := fun k => getI_gd (by omega) (by omega) k
      have e3 : ∀ {α : Type} (x : Nat), x ≤ m → ∀ (k : Int → Option α), getI (gd o 0) (x : Int) k = k (gd (gd o 0) (x : Int)) := fun x hx k => getI_gd (by omega) (by omega) k
      have e4 : ∀ {α : Type} (x : Nat), x ≤ m → ∀ (k : Option α), inR (x : Int) (gd o 0).length k = k := fun x hx k => inR_in (by omega) (by omega) k
      have w3 : IntKind.wrap .i64 (((n + j : Nat) : Int) + 1) = ((n + (j + 1) : Nat) : Int) := by rw [wI (by omega) (by omega)]; omega
      simp only [L68_22, B68_22, e1, e2, w3]
      rw [dec_t (by omega), cond_true, e4 _ (by omega), e3 _ (by omega), e4 _ (by omega), e3 _ (by omega)]
      by_cases hlt : gd (gd o 0) ((n + j : Nat) : Int) < gd (gd o 0) (t : Int)
      · rw [dec_t hlt, cond_true]
        refine ⟨n + j, ⟨by omega, by omega, fun t' h1 h2 => ?_⟩, rfl⟩
        by_cases e : t' = n + j
        · subst e; exact ⟨Int.le_refl _, fun _ => Nat.le_refl _⟩
        · have := (q3 t' h1 (by omega)).1
          exact ⟨by omega, fun h => by omega⟩
      · rw [dec_f hlt, cond_false]
        refine ⟨t, ⟨q1, by omega, fun t' h1 h2 => ?_⟩, rfl⟩
        by_cases e : t' = n + j
        · subst e; exact ⟨by omega, fun _ => by omega⟩
        · exact q3 t' h1 (by omega))
  exact ⟨t, h1, hr⟩
end Go.Proofs.Try.V
