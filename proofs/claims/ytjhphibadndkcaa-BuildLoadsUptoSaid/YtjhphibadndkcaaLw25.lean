/- Plain laws of layer 8, twenty-fifth part: Pack by the program and by the document. No condition beyond those typed in each theorem. -/
import Derived.Test.YtjhphibadndkcaaLw24
import Derived.Test.YtjhphibadndkcaaLw11
namespace Go.Proofs.Try.V
open Go.Vi
set_option maxRecDepth 100000

/-! ## Each part on a lorry of its own -/
def alv (n : Nat) : List (List Int) := (List.range n).map fun (i : Nat) => [(i : Int)]
theorem alv_flat (n : Nat) : (alv n).flatten = rangeI n := by
  unfold alv rangeI
  induction n with
  | zero => rfl
  | succ n ih =>
    rw [List.range_succ, List.map_append, List.map_append, List.flatten_append, ih]
    rfl
theorem alv_len (n : Nat) : (alv n).length = n := by simp [alv]
theorem alv_succ (n : Nat) : alv (n + 1) = alv n ++ [[(n : Int)]] := by simp [alv, List.range_succ]
abbrev alK (k : Kit) : Kit := (k.1, (k.2.1, alv k.1.length))
theorem alK_fine {k : Kit} (hf : Fine k) : Fine (alK k) := by
  refine ⟨hf.parts, hf.each, hf.crane, fun x hx => ?_, ?_, fun i hi => ?_⟩
  · rw [show (alK k).2.2.flatten = rangeI k.1.length from alv_flat _] at hx
    exact rangeI_mem.1 hx
  · rw [show (alK k).2.2.flatten = rangeI k.1.length from alv_flat _]
    exact rangeI_nodup _
  · rw [show (alK k).2.2.flatten = rangeI k.1.length from alv_flat _]
    exact rangeI_mem.2 ⟨by omega, by have : (i : Nat) < k.1.length := hi; omega⟩
theorem alK_small {k : Kit} (hk : Small k) (hf : Fine k) : Small (alK k) := by
  have h16 := hf.parts
  refine ⟨hk.parts, hk.needs, ?_, fun v hv => ?_, ?_⟩
  · show (alv k.1.length).length ≤ _
    rw [alv_len]; omega
  · obtain ⟨i, _, rfl⟩ := List.mem_map.1 hv
    simp
  · show (alv k.1.length).flatten.length ≤ _
    rw [alv_flat, rangeI_length]; omega
theorem wok_of {k : Kit} (hf : Fine k) : WOK (wts k) := by
  refine ⟨by rw [wts_len]; exact hf.parts, fun i hi => ?_⟩
  rw [wts_len] at hi
  have h := (hf.each i (gd k.1 (i : Int)) (gd_nat hi)).1
  rw [wts_gd k hi]
  unfold rng at h
  rw [Bool.and_eq_true, decide_eq_true_eq, decide_eq_true_eq] at h
  exact h
theorem L40_10_q (k : Kit) (hn : k.1.length ≤ 16) (room : Int) (N : Nat) (hN : 100 < N) : L40_10 N (((k.1.length : Int), 0, ()), (k, room, [], ()), ()) = some ((), (k, room, alv k.1.length, ()), ()) := by
  exact loopF (L := L40_10) (fun i => (((k.1.length : Int), (i : Int), ()), (k, room, alv i, ()), ())) ((), (k, room, alv k.1.length, ()), ()) 0 k.1.length (N := N) (by omega)
    (fun N => by
      simp only [L40_10, B40_10]
      rw [dec_f (by omega)]
      rfl)
    (fun N i _ hi => by
      simp only [L40_10, B40_10]
      rw [dec_t (by omega), cond_true, lenK_in (by omega) (by rw [alv_len]; simp; omega), w64 (by omega) (by omega), ← alv_succ]
      rfl)
theorem g43_eq {k : Kit} (hn : k.1.length ≤ 1048576) : g43 (k, ()) = some ((alK k, ()), ()) := by
  show F43 fuel k = _
  unfold F43
  have hfu := fuel_big
  have e := loopF (L := L43_3) (fun i => (((i : Int), ()), (k, (([] : List Part), ((0 : Int), ([] : List (List Int)))), (k.1, k.2.1, alv i), ()), ())) ((), ((([] : List Part), ((0 : Int), ([] : List (List Int)))), alK k, ()), ()) 0 k.1.length (N := fuel) (by omega)
    (fun N => by
      simp only [L43_3, B43_3]
      rw [dec_f (by omega)]
      rfl)
    (fun N i _ hi => by
      simp only [L43_3, B43_3]
      rw [dec_t (by omega), cond_true, lenK_in (by omega) (by rw [alv_len]; simp; omega), w64 (by omega) (by omega), ← alv_succ]
      rfl)
  have e' : L43_3 fuel ((0, ()), (k, (([] : List Part), ((0 : Int), ([] : List (List Int)))), (k.1, k.2.1, ([] : List (List Int))), ()), ()) = _ := e
  rw [e', derefK_some]
/-- The heaviest is too heavy. -/
theorem g79_q (k : Kit) (hn : k.1.length ≤ 1048576) (room : Int) : g79 (k.1, (fun v => derefK (g80 (v, room, ())) fun y => some y.1.1), ()) = some ((decide (∃ i : Nat, i < k.1.length ∧ gd (wts k) (i : Int) > room), ()), ()) := by
  show F79 fuel k.1 _ = _
  unfold F79
  have hfu := fuel_big
  have hst : ∀ (f : Part → Option Bool), (∀ p, f p = some (decide (p.1 > room))) → ∀ (d i : Nat) (N : Nat), i + d = k.1.length → d < N → (∀ j : Nat, j < i → ¬ gd (wts k) (j : Int) > room) →
      (∃ i : Nat, L95_2 N ((k.1, f, (k.1.length : Int), ((k.1.length - d : Nat) : Int), ()), (), ()) = some (.inl (((i : Int), ()), (), ())) ∧ i < k.1.length ∧ gd (wts k) (i : Int) > room) ∨
      (L95_2 N ((k.1, f, (k.1.length : Int), ((k.1.length - d : Nat) : Int), ()), (), ()) = some (.inr ((), (), ())) ∧ ∀ j : Nat, j < k.1.length → ¬ gd (wts k) (j : Int) > room) := by
    intro f hf d
    induction d with
    | zero =>
      intro i N hi hN hno
      obtain ⟨N, rfl⟩ : ∃ n, N = n + 1 := ⟨N - 1, by omega⟩
      refine .inr ⟨?_, fun j hj => hno j (by omega)⟩
      simp only [L95_2, B95_2]
      rw [dec_f (by omega)]
      rfl
    | succ d ih =>
      intro i N hi hN hno
      obtain ⟨N, rfl⟩ : ∃ n, N = n + 1 := ⟨N - 1, by omega⟩
      rw [show k.1.length - (d + 1) = i by omega]
      simp only [L95_2, B95_2]
      rw [dec_t (by omega), cond_true, getI_gd (by omega) (by omega), hf, derefK_some, ← wts_gd k (show i < k.1.length by omega), w64 (by omega) (by omega), show (i : Int) + 1 = ((k.1.length - d : Nat) : Int) by omega]
      by_cases h : gd (wts k) (i : Int) > room
      · rw [dec_t h]
        exact .inl ⟨i, rfl, by omega, h⟩
      · rw [dec_f h, cond_false]
        exact ih (i + 1) N (by omega) (by omega) (fun j hj => by
          by_cases e : j = i
          · rw [e]; exact h
          · exact hno j (by omega))
  have h95 : g95 (k.1, (fun v => derefK (g80 (v, room, ())) fun y => some y.1.1), ()) = F95 fuel k.1 (fun v => derefK (g80 (v, room, ())) fun y => some y.1.1) := rfl
  rw [h95]
  unfold F95
  have := hst (fun v => derefK (g80 (v, room, ())) fun y => some y.1.1) (fun p => rfl) k.1.length 0 fuel (by omega) (by omega) (fun j hj => by omega)
  rw [Nat.sub_self] at this
  rcases this with ⟨i, h1, h2, h3⟩ | ⟨h1, h2⟩
  · have h1' : L95_2 fuel ((k.1, (fun v => derefK (g80 (v, room, ())) fun y => some y.1.1), (k.1.length : Int), 0, ()), (), ()) = _ := h1
    rw [h1', dec_t (p := ∃ i : Nat, i < k.1.length ∧ gd (wts k) (i : Int) > room) ⟨i, h2, h3⟩]
    show some ((decide ((i : Int) ≥ 0), ()), ()) = _
    rw [dec_t (by omega)]
  · have h1' : L95_2 fuel ((k.1, (fun v => derefK (g80 (v, room, ())) fun y => some y.1.1), (k.1.length : Int), 0, ()), (), ()) = _ := h1
    rw [h1', dec_f (p := ∃ i : Nat, i < k.1.length ∧ gd (wts k) (i : Int) > room) (fun ⟨i, a, b⟩ => h2 i a b)]
    rfl

/-! ## The parts are laid on their lorries -/
def goOut (l : List Int) : List Int → List (List Int) → List (List Int)
  | [], o => o
  | p :: r, o => goOut l r (o.set (gd l p).toNat (gd o (gd l p) ++ [p]))
theorem goOut_len (l : List Int) : ∀ (r : List Int) (o : List (List Int)), (goOut l r o).length = o.length
  | [], _ => rfl
  | p :: r, o => by
    unfold goOut
    rw [goOut_len l r, List.length_set]
/-- No row becomes long. -/
def Shrt (B : Nat) (o : List (List Int)) : Prop := ∀ i : Nat, i < o.length → (gd o (i : Int)).length ≤ B
theorem shrt_step {B : Nat} {o : List (List Int)} (h : Shrt B o) {v : Int} (h0 : 0 ≤ v) (h1 : v < o.length) (p : Int) : Shrt (B + 1) (o.set v.toNat (gd o v ++ [p])) := by
  intro i hi
  rw [List.length_set] at hi
  by_cases e : (i : Int) = v
  · rw [e, gd_set_self h0 h1, List.length_append, List.length_singleton]
    have := h v.toNat (by omega)
    rw [show ((v.toNat : Nat) : Int) = v by omega] at this
    omega
  · rw [gd_set_ne h0 (by omega) e]
    have := h i hi
    omega
theorem take_rev {ord : List Int} {j : Nat} (hj : j < ord.length) : (ord.take (j + 1)).reverse = gd ord (j : Int) :: (ord.take j).reverse := by
  rw [take_nat hj, List.reverse_append]
  rfl
theorem eqK_self {R : Type} (a : Int) (X : Option R) : eqK a a X = X := by unfold eqK; rw [if_pos rfl]
theorem L40_24_q {n M : Nat} {l ord : List Int} (hl : l.length = n) (hr : ∀ i : Nat, i < n → 0 ≤ gd l (i : Int) ∧ gd l (i : Int) < M) (ho : ∀ p ∈ ord, 0 ≤ p ∧ p < n) (hlen : ord.length ≤ 1048576) (x : List Part) (room : Int) (ld : List Int) :
    ∀ (j : Nat) (N : Nat) (o : List (List Int)), j ≤ ord.length → j < N → o.length = M → Shrt (ord.length - j) o → L40_24 N (((j : Int) - 1, ()), ((x, room, ld, l), o, ord, ()), ()) = some ((), (goOut l (ord.take j).reverse o, ()), ())
  | 0, N, o, _, hN, _, _ => by
    obtain ⟨N, rfl⟩ : ∃ n, N = n + 1 := ⟨N - 1, by omega⟩
    simp only [L40_24, B40_24]
    rw [dec_f (by omega)]
    rfl
  | j + 1, N, o, hj, hN, hol, hsh => by
    obtain ⟨N, rfl⟩ : ∃ n, N = n + 1 := ⟨N - 1, by omega⟩
    have hp := ho (gd ord (j : Int)) (gd_mem (by omega) (by omega))
    have hv := hr (gd ord (j : Int)).toNat (by omega)
    rw [show (((gd ord (j : Int)).toNat : Nat) : Int) = gd ord (j : Int) by omega] at hv
    have hrow := hsh (gd l (gd ord (j : Int))).toNat (by omega)
    rw [show (((gd l (gd ord (j : Int))).toNat : Nat) : Int) = gd l (gd ord (j : Int)) by omega] at hrow
    rw [show ((j + 1 : Nat) : Int) - 1 = (j : Int) by omega]
    have a1 : ∀ {R : Type} (X : Option R), inR (j : Int) ord.length X = X := fun X => inR_in (by omega) (by omega) X
    have a2 : ∀ {R : Type} (F : Int → Option R), getI ord (j : Int) F = F (gd ord (j : Int)) := fun F => getI_gd (by omega) (by omega) F
    have a3 : ∀ {R : Type} (X : Option R), inR (gd ord (j : Int)) l.length X = X := fun X => inR_in (by omega) (by omega) X
    have a4 : ∀ {R : Type} (F : Int → Option R), getI l (gd ord (j : Int)) F = F (gd l (gd ord (j : Int))) := fun F => getI_gd (by omega) (by omega) F
    have a5 : ∀ {R : Type} (X : Option R), inR (gd l (gd ord (j : Int))) o.length X = X := fun X => inR_in (by omega) (by omega) X
    have a6 : ∀ {R : Type} (F : List Int → Option R), getI o (gd l (gd ord (j : Int))) F = F (gd o (gd l (gd ord (j : Int)))) := fun F => getI_gd (by omega) (by omega) F
    have a7 : ∀ {R : Type} (X : Option R), lenK (((gd o (gd l (gd ord (j : Int)))).length : Int) + (([gd ord (j : Int)].length : Nat) : Int)) X = X := fun X => lenK_in (by simp; omega) (by simp; omega) X
    simp only [L40_24, B40_24]
    rw [dec_t (by omega), cond_true]
    simp only [a1, a2, a3, a4, a5, a6, a7, eqK_self, agreeK_two, agreeK_one, derefK_some]
    rw [w64 (by omega) (by omega), take_rev (by omega)]
    exact L40_24_q hl hr ho hlen x room ld j N _ (by omega) (by omega) (by rw [List.length_set]; exact hol) (by
      have := shrt_step hsh hv.1 (by omega) (gd ord (j : Int))
      rwa [show ord.length - (j + 1) + 1 = ord.length - j by omega] at this)
theorem L41_18_q {n M : Nat} {l ord : List Int} (hl : l.length = n) (hr : ∀ i : Nat, i < n → 0 ≤ gd l (i : Int) ∧ gd l (i : Int) < M) (ho : ∀ p ∈ ord, 0 ≤ p ∧ p < n) (hlen : ord.length ≤ 1048576) :
    ∀ (j : Nat) (N : Nat) (o : List (List Int)), j ≤ ord.length → j < N → o.length = M → Shrt (ord.length - j) o → L41_18 N ((l, (j : Int) - 1, ()), (o, ord, ()), ()) = some ((), (goOut l (ord.take j).reverse o, ()), ())
  | 0, N, o, _, hN, _, _ => by
    obtain ⟨N, rfl⟩ : ∃ n, N = n + 1 := ⟨N - 1, by omega⟩
    simp only [L41_18, B41_18]
    rw [dec_f (by omega)]
    rfl
  | j + 1, N, o, hj, hN, hol, hsh => by
    obtain ⟨N, rfl⟩ : ∃ n, N = n + 1 := ⟨N - 1, by omega⟩
    have hp := ho (gd ord (j : Int)) (gd_mem (by omega) (by omega))
    have hv := hr (gd ord (j : Int)).toNat (by omega)
    rw [show (((gd ord (j : Int)).toNat : Nat) : Int) = gd ord (j : Int) by omega] at hv
    have hrow := hsh (gd l (gd ord (j : Int))).toNat (by omega)
    rw [show (((gd l (gd ord (j : Int))).toNat : Nat) : Int) = gd l (gd ord (j : Int)) by omega] at hrow
    rw [show ((j + 1 : Nat) : Int) - 1 = (j : Int) by omega]
    have a1 : ∀ {R : Type} (X : Option R), inR (j : Int) ord.length X = X := fun X => inR_in (by omega) (by omega) X
    have a2 : ∀ {R : Type} (F : Int → Option R), getI ord (j : Int) F = F (gd ord (j : Int)) := fun F => getI_gd (by omega) (by omega) F
    have a4 : ∀ {R : Type} (F : Int → Option R), getI l (gd ord (j : Int)) F = F (gd l (gd ord (j : Int))) := fun F => getI_gd (by omega) (by omega) F
    have a5 : ∀ {R : Type} (X : Option R), inR (gd l (gd ord (j : Int))) o.length X = X := fun X => inR_in (by omega) (by omega) X
    have a6 : ∀ {R : Type} (F : List Int → Option R), getI o (gd l (gd ord (j : Int))) F = F (gd o (gd l (gd ord (j : Int)))) := fun F => getI_gd (by omega) (by omega) F
    have a7 : ∀ {R : Type} (X : Option R), lenK (((gd o (gd l (gd ord (j : Int)))).length : Int) + (([gd ord (j : Int)].length : Nat) : Int)) X = X := fun X => lenK_in (by simp; omega) (by simp; omega) X
    simp only [L41_18, B41_18]
    rw [dec_t (by omega), cond_true]
    simp only [a1, a2, a4, a5, a6, a7, eqK_self, agreeK_two, agreeK_one, derefK_some]
    rw [w64 (by omega) (by omega), take_rev (by omega)]
    exact L41_18_q hl hr ho hlen j N _ (by omega) (by omega) (by rw [List.length_set]; exact hol) (by
      have := shrt_step hsh hv.1 (by omega) (gd ord (j : Int))
      rwa [show ord.length - (j + 1) + 1 = ord.length - j by omega] at this)
theorem shrt_nil (M : Nat) : Shrt 0 (List.replicate M ([] : List Int)) := by
  intro i hi
  rw [List.length_replicate] at hi
  rw [gd_replicate (by omega) (by omega)]
  simp

/-! ## The least number of lorries -/
def fst (W : List Int) (room : Int) : Nat → Nat → Option (Nat × List Int)
  | 0, _ => none
  | r + 1, m => match srch W room m W.length [] with
    | some l => some (m, l)
    | none => fst W room r (m + 1)
def outP (ord : List Int) (x : Nat × List Int) : List (List Int) := goOut x.2 ord.reverse (List.replicate x.1 [])
theorem fst_some {W : List Int} {room : Int} {M : Nat} {l : List Int} : ∀ {r m : Nat}, fst W room r m = some (M, l) → m ≤ M ∧ M < m + r ∧ srch W room M W.length [] = some l ∧ ∀ u, m ≤ u → u < M → srch W room u W.length [] = none
  | 0, _, h => by cases h
  | r + 1, m, h => by
    unfold fst at h
    split at h
    · rename_i l' hl
      cases h
      exact ⟨Nat.le_refl _, by omega, hl, fun u h1 h2 => by omega⟩
    · rename_i hn
      obtain ⟨h1, h2, h3, h4⟩ := fst_some h
      refine ⟨by omega, by omega, h3, fun u h5 h6 => ?_⟩
      by_cases e : u = m
      · rw [e]; exact hn
      · exact h4 u (by omega) h6
theorem fst_none {W : List Int} {room : Int} : ∀ {r m : Nat}, fst W room r m = none → ∀ u, m ≤ u → u < m + r → srch W room u W.length [] = none
  | 0, _, _, u, h1, h2 => by omega
  | r + 1, m, h, u, h1, h2 => by
    unfold fst at h
    split at h
    · cases h
    · rename_i hn
      by_cases e : u = m
      · rw [e]; exact hn
      · exact fst_none h u (by omega) (by omega)
/-- Each part alone, if none is too heavy. -/
theorem lwK_id {W : List Int} (n : Nat) (v : Nat) : ∀ i, i ≤ n → lwK W ((List.range n).map fun (i : Nat) => (i : Int)) (v : Int) i = if v < i then gd W (v : Int) else 0
  | 0, _ => by rw [if_neg (by omega)]; rfl
  | i + 1, h => by
    unfold lwK
    rw [lwK_id n v i (by omega)]
    have : gd ((List.range n).map fun (i : Nat) => (i : Int)) (i : Int) = (i : Int) := gd_of (by rw [List.getElem?_map, List.getElem?_range (by omega)]; rfl)
    rw [this]
    by_cases e : i = v
    · subst e
      rw [if_neg (by omega), if_pos rfl, if_pos (by omega), Int.zero_add]
    · rw [if_neg (show ¬ (i : Int) = (v : Int) by omega), Int.add_zero]
      by_cases h2 : v < i
      · rw [if_pos h2, if_pos (by omega)]
      · rw [if_neg h2, if_neg (by omega)]
theorem asg_id {W : List Int} {room : Int} (h : ∀ i : Nat, i < W.length → ¬ gd W (i : Int) > room) : Asg W room W.length ((List.range W.length).map fun (i : Nat) => (i : Int)) := by
  refine ⟨by simp, fun i hi => ?_, fun v hv => ?_⟩
  · have : gd ((List.range W.length).map fun (i : Nat) => (i : Int)) (i : Int) = (i : Int) := gd_of (by simp [hi])
    rw [this]; omega
  · unfold lw
    rw [List.length_map, List.length_range, lwK_id W.length v W.length (Nat.le_refl _), if_pos hv]
    have := h v hv
    omega
/-- With a part too heavy there is none. -/
theorem asg_each {W : List Int} (hW : WOK W) {room : Int} {m : Nat} {a : List Int} (ha : Asg W room m a) {i : Nat} (hi : i < W.length) : gd W (i : Int) ≤ room := by
  have hl := ha.len
  have hg := ha.rng i hi
  have hf := ha.fit (gd a (i : Int)).toNat (by omega)
  rw [show (((gd a (i : Int)).toNat : Nat) : Int) = gd a (i : Int) by omega] at hf
  have h1 : lwK W a (gd a (i : Int)) (i + 1) = lwK W a (gd a (i : Int)) i + gd W (i : Int) := by
    show lwK W a (gd a (i : Int)) i + (if gd a (i : Int) = gd a (i : Int) then gd W (i : Int) else 0) = _
    rw [if_pos rfl]
  have h0 := (lwK_bd hW a (gd a (i : Int)) i (by omega)).1
  have h2 := lwK_mono hW a (gd a (i : Int)) (W.length - (i + 1)) (i + 1) (by omega)
  rw [show i + 1 + (W.length - (i + 1)) = a.length by omega] at h2
  have h3 : lwK W a (gd a (i : Int)) a.length ≤ room := hf
  omega

theorem L40_20_q {k : Kit} (hW : WOK (wts k)) {room : Int} (hroom : 0 ≤ room) {ord : List Int} (ho : ∀ p ∈ ord, 0 ≤ p ∧ p < k.1.length) (hlen : ord.length ≤ 16) : ∀ (r m : Nat) (N : Nat) (M : Nat) (l : List Int), m + r ≤ 17 → r + 1000 < N → fst (wts k) room r m = some (M, l) →
    L40_20 N (((m : Int), ()), (k, room, ord, ()), ()) = some ((0, ()), (outP ord (M, l), ()), ())
  | 0, m, N, M, l, _, _, h => by cases h
  | r + 1, m, N, M, l, hm, hN, h => by
    obtain ⟨N, rfl⟩ : ∃ n, N = n + 1 := ⟨N - 1, by omega⟩
    have a1 : ∀ {R : Type} (X : Option R), leK 0 (m : Int) X = X := fun X => leK_in (by omega) X
    have a2 : ∀ {R : Type} (X : Option R), leK (m : Int) (m : Int) X = X := fun X => leK_in (by omega) X
    have a3 : ∀ {R : Type} (X : Option R), lenK (m : Int) X = X := fun X => lenK_in (by omega) (by omega) X
    have e81 := g81_q hW room (m := m) (by omega)
    simp only [L40_20, B40_20]
    simp only [a1, a2, a3, Int.toNat_natCast, agreeK_two, agreeK_one, derefK_some]
    rw [e81, derefK_some]
    unfold fst at h
    rw [wts_len] at h
    cases hs : srch (wts k) room m k.1.length [] with
    | none =>
      rw [hs] at h
      show L40_20 N ((IntKind.wrap .i64 ((m : Int) + 1), ()), (k, room, ord, ()), ()) = _
      rw [w64 (by omega) (by omega), show (m : Int) + 1 = ((m + 1 : Nat) : Int) by omega]
      exact L40_20_q hW hroom ho hlen r (m + 1) N M l (by omega) (by omega) h
    | some l' =>
      rw [hs] at h
      injection h with h
      injection h with h1 h2
      subst h1
      subst h2
      have ha := srch_asg hroom (by rw [wts_len]; exact hs)
      have hal := ha.len
      rw [wts_len] at hal
      have e24 := L40_24_q (n := k.1.length) (M := m) (l := l') (ord := ord) hal (fun i hi => ha.rng i (by rw [wts_len]; exact hi)) ho (by omega) k.1 room (tbl (wts k) l' m) ord.length N (List.replicate m []) (Nat.le_refl _) (by omega) (by simp) (by rw [Nat.sub_self]; exact shrt_nil m)
      rw [List.take_length] at e24
      show derefK (L40_24 N ((IntKind.wrap .i64 ((ord.length : Int) - 1), ()), ((k.1, room, tbl (wts k) l' m, l'), List.replicate m ([] : List Int), ord, ()), ())) _ = _
      rw [w64 (by omega) (by omega), e24]
      rfl
theorem L41_12_q {k : Kit} (hW : WOK (wts k)) {room : Int} (hroom : 0 ≤ room) {ord : List Int} (ho : ∀ p ∈ ord, 0 ≤ p ∧ p < k.1.length) (hlen : ord.length ≤ 16) : ∀ (r m : Nat) (N : Nat), m + r = k.1.length + 1 → r + 1000 < N →
    L41_12 N ((room, (m : Int), ()), (k, ord, ()), ()) = some (match fst (wts k) room r m with
      | some x => .inl ((0, ()), (outP ord x, ()), ())
      | none => .inr ((), (), ()))
  | 0, m, N, hm, hN => by
    obtain ⟨N, rfl⟩ : ∃ n, N = n + 1 := ⟨N - 1, by omega⟩
    simp only [L41_12, B41_12]
    rw [dec_f (by omega)]
    rfl
  | r + 1, m, N, hm, hN => by
    obtain ⟨N, rfl⟩ : ∃ n, N = n + 1 := ⟨N - 1, by omega⟩
    have hn := hW.1
    rw [wts_len] at hn
    have e82 := g82_q hW room (m := m) (by omega)
    simp only [L41_12, B41_12]
    rw [dec_t (by omega), cond_true, e82, derefK_some]
    conv => rhs; unfold fst
    rw [wts_len]
    cases hs : srch (wts k) room m k.1.length [] with
    | none =>
      show L41_12 N ((room, IntKind.wrap .i64 ((m : Int) + 1), ()), (k, ord, ()), ()) = _
      rw [w64 (by omega) (by omega), show (m : Int) + 1 = ((m + 1 : Nat) : Int) by omega]
      exact L41_12_q hW hroom ho hlen r (m + 1) N (by omega) (by omega)
    | some l' =>
      have ha := srch_asg hroom (by rw [wts_len]; exact hs)
      have hal := ha.len
      rw [wts_len] at hal
      have e24 := L41_18_q (n := k.1.length) (M := m) (l := l') (ord := ord) hal (fun i hi => ha.rng i (by rw [wts_len]; exact hi)) ho (by omega) ord.length N (List.replicate m []) (Nat.le_refl _) (by omega) (by simp) (by rw [Nat.sub_self]; exact shrt_nil m)
      rw [List.take_length] at e24
      show leK 0 (m : Int) (leK (m : Int) (m : Int) (lenK (m : Int) (derefK (L41_18 N ((l', IntKind.wrap .i64 ((ord.length : Int) - 1), ()), (List.replicate ((m : Int)).toNat ([] : List Int), ord, ()), ())) _))) = _
      rw [leK_in (by omega), leK_in (by omega), lenK_in (by omega) (by omega), w64 (by omega) (by omega), Int.toNat_natCast, e24]
      rfl

/-! ## Pack -/
def ordA (k : Kit) : List Int := (finO (alK k)).1
def pckR (k : Kit) (room : Int) : List (List Int) × Int :=
  if valid k = true then (if rng room 1 1000000 = true then (if k.1.length ≤ 8 then (if (ordA k).length < k.1.length then ([], 3) else match fst (wts k) room (k.1.length + 1) 0 with
    | some x => (outP (ordA k) x, 0)
    | none => ([], 3)) else ([], 2)) else ([], 1)) else ([], 80)
theorem ordA_in {k : Kit} (hf : Fine k) : (∀ p ∈ ordA k, 0 ≤ p ∧ p < k.1.length) ∧ (ordA k).length ≤ 16 := by
  have h := finO_ok (alK_fine hf)
  refine ⟨h.rng, ?_⟩
  have h2 : (finO (alK k)).1.length ≤ k.1.length := (finO_len (alK k)).2
  have h16 := hf.parts
  exact Nat.le_trans h2 h16
theorem g41_eq (k : Kit) (hk : Small k) (room : Int) : g41 (k, room, ()) = some (((pckR k room).1, (pckR k room).2, ()), ()) := by
  show F41 fuel k room = _
  unfold F41 pckR
  rw [g33_eq k hk, derefK_some]
  cases hv : valid k with
  | false => rfl
  | true =>
  rw [if_pos rfl]
  show derefK (g57 (room, 1, 1000000, ())) _ = _
  rw [g57_eq, derefK_some]
  cases hr : rng room 1 1000000 with
  | false => rfl
  | true =>
  rw [if_pos rfl]
  have hf := fine_of k hv
  have hW := wok_of hf
  have h16 := hf.parts
  obtain ⟨ho1, ho2⟩ := ordA_in hf
  have hroom : 0 ≤ room := by
    unfold rng at hr
    rw [Bool.and_eq_true, decide_eq_true_eq, decide_eq_true_eq] at hr
    omega
  simp only [Bool.not_true, cond_false]
  by_cases h8 : k.1.length ≤ 8
  case neg => rw [dec_t (by omega), if_neg h8]; rfl
  rw [dec_f (by omega), if_pos h8, cond_false, g43_eq (by omega), derefK_some]
  show derefK (g50 (alK k, ())) _ = _
  rw [g50_eq (alK_small hk hf) (alK_fine hf), derefK_some]
  show (bif decide (((ordA k).length : Int) < (k.1.length : Int)) then _ else _) = _
  by_cases hl : (ordA k).length < k.1.length
  case pos => rw [dec_t (by omega), if_pos hl]; rfl
  rw [dec_f (by omega), if_neg hl, cond_false]
  have hfu := fuel_big
  have e := L41_12_q hW hroom ho1 ho2 (k.1.length + 1) 0 fuel (by omega) (by omega)
  refine (derefK_of e _).trans ?_
  cases fst (wts k) room (k.1.length + 1) 0 with
  | some x => rfl
  | none => rfl
theorem g40_eq (k : Kit) (hk : Small k) (room : Int) : g40 (k, room, ()) = some (((pckR k room).1, (pckR k room).2, ()), ()) := by
  show F40 fuel k room = _
  unfold F40 pckR
  rcases g48_eq k hk with ⟨hv, q, hq⟩ | ⟨hv, y, hy, hq⟩
  · rw [hq, hv]; rfl
  rw [hq, derefK_some, hv, if_pos rfl]
  simp only [Bool.not_true, cond_false]
  rw [g54_eq, derefK_some]
  cases hr : rng room 1 1000000 with
  | false => rfl
  | true =>
  rw [if_pos rfl]
  have hf := fine_of k hv
  have hW := wok_of hf
  have h16 := hf.parts
  obtain ⟨ho1, ho2⟩ := ordA_in hf
  have hroom : 0 ≤ room := by
    unfold rng at hr
    rw [Bool.and_eq_true, decide_eq_true_eq, decide_eq_true_eq] at hr
    omega
  simp only [Bool.not_true, cond_false]
  by_cases h8 : k.1.length ≤ 8
  case neg => rw [dec_t (by omega), if_neg h8]; rfl
  have hfu := fuel_big
  rw [dec_f (by omega), if_pos h8, cond_false]
  refine (derefK_of (L40_10_q k h16 room fuel (by omega)) _).trans ?_
  have hflat : (alv k.1.length).flatten = rangeI k.1.length := alv_flat _
  have hgood : goodFrom k.1.length [] (alv k.1.length).flatten = true := by
    rw [goodFrom_iff, hflat]
    exact ⟨fun x hx => rangeI_mem.1 hx, rangeI_nodup _, fun x _ h => by cases h⟩
  rcases g78_eq k (alv k.1.length) h16 (by rw [alv_len]; omega) (alK_small hk hf).van (by rw [hflat, rangeI_length]; omega) with ⟨h1, _⟩ | ⟨_, many, ab, be, lies, hst, e78⟩
  · rw [hgood] at h1; cases h1
  refine (derefK_of e78 _).trans ?_
  rw [derefK_some]
  refine (derefK_of (g49_eq (k := alK k) (alK_small hk hf) (alK_fine hf) (y := (alK k, (ab, be))) ⟨rfl, many, lies, hst⟩) _).trans ?_
  show (bif decide (((ordA k).length : Int) < (k.1.length : Int)) then _ else _) = _
  by_cases hl : (ordA k).length < k.1.length
  case pos => rw [dec_t (by omega), if_pos hl]; rfl
  rw [dec_f (by omega), if_neg hl, cond_false]
  refine (derefK_of (g79_q k (by omega) room) _).trans ?_
  by_cases hex : ∃ i : Nat, i < k.1.length ∧ gd (wts k) (i : Int) > room
  · have hno : fst (wts k) room (k.1.length + 1) 0 = none := by
      cases hs : fst (wts k) room (k.1.length + 1) 0 with
      | none => rfl
      | some x =>
        obtain ⟨i, hi, hgt⟩ := hex
        have ha := srch_asg hroom (fst_some (M := x.1) (l := x.2) hs).2.2.1
        have := asg_each hW ha (i := i) (by rw [wts_len]; exact hi)
        omega
    rw [hno]
    show (bif decide _ then _ else _) = _
    rw [dec_t hex]
    rfl
  · have hasg : Asg (wts k) room (wts k).length _ := asg_id (fun i hi hgt => hex ⟨i, by rw [wts_len] at hi; exact hi, hgt⟩)
    cases hs : fst (wts k) room (k.1.length + 1) 0 with
    | none => exact absurd (fst_none hs (wts k).length (Nat.zero_le _) (by rw [wts_len]; omega)) (srch_nil hW hasg)
    | some x =>
      obtain ⟨M, l⟩ := x
      show (bif decide _ then _ else _) = _
      rw [dec_f hex, cond_false]
      refine (derefK_of (L40_20_q hW hroom ho1 ho2 (k.1.length + 1) 0 fuel M l (by omega) (by omega) hs) _).trans ?_
      rfl
theorem g42_self (a : List (List Int)) (ha : a.length ≤ 1048576) (hb : ∀ x ∈ a, x.length ≤ 1048576) : g42 (a, a, ()) = some ((true, ()), ()) := by
  show F42 fuel a a = _
  unfold F42
  have hfu := fuel_big
  have e := loopF (L := L42_4) (fun i => ((a, a, (i : Int), ()), (), ())) (.inr ((), (), ())) 0 a.length (N := fuel) (by omega)
    (fun N => by
      simp only [L42_4, B42_4]
      rw [dec_f (by omega)]
      rfl)
    (fun N i _ hi => by
      simp only [L42_4, B42_4]
      rw [dec_t (by omega), cond_true, getI_gd (by omega) (by omega), getI_gd (by omega) (by omega), g18_self _ (hb _ (gd_mem (by omega) (by omega))), derefK_some, w64 (by omega) (by omega)]
      rfl)
  have e' : L42_4 fuel ((a, a, 0, ()), (), ()) = _ := e
  rw [show ((a.length : Int) != (a.length : Int)) = false by simp, cond_false, e']
  rfl
theorem goOut_shrt {n M : Nat} {l : List Int} (hl : l.length = n) (hr : ∀ i : Nat, i < n → 0 ≤ gd l (i : Int) ∧ gd l (i : Int) < M) : ∀ (r : List Int) (B : Nat) (o : List (List Int)), (∀ p ∈ r, 0 ≤ p ∧ p < n) → o.length = M → Shrt B o → Shrt (B + r.length) (goOut l r o)
  | [], B, o, _, _, h => h
  | p :: r, B, o, hp, ho, h => by
    have h1 := hp p List.mem_cons_self
    have hv := hr p.toNat (by omega)
    rw [show ((p.toNat : Nat) : Int) = p by omega] at hv
    have := goOut_shrt hl hr r (B + 1) _ (fun q hq => hp q (List.mem_cons_of_mem _ hq)) (by rw [List.length_set]; exact ho) (shrt_step h hv.1 (by omega) p)
    unfold goOut
    rw [List.length_cons, show B + (r.length + 1) = B + 1 + r.length by omega]
    exact this
theorem pckR_len (k : Kit) (room : Int) : (pckR k room).1.length ≤ 1048576 ∧ ∀ x ∈ (pckR k room).1, x.length ≤ 1048576 := by
  have hnil : (([] : List (List Int))).length ≤ 1048576 ∧ ∀ x ∈ ([] : List (List Int)), x.length ≤ 1048576 := by simp
  unfold pckR
  by_cases hv : valid k = true
  case neg => rw [if_neg hv]; exact hnil
  rw [if_pos hv]
  by_cases hr : rng room 1 1000000 = true
  case neg => rw [if_neg hr]; exact hnil
  rw [if_pos hr]
  have hf := fine_of k hv
  have h16 := hf.parts
  obtain ⟨ho1, ho2⟩ := ordA_in hf
  have hroom : 0 ≤ room := by
    unfold rng at hr
    rw [Bool.and_eq_true, decide_eq_true_eq, decide_eq_true_eq] at hr
    omega
  by_cases h8 : k.1.length ≤ 8
  case neg => rw [if_neg h8]; exact hnil
  rw [if_pos h8]
  by_cases hl : (ordA k).length < k.1.length
  case pos => rw [if_pos hl]; exact hnil
  rw [if_neg hl]
  cases hs : fst (wts k) room (k.1.length + 1) 0 with
  | none => exact hnil
  | some x =>
    obtain ⟨M, l⟩ := x
    obtain ⟨_, h2, h3, _⟩ := fst_some hs
    have ha := srch_asg hroom h3
    have hal := ha.len
    rw [wts_len] at hal
    have hsh := goOut_shrt (n := k.1.length) (M := M) hal (fun i hi => ha.rng i (by rw [wts_len]; exact hi)) (ordA k).reverse 0 (List.replicate M []) (fun p hp => ho1 p (List.mem_reverse.1 hp)) (by simp) (shrt_nil M)
    have hlen : (outP (ordA k) (M, l)).length = M := by
      show (goOut l (ordA k).reverse (List.replicate M [])).length = M
      rw [goOut_len, List.length_replicate]
    refine ⟨by show (outP (ordA k) (M, l)).length ≤ _; omega, fun x hx => ?_⟩
    obtain ⟨i, hi, e⟩ := List.mem_iff_getElem.1 hx
    have hi' : i < (goOut l (ordA k).reverse (List.replicate M [])).length := hi
    have h5 := hsh i hi'
    rw [List.length_reverse] at h5
    have : gd (goOut l (ordA k).reverse (List.replicate M [])) (i : Int) = x := gd_of (by rw [List.getElem?_eq_getElem hi']; exact congrArg some e)
    rw [this] at h5
    omega
theorem law12 (k : Kit) (hk : Small k) (room : Int) (hw : g21 () = some ((true, ()), ())) : g12 (k, room, ()) = some ((true, ()), ()) := by
  show F12 fuel k room = _
  unfold F12
  cases ((k.1.length : Int) == 8) with
  | true => rw [hw]; rfl
  | false =>
  obtain ⟨h1, h2⟩ := pckR_len k room
  rw [cond_false, g40_eq k hk, derefK_some, g41_eq k hk, derefK_some]
  show (bif (pckR k room).2 == (pckR k room).2 then _ else _) = _
  rw [show ((pckR k room).2 == (pckR k room).2) = true by simp, cond_true]
  refine (derefK_of (g42_self _ h1 h2) _).trans ?_
  show derefK (g21 ()) _ = _
  rw [hw]
  rfl
end Go.Proofs.Try.V
