/- Plain laws of layer 1: what the program buys, the whole. No condition beyond those typed in each theorem. -/
import Derived.Test.YtlhapfgcnfooeaaLw5
namespace Go.Proofs.Try.V
open Go.Vi
set_option maxRecDepth 100000

theorem counts68 (l : List Bun) (hl : Fine l) (hk : l.length ≤ 6) (price : Int) (m : Nat) (hm : m ≤ 2000) (o : List (List Int)) (ho : Tab l (m + 1) o 0) (T p : Int) (hT : T ≤ m) (hL : Least l T p) {N : Nat} (hN : 4000 < N) :
    ∃ r, Best l T p r ∧ L68_31 N ((price, T, l, (l.length : Int), 0, ()), (o, List.replicate l.length 0, ()), ()) = some ((price, ()), (r, ()), ()) := by
  obtain ⟨r, hr, r', h1, rfl⟩ := loop0 (L := L68_31) (fun (j : Nat) (s : Int × List Int) => ((price, s.1, l, (l.length : Int), (j : Int), ()), (o, s.2, ()), ()))
    (fun j s => s.1 ≤ m ∧ s.2.length = l.length ∧ (∀ x : Nat, j ≤ x → x < l.length → gd s.2 (x : Int) = 0) ∧ ∃ q, Least (l.drop j) s.1 q ∧ ∀ r', Best (l.drop j) s.1 q r' → Best l T p (s.2.take j ++ r'))
    (fun r => ∃ r' : List Int, Best l T p r' ∧ r = ((price, ()), (r', ()), ())) 3001 l.length (N := N) (s := (T, List.replicate l.length 0)) ⟨hT, by simp, fun x _ hx => gd_replicate (by omega) (by omega), p, hL, fun r' h => h⟩ (by omega)
    (fun N s ⟨_, q2, _, q, q4, q5⟩ => by
      rw [List.drop_length] at q4 q5
      obtain ⟨h1, _⟩ := q4
      revert q5
      generalize s.1 = t at h1
      cases h1
      intro q5
      have := q5 [] .nil
      rw [List.append_nil, ← q2, List.take_length] at this
      refine ⟨_, by simp only [L68_31, B68_31]; rw [dec_f (by omega), cond_false], _, this, rfl⟩)
    (fun N j s hc hj ⟨q1, q2, q3, q, q4, q5⟩ => by
      obtain ⟨o1, o2, o3⟩ := ho
      have hd : l.drop j = gd l (j : Int) :: l.drop (j + 1) := drop_nat hj
      obtain ⟨t, ht⟩ : ∃ t : Nat, s.1 = (t : Int) := ⟨s.1.toNat, by have := (q4.1.le (hl.drop j)).1; omega⟩
      have e := (o3 j (by omega) (by omega) t (by omega)).of_least (by rw [← ht]; exact q4) (hl.drop j) (by show _ < (1152921504606846976 : Int); omega)
      have hrow := o2 j (by omega)
      obtain ⟨k, k1, k2, k3⟩ := take68 l hl hk price m hm j hj o ⟨o1, o2, o3⟩ s.1 q q1 q4 s.2 q2 (q3 j (Nat.le_refl _) hj) (N := N) (by omega)
      have hb := hl _ (gd_mem (l := l) (i := (j : Int)) (by omega) (by omega))
      have hkb : (0 : Int) ≤ k * (gd l (j : Int)).1 := Int.mul_nonneg (by omega) (by omega)
      refine .inl ⟨(s.1 - k * (gd l (j : Int)).1, s.2.set j k), ⟨by simp only; omega, by rw [List.length_set, q2], fun x h1 h2 => ?_, _, k2, fun r' h => ?_⟩, ?_⟩
      · simp only
        rw [gd_setN (by omega), if_neg (by omega)]
        exact q3 x (by omega) h2
      · simp only at h ⊢
        have h2 := q5 (k :: r') (by rw [hd]; exact .cons k1 h)
        have e2 : (s.2.set j (k : Int)).take (j + 1) = s.2.take j ++ [(k : Int)] := by
          rw [take_nat (by rw [List.length_set]; omega), gd_setN (by omega), if_pos rfl, List.take_set_of_le (Nat.le_refl _)]
        rw [e2, List.append_assoc]
        exact h2
      · simp only [L68_31, B68_31]
        rw [dec_t (by omega), cond_true, getI_gd (by omega) (by omega), inR_in (by omega) (by omega), getI_gd (by omega) (by omega), inR_in (by omega) (by omega), getI_gd (by omega) (by omega), getI_gd (by omega) (by omega)]
        have e' : gd (gd o (j : Int)) s.1 = q := by rw [ht]; exact e
        rw [e', k3, derefK_some]
        simp only
        rw [wI (by omega) (by omega)]
        rfl)
  exact ⟨r', h1, hr⟩

/-! ## What is bought -/
def NoBuy (l : List Bun) (n : Nat) : Prop := ∀ t : Nat, n ≤ t → t ≤ n + 1000 → ∀ p, ¬ Pays l t p
/-- The cheapest, and of these the fewest tokens. -/
def Opt (l : List Bun) (n t : Nat) (p : Int) : Prop := n ≤ t ∧ t ≤ n + 1000 ∧ Pays l t p ∧ ∀ t' : Nat, n ≤ t' → t' ≤ n + 1000 → ∀ p', Pays l t' p' → p ≤ p' ∧ (p' = p → t ≤ t')
def Buys (l : List Bun) (n : Nat) (r : List Int) (p : Int) : Prop := ∃ t, Opt l n t p ∧ Best l t p r
theorem Opt.uniq {l : List Bun} {n t t' : Nat} {p p' : Int} (h : Opt l n t p) (h' : Opt l n t' p') : t = t' ∧ p = p' := by
  have a := h.2.2.2 t' h'.1 h'.2.1 p' h'.2.2.1
  have b := h'.2.2.2 t h.1 h.2.1 p h.2.2.1
  have e : p = p' := by omega
  have := a.2 e.symm
  have := b.2 e
  omega
theorem Buys.uniq {l : List Bun} {n : Nat} {r r' : List Int} {p p' : Int} (h : Buys l n r p) (h' : Buys l n r' p') : r = r' ∧ p = p' := by
  obtain ⟨t, h1, h2⟩ := h
  obtain ⟨t', h3, h4⟩ := h'
  obtain ⟨rfl, rfl⟩ := h1.uniq h3
  exact ⟨h2.uniq h4, rfl⟩
theorem Opt.least {l : List Bun} {n t : Nat} {p : Int} (h : Opt l n t p) : Least l t p := ⟨h.2.2.1, fun q hq => (h.2.2.2 t h.1 h.2.1 q hq).1⟩
theorem First.opt {N : Int} {l : List Bun} {c : List Int} {n t : Nat} (hc : ∀ t : Nat, t < n + 1001 → Ent N l t (gd c (t : Int))) (h : First c n (n + 1001) t) (hlt : gd c (t : Int) < N) : Opt l n t (gd c (t : Int)) := by
  obtain ⟨h1, h2, h3⟩ := h
  refine ⟨h1, by omega, ((hc t h2).least hlt).1, fun t' q1 q2 p' hp => ?_⟩
  have a := h3 t' q1 (by omega)
  have b := (hc t' (by omega)).2.2 p' hp
  exact ⟨by omega, fun e => a.2 (by omega)⟩
theorem First.noBuy {N : Int} {l : List Bun} {c : List Int} {n t : Nat} (hl : Fine l) (hn : 1000000 * ((n : Int) + 1000) < N) (hc : ∀ t : Nat, t < n + 1001 → Ent N l t (gd c (t : Int))) (h : First c n (n + 1001) t) (hlt : gd c (t : Int) = N) : NoBuy l n := by
  obtain ⟨h1, h2, h3⟩ := h
  intro t' q1 q2 p hp
  have a := (h3 t' q1 (by omega)).1
  have b := (hc t' (by omega)).2.2 p hp
  have := hp.le hl
  omega
theorem same68_4 : @L10068_4 = @L68_4 := by kernel_rfl
theorem same68_10 : @L10068_10 = @L68_10 := by kernel_rfl
theorem same68_22 : @L10068_22 = @L68_22 := by kernel_rfl
theorem same68_31 : @L10068_31 = @L68_31 := by kernel_rfl
theorem g68_made (l : List Bun) (hl : Fine l) (hk : l.length ≤ 6) (n : Nat) (hn : n ≤ 1000) :
    (NoBuy l n ∧ g68 (l, (n : Int), ()) = none) ∨ ∃ r p, Buys l n r p ∧ g68 (l, (n : Int), ()) = some ((r, p, ()), ()) := by
  have hf := fuel_ge
  have e0 : g68 (l, (n : Int), ()) = F68 fuel l n := rfl
  rw [e0]
  unfold F68
  have w1 : IntKind.wrap .i64 ((l.length : Int) + 1) = ((l.length + 1 : Nat) : Int) := by rw [wI (by omega) (by omega)]; omega
  have w2 : IntKind.wrap .i64 ((n : Int) + 1000) = ((n + 1000 : Nat) : Int) := by rw [wI (by omega) (by omega)]; omega
  have w3 : IntKind.wrap .i64 ((l.length : Int) - 1) = (l.length : Int) - 1 := wI (by omega) (by omega)
  rw [w1, w2, leK_in (by omega), leK_in (by omega), lenK_in (by omega) (by omega), Int.toNat_natCast]
  obtain ⟨o, h1, h2, e1⟩ := fill68 l n (n + 1000) (by omega) hk (N := fuel) (by omega)
  rw [e1, derefK_some]
  simp only
  have hgo : gd o (l.length : Int) = List.replicate (n + 1000 + 1) NO := h2 l.length (by omega)
  rw [inR_in (by omega) (by omega), getI_gd (by omega) (by omega), hgo, inR_in (by omega) (by rw [List.length_replicate]; omega), getI_gd (by omega) (by omega), hgo, getI_gd (by omega) (by rw [List.length_replicate]; omega), w3, Int.toNat_natCast]
  have hgs : ∀ j : Nat, gd (o.set l.length ((List.replicate (n + 1000 + 1) NO).set (0 : Int).toNat 0)) (j : Int) = if j = l.length then (List.replicate (n + 1000 + 1) NO).set (0 : Int).toNat 0 else gd o (j : Int) := gd_setN (by omega)
  have ht : Tab l (n + 1000 + 1) (o.set l.length ((List.replicate (n + 1000 + 1) NO).set (0 : Int).toNat 0)) l.length := by
    refine ⟨by rw [List.length_set, h1], fun i hi => ?_, fun i q1 q2 t q3 => ?_⟩
    · rw [hgs]
      by_cases e : i = l.length
      · rw [if_pos e, List.length_set, List.length_replicate]
      · rw [if_neg e, h2 i (by omega), List.length_replicate]
    · obtain rfl : i = l.length := by omega
      rw [hgs, if_pos rfl, List.drop_length, show (0 : Int).toNat = 0 from rfl, gd_setN (by rw [List.length_replicate]; omega)]
      by_cases e : t = 0
      · rw [if_pos e, e]; exact .nil_zero (by decide)
      · rw [if_neg e, gd_replicate (by omega) (by omega)]; exact .nil_pos (by omega)
  obtain ⟨o2, t2, e2⟩ := tab68 l hl n ((n + 1000 : Nat) : Int) (n + 1000 + 1) (by omega) hk _ ht (N := fuel) (by omega)
  rw [e2, derefK_some]
  simp only
  obtain ⟨u1, u2, u3⟩ := t2
  have u20 := u2 0 (by omega)
  obtain ⟨t, hfst, e3⟩ := arg68 l n (n + 1000) (by omega) (by omega) o2 (by omega) u20 (N := fuel) (by omega)
  rw [e3, derefK_some]
  simp only
  have hft := hfst
  obtain ⟨v1, v2, _⟩ := hft
  have hent : ∀ t : Nat, t < n + 1001 → Ent NO l t (gd (gd o2 0) (t : Int)) := fun t ht => u3 0 (Nat.le_refl _) (Nat.zero_le _) t (by omega)
  rw [inR_in (by omega) (by omega), getI_gd (by omega) (by omega)]
  have u20' : (gd o2 0).length = n + 1000 + 1 := u20
  rw [inR_in (by omega) (by omega), getI_gd (by omega) (by omega), getI_gd (by omega) (by omega)]
  by_cases hno : gd (gd o2 0) (t : Int) = NO
  · left
    refine ⟨hfst.noBuy hl (by show _ < (1152921504606846976 : Int); omega) hent hno, ?_⟩
    rw [hno, beq_self_eq_true, cond_true]
  · right
    have hlt : gd (gd o2 0) (t : Int) < NO := by have := (hent t (by omega)).1; omega
    have ho := hfst.opt hent hlt
    obtain ⟨r, hb, e4⟩ := counts68 l hl hk (gd (gd o2 0) (t : Int)) (n + 1000) (by omega) o2 ⟨u1, u2, u3⟩ (t : Int) (gd (gd o2 0) (t : Int)) (by omega) ho.least (N := fuel) (by omega)
    refine ⟨r, gd (gd o2 0) (t : Int), ⟨t, ho, hb⟩, ?_⟩
    rw [beq_false_of_ne hno, cond_false, leK_in (by omega), leK_in (by omega), lenK_in (by omega) (by omega), Int.toNat_natCast, e4]
    rfl
theorem g68_nil (l : List Bun) (hl : Fine l) (hk : l.length ≤ 6) (n : Nat) (hn : n ≤ 1000) :
    (NoBuy l n ∧ g10068 (l, (n : Int), ()) = some (([], 0, ()), ())) ∨ ∃ r p, Buys l n r p ∧ g10068 (l, (n : Int), ()) = none := by
  have hf := fuel_ge
  have e0 : g10068 (l, (n : Int), ()) = F10068 fuel l n := rfl
  rw [e0]
  unfold F10068
  rw [same68_4, same68_10, same68_22, same68_31]
  have w1 : IntKind.wrap .i64 ((l.length : Int) + 1) = ((l.length + 1 : Nat) : Int) := by rw [wI (by omega) (by omega)]; omega
  have w2 : IntKind.wrap .i64 ((n : Int) + 1000) = ((n + 1000 : Nat) : Int) := by rw [wI (by omega) (by omega)]; omega
  have w3 : IntKind.wrap .i64 ((l.length : Int) - 1) = (l.length : Int) - 1 := wI (by omega) (by omega)
  rw [w1, w2, leK_in (by omega), leK_in (by omega), lenK_in (by omega) (by omega), Int.toNat_natCast]
  obtain ⟨o, h1, h2, e1⟩ := fill68 l n (n + 1000) (by omega) hk (N := fuel) (by omega)
  rw [e1, derefK_some]
  simp only
  have hgo : gd o (l.length : Int) = List.replicate (n + 1000 + 1) NO := h2 l.length (by omega)
  rw [inR_in (by omega) (by omega), getI_gd (by omega) (by omega), hgo, inR_in (by omega) (by rw [List.length_replicate]; omega), getI_gd (by omega) (by omega), hgo, getI_gd (by omega) (by rw [List.length_replicate]; omega), w3, Int.toNat_natCast]
  have hgs : ∀ j : Nat, gd (o.set l.length ((List.replicate (n + 1000 + 1) NO).set (0 : Int).toNat 0)) (j : Int) = if j = l.length then (List.replicate (n + 1000 + 1) NO).set (0 : Int).toNat 0 else gd o (j : Int) := gd_setN (by omega)
  have ht : Tab l (n + 1000 + 1) (o.set l.length ((List.replicate (n + 1000 + 1) NO).set (0 : Int).toNat 0)) l.length := by
    refine ⟨by rw [List.length_set, h1], fun i hi => ?_, fun i q1 q2 t q3 => ?_⟩
    · rw [hgs]
      by_cases e : i = l.length
      · rw [if_pos e, List.length_set, List.length_replicate]
      · rw [if_neg e, h2 i (by omega), List.length_replicate]
    · obtain rfl : i = l.length := by omega
      rw [hgs, if_pos rfl, List.drop_length, show (0 : Int).toNat = 0 from rfl, gd_setN (by rw [List.length_replicate]; omega)]
      by_cases e : t = 0
      · rw [if_pos e, e]; exact .nil_zero (by decide)
      · rw [if_neg e, gd_replicate (by omega) (by omega)]; exact .nil_pos (by omega)
  obtain ⟨o2, t2, e2⟩ := tab68 l hl n ((n + 1000 : Nat) : Int) (n + 1000 + 1) (by omega) hk _ ht (N := fuel) (by omega)
  rw [e2, derefK_some]
  simp only
  obtain ⟨u1, u2, u3⟩ := t2
  have u20 := u2 0 (by omega)
  obtain ⟨t, hfst, e3⟩ := arg68 l n (n + 1000) (by omega) (by omega) o2 (by omega) u20 (N := fuel) (by omega)
  rw [e3, derefK_some]
  simp only
  have hft := hfst
  obtain ⟨v1, v2, _⟩ := hft
  have hent : ∀ t : Nat, t < n + 1001 → Ent NO l t (gd (gd o2 0) (t : Int)) := fun t ht => u3 0 (Nat.le_refl _) (Nat.zero_le _) t (by omega)
  rw [inR_in (by omega) (by omega), getI_gd (by omega) (by omega)]
  have u20' : (gd o2 0).length = n + 1000 + 1 := u20
  rw [inR_in (by omega) (by omega), getI_gd (by omega) (by omega), getI_gd (by omega) (by omega)]
  by_cases hno : gd (gd o2 0) (t : Int) = NO
  · left
    refine ⟨hfst.noBuy hl (by show _ < (1152921504606846976 : Int); omega) hent hno, ?_⟩
    rw [hno, beq_self_eq_true, cond_true]
  · right
    have hlt : gd (gd o2 0) (t : Int) < NO := by have := (hent t (by omega)).1; omega
    have ho := hfst.opt hent hlt
    obtain ⟨r, hb, e4⟩ := counts68 l hl hk (gd (gd o2 0) (t : Int)) (n + 1000) (by omega) o2 ⟨u1, u2, u3⟩ (t : Int) (gd (gd o2 0) (t : Int)) (by omega) ho.least (N := fuel) (by omega)
    refine ⟨r, gd (gd o2 0) (t : Int), ⟨t, ho, hb⟩, ?_⟩
    rw [beq_false_of_ne hno, cond_false, leK_in (by omega), leK_in (by omega), lenK_in (by omega) (by omega), Int.toNat_natCast, e4]
    rfl
theorem buys_noBuy {l : List Bun} {n : Nat} {r : List Int} {p : Int} (h : Buys l n r p) : ¬ NoBuy l n := by
  obtain ⟨t, h1, _⟩ := h
  exact fun hn => hn t h1.1 h1.2.1 p h1.2.2.1
theorem g68_eq (l : List Bun) (hl : Fine l) (hk : l.length ≤ 6) (n : Nat) (hn : n ≤ 1000) :
    (NoBuy l n ∧ g10068 (l, (n : Int), ()) = some (([], 0, ()), ())) ∨ ∃ r p, Buys l n r p ∧ g68 (l, (n : Int), ()) = some ((r, p, ()), ()) ∧ g10068 (l, (n : Int), ()) = none := by
  rcases g68_nil l hl hk n hn with h | ⟨r, p, h1, h2⟩
  · exact .inl h
  · rcases g68_made l hl hk n hn with h | ⟨r, p, h3, h4⟩
    · exact absurd h.1 (buys_noBuy h1)
    · exact .inr ⟨r, p, h3, h4, h2⟩
end Go.Proofs.Try.V
