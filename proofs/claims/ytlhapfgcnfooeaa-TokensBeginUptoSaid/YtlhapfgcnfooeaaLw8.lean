/- Plain laws of layer 1: what the document buys. No condition beyond those typed in each theorem. -/
import Derived.Test.YtlhapfgcnfooeaaLw7
namespace Go.Proofs.Try.V
open Go.Vi
set_option maxRecDepth 100000

theorem nzK_in {R : Type} {a : Int} (h : a ≠ 0) (k : Option R) : nzK a k = k := by unfold nzK; rw [if_neg h]
/-- The cheapest by the document's prices. -/
theorem arg15 (f : Fair) (n : Nat) (hn : n ≤ 1000) (c : List Int) (h1 : c.length = n + 1000 + 1) {N : Nat} (hN : 4000 < N) :
    ∃ t, First c n (n + 1001) t ∧ L15_11 N (((n : Int), (n : Int), ()), (f, c, ()), ()) = some (((t : Int), ()), (f, c, ()), ()) := by
  obtain ⟨r, hr, t, h1, rfl⟩ := loop0 (L := L15_11) (fun (j : Nat) (t : Nat) => (((t : Int), ((n + j : Nat) : Int), ()), (f, c, ()), ()))
    (fun j t => n ≤ t ∧ (t < n + j ∨ t = n) ∧ ∀ t' : Nat, n ≤ t' → t' < n + j → gd c (t : Int) ≤ gd c (t' : Int) ∧ (gd c (t' : Int) = gd c (t : Int) → t ≤ t'))
    (fun r => ∃ t : Nat, First c n (n + 1001) t ∧ r = (((t : Int), ()), (f, c, ()), ())) 0 1001 (N := N) (s := n) ⟨by omega, by omega, fun t' h1 h2 => by omega⟩ (by omega)
    (fun N t h => ⟨_, by simp only [L15_11, B15_11]; rw [dec_f (by omega), cond_false], t, ⟨h.1, by omega, fun t' h1 h2 => h.2.2 t' h1 (by omega)⟩, rfl⟩)
    (fun N j t _ hj ⟨q1, q2, q3⟩ => by
      left
      have e3 : ∀ {α : Type} (x : Nat), x ≤ n + 1000 → ∀ (k : Int → Option α), getI c (x : Int) k = k (gd c (x : Int)) := fun x hx k => getI_gd (by omega) (by omega) k
      have e4 : ∀ {α : Type} (x : Nat), x ≤ n + 1000 → ∀ (k : Option α), inR (x : Int) c.length k = k := fun x hx k => inR_in (by omega) (by omega) k
      have w3 : IntKind.wrap .i64 (((n + j : Nat) : Int) + 1) = ((n + (j + 1) : Nat) : Int) := by rw [wI (by omega) (by omega)]; omega
      simp only [L15_11, B15_11, w3]
      rw [dec_t (by omega), cond_true, e4 _ (by omega), e3 _ (by omega), e4 _ (by omega), e3 _ (by omega)]
      by_cases hlt : gd c ((n + j : Nat) : Int) < gd c (t : Int)
      · rw [dec_t hlt, cond_true]
        refine ⟨n + j, ⟨by omega, by omega, fun t' h1 h2 => ?_⟩, rfl⟩
        by_cases e : t' = n + j
        · subst e; exact ⟨Int.le_refl _, fun _ => Nat.le_refl _⟩
        · have := (q3 t' h1 (by omega)).1
          exact ⟨by omega, fun h => by omega⟩
      · rw [dec_f hlt, cond_false]
        refine ⟨t, ⟨q1, by omega, fun t' h1 h2 => ?_⟩, rfl⟩
        by_cases e : t' = n + j
        · subst e; exact ⟨by omega, fun _ => by omega⟩
        · exact q3 t' h1 (by omega))
  exact ⟨t, h1, hr⟩

/-- How many of one bundle, from above. -/
theorem count15 (f : Fair) (b : Bun) (l : List Bun) (hf : Fine (b :: l)) (best T p i : Int) (out c0 c : List Int) (m : Nat) (hm : m ≤ 2000) (hT : T = (m : Int)) (hc1 : c.length = m + 1) (hc : ∀ t : Nat, t ≤ m → Ent NR l t (gd c (t : Int))) (hL : Least (b :: l) T p) {N : Nat} (hN : 3000 < N) :
    ∃ k : Nat, MaxC b l T p k ∧ Least l (T - k * b.1) (p - k * b.2) ∧ L15_23 N ((best, T, p, i, Int.tdiv T b.1, ()), (f, out, b, c0, c, ()), ()) = some ((best, T, p, i, (k : Int), ()), (f, out, b, c0, ()), ()) := by
  have hb := hf b (List.mem_cons_self ..)
  have hle := hL.1.le hf
  have hl : Fine l := hf.tail
  rw [Int.tdiv_eq_ediv_of_nonneg (by omega)]
  obtain ⟨d, hd⟩ : ∃ d : Nat, T / b.1 = (d : Int) := ⟨(T / b.1).toNat, by have := Int.ediv_nonneg (a := T) (b := b.1) (by omega) (by omega); omega⟩
  rw [hd]
  have hdT : (d : Int) ≤ T := by rw [← hd]; exact Int.ediv_le_self _ (by omega)
  have hend : ∀ j : Int, (d : Int) < j → ¬ Pays l (T - j * b.1) (p - j * b.2) := by
    intro j hj
    refine Pays.neg hl ?_
    have h1 := Int.lt_ediv_add_one_mul_self T (show 0 < b.1 by omega)
    have h2 := Int.mul_le_mul_of_nonneg_right (show T / b.1 + 1 ≤ j by omega) (show (0 : Int) ≤ b.1 by omega)
    omega
  have hk0 := Pays.count hL.1
  obtain ⟨r, hr, k, q1, q2, rfl⟩ := loopM (L := L15_23) (fun k : Nat => ((best, T, p, i, (k : Int), ()), (f, out, b, c0, c, ()), ()))
    (fun k => k ≤ d ∧ ∀ j : Int, (k : Int) < j → ¬ Pays l (T - j * b.1) (p - j * b.2))
    (fun r => ∃ k : Nat, MaxC b l T p k ∧ Least l (T - k * b.1) (p - k * b.2) ∧ r = ((best, T, p, i, (k : Int), ()), (f, out, b, c0, ()), ())) 0 (fun k => k)
    (fun N k _ ⟨hk, hP⟩ => by
      have hfin : Pays l (T - k * b.1) (p - k * b.2) → ∃ r, some ((best, T, p, i, (k : Int), ()), (f, out, b, c0, ()), ()) = some r ∧ ∃ k : Nat, MaxC b l T p k ∧ Least l (T - k * b.1) (p - k * b.2) ∧ r = ((best, T, p, i, (k : Int), ()), (f, out, b, c0, ()), ()) := fun h =>
        ⟨_, rfl, k, ⟨by omega, h, fun j hj hp => by
          by_cases hjk : j ≤ k
          · exact hjk
          · exact absurd hp (hP j (by omega))⟩, hL.rest (by omega) h, rfl⟩
      have hnext : 0 < k → ¬ Pays l (T - k * b.1) (p - k * b.2) → k - 1 ≤ d ∧ ∀ j : Int, ((k - 1 : Nat) : Int) < j → ¬ Pays l (T - j * b.1) (p - j * b.2) := fun h0 h => ⟨by omega, fun j hj => by
        by_cases e : j = k
        · rw [e]; exact h
        · exact hP j (by omega)⟩
      simp only [L15_23, B15_23]
      by_cases h0 : (k : Int) > 0
      · have hkT : (k : Int) * b.1 ≤ T := by
          have h1 : (k : Int) ≤ T / b.1 := by rw [hd]; omega
          have h2 := Int.mul_le_mul_of_nonneg_right h1 (show (0 : Int) ≤ b.1 by omega)
          have h3 := Int.ediv_mul_le T (show b.1 ≠ 0 by omega)
          omega
        have hk2 : (0 : Int) ≤ k * b.2 := Int.mul_nonneg (by omega) (by omega)
        have hk1 : (0 : Int) ≤ k * b.1 := Int.mul_nonneg (by omega) (by omega)
        have hk3 : (k : Int) * b.2 ≤ 2000 * 1000000 := Int.mul_le_mul (by omega) hb.2.2.2 (by omega) (by omega)
        have w1 : IntKind.wrap .i64 ((k : Int) * b.2) = (k : Int) * b.2 := wI (by omega) (by omega)
        have w2 : IntKind.wrap .i64 ((k : Int) * b.1) = (k : Int) * b.1 := wI (by omega) (by omega)
        have w3 : IntKind.wrap .i64 ((k : Int) - 1) = ((k - 1 : Nat) : Int) := by rw [wI (by omega) (by omega)]; omega
        obtain ⟨t1, ht1⟩ : ∃ t1 : Nat, (t1 : Int) = T - (k : Int) * b.1 := ⟨(T - (k : Int) * b.1).toNat, by omega⟩
        have w4 : IntKind.wrap .i64 (T - (k : Int) * b.1) = (t1 : Int) := by rw [wI (by omega) (by omega), ht1]
        rw [dec_t h0, cond_true, w1, w2, w3]
        by_cases hgt : (k : Int) * b.2 > p
        · rw [dec_t hgt, cond_true]
          refine .inl ⟨k - 1, hnext (by omega) fun h => ?_, by omega, rfl⟩
          have := h.le hl
          omega
        · rw [dec_f hgt, cond_false, w4, inR_in (by omega) (by omega), getI_gd (by omega) (by omega), wI (by omega) (by omega)]
          have hE := hc t1 (by omega)
          by_cases heq : gd c (t1 : Int) = p - (k : Int) * b.2
          · rw [heq, bne_self_eq_false, cond_false]
            refine .inr (hfin ?_)
            rw [← ht1, ← heq]
            rcases hE.2.1 with h | h
            · have : NR = 1125899906842624 := rfl
              omega
            · exact h
          · rw [bne_iff_ne.2 heq, cond_true]
            refine .inl ⟨k - 1, hnext (by omega) fun h => heq ?_, by omega, rfl⟩
            have h2 := hL.rest (by omega) h
            rw [← ht1] at h2
            exact hE.of_least h2 hl (by show _ < (1125899906842624 : Int); omega)
      · rw [dec_f h0, cond_false]
        refine .inr (hfin ?_)
        obtain ⟨j, hj⟩ := hk0
        obtain rfl : k = 0 := by omega
        by_cases hj0 : j = 0
        · rw [hj0] at hj; exact hj
        · exact absurd hj (hP j (by omega)))
    d N d (Nat.le_refl _) ⟨Nat.le_refl _, hend⟩ (by omega)
  exact ⟨k, q1, q2, hr⟩

theorem counts15 (f : Fair) (hl : Fine f.2.2.2.2.1) (hk : f.2.2.2.2.1.length ≤ 6) (best : Int) (c0 : List Int) (T p : Int) (hT : T ≤ 2000) (hL : Least f.2.2.2.2.1 T p) {N : Nat} (hN : 5000 < N) :
    ∃ r, Best f.2.2.2.2.1 T p r ∧ L15_18 N ((best, T, p, 0, ()), (f, [], c0, ()), ()) = some ((best, ()), (r, c0, ()), ()) := by
  obtain ⟨r, hr, r', h1, rfl⟩ := loop0 (L := L15_18) (fun (j : Nat) (s : Int × Int × List Int) => ((best, s.1, s.2.1, (j : Int), ()), (f, s.2.2, c0, ()), ()))
    (fun j s => s.1 ≤ 2000 ∧ s.2.2.length = j ∧ Least (f.2.2.2.2.1.drop j) s.1 s.2.1 ∧ ∀ r', Best (f.2.2.2.2.1.drop j) s.1 s.2.1 r' → Best f.2.2.2.2.1 T p (s.2.2 ++ r'))
    (fun r => ∃ r' : List Int, Best f.2.2.2.2.1 T p r' ∧ r = ((best, ()), (r', c0, ()), ())) 3001 f.2.2.2.2.1.length (N := N) (s := (T, p, [])) ⟨hT, rfl, hL, fun r' h => h⟩ (by omega)
    (fun N s ⟨_, _, q4, q5⟩ => by
      rw [List.drop_length] at q4 q5
      obtain ⟨h1, _⟩ := q4
      revert q5
      generalize s.1 = t at h1
      generalize s.2.1 = q at h1
      cases h1
      intro q5
      have := q5 [] .nil
      rw [List.append_nil] at this
      refine ⟨_, by simp only [L15_18, B15_18]; rw [dec_f (by omega), cond_false], _, this, rfl⟩)
    (fun N j s hc hj ⟨q1, q2, q4, q5⟩ => by
      left
      have hd : f.2.2.2.2.1.drop j = gd f.2.2.2.2.1 (j : Int) :: f.2.2.2.2.1.drop (j + 1) := drop_nat hj
      have hle := q4.1.le (hl.drop j)
      obtain ⟨t, ht⟩ : ∃ t : Nat, s.1 = (t : Int) := ⟨s.1.toNat, by omega⟩
      obtain ⟨c, c1, c2, c3⟩ := g45_eq f hl hk (j + 1) (by omega) t (by omega)
      have hb := hl _ (gd_mem (l := f.2.2.2.2.1) (i := (j : Int)) (by omega) (by omega))
      have q4' := q4
      rw [hd] at q4'
      have hfd : Fine (gd f.2.2.2.2.1 (j : Int) :: f.2.2.2.2.1.drop (j + 1)) := by rw [← hd]; exact hl.drop j
      obtain ⟨k, k1, k2, k3⟩ := count15 f (gd f.2.2.2.2.1 (j : Int)) _ hfd best s.1 s.2.1 (j : Int) s.2.2 c0 c t (by omega) ht c1 c2 q4' (N := N) (by omega)
      have hkb : (0 : Int) ≤ k * (gd f.2.2.2.2.1 (j : Int)).1 := Int.mul_nonneg (by omega) (by omega)
      have hkb2 : (0 : Int) ≤ k * (gd f.2.2.2.2.1 (j : Int)).2 := Int.mul_nonneg (by omega) (by omega)
      have hk2 := k2.1.le (hl.drop (j + 1))
      refine ⟨(s.1 - k * (gd f.2.2.2.2.1 (j : Int)).1, s.2.1 - k * (gd f.2.2.2.2.1 (j : Int)).2, s.2.2 ++ [(k : Int)]), ⟨by simp only; omega, by simp [q2], k2, fun r' h => ?_⟩, ?_⟩
      · have h2 := q5 (k :: r') (by rw [hd]; exact .cons k1 h)
        rw [List.append_assoc]
        exact h2
      · simp only [L15_18, B15_18]
        have ew : IntKind.wrap .i64 ((j : Int) + 1) = ((j + 1 : Nat) : Int) := by rw [wI (by omega) (by omega)]; omega
        have c3' : g45 (f, ((j + 1 : Nat) : Int), s.1, ()) = some ((c, ()), ()) := by rw [ht]; exact c3
        have hdv : IntKind.wrap .i64 (Int.tdiv s.1 (gd f.2.2.2.2.1 (j : Int)).1) = Int.tdiv s.1 (gd f.2.2.2.2.1 (j : Int)).1 := by
          rw [Int.tdiv_eq_ediv_of_nonneg (by omega)]
          have h1 := Int.ediv_nonneg (a := s.1) (b := (gd f.2.2.2.2.1 (j : Int)).1) (by omega) (by omega)
          have h2 := Int.ediv_le_self (a := s.1) (gd f.2.2.2.2.1 (j : Int)).1 (by omega)
          exact wI (by omega) (by omega)
        have w1 : IntKind.wrap .i64 ((k : Int) * (gd f.2.2.2.2.1 (j : Int)).1) = (k : Int) * (gd f.2.2.2.2.1 (j : Int)).1 := wI (by omega) (by omega)
        have w2 : IntKind.wrap .i64 ((k : Int) * (gd f.2.2.2.2.1 (j : Int)).2) = (k : Int) * (gd f.2.2.2.2.1 (j : Int)).2 := wI (by omega) (by omega)
        rw [dec_t (by omega), cond_true, getI_gd (by omega) (by omega), ew, c3', derefK_some, nzK_in (by omega), hdv, k3, derefK_some]
        simp only [bindV_eq, w1, w2]
        rw [lenK_in (by simp; omega) (by simp; omega), wI (by omega) (by omega), wI (by omega) (by omega), ew])
  exact ⟨r', h1, hr⟩

theorem Pays.mul {b : Bun} {l : List Bun} (h : b ∈ l) : ∀ k : Nat, Pays l (k * b.1) (k * b.2)
  | 0 => by
    rw [show ((0 : Nat) : Int) * b.1 = 0 by simp, show ((0 : Nat) : Int) * b.2 = 0 by simp]
    exact .zero l
  | k + 1 => by
    refine Pays.of_take (b := b) ?_ h
    have := Pays.mul h k
    rwa [show ((k + 1 : Nat) : Int) * b.1 - b.1 = (k : Int) * b.1 by rw [Int.natCast_succ, Int.add_mul]; omega, show ((k + 1 : Nat) : Int) * b.2 - b.2 = (k : Int) * b.2 by rw [Int.natCast_succ, Int.add_mul]; omega]
/-- With a bundle, or for nothing, something can be bought. -/
theorem not_noBuy {l : List Bun} (hl : Fine l) {n : Nat} (hn : n = 0 ∨ l ≠ []) : ¬ NoBuy l n := by
  intro h
  rcases hn with rfl | hn
  · exact h 0 (Nat.le_refl _) (by omega) 0 (.zero l)
  · obtain ⟨b, l', rfl⟩ := List.exists_cons_of_ne_nil hn
    have hb := hl b (List.mem_cons_self ..)
    obtain ⟨k, hk⟩ : ∃ k : Nat, (k : Int) = ((n : Int) + b.1 - 1) / b.1 := ⟨(((n : Int) + b.1 - 1) / b.1).toNat, by have := Int.ediv_nonneg (a := (n : Int) + b.1 - 1) (b := b.1) (by omega) (by omega); omega⟩
    have h1 := Int.ediv_mul_le ((n : Int) + b.1 - 1) (show b.1 ≠ 0 by omega)
    have h2 := Int.lt_ediv_add_one_mul_self ((n : Int) + b.1 - 1) (show 0 < b.1 by omega)
    rw [← hk] at h1 h2
    rw [Int.add_mul, Int.one_mul] at h2
    refine h ((k : Int) * b.1).toNat (by omega) (by omega) (k * b.2) ?_
    rw [show ((((k : Int) * b.1).toNat : Nat) : Int) = (k : Int) * b.1 by omega]
    exact Pays.mul (List.mem_cons_self ..) k
theorem noBuy_nil {n : Nat} (h : 0 < n) : NoBuy [] n := by
  intro t h1 _ p hp
  generalize ht : (t : Int) = t' at hp
  cases hp
  omega

/-- The document's answer where a fair is valid and the number is right. -/
theorem buy15 (f : Fair) (hl : Fine f.2.2.2.2.1) (hk : f.2.2.2.2.1.length ≤ 6) (n : Nat) (hn : n ≤ 1000) (hb : ¬ NoBuy f.2.2.2.2.1 n) :
    ∃ r p, Buys f.2.2.2.2.1 n r p ∧ (derefK (g45 (f, 0, (IntKind.wrap .i64 ((n : Int) + 1000)), ())) fun y3 => derefK (L15_11 fuel (((n : Int), (n : Int), ()), (f, y3.1.1, ()), ())) fun o6 => inR o6.1.1 o6.2.1.2.1.length (getI o6.2.1.2.1 o6.1.1 fun e7 => derefK (L15_18 fuel ((o6.1.1, o6.1.1, e7, 0, ()), (o6.2.1.1, ([] : List Int), o6.2.1.2.1, ()), ())) fun o14 => inR o14.1.1 o14.2.1.2.1.length (getI o14.2.1.2.1 o14.1.1 fun e15 => some ((o14.2.1.1, e15, (0 : Int), ()), ())))) = some ((r, p, 0, ()), ()) := by
  have hf := fuel_ge
  obtain ⟨c, c1, c2, c3⟩ := g45_eq f hl hk 0 (by omega) (n + 1000) (by omega)
  have e1 : g45 (f, 0, (IntKind.wrap .i64 ((n : Int) + 1000)), ()) = some ((c, ()), ()) := by
    rw [show IntKind.wrap .i64 ((n : Int) + 1000) = ((n + 1000 : Nat) : Int) by rw [wI (by omega) (by omega)]; omega]
    exact c3
  rw [e1, derefK_some]
  obtain ⟨t, t1, t2⟩ := arg15 f n hn c c1 (N := fuel) (by omega)
  rw [t2, derefK_some]
  have ht := t1
  obtain ⟨v1, v2, _⟩ := ht
  have hent : ∀ t : Nat, t < n + 1001 → Ent NR f.2.2.2.2.1 t (gd c (t : Int)) := fun t ht => c2 t (by omega)
  have hlt : gd c (t : Int) < NR := by
    by_cases h : gd c (t : Int) = NR
    · exact absurd (t1.noBuy hl (by show _ < (1125899906842624 : Int); omega) hent h) hb
    · have := (hent t (by omega)).1; omega
  have ho := t1.opt hent hlt
  obtain ⟨r, r1, r2⟩ := counts15 f hl hk (t : Int) c (t : Int) (gd c (t : Int)) (by omega) ho.least (N := fuel) (by omega)
  refine ⟨r, gd c (t : Int), ⟨t, ho, r1⟩, ?_⟩
  simp only
  rw [inR_in (by omega) (by omega), getI_gd (by omega) (by omega), r2, derefK_some]
  simp only
  rw [inR_in (by omega) (by omega), getI_gd (by omega) (by omega)]

theorem fairOK_fine {f : Fair} (h : fairOK f = true) : Fine f.2.2.2.2.1 ∧ f.2.2.2.2.1.length ≤ 6 := by
  unfold fairOK at h
  simp only [Bool.and_eq_true, decide_eq_true_eq, List.all_eq_true] at h
  obtain ⟨_, _, _, _, h5, _, _, _, _, h10⟩ := h
  refine ⟨fun b hb => ?_, by omega⟩
  have := h10 b hb
  unfold okB at this
  rw [Bool.and_eq_true, Bool.and_eq_true, rng_iff, rng_iff] at this
  omega
/-- Buy, by the document. -/
def BuyR (f : Fair) (n : Int) (x : (List Int) × Int × Int) : Prop :=
  if fairOK f = false then x = ([], 0, 10) else if rng n 0 1000 = false then x = ([], 0, 1) else if f.2.2.2.2.1 = [] ∧ 0 < n then x = ([], 0, 3) else x.2.2 = 0 ∧ Buys f.2.2.2.2.1 n.toNat x.1 x.2.1
theorem BuyR.uniq {f : Fair} {n : Int} {x y : (List Int) × Int × Int} (h : BuyR f n x) (h' : BuyR f n y) : x = y := by
  unfold BuyR at h h'
  split at h
  · rename_i e; rw [if_pos e] at h'; rw [h, h']
  · rename_i e; rw [if_neg e] at h'
    split at h
    · rename_i e; rw [if_pos e] at h'; rw [h, h']
    · rename_i e; rw [if_neg e] at h'
      split at h
      · rename_i e; rw [if_pos e] at h'; rw [h, h']
      · rename_i e; rw [if_neg e] at h'
        obtain ⟨x1, x2, x3⟩ := x
        obtain ⟨y1, y2, y3⟩ := y
        have := h.2.uniq h'.2
        simp only at h h' this
        rw [this.1, this.2, h.1, h'.1]
theorem g15_eq (f : Fair) (hs : Sized f) (n : Int) : ∃ x, BuyR f n x ∧ g15 (f, n, ()) = some ((x.1, x.2.1, x.2.2, ()), ()) := by
  have e0 : g15 (f, n, ()) = F15 fuel f n := rfl
  rw [e0]
  unfold F15
  rw [g19_eq f hs, derefK_some]
  by_cases hv : fairOK f = false
  · refine ⟨([], 0, 10), by unfold BuyR; rw [if_pos hv], ?_⟩
    rw [hv]; rfl
  have hv' : fairOK f = true := by simpa using hv
  rw [hv', if_pos rfl, show ((0 : Int) != 0) = false from rfl, cond_false, g44_eq, derefK_some]
  by_cases hn : rng n 0 1000 = false
  · refine ⟨([], 0, 1), by unfold BuyR; rw [if_neg hv, if_pos hn], ?_⟩
    rw [hn]; rfl
  have hn' : rng n 0 1000 = true := by simpa using hn
  have hr := rng_iff.1 hn'
  rw [hn', Bool.not_true, cond_false]
  obtain ⟨hl, hk⟩ := fairOK_fine hv'
  obtain ⟨m, rfl⟩ : ∃ m : Nat, n = m := ⟨n.toNat, by omega⟩
  by_cases hno : f.2.2.2.2.1 = [] ∧ (0 : Int) < m
  · refine ⟨([], 0, 3), by unfold BuyR; rw [if_neg hv, if_neg hn, if_pos hno], ?_⟩
    rw [dec_t (by omega), cond_true, hno.1]
    rfl
  · have hnb : ¬ NoBuy f.2.2.2.2.1 m := not_noBuy hl (by
      by_cases h0 : m = 0
      · exact .inl h0
      · exact .inr fun h => hno ⟨h, by omega⟩)
    obtain ⟨r, p, h1, h2⟩ := buy15 f hl hk m (by omega) hnb
    refine ⟨(r, p, 0), by unfold BuyR; rw [if_neg hv, if_neg hn, if_neg hno, Int.toNat_natCast]; exact ⟨rfl, h1⟩, ?_⟩
    by_cases h0 : (m : Int) > 0
    · rw [dec_t h0, cond_true]
      have hne : ((f.2.2.2.2.1.length : Int) == 0) = false := by
        rw [beq_eq_false_iff_ne]
        intro h
        exact hno ⟨List.length_eq_zero_iff.1 (by omega), by omega⟩
      rw [hne, cond_false]
      exact h2
    · rw [dec_f h0, cond_false]
      exact h2
end Go.Proofs.Try.V
