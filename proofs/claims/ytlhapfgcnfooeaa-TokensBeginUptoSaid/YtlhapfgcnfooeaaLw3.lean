/- Plain laws of layer 1: slices.Repeat of one element; the table of what bundles cost. No condition beyond those typed in each theorem. -/
import Derived.Test.YtlhapfgcnfooeaaLw2
namespace Go.Proofs.Try.V
open Go.Vi
set_option maxRecDepth 100000

/-! ## Many copies of one element -/
theorem u64_in {n : Int} (h0 : 0 ≤ n) (h : n ≤ 4294967295) : IntKind.wrap .u64 n = n := by
  show n % 18446744073709551616 = n
  exact Int.emod_eq_of_lt h0 (by omega)
theorem shr_0 {n : Int} (h0 : 0 ≤ n) (h : n ≤ 4294967295) : shrI .u64 n 32 = 0 := by
  show n.fdiv 4294967296 = 0
  rw [Int.fdiv_eq_ediv_of_nonneg _ (by omega)]
  exact Int.ediv_eq_zero_of_lt h0 (by omega)
theorem and_in {n : Int} (h0 : 0 ≤ n) (h : n ≤ 4294967295) : bitsI .and .u64 n 4294967295 = n := by
  show IntKind.wrap .u64 ((BitVec.ofInt 64 n &&& BitVec.ofInt 64 4294967295).toNat : Int) = n
  have e : (BitVec.ofInt 64 n).toNat = n.toNat := by
    rw [BitVec.toNat_ofInt]
    rw [Int.emod_eq_of_lt h0 (by show n < 18446744073709551616; omega)]
  have e2 : (BitVec.ofInt 64 4294967295).toNat = 4294967295 := by decide
  rw [BitVec.toNat_and, e, e2, show (4294967295 : Nat) = 2 ^ 32 - 1 by decide, Nat.and_two_pow_sub_one_eq_mod, Nat.mod_eq_of_lt (by show n.toNat < 4294967296; omega)]
  rw [show ((n.toNat : Nat) : Int) = n by omega]
  exact u64_in h0 h
theorem negK_in {R : Type} {a : Int} (h : 0 ≤ a) (k : Option R) : negK a k = k := by
  unfold negK
  rw [if_neg (by omega)]
theorem g84_one {n : Int} (h0 : 0 ≤ n) (h : n ≤ 1048576) : g84 (1, n, ()) = some ((0, n, ()), ()) := by
  show F84 fuel 1 n = _
  unfold F84
  have b1 : bitsI .and .u64 1 4294967295 = 1 := and_in (by omega) (by omega)
  have b0 : bitsI .and .u64 0 4294967295 = 0 := and_in (by omega) (by omega)
  have s1 : shrI .u64 1 32 = 0 := shr_0 (by omega) (by omega)
  have s0 : shrI .u64 0 32 = 0 := shr_0 (by omega) (by omega)
  have u0 : IntKind.wrap .u64 0 = 0 := u64_in (by omega) (by omega)
  have un : IntKind.wrap .u64 n = n := u64_in h0 (by omega)
  simp only [negK_in (show (0 : Int) ≤ 32 by decide), bindV, b1, and_in h0 (show n ≤ 4294967295 by omega), s1, shr_0 h0 (show n ≤ 4294967295 by omega), Int.one_mul, Int.zero_mul, Int.mul_zero, Int.add_zero, un, u0, s0, b0]
theorem over_step {α : Type} (b c : α) {n k : Nat} (hk : k ≤ n) : overL (List.replicate k b ++ List.replicate (n - k) c) ((List.replicate k b ++ List.replicate (n - k) c).take k) k = List.replicate (k + min k (n - k)) b ++ List.replicate (n - (k + min k (n - k))) c := by
  have h1 : (List.replicate k b ++ List.replicate (n - k) c).take k = List.replicate k b := List.take_left' (by simp)
  have h2 : (List.replicate k b ++ List.replicate (n - k) c).length = n := by simp; omega
  unfold overL
  rw [h1, h2, List.take_replicate, List.length_replicate, List.replicate_append_replicate]
  rw [List.drop_append, List.drop_eq_nil_of_le (by simp), List.nil_append, List.length_replicate, List.drop_replicate]
  congr 2
  · omega
  · omega
theorem g54_one (b : Int) (n : Nat) (hn : n ≤ 1048576) : g54 ([b], (n : Int), ()) = some ((List.replicate n b, ()), ()) := by
  show F54 fuel [b] (n : Int) = _
  unfold F54
  have e1 : IntKind.wrap .u64 (([b] : List Int).length : Int) = 1 := u64_in (by simp) (by simp)
  have e2 : IntKind.wrap .u64 (n : Int) = n := u64_in (by omega) (by omega)
  have e3 : g74 (1, (n : Int), ()) = some ((0, (n : Int), ()), ()) := by
    show F74 fuel 1 (n : Int) = _
    unfold F74
    rw [g84_one (by omega) (by omega)]
    rfl
  rw [dec_f (p := (n : Int) < 0) (by omega), cond_false, e1, e2, e3, derefK_some]
  simp only [bindV]
  rw [dec_f (p := (0 : Int) > 0) (by omega), cond_false, dec_f (p := (n : Int) > 9223372036854775807) (by omega), cond_false, wI (by omega) (by omega), leK_in (by omega), leK_in (by omega), lenK_in (by omega) (by omega), Int.toNat_natCast]
  by_cases h0 : n = 0
  · subst h0
    obtain ⟨m, hm⟩ : ∃ m, fuel = m + 1 := ⟨fuel - 1, by have := fuel_ge; omega⟩
    have : L54_8 fuel ((0, ()), ([], ()), ()) = some ((), ([], ()), ()) := by
      rw [hm]
      simp [L54_8, B54_8]
    show derefK (L54_8 fuel ((0, ()), ([], ()), ())) _ = _
    rw [this]
    rfl
  have ei : overL (List.replicate n 0) [b] (0 : Int).toNat = List.replicate 1 b ++ List.replicate (n - 1) 0 := by
    show (List.replicate n (0 : Int)).take 0 ++ [b].take ((List.replicate n (0 : Int)).length - 0) ++ (List.replicate n (0 : Int)).drop (0 + min 1 ((List.replicate n (0 : Int)).length - 0)) = _
    rw [List.length_replicate, List.take_zero, List.nil_append, List.drop_replicate, show 0 + min 1 (n - 0) = 1 by omega, List.take_of_length_le (by simp; omega)]
    rfl
  have em : ((min ([b] : List Int).length ((List.replicate n (0 : Int)).length - (0 : Int).toNat) : Nat) : Int) = ((1 : Nat) : Int) := by
    rw [List.length_replicate]
    show ((min 1 (n - 0) : Nat) : Int) = _
    omega
  rw [ei, em]
  obtain ⟨r, hr, hrr⟩ := loopM (L := L54_8) (fun k : Nat => (((k : Int), ()), (List.replicate k b ++ List.replicate (n - k) 0, ()), ())) (fun k => 1 ≤ k ∧ k ≤ n) (fun r => r = ((), (List.replicate n b, ()), ())) 0 (fun k => n - k)
    (fun N k _ hk => by
      have hlen : (List.replicate k b ++ List.replicate (n - k) 0).length = n := by simp; omega
      simp only [L54_8, B54_8]
      rw [hlen]
      by_cases hlt : k < n
      · refine .inl ⟨k + min k (n - k), by omega, by omega, ?_⟩
        have hl2 : ((List.replicate k b ++ List.replicate (n - k) 0).take ((k : Nat) : Int).toNat).length = k := by
          rw [Int.toNat_natCast, List.length_take, hlen]
          omega
        rw [dec_t (by omega), cond_true]
        simp only [enumK_eq, leK_in (show (0 : Int) ≤ (k : Int) by omega), leK_in (show (k : Int) ≤ (n : Int) by omega), agreeK_two, agreeK_one]
        rw [hl2, Int.toNat_natCast, over_step b 0 (by omega), wI (by omega) (by omega), show (k : Int) + ((min k (n - k) : Nat) : Int) = ((k + min k (n - k) : Nat) : Int) by omega]
      · obtain rfl : k = n := by omega
        refine .inr ⟨_, ?_, rfl⟩
        rw [dec_f (by omega), cond_false, Nat.sub_self, List.replicate_zero, List.append_nil])
    (n - 1) fuel 1 (Nat.le_refl _) ⟨Nat.le_refl _, by omega⟩ (by have := fuel_ge; omega)
  have hr' : L54_8 fuel ((((1 : Nat) : Int), ()), (List.replicate 1 b ++ List.replicate (n - 1) 0, ()), ()) = some r := hr
  rw [hr', hrr]
  rfl

/-! ## The table -/
abbrev NO : Int := 1152921504606846976
def Tab (l : List Bun) (M : Nat) (o : List (List Int)) (lo : Nat) : Prop :=
  o.length = l.length + 1 ∧ (∀ i : Nat, i ≤ l.length → (gd o (i : Int)).length = M) ∧ ∀ i : Nat, lo ≤ i → i ≤ l.length → ∀ t : Nat, t < M → Ent NO (l.drop i) t (gd (gd o (i : Int)) (t : Int))

/-- One row of the table. -/
theorem row68 (l : List Bun) (hl : Fine l) (hk : l.length ≤ 6) (n most : Int) (M : Nat) (hM : M ≤ 3000) (i : Nat) (hi : i < l.length) (o : List (List Int)) (ho : Tab l M o (i + 1)) {N : Nat} (hN : M < N) :
    ∃ o', Tab l M o' i ∧ L68_13 N ((l, n, most, (i : Int), (M : Int), 0, ()), (o, ()), ()) = some ((l, n, most, (i : Int), ()), (o', ()), ()) := by
  obtain ⟨h1, h2, h3⟩ := ho
  have hd : l.drop i = gd l (i : Int) :: l.drop (i + 1) := drop_nat hi
  have hb := hl _ (gd_mem (l := l) (i := (i : Int)) (by omega) (by omega))
  have hfd : Fine (gd l (i : Int) :: l.drop (i + 1)) := by rw [← hd]; exact hl.drop i
  have w1 : IntKind.wrap .i64 ((i : Int) + 1) = ((i + 1 : Nat) : Int) := by rw [wI (by omega) (by omega)]; omega
  have hS := h2 (i + 1) (by omega)
  have hR0 := h2 i (by omega)
  obtain ⟨r, hr, R, hR, hE, rfl⟩ := loop0 (L := L68_13) (fun (t : Nat) (R : List Int) => ((l, n, most, (i : Int), (M : Int), (t : Int), ()), (o.set i R, ()), ()))
    (fun t R => R.length = M ∧ ∀ t' : Nat, t' < t → Ent NO (l.drop i) t' (gd R (t' : Int)))
    (fun r => ∃ R : List Int, R.length = M ∧ (∀ t' : Nat, t' < M → Ent NO (l.drop i) t' (gd R (t' : Int))) ∧ r = ((l, n, most, (i : Int), ()), (o.set i R, ()), ())) 0 M (s := gd o (i : Int)) ⟨hR0, fun t' h => by omega⟩ (by omega)
    (fun N R hR => ⟨_, by simp [L68_13, B68_13], R, hR.1, hR.2, rfl⟩)
    (fun N t R _ ht ⟨hR, hE⟩ => by
      refine .inl ?_
      have g1 : gd (o.set i R) (i : Int) = R := by
        have := gd_set_self (l := o) (i := (i : Int)) (c := R) (by omega) (by omega)
        rwa [Int.toNat_natCast] at this
      have g2 : gd (o.set i R) ((i + 1 : Nat) : Int) = gd o ((i + 1 : Nat) : Int) := by
        have := gd_set_ne (l := o) (i := (i : Int)) (j := ((i + 1 : Nat) : Int)) (c := R) (by omega) (by omega) (by omega)
        rwa [Int.toNat_natCast] at this
      have hlen : (o.set i R).length = l.length + 1 := by rw [List.length_set, h1]
      simp only [L68_13, B68_13]
      rw [dec_t (by omega), cond_true]
      have gg : ∀ R' : List Int, gd ((o.set i R).set (i : Int).toNat R') (i : Int) = R' := fun R' => gd_set_self (by omega) (by omega)
      have hlen2 : ∀ R' : List Int, ((o.set i R).set (i : Int).toNat R').length = l.length + 1 := fun R' => by rw [List.length_set, hlen]
      have hset : ∀ v : Int, (R.set (t : Int).toNat v).length = M := fun v => by rw [List.length_set, hR]
      have aS : ∀ {α : Type} (k : Int → Option α), getI (gd o ((i + 1 : Nat) : Int)) (t : Int) k = k (gd (gd o ((i + 1 : Nat) : Int)) (t : Int)) := fun k => getI_gd (by omega) (by omega) k
      have aR : ∀ {α : Type} (k : Int → Option α), getI R (t : Int) k = k (gd R (t : Int)) := fun k => getI_gd (by omega) (by omega) k
      have aR' : ∀ {α : Type} (v j : Int), 0 ≤ j → j < M → ∀ (k : Int → Option α), getI (R.set (t : Int).toNat v) j k = k (gd (R.set (t : Int).toNat v) j) := fun v j h1 h2 k => getI_gd h1 (by rw [hset]; exact h2) k
      have aO : ∀ {α : Type} (k : List Int → Option α), getI (o.set i R) (i : Int) k = k R := fun k => by rw [getI_gd (by omega) (by omega), g1]
      have aO1 : ∀ {α : Type} (k : List Int → Option α), getI (o.set i R) ((i + 1 : Nat) : Int) k = k (gd o ((i + 1 : Nat) : Int)) := fun k => by rw [getI_gd (by omega) (by omega), g2]
      have aO2 : ∀ {α : Type} (R' : List Int) (k : List Int → Option α), getI ((o.set i R).set (i : Int).toNat R') (i : Int) k = k R' := fun R' k => by rw [getI_gd (by omega) (by rw [hlen2]; omega), gg]
      have aL : ∀ {α : Type} (k : Bun → Option α), getI l (i : Int) k = k (gd l (i : Int)) := fun k => getI_gd (by omega) (by omega) k
      have i1 : ∀ {α : Type} (k : Option α), inR (i : Int) (l.length + 1) k = k := fun k => inR_in (by omega) (by omega) k
      have i2 : ∀ {α : Type} (k : Option α), inR ((i + 1 : Nat) : Int) (l.length + 1) k = k := fun k => inR_in (by omega) (by omega) k
      have i3 : ∀ {α : Type} (k : Option α), inR (t : Int) M k = k := fun k => inR_in (by omega) (by omega) k
      have w2 : IntKind.wrap .i64 ((t : Int) - (gd l (i : Int)).1) = (t : Int) - (gd l (i : Int)).1 := wI (by omega) (by omega)
      have w3 : IntKind.wrap .i64 ((t : Int) + 1) = ((t + 1 : Nat) : Int) := by rw [wI (by omega) (by omega)]; omega
      simp only [w1, w2, w3, hlen, hlen2, hR, hS, hset, aS, aR, aO, aO1, aO2, aL, i1, i2, i3]
      have sS := h3 (i + 1) (by omega) (by omega) t (by omega)
      have ss : ∀ R' : List Int, (o.set i R).set (i : Int).toNat R' = o.set i R' := fun R' => by rw [Int.toNat_natCast, List.set_set]
      have step : ∀ v : Int, Ent NO (l.drop i) t v → (R.set t v).length = M ∧ ∀ t' : Nat, t' < t + 1 → Ent NO (l.drop i) t' (gd (R.set t v) (t' : Int)) := by
        intro v hv
        refine ⟨by rw [List.length_set, hR], fun t' ht' => ?_⟩
        by_cases h : t' = t
        · subst h
          have := gd_set_self (l := R) (i := (t' : Int)) (c := v) (by omega) (by omega)
          rw [Int.toNat_natCast] at this
          rw [this]; exact hv
        · have := gd_set_ne (l := R) (i := (t : Int)) (j := (t' : Int)) (c := v) (by omega) (by omega) (by omega)
          rw [Int.toNat_natCast] at this
          rw [this]; exact hE t' (by omega)
      by_cases hge : (t : Int) - (gd l (i : Int)).1 ≥ 0
      · rw [dec_t hge, cond_true, inR_in (n := M) hge (by omega)]
        rw [aR' _ _ hge (by omega)]
        have hne : gd (R.set (t : Int).toNat (gd (gd o ((i + 1 : Nat) : Int)) (t : Int))) ((t : Int) - (gd l (i : Int)).1) = gd R ((t : Int) - (gd l (i : Int)).1) := gd_set_ne (by omega) hge (by omega)
        rw [hne]
        obtain ⟨t1, ht1⟩ : ∃ t1 : Nat, (t1 : Int) = (t : Int) - (gd l (i : Int)).1 := ⟨((t : Int) - (gd l (i : Int)).1).toNat, by omega⟩
        have hE1 := hE t1 (by omega)
        rw [ht1] at hE1
        by_cases hlt : gd R ((t : Int) - (gd l (i : Int)).1) < NO
        · rw [dec_t hlt, cond_true, aR' _ (t : Int) (by omega) (by omega), inR_in (n := M) hge (by omega), aR' _ _ hge (by omega), hne, aR' _ (t : Int) (by omega) (by omega)]
          have hs : gd (R.set (t : Int).toNat (gd (gd o ((i + 1 : Nat) : Int)) (t : Int))) (t : Int) = gd (gd o ((i + 1 : Nat) : Int)) (t : Int) := gd_set_self (by omega) (by omega)
          have hp := ((hE1.least hlt).1.le (by rw [hd]; exact hfd))
          have w4 : IntKind.wrap .i64 (gd R ((t : Int) - (gd l (i : Int)).1) + (gd l (i : Int)).2) = gd R ((t : Int) - (gd l (i : Int)).1) + (gd l (i : Int)).2 := wI (by omega) (by omega)
          simp only [bindV_eq]
          rw [hs, w4]
          simp only [Int.toNat_natCast, List.set_set]
          rw [hd] at hE1
          refine ⟨_, step _ ?_, rfl⟩
          rw [hd]
          exact sS.cons hE1 hlt
        · rw [dec_f hlt, cond_false, ss]
          rw [Int.toNat_natCast]
          refine ⟨_, step _ ?_, rfl⟩
          rw [hd] at hE1 ⊢
          have hN : gd R ((t : Int) - (gd l (i : Int)).1) = NO := by have := hE1.1; omega
          rw [hN] at hE1
          exact sS.cons_none (hE1.none hfd (by show _ < (1152921504606846976 : Int); omega))
      · rw [dec_f hge, cond_false, ss, Int.toNat_natCast]
        refine ⟨_, step _ ?_, rfl⟩
        rw [hd]
        exact sS.cons_none (fun p => Pays.neg hfd (by omega)))
  have e0 : o.set i (gd o (i : Int)) = o := by
    refine ext_gd (by rw [List.length_set]) fun j hj => ?_
    by_cases h : j = i
    · subst h
      have := gd_set_self (l := o) (i := (j : Int)) (c := gd o (j : Int)) (by omega) (by omega)
      rwa [Int.toNat_natCast] at this
    · have := gd_set_ne (l := o) (i := (i : Int)) (j := (j : Int)) (c := gd o (i : Int)) (by omega) (by omega) (by omega)
      rwa [Int.toNat_natCast] at this
  rw [e0] at hr
  refine ⟨_, ⟨by rw [List.length_set, h1], fun j hj => ?_, fun j hj hj2 t ht => ?_⟩, hr⟩
  · by_cases h : j = i
    · subst h
      have := gd_set_self (l := o) (i := (j : Int)) (c := R) (by omega) (by omega)
      rw [Int.toNat_natCast] at this
      rw [this, hR]
    · have := gd_set_ne (l := o) (i := (i : Int)) (j := (j : Int)) (c := R) (by omega) (by omega) (by omega)
      rw [Int.toNat_natCast] at this
      rw [this, h2 j hj]
  · by_cases h : j = i
    · subst h
      have := gd_set_self (l := o) (i := (j : Int)) (c := R) (by omega) (by omega)
      rw [Int.toNat_natCast] at this
      rw [this]; exact hE t ht
    · have := gd_set_ne (l := o) (i := (i : Int)) (j := (j : Int)) (c := R) (by omega) (by omega) (by omega)
      rw [Int.toNat_natCast] at this
      rw [this]; exact h3 j (by omega) hj2 t ht
end Go.Proofs.Try.V
