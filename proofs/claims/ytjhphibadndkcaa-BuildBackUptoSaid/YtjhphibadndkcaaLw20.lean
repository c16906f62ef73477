/- Plain laws of layer 8: slices.Repeat of one element; what can be taken down; CheckOrder and CheckDown by the document. No condition beyond those typed in each theorem. -/
import Derived.Test.YtjhphibadndkcaaLw19
import Derived.Test.YtjhphibadndkcaaFn5
namespace Go.Proofs.Try.V
open Go.Vi
set_option maxRecDepth 100000

/-! ## Many copies of one element -/
theorem u64_in {n : Int} (h0 : 0 ≤ n) (h : n ≤ 4294967295) : IntKind.wrap .u64 n = n := by
  show n % 18446744073709551616 = n
  exact Int.emod_eq_of_lt h0 (by omega)
theorem shr_0 {n : Int} (h0 : 0 ≤ n) (h : n ≤ 4294967295) : shrI .u64 n 32 = 0 := by
  show n.fdiv 4294967296 = 0
  rw [Int.fdiv_eq_ediv_of_nonneg _ (by omega)]
  exact Int.ediv_eq_zero_of_lt h0 (by omega)
theorem and_in {n : Int} (h0 : 0 ≤ n) (h : n ≤ 4294967295) : bitsI .and .u64 n 4294967295 = n := by
  show IntKind.wrap .u64 ((BitVec.ofInt 64 n &&& BitVec.ofInt 64 4294967295).toNat : Int) = n
  have e : (BitVec.ofInt 64 n).toNat = n.toNat := by
    rw [BitVec.toNat_ofInt]
    rw [Int.emod_eq_of_lt h0 (by show n < 18446744073709551616; omega)]
  have e2 : (BitVec.ofInt 64 4294967295).toNat = 4294967295 := by decide
  rw [BitVec.toNat_and, e, e2, show (4294967295 : Nat) = 2 ^ 32 - 1 by decide, Nat.and_two_pow_sub_one_eq_mod, Nat.mod_eq_of_lt (by show n.toNat < 4294967296; omega)]
  rw [show ((n.toNat : Nat) : Int) = n by omega]
  exact u64_in h0 h
theorem negK_in {R : Type} {a : Int} (h : 0 ≤ a) (k : Option R) : negK a k = k := by
  unfold negK
  rw [if_neg (by omega)]
theorem g99_one {n : Int} (h0 : 0 ≤ n) (h : n ≤ 1048576) : g99 (1, n, ()) = some ((0, n, ()), ()) := by
  show F99 fuel 1 n = _
  unfold F99
  have b1 : bitsI .and .u64 1 4294967295 = 1 := and_in (by omega) (by omega)
  have b0 : bitsI .and .u64 0 4294967295 = 0 := and_in (by omega) (by omega)
  have s1 : shrI .u64 1 32 = 0 := shr_0 (by omega) (by omega)
  have s0 : shrI .u64 0 32 = 0 := shr_0 (by omega) (by omega)
  have u0 : IntKind.wrap .u64 0 = 0 := u64_in (by omega) (by omega)
  have un : IntKind.wrap .u64 n = n := u64_in h0 (by omega)
  simp only [negK_in (show (0 : Int) ≤ 32 by decide), bindV, b1, and_in h0 (show n ≤ 4294967295 by omega), s1, shr_0 h0 (show n ≤ 4294967295 by omega), Int.one_mul, Int.zero_mul, Int.mul_zero, Int.zero_add, Int.add_zero, un, u0, s0, b0]
theorem over_step {α : Type} (b c : α) {n k : Nat} (hk : k ≤ n) : overL (List.replicate k b ++ List.replicate (n - k) c) ((List.replicate k b ++ List.replicate (n - k) c).take k) k = List.replicate (k + min k (n - k)) b ++ List.replicate (n - (k + min k (n - k))) c := by
  have h1 : (List.replicate k b ++ List.replicate (n - k) c).take k = List.replicate k b := List.take_left' (by simp)
  have h2 : (List.replicate k b ++ List.replicate (n - k) c).length = n := by simp; omega
  unfold overL
  rw [h1, h2, List.take_replicate, List.length_replicate, List.replicate_append_replicate]
  rw [List.drop_append, List.drop_eq_nil_of_le (by simp), List.nil_append, List.length_replicate, List.drop_replicate]
  congr 2
  · omega
  · omega
theorem g83_one (b : Bool) (n : Nat) (hn : n ≤ 1048576) : g83 ([b], (n : Int), ()) = some ((List.replicate n b, ()), ()) := by
  show F83 fuel [b] (n : Int) = _
  unfold F83
  have e1 : IntKind.wrap .u64 (([b] : List Bool).length : Int) = 1 := u64_in (by simp) (by simp)
  have e2 : IntKind.wrap .u64 (n : Int) = n := u64_in (by omega) (by omega)
  have e3 : g96 (1, (n : Int), ()) = some ((0, (n : Int), ()), ()) := by
    show F96 fuel 1 (n : Int) = _
    unfold F96
    rw [g99_one (by omega) (by omega)]
    rfl
  rw [dec_f (p := (n : Int) < 0) (by omega), cond_false, e1, e2, e3, derefK_some]
  simp only [bindV]
  rw [dec_f (p := (0 : Int) > 0) (by omega), cond_false, dec_f (p := (n : Int) > 9223372036854775807) (by omega), cond_false, w64 (by omega) (by omega), leK_in (by omega), leK_in (by omega), lenK_in (by omega) (by omega), Int.toNat_natCast]
  by_cases h0 : n = 0
  · subst h0
    obtain ⟨m, hm⟩ : ∃ m, fuel = m + 1 := ⟨fuel - 1, by have := fuel_big; omega⟩
    have : L83_8 fuel ((0, ()), ([], ()), ()) = some ((), ([], ()), ()) := by
      rw [hm]
      simp [L83_8, B83_8]
    show derefK (L83_8 fuel ((0, ()), ([], ()), ())) _ = _
    rw [this]
    rfl
  have ei : overL (List.replicate n false) [b] (0 : Int).toNat = List.replicate 1 b ++ List.replicate (n - 1) false := by
    show (List.replicate n false).take 0 ++ [b].take ((List.replicate n false).length - 0) ++ (List.replicate n false).drop (0 + min 1 ((List.replicate n false).length - 0)) = _
    rw [List.length_replicate, List.take_zero, List.nil_append, List.drop_replicate, show 0 + min 1 (n - 0) = 1 by omega, List.take_of_length_le (by simp; omega)]
    rfl
  have em : ((min ([b] : List Bool).length ((List.replicate n false).length - (0 : Int).toNat) : Nat) : Int) = ((1 : Nat) : Int) := by
    rw [List.length_replicate]
    show ((min 1 (n - 0) : Nat) : Int) = _
    omega
  rw [ei, em]
  obtain ⟨r, hr, hrr⟩ := loopM (L := L83_8) (fun k : Nat => (((k : Int), ()), (List.replicate k b ++ List.replicate (n - k) false, ()), ())) (fun k => 1 ≤ k ∧ k ≤ n) (fun r => r = ((), (List.replicate n b, ()), ())) 0 (fun k => n - k)
    (fun N k _ hk => by
      have hlen : (List.replicate k b ++ List.replicate (n - k) false).length = n := by simp; omega
      simp only [L83_8, B83_8]
      rw [hlen]
      by_cases hlt : k < n
      · refine .inl ⟨k + min k (n - k), by omega, by omega, ?_⟩
        have hl2 : ((List.replicate k b ++ List.replicate (n - k) false).take ((k : Nat) : Int).toNat).length = k := by
          rw [Int.toNat_natCast, List.length_take, hlen]
          omega
        rw [dec_t (by omega), cond_true]
        simp only [enumK_eq, leK_in (show (0 : Int) ≤ (k : Int) by omega), leK_in (show (k : Int) ≤ (n : Int) by omega), agreeK_two, agreeK_one]
        rw [hl2, Int.toNat_natCast, over_step b false (by omega), w64 (by omega) (by omega), show (k : Int) + ((min k (n - k) : Nat) : Int) = ((k + min k (n - k) : Nat) : Int) by omega]
      · obtain rfl : k = n := by omega
        refine .inr ⟨_, ?_, rfl⟩
        rw [dec_f (by omega), cond_false, Nat.sub_self, List.replicate_zero, List.append_nil])
    (n - 1) fuel 1 (Nat.le_refl _) ⟨Nat.le_refl _, by omega⟩ (by have := fuel_big; omega)
  have hr' : L83_8 fuel ((((1 : Nat) : Int), ()), (List.replicate 1 b ++ List.replicate (n - 1) false, ()), ()) = some r := hr
  rw [hr', hrr]
  rfl
end Go.Proofs.Try.V
