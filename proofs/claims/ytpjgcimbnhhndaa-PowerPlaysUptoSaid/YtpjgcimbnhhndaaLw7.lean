/- Plain laws of layer 5, seventh part: play and Play, Trips. No condition beyond those typed in each theorem. -/
import Derived.Test.YtpjgcimbnhhndaaLw6
namespace Go.Proofs.Try.V
open Go.Vi
set_option maxRecDepth 100000
/-! ## slices.Repeat of one element -/
theorem shr_0 {n : Int} (h0 : 0 ≤ n) (h : n ≤ 4294967295) : shrI .u64 n 32 = 0 := by
  show n.fdiv 4294967296 = 0
  rw [Int.fdiv_eq_ediv_of_nonneg _ (by omega)]
  exact Int.ediv_eq_zero_of_lt h0 (by omega)
theorem and_in {n : Int} (h0 : 0 ≤ n) (h : n ≤ 4294967295) : bitsI .and .u64 n 4294967295 = n := by
  show IntKind.wrap .u64 ((BitVec.ofInt 64 n &&& BitVec.ofInt 64 4294967295).toNat : Int) = n
  have e : (BitVec.ofInt 64 n).toNat = n.toNat := by
    rw [BitVec.toNat_ofInt]
    rw [Int.emod_eq_of_lt h0 (by show n < 18446744073709551616; omega)]
  have e2 : (BitVec.ofInt 64 4294967295).toNat = 4294967295 := by decide
  rw [BitVec.toNat_and, e, e2, show (4294967295 : Nat) = 2 ^ 32 - 1 by decide, Nat.and_two_pow_sub_one_eq_mod, Nat.mod_eq_of_lt (by show n.toNat < 4294967296; omega)]
  rw [show ((n.toNat : Nat) : Int) = n by omega]
  exact u64_in h0 h
theorem g104_one {n : Int} (h0 : 0 ≤ n) (h : n ≤ 1048576) : g104 (1, n, ()) = some ((0, n, ()), ()) := by
  show F104 fuel 1 n = _
  unfold F104
  have b1 : bitsI .and .u64 1 4294967295 = 1 := and_in (by omega) (by omega)
  have b0 : bitsI .and .u64 0 4294967295 = 0 := and_in (by omega) (by omega)
  have s1 : shrI .u64 1 32 = 0 := shr_0 (by omega) (by omega)
  have s0 : shrI .u64 0 32 = 0 := shr_0 (by omega) (by omega)
  have u0 : IntKind.wrap .u64 0 = 0 := u64_in (by omega) (by omega)
  have un : IntKind.wrap .u64 n = n := u64_in h0 (by omega)
  simp only [negK_in (show (0 : Int) ≤ 32 by decide), bindV, b1, and_in h0 (show n ≤ 4294967295 by omega), s1, shr_0 h0 (show n ≤ 4294967295 by omega), Int.one_mul, Int.zero_mul, Int.mul_zero, Int.zero_add, Int.add_zero, un, u0, s0, b0]
theorem over_step {α : Type} (b c : α) {n k : Nat} (hk : k ≤ n) : overL (List.replicate k b ++ List.replicate (n - k) c) ((List.replicate k b ++ List.replicate (n - k) c).take k) k = List.replicate (k + min k (n - k)) b ++ List.replicate (n - (k + min k (n - k))) c := by
  have h1 : (List.replicate k b ++ List.replicate (n - k) c).take k = List.replicate k b := List.take_left' (by simp)
  have h2 : (List.replicate k b ++ List.replicate (n - k) c).length = n := by simp; omega
  unfold overL
  rw [h1, h2, List.take_replicate, List.length_replicate, List.replicate_append_replicate]
  rw [List.drop_append, List.drop_eq_nil_of_le (by simp), List.nil_append, List.length_replicate, List.drop_replicate]
  congr 2
  · omega
  · omega
theorem g86_one (b : Bool) (n : Nat) (hn : n ≤ 1048576) : g86 ([b], (n : Int), ()) = some ((List.replicate n b, ()), ()) := by
  show F86 fuel [b] (n : Int) = _
  unfold F86
  have e1 : IntKind.wrap .u64 (([b] : List Bool).length : Int) = 1 := u64_in (by simp) (by simp)
  have e2 : IntKind.wrap .u64 (n : Int) = n := u64_in (by omega) (by omega)
  have e3 : g99 (1, (n : Int), ()) = some ((0, (n : Int), ()), ()) := by
    show F99 fuel 1 (n : Int) = _
    unfold F99
    rw [g104_one (by omega) (by omega)]
    rfl
  rw [dec_f (p := (n : Int) < 0) (by omega), cond_false, e1, e2, e3, derefK_some]
  simp only [bindV]
  rw [dec_f (p := (0 : Int) > 0) (by omega), cond_false, dec_f (p := (n : Int) > 9223372036854775807) (by omega), cond_false, wI (by omega) (by omega), leK_in (by omega), leK_in (by omega), lenK_in (by omega) (by omega), Int.toNat_natCast]
  by_cases h0 : n = 0
  · subst h0
    obtain ⟨m, hm⟩ : ∃ m, fuel = m + 1 := ⟨fuel - 1, by have := fuel_ge; omega⟩
    have : L86_8 fuel ((0, ()), ([], ()), ()) = some ((), ([], ()), ()) := by
      rw [hm]
      simp [L86_8, B86_8]
    show derefK (L86_8 fuel ((0, ()), ([], ()), ())) _ = _
    rw [this]
    rfl
  have ei : overL (List.replicate n false) [b] (0 : Int).toNat = List.replicate 1 b ++ List.replicate (n - 1) false := by
    show (List.replicate n false).take 0 ++ [b].take ((List.replicate n false).length - 0) ++ (List.replicate n false).drop (0 + min 1 ((List.replicate n false).length - 0)) = _
    rw [List.length_replicate, List.take_zero, List.nil_append, List.drop_replicate, show 0 + min 1 (n - 0) = 1 by omega, List.take_of_length_le (by simp; omega)]
    rfl
  have em : ((min ([b] : List Bool).length ((List.replicate n false).length - (0 : Int).toNat) : Nat) : Int) = ((1 : Nat) : Int) := by
    rw [List.length_replicate]
    show ((min 1 (n - 0) : Nat) : Int) = _
    omega
  rw [ei, em]
  obtain ⟨r, hr, hrr⟩ := loopM (L := L86_8) (fun k : Nat => (((k : Int), ()), (List.replicate k b ++ List.replicate (n - k) false, ()), ())) (fun k => 1 ≤ k ∧ k ≤ n) (fun r => r = ((), (List.replicate n b, ()), ())) 0 (fun k => n - k)
    (fun N k _ hk => by
      have hlen : (List.replicate k b ++ List.replicate (n - k) false).length = n := by simp; omega
      simp only [L86_8, B86_8]
      rw [hlen]
      by_cases hlt : k < n
      · refine .inl ⟨k + min k (n - k), by omega, by omega, ?_⟩
        have hl2 : ((List.replicate k b ++ List.replicate (n - k) false).take ((k : Nat) : Int).toNat).length = k := by
          rw [Int.toNat_natCast, List.length_take, hlen]
          omega
        rw [dec_t (by omega), cond_true]
        simp only [enumK_eq, leK_in (show (0 : Int) ≤ (k : Int) by omega), leK_in (show (k : Int) ≤ (n : Int) by omega), agreeK_two, agreeK_one]
        rw [hl2, Int.toNat_natCast, over_step b false (by omega), wI (by omega) (by omega), show (k : Int) + ((min k (n - k) : Nat) : Int) = ((k + min k (n - k) : Nat) : Int) by omega]
      · obtain rfl : k = n := by omega
        refine .inr ⟨_, ?_, rfl⟩
        rw [dec_f (by omega), cond_false, Nat.sub_self, List.replicate_zero, List.append_nil])
    (n - 1) fuel 1 (Nat.le_refl _) ⟨Nat.le_refl _, by omega⟩ (by have := fuel_ge; omega)
  have hr' : L86_8 fuel ((((1 : Nat) : Int), ()), (List.replicate 1 b ++ List.replicate (n - 1) false, ()), ()) = some r := hr
  rw [hr', hrr]
  rfl

/-! ## The errors of a play -/
theorem g98_eq {l : List Swi} (hl : l.length ≤ 1000000) {f : Swi → Option Bool} {q : Swi → Bool} (hf : ∀ x ∈ l, f x = some (q x)) : g83 (l, f, ()) = some ((l.any q, ()), ()) := by
  have hfu := fuel_ge
  have e : g98 (l, f, ()) = some ((match l.findIdx? q with | some i => (i : Int) | none => -1, ()), ()) := by
    show F98 fuel l f = _
    unfold F98
    have h := loopIdx (L := L98_2) (fun i => ((l, f, (l.length : Int), (i : Int), ()), (), ())) l q (fun i => .inl (((i : Int), ()), (), ())) (.inr ((), (), ())) 0 (N := fuel) (by omega)
      (fun N => by simp [L98_2, B98_2])
      (fun N i _ hi => by
        simp only [L98_2, B98_2]
        rw [dec_t (by omega), cond_true, getI_gd (by omega) (by omega), hf _ (gd_mem (by omega) (by omega)), derefK_some, wI (by omega) (by omega)]
        cases q (gd l (i : Int)) <;> rfl)
    have h' : L98_2 fuel ((l, f, (l.length : Int), 0, ()), (), ()) = _ := h
    rw [h', derefK_some]
    cases l.findIdx? q <;> rfl
  show F83 fuel l f = _
  unfold F83
  rw [e, derefK_some]
  have hn : (l.findIdx? q).isNone = l.all (fun x => !q x) := by
    clear hf hl e
    induction l with
    | nil => rfl
    | cons x l _ =>
      rw [List.findIdx?_cons, List.all_cons]
      cases q x with
      | true => rfl
      | false => simp
  cases h : l.findIdx? q with
  | some i =>
    rw [h] at hn
    simp only [Option.isNone_some] at hn
    show some ((decide ((i : Int) ≥ 0), ()), ()) = _
    rw [dec_t (by omega)]
    rw [List.all_eq_not_any_not] at hn
    simp only [Bool.not_not] at hn
    cases hh : l.any q with
    | true => rfl
    | false => rw [hh] at hn; cases hn
  | none =>
    rw [h] at hn
    simp only [Option.isNone_none] at hn
    show some ((decide ((-1 : Int) ≥ 0), ()), ()) = _
    rw [dec_f (by omega)]
    rw [List.all_eq_not_any_not] at hn
    simp only [Bool.not_not] at hn
    cases hh : l.any q with
    | false => rfl
    | true => rw [hh] at hn; cases hn
/-- The errors of a play. -/
def ckW (s : Sup) (ticks : Int) (l : List Swi) : Int := if okS s then (if rng ticks 0 500 then (if decide (l.length ≤ 100) && l.all (okX s ticks) then 0 else 51) else 1) else 50
theorem ckW_0 {s : Sup} {ticks : Int} {l : List Swi} (h : ckW s ticks l = 0) : okS s = true ∧ (0 ≤ ticks ∧ ticks ≤ 500) ∧ l.length ≤ 100 ∧ l.all (okX s ticks) = true := by
  unfold ckW at h
  split at h
  case isFalse => cases h
  split at h
  case isFalse => cases h
  split at h
  case isFalse => cases h
  rename_i h1 h2 h3
  rw [Bool.and_eq_true, decide_eq_true_iff] at h3
  exact ⟨h1, rng_iff.1 h2, h3⟩
theorem any_not {l : List Swi} {q : Swi → Bool} : (l.any fun x => !q x) = !l.all q := by
  rw [List.all_eq_not_any_not, Bool.not_not]

/-! ## play -/
theorem L59_11_step {s : Sup} (hs : okS s = true) {ticks : Int} (ht : 0 ≤ ticks ∧ ticks ≤ 500) {l : List Swi} (hx : l.all (okX s ticks) = true) (hll : l.length ≤ 100) {N : Nat} (hN : 2000 ≤ N) {i : Nat} (hi : (i : Int) < ticks) {p : PSt} (hp : POK s i p) :
    L59_11 (N + 1) ((l, s, (s.1.length : Int), ticks, (i : Int), ()), (p.rows, p.trips, (s, (p.on : Int), p.cl, p.ov), ()), ()) =
      L59_11 N ((l, s, (s.1.length : Int), ticks, ((i + 1 : Nat) : Int), ()), ((tick s l (i : Int) p).rows, (tick s l (i : Int) p).trips, (s, ((tick s l (i : Int) p).on : Int), (tick s l (i : Int) p).cl, (tick s l (i : Int) p).ov), ()), ()) := by
  have hl := okS_le hs
  have h1 := trnK_ok hl hx (i : Int) (st := (p.on, p.cl)) ⟨hp.on, hp.cl⟩ l.length (Nat.le_refl _)
  have hq0 := hp.q (l := l) (t := (i : Int)) h1.2
  have hq := brdK_ok (S := tickSet s l (i : Int) p) (B := (i : Int)) (by omega) hq0 (s.1.length + 1) (Nat.le_refl _)
  have hset : tickSet s l (i : Int) p < 65536 := by
    have := drwK_lt s (tickSt s l (i : Int) p).1 (tickSt s l (i : Int) p).2 s.2.1.length
    have := pow16 hl.2
    show drwK s _ _ s.2.1.length < 65536
    omega
  have hop : (tickB s l (i : Int) p).2.2.length ≤ 11 := by
    have := hq.op
    show (brdK s _ _ _).2.2.length ≤ 11
    omega
  have e1 := L59_14_eq' hl hx (by omega) (i : Int) ticks (i : Int) p.rows p.trips (st := (p.on, p.cl)) ⟨hp.on, hp.cl⟩ p.ov hN
  have e2 := g88_eq hs h1.1 h1.2 p.ov
  have e3 := g64_eq hs (S := tickSet s l (i : Int) p) (by omega)
  have e4 := L59_23_eq' (S := tickSet s l (i : Int) p) (B := (i : Int)) ⟨by omega, by omega⟩ hl.1 l (i : Int) ticks (i : Int) (p.rows ++ [((tickSet s l (i : Int) p : Nat) : Int)]) p.trips ((tickSt s l (i : Int) p).1 : Int) hq0 hN
  have e5 := L59_33_eq' (s := s) (n := s.1.length) l (i : Int) ticks (i : Int) (p.rows ++ [((tickSet s l (i : Int) p : Nat) : Int)]) p.trips (s, ((tickSt s l (i : Int) p).1 : Int), (tickB s l (i : Int) p).1, (tickB s l (i : Int) p).2.1) (tickB s l (i : Int) p).2.2 (by omega) hN
  have e6 := L59_39_eq' (s := s) (n := s.1.length) l (i : Int) ticks (i : Int) (p.rows ++ [((tickSet s l (i : Int) p : Nat) : Int)]) p.trips (s, ((tickSt s l (i : Int) p).1 : Int), (tickB s l (i : Int) p).1, (tickB s l (i : Int) p).2.1) (fixO s.1.length (tickB s l (i : Int) p).2.2) (by rw [fixO_len]; omega) (by have := hp.tl; omega) hN
  simp only [L59_11, B59_11]
  rw [dec_t hi, cond_true, e1, derefK_some]
  refine (derefK_of e2 _).trans ?_
  rw [lenK_in (by simp only [hp.rl]; simp; omega) (by simp only [hp.rl]; simp; omega)]
  refine (derefK_of e3 _).trans ?_
  refine (derefK_of e4 _).trans ?_
  refine (derefK_of e5 _).trans ?_
  refine (derefK_of e6 _).trans ?_
  show L59_11 N ((l, s, (s.1.length : Int), ticks, IntKind.wrap .i64 ((i : Int) + 1), ()), _) = _
  rw [wI (x := (i : Int) + 1) (by omega) (by omega)]
  rfl
theorem g59_eq (s : Sup) (ticks : Int) (l : List Swi) : g59 (s, ticks, l, ()) = some ((if ckW s ticks l = 0 then (ply s l ticks.toNat).rows else [], if ckW s ticks l = 0 then (ply s l ticks.toNat).trips else [], ckW s ticks l, ()), ()) := by
  show F59 fuel s ticks l = _
  unfold F59
  rw [g27_eq, derefK_some]
  by_cases hs : okS s = true
  case neg =>
    have : ckW s ticks l = 50 := by unfold ckW; rw [if_neg hs]
    rw [if_neg hs, this]
    rfl
  rw [if_pos hs, g62_eq, derefK_some]
  have hl := okS_le hs
  show (bif !rng ticks 0 500 then _ else _) = _
  by_cases ht : rng ticks 0 500 = true
  case neg =>
    have : ckW s ticks l = 1 := by unfold ckW; rw [if_pos hs, if_neg ht]
    rw [Bool.not_eq_true] at ht
    rw [this, ht]
    rfl
  have ht' := rng_iff.1 ht
  rw [ht]
  show (bif decide ((l.length : Int) > 100) then _ else _) = _
  by_cases h1 : l.length ≤ 100
  case neg =>
    have : ckW s ticks l = 51 := by unfold ckW; rw [if_pos hs, if_pos ht, dec_f h1]; rfl
    rw [this, dec_t (by omega)]
    rfl
  rw [dec_f (by omega), cond_false, g98_eq (by omega) (q := fun x => !okX s ticks x) (fun x _ => by
    have : g84 (x, s, ticks, ()) = some ((!okX s ticks x, ()), ()) := by
      show F84 fuel x s ticks = _
      unfold F84
      rw [g85_eq hl ht', derefK_some]
    rw [this, derefK_some]), derefK_some, any_not]
  by_cases hx : l.all (okX s ticks) = true
  case neg =>
    have : ckW s ticks l = 51 := by unfold ckW; rw [if_pos hs, if_pos ht, dec_t h1, Bool.true_and, if_neg hx]
    rw [Bool.not_eq_true] at hx
    rw [this, hx]
    rfl
  have h0 : ckW s ticks l = 0 := by unfold ckW; rw [if_pos hs, if_pos ht, dec_t h1, Bool.true_and, if_pos hx]
  rw [hx, h0]
  have hw : IntKind.wrap .i64 ((s.1.length : Int) + 1) = ((s.1.length + 1 : Nat) : Int) := by rw [wI (by omega) (by omega)]; omega
  rw [hw]
  have e86 := g86_one true (s.1.length + 1) (by omega)
  rw [Bool.not_true, cond_false]
  simp only [enumK_eq, e86, derefK_some, leK_in (show (0 : Int) ≤ ((s.1.length + 1 : Nat) : Int) by omega), leK_in (Int.le_refl ((s.1.length + 1 : Nat) : Int)), lenK_in (show (0 : Int) ≤ ((s.1.length + 1 : Nat) : Int) by omega) (show ((s.1.length + 1 : Nat) : Int) ≤ 274877906944 by omega), agreeK_two, agreeK_one]
  have hf := fuel_ge
  obtain ⟨T, hT⟩ : ∃ T : Nat, ticks = (T : Int) := ⟨ticks.toNat, by omega⟩
  have e := loopF (L := L59_11) (fun i => ((l, s, (s.1.length : Int), ticks, (i : Int), ()), ((ply s l i).rows, (ply s l i).trips, (s, ((ply s l i).on : Int), (ply s l i).cl, (ply s l i).ov), ()), ())) ((), ((ply s l T).rows, (ply s l T).trips, ()), ()) 2000 T (N := fuel) (by omega)
    (fun N => by
      simp only [L59_11, B59_11]
      rw [dec_f (by omega)]
      rfl)
    (fun N i hc hi => L59_11_step hs ht' hx h1 hc (by omega) (ply_ok hl hx i))
  have e' : L59_11 fuel ((l, s, (s.1.length : Int), ticks, 0, ()), ([], [], (s, 0, List.replicate (s.1.length + 1) true, List.replicate ((s.1.length + 1 : Nat) : Int).toNat 0), ()), ()) = _ := e
  rw [e', derefK_some, hT, Int.toNat_natCast]
  rfl
theorem g23_eq (s : Sup) (ticks : Int) (l : List Swi) : g23 (s, ticks, l, ()) = some ((if ckW s ticks l = 0 then (ply s l ticks.toNat).rows else [], ckW s ticks l, ()), ()) := by
  show F23 fuel s ticks l = _
  unfold F23
  rw [g59_eq, derefK_some]
theorem g31_eq (s : Sup) (ticks : Int) (l : List Swi) : g31 (s, ticks, l, ()) = some ((if ckW s ticks l = 0 then (ply s l ticks.toNat).trips else [], ckW s ticks l, ()), ()) := by
  show F31 fuel s ticks l = _
  unfold F31
  rw [g59_eq, derefK_some]
end Go.Proofs.Try.V
