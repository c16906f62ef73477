/- Plain laws of layer 5, third part: the currents of all boards; what overloads a board. No condition beyond those typed in each theorem. -/
import Derived.Test.YtpjgcimbnhhndaaLw2
namespace Go.Proofs.Try.V
open Go.Vi
set_option maxRecDepth 100000

theorem gd_mapr {α : Type} [Inhabited α] (f : Nat → α) {n k : Nat} (h : k < n) : gd ((List.range n).map f) (k : Int) = f k := by
  refine gd_of ?_
  simp [h]
/-- Where a board stands in a list of which the generator is last; and who stands there. -/
def ix (n : Nat) (x : Int) : Nat := if x = -1 then n else x.toNat
def bO (n k : Nat) : Int := if k = n then -1 else (k : Int)
theorem agree3 {R : Type} (x : Option R) : agreeK [agreeK [agreeK [x, x], x], x] = x := by
  simp only [agreeK_two, agreeK_one]
theorem R64_ok {s : Sup} {ld : Ld} (hph : 0 ≤ ld.2.1 ∧ ld.2.1 ≤ 2) (ha : 1 ≤ ld.2.2.1 ∧ ld.2.2.1 ≤ 1000) (N : Nat) : ∀ (xs : List Int), (∀ x ∈ xs, x = -1 ∨ (0 ≤ x ∧ x < s.1.length)) → (xs.map (ix s.1.length)).Nodup →
    ∀ out : List (List Int), out.length = s.1.length + 1 → (∀ k ∈ xs.map (ix s.1.length), (gd out (k : Int)).length = 3 ∧ 0 ≤ gd (gd out (k : Int)) ld.2.1 ∧ gd (gd out (k : Int)) ld.2.1 ≤ 1099511627776) →
    ∃ out', R64_7 N xs (s, out, ld, ()) = some (.norm, (out', ())) ∧ out'.length = s.1.length + 1 ∧
      ∀ k : Nat, k ≤ s.1.length → gd out' (k : Int) = if k ∈ xs.map (ix s.1.length) then (gd out (k : Int)).set ld.2.1.toNat (gd (gd out (k : Int)) ld.2.1 + ld.2.2.1) else gd out (k : Int)
  | [], _, _, out, hl, _ => ⟨out, rfl, hl, fun k _ => by rw [if_neg (by simp)]⟩
  | x :: xs, hx, hnd, out, hl, hb => by
    rw [List.map_cons, List.nodup_cons] at hnd
    have hstep : ∀ i : Int, 0 ≤ i → i ≤ s.1.length → i.toNat = ix s.1.length x → (∀ (F : Int → List Int → Option (X × (List (List Int) × Unit))), agreeK [inR i out.length (agreeK [inR ld.2.1 3 (agreeK [getI out i fun e4 => getI e4 ld.2.1 fun e5 => inR i out.length (inR ld.2.1 3 (getI out i fun e6 => getI e6 ld.2.1 fun _ => F e5 e6)), inR i out.length (getI out i fun e8 => getI e8 ld.2.1 fun e9 => inR ld.2.1 3 (getI out i fun e10 => getI e10 ld.2.1 fun _ => F e9 e10))]), inR i out.length (inR ld.2.1 3 (getI out i fun e12 => getI e12 ld.2.1 fun e13 => inR ld.2.1 3 (getI out i fun e14 => getI e14 ld.2.1 fun _ => F e13 e14)))]), inR i out.length (inR i out.length (inR ld.2.1 3 (getI out i fun e16 => getI e16 ld.2.1 fun e17 => inR ld.2.1 3 (getI out i fun e18 => getI e18 ld.2.1 fun _ => F e17 e18))))] =
        F (gd (gd out i) ld.2.1) (gd out i)) := fun i h0 h1 hi F => by
      have h3 := hb i.toNat (by rw [hi]; simp)
      rw [show ((i.toNat : Nat) : Int) = i by omega] at h3
      have a1 : ∀ {R : Type} (k : Option R), inR i out.length k = k := fun k => inR_in h0 (by omega) k
      have a2 : ∀ {R : Type} (k : Option R), inR ld.2.1 3 k = k := fun k => inR_in hph.1 (by omega) k
      have a3 : ∀ {R : Type} (k : List Int → Option R), getI out i k = k (gd out i) := fun k => getI_gd h0 (by omega) k
      have a4 : ∀ {R : Type} (k : Int → Option R), getI (gd out i) ld.2.1 k = k (gd (gd out i) ld.2.1) := fun k => getI_gd hph.1 (by omega) k
      simp only [a1, a2, a3, a4, agree3]
    have hgo : ∀ i : Int, 0 ≤ i → i ≤ s.1.length → i.toNat = ix s.1.length x → ∃ out', R64_7 N xs (s, out.set i.toNat ((gd out i).set ld.2.1.toNat (IntKind.wrap .i64 (gd (gd out i) ld.2.1 + ld.2.2.1))), ld, ()) = some (.norm, (out', ())) ∧ out'.length = s.1.length + 1 ∧
        ∀ k : Nat, k ≤ s.1.length → gd out' (k : Int) = if k ∈ (x :: xs).map (ix s.1.length) then (gd out (k : Int)).set ld.2.1.toNat (gd (gd out (k : Int)) ld.2.1 + ld.2.2.1) else gd out (k : Int) := fun i h0 h1 hi => by
      have h3 := hb i.toNat (by rw [hi]; simp)
      rw [show ((i.toNat : Nat) : Int) = i by omega] at h3
      rw [wI (by omega) (by omega)]
      obtain ⟨o2, ho2⟩ : ∃ o2, out.set i.toNat ((gd out i).set ld.2.1.toNat (gd (gd out i) ld.2.1 + ld.2.2.1)) = o2 := ⟨_, rfl⟩
      have hself : gd o2 i = (gd out i).set ld.2.1.toNat (gd (gd out i) ld.2.1 + ld.2.2.1) := by rw [← ho2]; exact gd_set_self h0 (by omega)
      have hoth : ∀ k : Nat, (k : Int) ≠ i → gd o2 (k : Int) = gd out (k : Int) := fun k hk => by rw [← ho2]; exact gd_set_ne h0 (by omega) hk
      have hl2 : o2.length = s.1.length + 1 := by rw [← ho2, List.length_set, hl]
      rw [ho2]
      have hnot : i.toNat ∉ xs.map (ix s.1.length) := by rw [hi]; exact hnd.1
      obtain ⟨out', e1, e2, e3⟩ := R64_ok hph ha N xs (fun y hy => hx y (List.mem_cons_of_mem _ hy)) hnd.2 o2 hl2 (fun k hk => by
        have hne : (k : Int) ≠ i := fun e => hnot (by rw [← e, Int.toNat_natCast]; exact hk)
        rw [hoth k hne]
        exact hb k (by rw [List.map_cons]; exact List.mem_cons_of_mem _ hk))
      refine ⟨out', e1, e2, fun k hk => ?_⟩
      rw [e3 k hk, List.map_cons, ← hi]
      by_cases hki : k = i.toNat
      · subst hki
        rw [if_neg hnot, if_pos (by simp), show ((i.toNat : Nat) : Int) = i by omega, hself]
      · rw [hoth k (by omega)]
        by_cases hm : k ∈ xs.map (ix s.1.length)
        · rw [if_pos hm, if_pos (List.mem_cons_of_mem _ hm)]
        · rw [if_neg hm, if_neg (by simp only [List.mem_cons, not_or]; exact ⟨hki, hm⟩)]
    show ∃ out', Q64_7 N (R64_7 N xs) x s out ld = some (.norm, (out', ())) ∧ _
    unfold Q64_7
    have hx0 := hx x List.mem_cons_self
    by_cases hx1 : x = -1
    · have hi : ((s.1.length : Nat) : Int).toNat = ix s.1.length x := by unfold ix; rw [if_pos hx1, Int.toNat_natCast]
      have hb1 : (x == -1) = true := by simp [hx1]
      rw [hb1, cond_true, enumK_eq, hstep _ (by omega) (Int.le_refl _) hi]
      exact hgo _ (by omega) (Int.le_refl _) hi
    · have hi : x.toNat = ix s.1.length x := by unfold ix; rw [if_neg hx1]
      have hb1 : (x == -1) = false := by simp [hx1]
      rw [hb1, cond_false, enumK_eq, hstep _ (by omega) (by omega) hi]
      exact hgo _ (by omega) (by omega) hi
/-- The currents of a board in the three phases. -/
def row3 (s : Sup) (S : Nat) (b : Int) (i : Nat) : List Int := [curK s S b 0 i, curK s S b 1 i, curK s S b 2 i]
def curs (s : Sup) (S : Nat) (i : Nat) : List (List Int) := (List.range (s.1.length + 1)).map fun k => row3 s S (bO s.1.length k) i
theorem row3_gd (s : Sup) (S : Nat) (b : Int) (i : Nat) {ph : Int} (h : 0 ≤ ph ∧ ph ≤ 2) : gd (row3 s S b i) ph = curK s S b ph i := by
  obtain rfl | rfl | rfl : ph = 0 ∨ ph = 1 ∨ ph = 2 := by omega
  all_goals rfl
theorem row3_step (s : Sup) (S : Nat) (b : Int) (i : Nat) (h : 0 ≤ (gd s.2.1 (i : Int)).2.1 ∧ (gd s.2.1 (i : Int)).2.1 ≤ 2) :
    row3 s S b (i + 1) = if S.testBit i && (decide (b < 0) || und s.1 (gd s.2.1 (i : Int)).1 b) then (row3 s S b i).set (gd s.2.1 (i : Int)).2.1.toNat (gd (row3 s S b i) (gd s.2.1 (i : Int)).2.1 + (gd s.2.1 (i : Int)).2.2.1) else row3 s S b i := by
  rw [row3_gd s S b i h]
  unfold row3
  simp only [curK]
  generalize (gd s.2.1 (i : Int)).2.1 = p at h ⊢
  generalize (decide (b < 0) || und s.1 (gd s.2.1 (i : Int)).1 b) = q
  generalize S.testBit i = r
  obtain rfl | rfl | rfl : p = 0 ∨ p = 1 ∨ p = 2 := by omega
  all_goals cases r <;> cases q <;> simp
theorem curs_len (s : Sup) (S i : Nat) : (curs s S i).length = s.1.length + 1 := by simp [curs]
theorem curs_gd (s : Sup) (S i : Nat) {k : Nat} (h : k ≤ s.1.length) : gd (curs s S i) (k : Int) = row3 s S (bO s.1.length k) i := gd_mapr _ (by omega)
theorem ix_mem {s : Sup} (h : okS s = true) {b : Int} (h0 : 0 ≤ b) (h1 : b < s.1.length) {k : Nat} (hk : k ≤ s.1.length) : k ∈ (chn s.1 b ++ [-1]).map (ix s.1.length) ↔ (decide (bO s.1.length k < 0) || und s.1 b (bO s.1.length k)) = true := by
  have hm := chn_mem (okS_up h) b (by omega) h1
  unfold bO
  by_cases hkn : k = s.1.length
  · rw [if_pos hkn]
    simp [ix, hkn]
  · rw [if_neg hkn]
    unfold und
    simp only [List.map_append, List.mem_append, List.map_cons, List.map_nil, List.mem_singleton, Bool.or_eq_true, decide_eq_true_iff, List.contains_eq_mem]
    constructor
    · rintro (h2 | h2)
      · obtain ⟨x, hx, e⟩ := List.mem_map.1 h2
        have := hm x hx
        unfold ix at e
        rw [if_neg (by omega)] at e
        right
        rw [← e, show ((x.toNat : Nat) : Int) = x by omega]
        exact hx
      · unfold ix at h2
        rw [if_pos rfl] at h2
        exact absurd h2 hkn
    · rintro (h2 | h2)
      · omega
      · left
        refine List.mem_map.2 ⟨(k : Int), h2, ?_⟩
        unfold ix
        rw [if_neg (by omega), Int.toNat_natCast]
theorem ix_nodup {s : Sup} (h : okS s = true) {b : Int} (h0 : 0 ≤ b) (h1 : b < s.1.length) : ((chn s.1 b ++ [-1]).map (ix s.1.length)).Nodup := by
  have hm := chn_mem (okS_up h) b (by omega) h1
  have hn := chn_nodup (okS_up h) b (by omega) h1
  rw [List.map_append, List.nodup_append]
  refine ⟨?_, by simp, ?_⟩
  · rw [List.Nodup, List.pairwise_map]
    refine hn.imp_of_mem ?_
    intro x y hx hy hne e
    have h1 := hm x hx
    have h2 := hm y hy
    unfold ix at e
    rw [if_neg (by omega), if_neg (by omega)] at e
    exact hne (by omega)
  · intro x hx y hy
    obtain ⟨z, hz, rfl⟩ := List.mem_map.1 hx
    have := hm z hz
    simp only [List.map_cons, List.map_nil, List.mem_singleton] at hy
    subst hy
    unfold ix
    rw [if_neg (by omega), if_pos rfl]
    omega
theorem g64_eq {s : Sup} (h : okS s = true) {S : Nat} (hS : S < 4611686018427387904) : g64 (s, (S : Int), ()) = some ((curs s S s.2.1.length, ()), ()) := by
  show F64 fuel s (S : Int) = _
  unfold F64
  have hl := okS_le h
  have hf := fuel_ge
  have hu := okS_up h
  rw [wI (by omega) (by omega), leK_in (by omega), leK_in (by omega), lenK_in (by omega) (by omega), bindV_eq]
  have e0 : List.replicate ((s.1.length : Int) + 1).toNat (List.replicate 3 (0 : Int)) = curs s S 0 := by
    refine ext_gd (by rw [curs_len, List.length_replicate]; omega) fun k hk => ?_
    rw [List.length_replicate] at hk
    rw [gd_replicate (by omega) (by omega), curs_gd s S 0 (by omega)]
    rfl
  rw [e0]
  have e := loopF (L := L64_3) (fun i => (((S : Int), s, s.2.1, (s.2.1.length : Int), (i : Int), ()), (curs s S i, ()), ())) ((), (curs s S s.2.1.length, ()), ()) 0 s.2.1.length (N := fuel) (by omega)
    (fun N => by
      simp only [L64_3, B64_3]
      rw [dec_f (by omega)]
      rfl)
    (fun N i _ hi => by
      have hx := okL_1 (okS_ld h hi)
      simp only [L64_3, B64_3]
      rw [dec_t (by omega), cond_true, getI_gd (by omega) (by omega), negK_in (by omega), bit_n hS (by omega), wI (x := (i : Int) + 1) (by omega) (by omega), show ((i : Int) + 1) = ((i + 1 : Nat) : Int) by omega]
      cases hb : S.testBit i with
      | false =>
        have : curs s S (i + 1) = curs s S i := by
          refine ext_gd (by rw [curs_len, curs_len]) fun k hk => ?_
          rw [curs_len] at hk
          rw [curs_gd s S _ (by omega), curs_gd s S _ (by omega), row3_step s S _ i hx.2.1, hb]
          rfl
        rw [this]
        rfl
      | true =>
        obtain ⟨out', e1, e2, e3⟩ := R64_ok (s := s) (ld := gd s.2.1 (i : Int)) hx.2.1 hx.2.2.1 N (chn s.1 (gd s.2.1 (i : Int)).1 ++ [-1])
          (fun x hm => by
            rcases List.mem_append.1 hm with h1 | h1
            · have := chn_mem hu _ (by omega) hx.1.2 x h1
              right; omega
            · left; simpa using h1)
          (ix_nodup h hx.1.1 hx.1.2) (curs s S i) (curs_len s S i) (fun k hk => by
            have hk : k ≤ s.1.length := by
              obtain ⟨y, hy, rfl⟩ := List.mem_map.1 hk
              unfold ix
              rcases List.mem_append.1 hy with h1 | h1
              · have := chn_mem hu _ (by omega) hx.1.2 y h1
                split <;> omega
              · split <;> simp_all
            rw [curs_gd s S i hk, row3_gd s S _ i hx.2.1]
            have := curK_bd h S (bO s.1.length k) (gd s.2.1 (i : Int)).2.1 i (by omega)
            exact ⟨rfl, by omega, by omega⟩)
        have e4 : out' = curs s S (i + 1) := by
          refine ext_gd (by rw [e2, curs_len]) fun k hk => ?_
          have hk : k ≤ s.1.length := by omega
          rw [e3 k hk, curs_gd s S _ hk, curs_gd s S _ hk, row3_step s S _ i hx.2.1, hb, Bool.true_and]
          by_cases hm : k ∈ (chn s.1 (gd s.2.1 (i : Int)).1 ++ [-1]).map (ix s.1.length)
          · rw [if_pos hm, if_pos ((ix_mem h hx.1.1 hx.1.2 hk).1 hm)]
          · rw [if_neg hm, if_neg (fun hh => hm ((ix_mem h hx.1.1 hx.1.2 hk).2 hh))]
        refine (up_k hu (by omega) (by omega) (by omega) (fun l6 => derefK (R64_7 N l6 (s, curs s S i, gd s.2.1 (i : Int), ())) fun o5 => cond (X.same .norm o5.1) (L64_3 N (((S : Int), s, s.2.1, (s.2.1.length : Int), ((i + 1 : Nat) : Int), ()), (o5.2.1, ()), ())) none)).trans ?_
        rw [e1, derefK_some, e4]
        rfl)
  have e' : L64_3 fuel (((S : Int), s, s.2.1, (s.2.1.length : Int), 0, ()), (curs s S 0, ()), ()) = _ := e
  rw [e', derefK_some]
end Go.Proofs.Try.V
