/- Plain laws of layer 1: what the program buys. No condition beyond those typed in each theorem. -/
import Derived.Test.YtlhapfgcnfooeaaLw4
namespace Go.Proofs.Try.V
open Go.Vi
set_option maxRecDepth 100000

theorem MaxC.of_end {b : Bun} {l : List Bun} {t p : Int} {k : Nat} (h : Pays (b :: l) (t - k * b.1) (p - k * b.2)) (he : ¬ Pays (b :: l) (t - k * b.1 - b.1) (p - k * b.2 - b.2)) : MaxC b l t p k := by
  refine ⟨by omega, ?_, fun j hj hp => ?_⟩
  · rcases Pays.cons_iff.1 h with h | h
    · exact h
    · exact absurd h he
  · by_cases hjk : j ≤ k
    · exact hjk
    · refine absurd ?_ he
      obtain ⟨d, hd⟩ : ∃ d : Nat, j = (k : Int) + 1 + d := ⟨(j - k - 1).toNat, by omega⟩
      have := hp.cons_mono (b := b) d
      have e1 : j * b.1 = (k : Int) * b.1 + b.1 + (d : Int) * b.1 := by rw [hd, Int.add_mul, Int.add_mul, Int.one_mul]
      have e2 : j * b.2 = (k : Int) * b.2 + b.2 + (d : Int) * b.2 := by rw [hd, Int.add_mul, Int.add_mul, Int.one_mul]
      rwa [show t - j * b.1 + (d : Int) * b.1 = t - k * b.1 - b.1 by omega, show p - j * b.2 + (d : Int) * b.2 = p - k * b.2 - b.2 by omega] at this

theorem take68 (l : List Bun) (hl : Fine l) (hk : l.length ≤ 6) (price : Int) (m : Nat) (hm : m ≤ 2000) (i : Nat) (hi : i < l.length) (o : List (List Int)) (ho : Tab l (m + 1) o 0) (T p : Int) (hT : T ≤ m) (hL : Least (l.drop i) T p) (many : List Int) (hml : many.length = l.length) (hz : gd many (i : Int) = 0) {N : Nat} (hN : 3000 < N) :
    ∃ k : Nat, MaxC (gd l (i : Int)) (l.drop (i + 1)) T p k ∧ Least (l.drop (i + 1)) (T - k * (gd l (i : Int)).1) (p - k * (gd l (i : Int)).2) ∧
      L68_34 N ((price, T, (i : Int), p, l, (l.length : Int), (i : Int), ()), (gd l (i : Int), o, many, ()), ()) = some ((price, T - k * (gd l (i : Int)).1, l, (l.length : Int), (i : Int), ()), (o, many.set i k, ()), ()) := by
  obtain ⟨h1, h2, h3⟩ := ho
  have hd : l.drop i = gd l (i : Int) :: l.drop (i + 1) := drop_nat hi
  have hb := hl _ (gd_mem (l := l) (i := (i : Int)) (by omega) (by omega))
  have hfd : Fine (gd l (i : Int) :: l.drop (i + 1)) := by rw [← hd]; exact hl.drop i
  rw [hd] at hL
  revert hL hb hfd
  generalize hbv : gd l (i : Int) = b
  intro hL hb hfd
  have hT0 := (hL.1.le hfd).1
  have hrow := h2 i (by omega)
  have e0 : many.set i 0 = many := by
    refine ext_gd (by rw [List.length_set]) fun j hj => ?_
    rw [gd_setN (by omega)]
    by_cases h : j = i
    · rw [if_pos h, h, hz]
    · rw [if_neg h]
  obtain ⟨r, hr, k, q1, q2, rfl⟩ := loopM (L := L68_34) (fun k : Nat => ((price, T - k * b.1, (i : Int), p - k * b.2, l, (l.length : Int), (i : Int), ()), (b, o, many.set i k, ()), ()))
    (fun k => Least (b :: l.drop (i + 1)) (T - k * b.1) (p - k * b.2))
    (fun r => ∃ k : Nat, MaxC b (l.drop (i + 1)) T p k ∧ Least (l.drop (i + 1)) (T - k * b.1) (p - k * b.2) ∧ r = ((price, T - k * b.1, l, (l.length : Int), (i : Int), ()), (o, many.set i k, ()), ())) 0 (fun k => (T - k * b.1).toNat)
    (fun N k _ hP => by
      have hle := hP.1.le hfd
      have hkb : (k : Int) ≤ k * b.1 := by
        have := Int.mul_le_mul_of_nonneg_left hb.1 (show (0 : Int) ≤ k by omega)
        omega
      have hkb2 : (0 : Int) ≤ k * b.2 := Int.mul_nonneg (by omega) (by omega)
      have e1 : ((k + 1 : Nat) : Int) * b.1 = k * b.1 + b.1 := by rw [Int.natCast_succ, Int.add_mul]; omega
      have e2 : ((k + 1 : Nat) : Int) * b.2 = k * b.2 + b.2 := by rw [Int.natCast_succ, Int.add_mul]; omega
      have hex : ¬ Pays (b :: l.drop (i + 1)) (T - k * b.1 - b.1) (p - k * b.2 - b.2) → ∃ r, some ((price, T - k * b.1, l, (l.length : Int), (i : Int), ()), (o, many.set i k, ()), ()) = some r ∧ ∃ k : Nat, MaxC b (l.drop (i + 1)) T p k ∧ Least (l.drop (i + 1)) (T - k * b.1) (p - k * b.2) ∧ r = ((price, T - k * b.1, l, (l.length : Int), (i : Int), ()), (o, many.set i k, ()), ()) := fun he => by
        have hm := MaxC.of_end hP.1 he
        exact ⟨_, rfl, k, hm, hL.rest (by omega) hm.2.1, rfl⟩
      have i1 : ∀ {α : Type} (k : Option α), inR (i : Int) o.length k = k := fun k => inR_in (by omega) (by omega) k
      have i2 : ∀ {α : Type} (k : List Int → Option α), getI o (i : Int) k = k (gd o (i : Int)) := fun k => getI_gd (by omega) (by omega) k
      simp only [L68_34, B68_34, i1, i2]
      by_cases hge : T - k * b.1 ≥ b.1
      · obtain ⟨t1, ht1⟩ : ∃ t1 : Nat, (t1 : Int) = T - k * b.1 - b.1 := ⟨(T - k * b.1 - b.1).toNat, by omega⟩
        have w2 : IntKind.wrap .i64 (T - k * b.1 - b.1) = (t1 : Int) := by rw [wI (by omega) (by omega), ht1]
        have i3 : ∀ {α : Type} (k : Option α), inR (t1 : Int) (gd o (i : Int)).length k = k := fun k => inR_in (by omega) (by omega) k
        have i4 : ∀ {α : Type} (k : Int → Option α), getI (gd o (i : Int)) (t1 : Int) k = k (gd (gd o (i : Int)) (t1 : Int)) := fun k => getI_gd (by omega) (by omega) k
        have hE := h3 i (by omega) (by omega) t1 (by omega)
        rw [hd, hbv] at hE
        rw [dec_t hge, cond_true, w2, i3, i4]
        by_cases hlt : gd (gd o (i : Int)) (t1 : Int) < NO
        · rw [dec_t hlt, cond_true, i3, i4]
          have hLq : Least (b :: l.drop (i + 1)) (T - k * b.1 - b.1) (gd (gd o (i : Int)) (t1 : Int)) := Eq.subst (motive := fun x => Least (b :: l.drop (i + 1)) x (gd (gd o (i : Int)) (t1 : Int))) ht1 (hE.least hlt)
          have hq := hLq.1.le hfd
          rw [wI (by omega) (by omega)]
          by_cases heq : gd (gd o (i : Int)) (t1 : Int) + b.2 = p - k * b.2
          · have hpv : gd (gd o (i : Int)) (t1 : Int) = p - k * b.2 - b.2 := by omega
            rw [heq, beq_self_eq_true, cond_true]
            have i5 : ∀ {α : Type} (k' : Option α), inR (i : Int) (many.set i (k : Int)).length k' = k' := fun k' => inR_in (by omega) (by rw [List.length_set, hml]; omega) k'
            have i6 : ∀ {α : Type} (k' : Int → Option α), getI (many.set i (k : Int)) (i : Int) k' = k' (k : Int) := fun k' => by
              rw [getI_gd (by omega) (by rw [List.length_set, hml]; omega), gd_setN (by omega), if_pos rfl]
            rw [i5, i6, i5, i6, i3, i4]
            refine .inl ⟨k + 1, ?_, ?_, ?_⟩
            · have h := (Least.prev_iff hP hLq).1 heq
              have := hP.prev h
              rwa [e1, e2, show T - (k * b.1 + b.1) = T - k * b.1 - b.1 by omega, show p - (k * b.2 + b.2) = p - k * b.2 - b.2 by omega]
            · rw [e1]; omega
            · rw [hpv, ht1, e1, e2, show T - (k * b.1 + b.1) = T - k * b.1 - b.1 by omega, show p - (k * b.2 + b.2) = p - k * b.2 - b.2 by omega, Int.toNat_natCast, List.set_set, wI (by omega) (by omega)]
              rfl
          · rw [beq_false_of_ne heq, cond_false]
            exact .inr (hex fun h => heq ((Least.prev_iff hP hLq).2 h))
        · rw [dec_f hlt, cond_false]
          refine .inr (hex ?_)
          have hN : gd (gd o (i : Int)) (t1 : Int) = NO := by have := hE.1; omega
          rw [hN] at hE
          rw [← ht1]
          exact hE.none hfd (by show _ < (1152921504606846976 : Int); omega) _
      · rw [dec_f hge, cond_false]
        exact .inr (hex fun h => by have := h.le hfd; omega))
    2001 N 0 (by omega) (by simpa using hL) (by omega)
  refine ⟨k, q1, q2, ?_⟩
  rw [← hr]
  simp [e0]
end Go.Proofs.Try.V
