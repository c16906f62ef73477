/- Plain laws of layer 1: the document's prices. No condition beyond those typed in each theorem. -/
import Derived.Test.YtlhapfgcnfooeaaLw6
namespace Go.Proofs.Try.V
open Go.Vi
set_option maxRecDepth 100000

abbrev NR : Int := 1125899906842624
/-- One entry of the document's prices. -/
theorem entry45 (f : Fair) (hl : Fine f.2.2.2.2.1) (hk : f.2.2.2.2.1.length ≤ 6) (fr : Nat) (hfr : fr ≤ f.2.2.2.2.1.length) (most : Int) (t : Nat) (ht0 : 0 < t) (ht : t ≤ 2000) (o : List Int) (hot : t < o.length) (ho : ∀ t' : Nat, t' < t → Ent NR (f.2.2.2.2.1.drop fr) t' (gd o (t' : Int))) {N : Nat} (hN : 10 < N) :
    ∃ e, Ent NR (f.2.2.2.2.1.drop fr) t e ∧ L45_7 N (((fr : Int), most, (t : Int), (fr : Int), ()), (f, o.set t NR, ()), ()) = some (((fr : Int), most, (t : Int), ()), (f, o.set t e, ()), ()) := by
  revert hl hk hfr ho
  generalize hlv : f.2.2.2.2.1 = l
  intro hl hk hfr ho
  have hL : Fine (l.drop fr) := hl.drop fr
  obtain ⟨r, hr, e, q1, q2, q3, rfl⟩ := loop0 (L := L45_7) (fun (j : Nat) (e : Int) => (((fr : Int), most, (t : Int), ((fr + j : Nat) : Int), ()), (f, o.set t e, ()), ()))
    (fun j e => e ≤ NR ∧ (e = NR ∨ Pays (l.drop fr) t e) ∧ ∀ i : Nat, fr ≤ i → i < fr + j → ∀ p, Pays (l.drop fr) ((t : Int) - (gd l (i : Int)).1) p → e ≤ p + (gd l (i : Int)).2)
    (fun r => ∃ e : Int, e ≤ NR ∧ (e = NR ∨ Pays (l.drop fr) t e) ∧ (∀ i : Nat, fr ≤ i → i < l.length → ∀ p, Pays (l.drop fr) ((t : Int) - (gd l (i : Int)).1) p → e ≤ p + (gd l (i : Int)).2) ∧ r = (((fr : Int), most, (t : Int), ()), (f, o.set t e, ()), ())) 0 (l.length - fr) (N := N) (s := NR) ⟨Int.le_refl _, .inl rfl, fun i h1 h2 => by omega⟩ (by omega)
    (fun N e ⟨h1, h2, h3⟩ => ⟨_, by simp only [L45_7, B45_7, hlv]; rw [dec_f (by omega), cond_false], e, h1, h2, fun i a b => h3 i a (by omega), rfl⟩)
    (fun N j e _ hj ⟨h1, h2, h3⟩ => by
      left
      have hb := hl _ (gd_mem (l := l) (i := ((fr + j : Nat) : Int)) (by omega) (by omega))
      have hmem : gd l ((fr + j : Nat) : Int) ∈ l.drop fr := by
        have h := gd_nat (l := l.drop fr) (i := j) (by rw [List.length_drop]; omega)
        have h' := gd_nat (l := l) (i := fr + j) (by omega)
        rw [List.getElem?_drop, h'] at h
        rw [Option.some.inj h]
        exact List.mem_of_getElem? (by rw [List.getElem?_drop, h', h])
      have w1 : IntKind.wrap .i64 (((fr + j : Nat) : Int) + 1) = ((fr + (j + 1) : Nat) : Int) := by rw [wI (by omega) (by omega)]; omega
      simp only [L45_7, B45_7, hlv, w1]
      rw [dec_t (by omega), cond_true, getI_gd (by omega) (by omega)]
      revert hb hmem
      generalize hbv : gd l ((fr + j : Nat) : Int) = b
      intro hb hmem
      have hlast : ∀ e' : Int, e' ≤ e → (∀ p, Pays (l.drop fr) ((t : Int) - b.1) p → e' ≤ p + b.2) → ∀ i : Nat, fr ≤ i → i < fr + (j + 1) → ∀ p, Pays (l.drop fr) ((t : Int) - (gd l (i : Int)).1) p → e' ≤ p + (gd l (i : Int)).2 := by
        intro e' hle h i a b' p hp
        by_cases hi : i = fr + j
        · subst hi
          rw [hbv] at hp ⊢
          exact h p hp
        · have := h3 i a (by omega) p hp
          omega
      by_cases hle : b.1 ≤ (t : Int)
      · obtain ⟨t1, ht1⟩ : ∃ t1 : Nat, (t1 : Int) = (t : Int) - b.1 := ⟨((t : Int) - b.1).toNat, by omega⟩
        have w2 : IntKind.wrap .i64 ((t : Int) - b.1) = (t1 : Int) := by rw [wI (by omega) (by omega), ht1]
        have i1 : ∀ {α : Type} (x : Nat), x ≤ t → ∀ (k : Option α), inR (x : Int) (o.set t e).length k = k := fun x hx k => inR_in (by omega) (by rw [List.length_set]; omega) k
        have i2 : ∀ {α : Type} (x : Nat), x ≤ t → ∀ (k : Int → Option α), getI (o.set t e) (x : Int) k = k (gd (o.set t e) (x : Int)) := fun x hx k => getI_gd (by omega) (by rw [List.length_set]; omega) k
        rw [dec_t hle, cond_true, w2, i1 _ (Nat.le_refl _), i2 _ (Nat.le_refl _), i1 _ (by omega), i2 _ (by omega), i1 _ (Nat.le_refl _), i2 _ (Nat.le_refl _), gd_setN hot, gd_setN hot, if_pos rfl, if_neg (by omega)]
        have hE := ho t1 (by omega)
        have hE1 := hE.1
        have h0 : 0 ≤ gd o (t1 : Int) := by
          rcases hE.2.1 with h | h
          · rw [h]; decide
          · exact (h.le hL).2.1
        rw [wI (by omega) (by have : NR = 1125899906842624 := rfl; omega)]
        refine ⟨min e (gd o (t1 : Int) + b.2), ⟨by omega, ?_, hlast _ (by omega) fun p hp => ?_⟩, ?_⟩
        · by_cases hm : e ≤ gd o (t1 : Int) + b.2
          · rw [Int.min_eq_left hm]; exact h2
          · rw [Int.min_eq_right (by omega)]
            rcases hE.2.1 with h | h
            · omega
            · refine .inr (Pays.of_take (b := b) ?_ hmem)
              rw [← ht1, show gd o (t1 : Int) + b.2 - b.2 = gd o (t1 : Int) by omega]
              exact h
        · rw [← ht1] at hp
          have := hE.2.2 p hp
          omega
        · rw [Int.toNat_natCast, List.set_set]
      · rw [dec_f hle, cond_false]
        exact ⟨e, ⟨h1, h2, hlast _ (Int.le_refl _) fun p hp => absurd hp (Pays.neg hL (by omega))⟩, rfl⟩)
  refine ⟨e, ⟨q1, q2, fun p hp => ?_⟩, hr⟩
  obtain ⟨b, hb, hp'⟩ := hp.last (by omega)
  obtain ⟨j, hj⟩ := List.mem_iff_getElem?.1 hb
  rw [List.getElem?_drop] at hj
  have hjl : fr + j < l.length := (List.getElem?_eq_some_iff.1 hj).1
  have := q3 (fr + j) (by omega) hjl (p - b.2) (by rw [gd_of hj]; exact hp')
  rw [gd_of hj] at this
  omega
theorem g45_eq (f : Fair) (hl : Fine f.2.2.2.2.1) (hk : f.2.2.2.2.1.length ≤ 6) (fr : Nat) (hfr : fr ≤ f.2.2.2.2.1.length) (m : Nat) (hm : m ≤ 2000) :
    ∃ c : List Int, c.length = m + 1 ∧ (∀ t : Nat, t ≤ m → Ent NR (f.2.2.2.2.1.drop fr) t (gd c (t : Int))) ∧ g45 (f, (fr : Int), (m : Int), ()) = some ((c, ()), ()) := by
  have hf := fuel_ge
  have e0 : g45 (f, (fr : Int), (m : Int), ()) = F45 fuel f fr m := rfl
  rw [e0]
  unfold F45
  rw [show IntKind.wrap .i64 ((m : Int) + 1) = ((m + 1 : Nat) : Int) by rw [wI (by omega) (by omega)]; omega, leK_in (by omega), leK_in (by omega), lenK_in (by omega) (by omega), Int.toNat_natCast]
  have hL : Fine (f.2.2.2.2.1.drop fr) := hl.drop fr
  obtain ⟨r, hr, c, h1, h2, rfl⟩ := loop0 (L := L45_3) (fun (j : Nat) (o : List Int) => (((fr : Int), (m : Int), ((1 + j : Nat) : Int), ()), (f, o, ()), ()))
    (fun j o => o.length = m + 1 ∧ ∀ t : Nat, t < 1 + j → Ent NR (f.2.2.2.2.1.drop fr) t (gd o (t : Int)))
    (fun r => ∃ o : List Int, o.length = m + 1 ∧ (∀ t : Nat, t ≤ m → Ent NR (f.2.2.2.2.1.drop fr) t (gd o (t : Int))) ∧ r = ((), (o, ()), ())) 20 m (N := fuel) (s := List.replicate (m + 1) 0) ⟨by simp, fun t ht => by
      obtain rfl : t = 0 := by omega
      rw [gd_replicate (by omega) (by omega)]
      exact ⟨by decide, .inr (Pays.zero _), fun p hp => (hp.le hL).2.1⟩⟩ (by omega)
    (fun N o h => ⟨_, by simp only [L45_3, B45_3]; rw [dec_f (by omega), cond_false], o, h.1, fun t ht => h.2 t (by omega), rfl⟩)
    (fun N j o hc hj ⟨h1, h2⟩ => by
      left
      obtain ⟨e, q1, q2⟩ := entry45 f hl hk fr hfr (m : Int) (1 + j) (by omega) (by omega) o (by omega) h2 (N := N) (by omega)
      have w1 : IntKind.wrap .i64 (((1 + j : Nat) : Int) + 1) = ((1 + (j + 1) : Nat) : Int) := by rw [wI (by omega) (by omega)]; omega
      refine ⟨o.set (1 + j) e, ⟨by rw [List.length_set, h1], fun t ht => ?_⟩, ?_⟩
      · rw [gd_setN (by omega)]
        by_cases ht1 : t = 1 + j
        · rw [if_pos ht1, ht1]; exact q1
        · rw [if_neg ht1]; exact h2 t (by omega)
      · simp only [L45_3, B45_3]
        rw [dec_t (by omega), cond_true, inR_in (by omega) (by omega), getI_gd (by omega) (by omega), Int.toNat_natCast, q2, derefK_some]
        simp only [w1])
  have hr' : L45_3 fuel (((fr : Int), (m : Int), 1, ()), (f, List.replicate (m + 1) 0, ()), ()) = _ := hr
  exact ⟨c, h1, h2, by rw [hr']; rfl⟩
end Go.Proofs.Try.V
