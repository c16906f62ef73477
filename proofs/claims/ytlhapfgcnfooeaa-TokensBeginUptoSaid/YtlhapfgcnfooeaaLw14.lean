/- Plain laws of layer 1: the program's account; the example. No condition beyond those typed in each theorem. -/
import Derived.Test.YtlhapfgcnfooeaaLw13
namespace Go.Proofs.Try.V
open Go.Vi
set_option maxRecDepth 100000

/-- A loop that adds up. -/
theorem sum_take {l : List Int} {i : Nat} (h : i < l.length) : (l.take (i + 1)).sum = (l.take i).sum + gd l (i : Int) := by
  rw [take_nat h, List.sum_append]
  simp
theorem sum_take_le {l : List Int} (h : ∀ x ∈ l, 0 ≤ x) (i : Nat) : 0 ≤ (l.take i).sum ∧ (l.take i).sum ≤ l.sum := by
  have h1 := sum_nn fun x hx => h x (List.mem_of_mem_take (i := i) hx)
  have h2 := sum_nn fun x hx => h x (List.mem_of_mem_drop (i := i) hx)
  have h3 : l.sum = (l.take i).sum + (l.drop i).sum := by rw [← List.sum_append, List.take_append_drop]
  omega

def acct (f : Fair) (l : List Deal) : Night :=
  let t := stT f l l.length
  (t.1, t.2.1, t.2.2.1, sumP (stC f l l.length).2.2.1, t.2.2.2.2.1, t.2.2.2.2.2)
theorem g24_eq (f : Fair) (hs : Sized f) (l : List Deal) : g24 (f, l, ()) = some ((match wrong f l with | some x => (nt0, x.2, ()) | none => (acct f l, 0, ())), ()) := by
  have hfu := fuel_ge
  have e0 : g24 (f, l, ()) = F24 fuel f l := rfl
  rw [e0]
  unfold F24
  rw [g10052_eq f hs l]
  cases h : wrong f l with
  | some x =>
    simp only
    show derefK (g52 (f, l, (), ())) _ = _
    rw [g52_eq f hs l, h, derefK_some]
    simp only
    rw [bne_iff_ne.2 (wrong_ne h), cond_true]
    rfl
  | none =>
    obtain ⟨hf, _, hl, hb⟩ := wrong_none h
    have hI := Inv.all hf l l.length hb
    have hN := NInv.all hf l l.length hb
    have hsum := hf.sum
    have ht : tot (stC f l l.length) = f.2.2.1.sum := hI.tt
    unfold tot at ht
    have n1 := sum_nn hI.ns
    have n3 := sum_nn hI.nb
    have n4 := hI.nl
    have hp1 := hf.p1
    have hlp := hI.lp
    obtain ⟨P, hP⟩ : ∃ P, (stC f l l.length).2.2.1.map (·.1) = P := ⟨_, rfl⟩
    have hPl : P.length = (stC f l l.length).2.2.1.length := by rw [← hP, List.length_map]
    have hPn : ∀ x ∈ P, 0 ≤ x := fun x hx => by
      rw [← hP] at hx
      obtain ⟨y, hy, rfl⟩ := List.mem_map.1 hx
      exact hI.np y hy
    have hPs : P.sum = sumP (stC f l l.length).2.2.1 := by rw [← hP]; rfl
    have hloop := loopF (L := L24_5) (fun i => ((((stC f l l.length).2.2.1.length : Int), (i : Int), ()), (nt0, (f, (stC f l l.length, (lastT l l.length, ((stT f l l.length).1, (stT f l l.length).2.1, (stT f l l.length).2.2.1, (P.take i).sum, (stT f l l.length).2.2.2.2)))), ()), ()))
      ((), (nt0, (f, (stC f l l.length, (lastT l l.length, acct f l))), ()), ()) 0 (stC f l l.length).2.2.1.length (N := fuel) (by omega)
      (fun N => by
        simp only [L24_5, B24_5]
        rw [dec_f (by omega), cond_false, ← hPl, List.take_length, hPs]
        rfl)
      (fun N i _ hi => by
        simp only [L24_5, B24_5, bindV_eq]
        have h2 := sum_take_le hPn i
        have h3 := sum_take_le hPn (i + 1)
        have h4 := sum_take (l := P) (i := i) (by omega)
        have h5 : gd P (i : Int) = (gd (stC f l l.length).2.2.1 (i : Int)).1 := by rw [← hP]; exact gd_map1 hi
        rw [dec_t (by omega), cond_true, inR_in (by omega) (by omega), getI_gd (by omega) (by omega), ← h5, wI (by omega) (by omega), wI (by omega) (by omega), h4]
        rfl)
    show derefK (L24_5 fuel ((((stand f l l.length).2.1.2.2.1.length : Int), 0, ()), (((0 : Int), ((0 : Int), ((0 : Int), ((0 : Int), ((0 : Int), (0 : Int)))))), stand f l l.length, ()), ())) _ = _
    have hst : (stT f l l.length).2.2.2.1 = 0 := hN.h
    have e1 : (((((stC f l l.length).2.2.1.length : Int), (((0 : Nat) : Int)), ()), (nt0, (f, (stC f l l.length, (lastT l l.length, ((stT f l l.length).1, (stT f l l.length).2.1, (stT f l l.length).2.2.1, (P.take 0).sum, (stT f l l.length).2.2.2.2)))), ()), ()) : (Int × Int × Unit) × (Night × Stand × Unit) × Unit) = ((((stand f l l.length).2.1.2.2.1.length : Int), 0, ()), (((0 : Int), ((0 : Int), ((0 : Int), ((0 : Int), ((0 : Int), (0 : Int)))))), stand f l l.length, ()), ()) := by
      have e2 : (P.take 0).sum = (stT f l l.length).2.2.2.1 := by rw [hst]; rfl
      rw [e2]
      rfl
    rw [e1] at hloop
    rw [hloop]
    rfl

/-! ## The example -/
def exF : Fair := (2, 2, [100, 50], [0, 1000], [(1, 200), (6, 1000)], 150, 2500, 180)
def exL : List Deal := [(5, 1, 0, 0, 1), (10, 2, 0, 1, 4), (20, 4, 1, 0, 1)]
theorem exF_ok : fairOK exF = true := by decide
theorem exS : Sized exF := by unfold Sized exF; simp
theorem ex_wrong : wrong exF exL = none := wrong_of exF_ok (by decide) (by decide)
theorem ex_acct : acct exF exL = (6, 4, 1, 1, 0, 850) := by decide
theorem ex_pays {t p : Int} (h : Pays [(1, 200), (6, 1000)] t p) : ∃ a b : Nat, t = a + 6 * b ∧ p = 200 * a + 1000 * b := by
  obtain ⟨a, h1⟩ := h.count
  obtain ⟨b, h2⟩ := h1.count
  revert h2
  generalize e1 : t - (a : Int) * ((1, 200) : Bun).1 - (b : Int) * ((6, 1000) : Bun).1 = x
  generalize e2 : p - (a : Int) * ((1, 200) : Bun).2 - (b : Int) * ((6, 1000) : Bun).2 = y
  intro h2
  cases h2
  simp only at e1 e2
  exact ⟨a, b, by omega, by omega⟩
theorem ex_pays1 {t p : Int} (h : Pays [(6, 1000)] t p) : ∃ b : Nat, t = 6 * b ∧ p = 1000 * b := by
  obtain ⟨b, h2⟩ := h.count
  revert h2
  generalize e1 : t - (b : Int) * ((6, 1000) : Bun).1 = x
  generalize e2 : p - (b : Int) * ((6, 1000) : Bun).2 = y
  intro h2
  cases h2
  simp only at e1 e2
  exact ⟨b, by omega, by omega⟩
theorem ex_buys : Buys exF.2.2.2.2.1 7 [1, 1] 1200 := by
  show Buys [(1, 200), (6, 1000)] 7 [1, 1] 1200
  have p6 : Pays [(6, 1000)] 6 1000 := Pays.take (b := (6, 1000)) (t := 0) (p := 0) (.zero _)
  have p7 : Pays [(1, 200), (6, 1000)] 7 1200 := Pays.take (b := (1, 200)) (t := 6) (p := 1000) (.skip p6)
  refine ⟨7, ⟨Nat.le_refl _, by decide, p7, fun t' h1 h2 p' hp => ?_⟩, ?_⟩
  · obtain ⟨a, b, e1, e2⟩ := ex_pays hp
    omega
  · refine .cons (k := 1) ⟨by decide, p6, fun j hj hp => ?_⟩ (.cons (k := 1) ⟨by decide, .zero _, fun j hj hp => ?_⟩ ?_)
    · obtain ⟨b, e1, e2⟩ := ex_pays1 hp
      simp only at e1 e2
      omega
    · revert hp
      generalize e1 : ((7 : Nat) : Int) - 1 * ((1, 200) : Bun).1 - j * ((6, 1000) : Bun).1 = x
      generalize e2 : (1200 : Int) - 1 * ((1, 200) : Bun).2 - j * ((6, 1000) : Bun).2 = y
      intro hp
      cases hp
      simp only at e1 e2
      omega
    · exact .nil
theorem g43_eq (f : Fair) (hl : Fine f.2.2.2.2.1) (hk : f.2.2.2.2.1.length ≤ 6) (n : Nat) (hn : n ≤ 1000) :
    (NoBuy f.2.2.2.2.1 n ∧ g43 (f, (n : Int), ()) = some (([], 0, 3, ()), ())) ∨ ∃ r p, Buys f.2.2.2.2.1 n r p ∧ g43 (f, (n : Int), ()) = some ((r, p, 0, ()), ()) := by
  have e0 : g43 (f, (n : Int), ()) = F43 fuel f n := rfl
  rw [e0]
  unfold F43
  rcases g68_eq f.2.2.2.2.1 hl hk n hn with ⟨h, h2⟩ | ⟨r, p, h, h1, h2⟩
  · left
    exact ⟨h, by rw [h2]; rfl⟩
  · right
    exact ⟨r, p, h, by rw [h2, h1]; rfl⟩
theorem g14_eq (f : Fair) (hs : Sized f) (n : Int) : ∃ x, BuyR f n x ∧ g14 (f, n, ()) = some ((x.1, x.2.1, x.2.2, ()), ()) := by
  have e0 : g14 (f, n, ()) = F14 fuel f n := rfl
  rw [e0]
  unfold F14
  rw [g18_eq f hs, derefK_some]
  by_cases hv : fairOK f = false
  · refine ⟨([], 0, 10), by unfold BuyR; rw [if_pos hv], ?_⟩
    rw [hv]; rfl
  have hv' : fairOK f = true := by simpa using hv
  rw [hv', if_pos rfl, show ((0 : Int) != 0) = false from rfl, cond_false, g42_eq, derefK_some]
  by_cases hn : rng n 0 1000 = false
  · refine ⟨([], 0, 1), by unfold BuyR; rw [if_neg hv, if_pos hn], ?_⟩
    rw [hn]; rfl
  have hn' : rng n 0 1000 = true := by simpa using hn
  have hr := rng_iff.1 hn'
  rw [hn', Bool.not_true, cond_false]
  obtain ⟨hl, hk⟩ := fairOK_fine hv'
  obtain ⟨m, rfl⟩ : ∃ m : Nat, n = m := ⟨n.toNat, by omega⟩
  rcases g43_eq f hl hk m (by omega) with ⟨h, h1⟩ | ⟨r, p, h, h1⟩
  · refine ⟨([], 0, 3), ?_, by rw [h1]; rfl⟩
    unfold BuyR
    rw [if_neg hv, if_neg hn, if_pos]
    refine ⟨?_, ?_⟩
    · exact Classical.byContradiction fun hne => not_noBuy hl (.inr hne) h
    · exact Classical.byContradiction fun hne => not_noBuy hl (.inl (by omega)) h
  · refine ⟨(r, p, 0), ?_, by rw [h1]; rfl⟩
    unfold BuyR
    rw [if_neg hv, if_neg hn, if_neg, Int.toNat_natCast]
    · exact ⟨rfl, h⟩
    · rintro ⟨e1, e2⟩
      rw [e1] at h
      exact buys_noBuy h (noBuy_nil (by omega))
/-- Lists of numbers that are the same. -/
theorem g16_eq (a b : List Int) (ha : a.length ≤ 1000000000) : g16 (a, b, ()) = some ((decide (a = b), ()), ()) := by
  have hfu := fuel_ge
  have e0 : g16 (a, b, ()) = F16 fuel a b := rfl
  rw [e0]
  unfold F16
  by_cases hl : a.length = b.length
  · rw [show ((a.length : Int) != (b.length : Int)) = false by rw [hl, bne_self_eq_false], cond_false]
    have h := loopFirst (L := L16_4) (fun i => ((a, b, (i : Int), ()), (), ())) a.length (fun i => decide (gd a (i : Int) ≠ gd b (i : Int))) (fun _ => .inl ((false, ()), (), ())) (.inr ((), (), ())) 0 (N := fuel) (by omega)
      (fun N _ => by simp only [L16_4, B16_4]; rw [dec_f (by omega), cond_false])
      (fun N i _ hi _ => by
        simp only [L16_4, B16_4]
        rw [dec_t (by omega), cond_true, getI_gd (by omega) (by omega), getI_gd (by omega) (by omega), wI (by omega) (by omega)]
        by_cases he : gd a (i : Int) = gd b (i : Int)
        · rw [he, bne_self_eq_false, dec_f (fun h => h rfl)]
          rfl
        · rw [bne_iff_ne.2 he, dec_t he]
          rfl)
    have h' : L16_4 fuel ((a, b, 0, ()), (), ()) = _ := h
    rw [h', derefK_some]
    cases hq : first a.length (fun i => decide (gd a (i : Int) ≠ gd b (i : Int))) with
    | none =>
      rw [first_none] at hq
      have : a = b := ext_gd hl fun i hi => by
        have := hq i hi
        rw [decide_eq_false_iff_not] at this
        exact Classical.not_not.1 this
      rw [dec_t this]
      rfl
    | some i =>
      rw [first_some] at hq
      have := of_decide_eq_true hq.2.1
      rw [dec_f (p := a = b) fun h => this (by rw [h])]
      rfl
  · rw [bne_iff_ne.2 (fun h => hl (by omega)), cond_true, dec_f (fun h => hl (by rw [h]))]
theorem works_eq : g17 () = some ((true, ()), ()) := by
  have e0 : g17 () = F17 fuel := rfl
  rw [e0]
  unfold F17
  have e1 : g46 () = some ((exF, ()), ()) := rfl
  have e2 : g24 (exF, exL, ()) = some ((acct exF exL, 0, ()), ()) := by
    rw [g24_eq exF exS exL, ex_wrong]
  have e3 : g14 (exF, 7, ()) = some (([1, 1], 1200, 0, ()), ()) := by
    obtain ⟨x, h1, h2⟩ := g14_eq exF exS 7
    have h3 : BuyR exF 7 ([1, 1], 1200, 0) := by
      unfold BuyR
      rw [if_neg (by rw [exF_ok]; decide), if_neg (by decide), if_neg (by unfold exF; simp)]
      exact ⟨rfl, ex_buys⟩
    obtain rfl := h1.uniq h3
    exact h2
  have e2' : g24 (exF, [(5, 1, (0 : Int), (0 : Int), 1), (10, 2, (0 : Int), 1, 4), (20, 4, 1, (0 : Int), 1)], ()) = some ((acct exF exL, 0, ()), ()) := e2
  rw [e1, derefK_some, e2', derefK_some, derefK_some, e3, derefK_some, ex_acct]
  have e4 : g16 ([1, 1], [1, 1], ()) = some ((true, ()), ()) := g16_eq [1, 1] [1, 1] (by simp)
  show derefK (g16 ([1, 1], [1, 1], ())) _ = _
  rw [e4]
  rfl
end Go.Proofs.Try.V
