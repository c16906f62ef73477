/- Plain laws of layer 1: what is cheapest is so among all; TokensBuys, TokensNoWin. No condition beyond those typed in each theorem. -/
import Derived.Test.YtlhapfgcnfooeaaLw19
namespace Go.Proofs.Try.V
open Go.Vi
set_option maxRecDepth 100000

/-! ## Among all -/
theorem Pays.add {l : List Bun} {t p : Int} (h : Pays l t p) : ∀ {t' p' : Int}, Pays l t' p' → Pays l (t + t') (p + p') := by
  induction h with
  | nil =>
    intro t' p' h'
    rwa [Int.zero_add, Int.zero_add]
  | @skip b l t p h ih =>
    intro t' p' h'
    obtain ⟨k, hk⟩ := h'.count
    have := (ih hk).cons_mono (b := b) k
    rwa [show t + (t' - k * b.1) + k * b.1 = t + t' by omega, show p + (p' - k * b.2) + k * b.2 = p + p' by omega] at this
  | @take b l t p h ih =>
    intro t' p' h'
    have := Pays.take (ih h')
    rwa [show t + t' + b.1 = t + b.1 + t' by omega, show p + p' + b.2 = p + b.2 + p' by omega] at this
theorem Opt.all {l : List Bun} (hl : Fine l) {n t : Nat} {p : Int} (h : Opt l n t p) : ∀ (m : Nat) (t' p' : Int), t' ≤ m → (n : Int) ≤ t' → Pays l t' p' → p ≤ p' ∧ (p' = p → (t : Int) ≤ t') := by
  intro m
  induction m with
  | zero =>
    intro t' p' h1 h2 hp
    have := h.2.2.2 0 (by omega) (by omega) p' (by rwa [show ((0 : Nat) : Int) = t' by omega])
    exact ⟨this.1, fun e => by have := this.2 e; omega⟩
  | succ m ih =>
    intro t' p' h1 h2 hp
    by_cases hb : t' ≤ n + 1000
    · obtain ⟨x, rfl⟩ : ∃ x : Nat, t' = x := ⟨t'.toNat, by omega⟩
      have := h.2.2.2 x (by omega) (by omega) p' hp
      exact ⟨this.1, fun e => by have := this.2 e; omega⟩
    · obtain ⟨b, hm, hp2⟩ := hp.last (by omega)
      have hbb := hl b hm
      have := ih (t' - b.1) (p' - b.2) (by omega) (by omega) hp2
      omega
theorem Opt.every {l : List Bun} (hl : Fine l) {n t : Nat} {p t' p' : Int} (h : Opt l n t p) (hn : (n : Int) ≤ t') (hp : Pays l t' p') : p ≤ p' ∧ (p' = p → (t : Int) ≤ t') := h.all hl t'.toNat t' p' (by omega) hn hp
theorem Pays.win {l : List Bun} {t p r : Int} (h : Pays l t p) (hw : ∀ b ∈ l, r * b.1 ≤ b.2) : r * t ≤ p := by
  induction h with
  | nil => simp
  | skip _ ih => exact ih fun b hb => hw b (List.mem_cons_of_mem _ hb)
  | @take b l t p _ ih =>
    have h1 := ih hw
    have h2 := hw b (List.mem_cons_self ..)
    rw [Int.mul_add]
    omega

/-! ## Numbers of bundles -/
def tks (l : List Bun) (r : List Int) : List Int := List.zipWith (fun b k => k * b.1) l r
def cts (l : List Bun) (r : List Int) : List Int := List.zipWith (fun b k => k * b.2) l r
theorem pays_counts : ∀ {l : List Bun} {r : List Int}, r.length = l.length → (∀ k ∈ r, 0 ≤ k) → Pays l (tks l r).sum (cts l r).sum
  | [], [], _, _ => .nil
  | [], _ :: _, h, _ => by simp at h
  | _ :: _, [], h, _ => by simp at h
  | b :: l, k :: r, h, hk => by
    have h1 := pays_counts (l := l) (r := r) (by simpa using h) fun x hx => hk x (List.mem_cons_of_mem _ hx)
    obtain ⟨n, rfl⟩ : ∃ n : Nat, k = n := ⟨k.toNat, by have := hk k (List.mem_cons_self ..); omega⟩
    have h2 := h1.cons_mono (b := b) n
    show Pays (b :: l) ((n : Int) * b.1 :: tks l r).sum ((n : Int) * b.2 :: cts l r).sum
    rw [List.sum_cons, List.sum_cons]
    rwa [show (tks l r).sum + (n : Int) * b.1 = (n : Int) * b.1 + (tks l r).sum by omega, show (cts l r).sum + (n : Int) * b.2 = (n : Int) * b.2 + (cts l r).sum by omega] at h2
theorem Best.sums {l : List Bun} {t p : Int} {r : List Int} (h : Best l t p r) : (tks l r).sum = t ∧ (cts l r).sum = p := by
  induction h with
  | nil => exact ⟨rfl, rfl⟩
  | @cons b l t p k r hm _ ih =>
    show (k * b.1 :: tks l r).sum = t ∧ (k * b.2 :: cts l r).sum = p
    rw [List.sum_cons, List.sum_cons]
    omega
theorem Best.nn {l : List Bun} {t p : Int} {r : List Int} (h : Best l t p r) : ∀ k ∈ r, 0 ≤ k := by
  induction h with
  | nil => intro k hk; cases hk
  | cons hm _ ih =>
    intro k hk
    rcases List.mem_cons.1 hk with rfl | hk
    · exact hm.1
    · exact ih k hk
/-- Of a bundle that is taken one can be given back. -/
theorem Best.less {l : List Bun} {t p : Int} {r : List Int} (h : Best l t p r) (hl : Fine l) : ∀ k ∈ r, k ≤ 0 ∨ ∃ b ∈ l, Pays l (t - b.1) (p - b.2) ∧ k * b.1 ≤ t := by
  induction h with
  | nil => intro k hk; cases hk
  | @cons b l t p k0 r hm hb ih =>
    intro k hk
    have hb1 := hl b (List.mem_cons_self ..)
    rcases List.mem_cons.1 hk with rfl | hk
    · by_cases h0 : k ≤ 0
      · exact .inl h0
      · right
        refine ⟨b, List.mem_cons_self .., ?_, ?_⟩
        · obtain ⟨n, hn⟩ : ∃ n : Nat, k = (n : Int) + 1 := ⟨(k - 1).toNat, by omega⟩
          have h2 := hm.2.1.cons_mono (b := b) n
          have e1 : k * b.1 = (n : Int) * b.1 + b.1 := by rw [hn, Int.add_mul, Int.one_mul]
          have e2 : k * b.2 = (n : Int) * b.2 + b.2 := by rw [hn, Int.add_mul, Int.one_mul]
          rwa [show t - k * b.1 + (n : Int) * b.1 = t - b.1 by omega, show p - k * b.2 + (n : Int) * b.2 = p - b.2 by omega] at h2
        · have := (hm.2.1.le hl.tail).1
          omega
    · rcases ih hl.tail k hk with h0 | ⟨c, hc, h1, h2⟩
      · exact .inl h0
      · right
        refine ⟨c, List.mem_cons_of_mem _ hc, ?_, ?_⟩
        · obtain ⟨n, hn⟩ : ∃ n : Nat, k0 = (n : Int) := ⟨k0.toNat, by have := hm.1; omega⟩
          have h3 := h1.cons_mono (b := b) n
          rw [hn] at h3
          rwa [show t - (n : Int) * b.1 - c.1 + (n : Int) * b.1 = t - c.1 by omega, show p - (n : Int) * b.2 - c.2 + (n : Int) * b.2 = p - c.2 by omega] at h3
        · have : 0 ≤ k0 * b.1 := Int.mul_nonneg hm.1 (by omega)
          omega
theorem Buys.small {l : List Bun} (hl : Fine l) {n : Nat} (hn : n ≤ 1000) {r : List Int} {p : Int} (h : Buys l n r p) : ∀ k ∈ r, 0 ≤ k ∧ k ≤ 1000 := by
  intro k hk
  obtain ⟨t, ho, hb⟩ := h
  refine ⟨hb.nn k hk, ?_⟩
  rcases hb.less hl k hk with h0 | ⟨b, hm, h1, h2⟩
  · omega
  · have hbb := hl b hm
    have h3 : (t : Int) < n + b.1 := by
      by_cases h4 : (n : Int) ≤ t - b.1
      · have := (ho.every hl h4 h1).1
        omega
      · omega
    by_cases h5 : k ≤ 1000
    · exact h5
    · have h6 := Int.mul_le_mul_of_nonneg_right (show (1001 : Int) ≤ k by omega) (show (0 : Int) ≤ b.1 by omega)
      omega

/-! ## cost -/
def fitsC (l : List Bun) (r : List Int) : Bool := ((r.length : Int) == (l.length : Int)) && r.all (rng · 0 1000)
theorem g20_eq {f : Fair} (hf : Ok f) (r : List Int) (hr : r.length ≤ 1048576) : g20 (f, r, ()) = some ((if fitsC f.2.2.2.2.1 r then ((tks f.2.2.2.2.1 r).sum, (cts f.2.2.2.2.1 r).sum, true, ()) else (0, 0, false, ())), ()) := by
  have hfu := fuel_ge
  have e0 : g20 (f, r, ()) = F20 fuel f r := rfl
  rw [e0]
  unfold F20 fitsC
  have hfine := hf.fine
  have hsix := hf.six
  generalize hlv : f.2.2.2.2.1 = l at *
  cases hlen : ((r.length : Int) == (l.length : Int)) with
  | false =>
    rw [bne, hlen]
    rfl
  | true =>
  have hlen' : r.length = l.length := by rw [beq_iff_eq] at hlen; omega
  rw [bne, hlen, Bool.not_true, cond_false, Bool.true_and]
  have hT : (tks l r).length = r.length := by unfold tks; rw [List.length_zipWith, hlen', Nat.min_self]
  have hC : (cts l r).length = r.length := by unfold cts; rw [List.length_zipWith, hlen', Nat.min_self]
  have gT : ∀ i : Nat, i < r.length → gd (tks l r) (i : Int) = gd r (i : Int) * (gd l (i : Int)).1 := fun i hi => gd_of (by
    unfold tks
    rw [List.getElem?_zipWith, gd_nat (l := l) (by omega), gd_nat hi])
  have gC : ∀ i : Nat, i < r.length → gd (cts l r) (i : Int) = gd r (i : Int) * (gd l (i : Int)).2 := fun i hi => gd_of (by
    unfold cts
    rw [List.getElem?_zipWith, gd_nat (l := l) (by omega), gd_nat hi])
  have bT : ∀ i : Nat, i ≤ r.length → (∀ j : Nat, j < i → (!rng (gd r (j : Int)) 0 1000) = false) → 0 ≤ ((tks l r).take i).sum ∧ ((tks l r).take i).sum ≤ 1000000 * i ∧ 0 ≤ ((cts l r).take i).sum ∧ ((cts l r).take i).sum ≤ 1000000000 * i := by
    intro i
    induction i with
    | zero => intro _ _; simp
    | succ i ih =>
      intro hi hq
      have h1 := ih (by omega) fun j hj => hq j (by omega)
      have h2 := hq i (by omega)
      rw [Bool.not_eq_false', rng_iff] at h2
      have hb := hfine _ (gd_mem (l := l) (i := (i : Int)) (by omega) (by omega))
      rw [sum_take (by omega), sum_take (by omega), gT i (by omega), gC i (by omega)]
      have m1 : 0 ≤ gd r (i : Int) * (gd l (i : Int)).1 := Int.mul_nonneg (by omega) (by omega)
      have m2 : gd r (i : Int) * (gd l (i : Int)).1 ≤ 1000 * 1000 := Int.mul_le_mul (by omega) (by omega) (by omega) (by omega)
      have m3 : 0 ≤ gd r (i : Int) * (gd l (i : Int)).2 := Int.mul_nonneg (by omega) (by omega)
      have m4 : gd r (i : Int) * (gd l (i : Int)).2 ≤ 1000 * 1000000 := Int.mul_le_mul (by omega) (by omega) (by omega) (by omega)
      omega
  have h := loopFirst (L := L20_5) (fun i => ((r, ((tks l r).take i).sum, ((cts l r).take i).sum, (i : Int), ()), (f, ()), ())) r.length (fun i => !rng (gd r (i : Int)) 0 1000) (fun _ => .inl ((0, 0, false, ()), (), ())) (.inr (((tks l r).sum, (cts l r).sum, ()), (), ())) 0 (N := fuel) (by omega)
    (fun N _ => by
      simp only [L20_5, B20_5]
      rw [dec_f (by omega), cond_false, ← hT, List.take_length, hT, ← hC, List.take_length])
    (fun N i _ hi hq => by
      have b0 := bT i (by omega) hq
      have g1 : ∀ {R : Type} (k : Int → Option R), getI r (i : Int) k = k (gd r (i : Int)) := fun k => getI_gd (by omega) (by omega) k
      have g2 : ∀ {R : Type} (k : Bun → Option R), getI l (i : Int) k = k (gd l (i : Int)) := fun k => getI_gd (by omega) (by omega) k
      simp only [L20_5, B20_5, hlv, g1, g2]
      rw [dec_t (by omega), cond_true]
      cases hq1 : (!rng (gd r (i : Int)) 0 1000) with
      | true =>
        rw [Bool.not_eq_true', rng_f] at hq1
        by_cases h0 : gd r (i : Int) < 0
        · rw [dec_t h0]
          rfl
        · rw [dec_f h0, dec_t (by omega)]
          rfl
      | false =>
        have b1 := bT (i + 1) (by omega) fun j hj => by
          by_cases e : j = i
          · rw [e, hq1]
          · exact hq j (by omega)
        rw [sum_take (by omega), sum_take (by omega), gT i hi, gC i hi] at b1
        rw [Bool.not_eq_false', rng_iff] at hq1
        rw [dec_f (by omega), dec_f (by omega), cond_false, cond_false, cond_false, sum_take (by omega), sum_take (by omega), gT i hi, gC i hi, wI (x := gd r (i : Int) * (gd l (i : Int)).1) (by omega) (by omega), wI (x := gd r (i : Int) * (gd l (i : Int)).2) (by omega) (by omega), wI (x := (i : Int) + 1) (by omega) (by omega), wI (by omega) (by omega), wI (by omega) (by omega)]
        rfl)
  have h' : L20_5 fuel ((r, 0, 0, 0, ()), (f, ()), ()) = _ := h
  rw [h', derefK_some]
  have hall : r.all (rng · 0 1000) = (first r.length (fun i => !rng (gd r (i : Int)) 0 1000)).isNone := by
    cases hq : first r.length (fun i => !rng (gd r (i : Int)) 0 1000) with
    | none =>
      rw [first_none] at hq
      show _ = true
      rw [List.all_eq_true]
      intro x hx
      obtain ⟨i, hi⟩ := List.mem_iff_getElem?.1 hx
      have h1 := hq i (List.getElem?_eq_some_iff.1 hi).1
      rw [gd_of hi, Bool.not_eq_false'] at h1
      exact h1
    | some i =>
      rw [first_some] at hq
      show _ = false
      rw [List.all_eq_false]
      refine ⟨_, gd_mem (l := r) (i := (i : Int)) (by omega) (by omega), ?_⟩
      have := hq.2.1
      rw [Bool.not_eq_true'] at this
      rw [this]
      decide
  rw [hall]
  cases first r.length (fun i => !rng (gd r (i : Int)) 0 1000) <;> rfl
end Go.Proofs.Try.V
