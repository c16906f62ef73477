/- Plain laws of layer 1: what bundles cost. No condition beyond those typed in each theorem. -/
import Derived.Test.YtlhapfgcnfooeaaLw1
namespace Go.Proofs.Try.V
open Go.Vi
set_option maxRecDepth 100000

/-- Some bundles of a list have just t tokens and cost p together. -/
inductive Pays : List Bun → Int → Int → Prop
  | nil : Pays [] 0 0
  | skip {b : Bun} {l : List Bun} {t p : Int} : Pays l t p → Pays (b :: l) t p
  | take {b : Bun} {l : List Bun} {t p : Int} : Pays (b :: l) t p → Pays (b :: l) (t + b.1) (p + b.2)
def Fine (l : List Bun) : Prop := ∀ b ∈ l, 1 ≤ b.1 ∧ b.1 ≤ 1000 ∧ 1 ≤ b.2 ∧ b.2 ≤ 1000000
theorem Fine.tail {b : Bun} {l : List Bun} (h : Fine (b :: l)) : Fine l := fun x hx => h x (List.mem_cons_of_mem _ hx)
theorem Fine.drop {l : List Bun} (h : Fine l) (i : Nat) : Fine (l.drop i) := fun x hx => h x (List.mem_of_mem_drop hx)
theorem Pays.zero : ∀ l : List Bun, Pays l 0 0
  | [] => .nil
  | _ :: l => .skip (Pays.zero l)
theorem Pays.le {l : List Bun} {t p : Int} (h : Pays l t p) (hf : Fine l) : 0 ≤ t ∧ 0 ≤ p ∧ p ≤ 1000000 * t := by
  induction h with
  | nil => omega
  | skip _ ih => exact ih hf.tail
  | take _ ih =>
    have h1 := ih hf
    have h2 := hf _ (List.mem_cons_self ..)
    omega
theorem Pays.of_take {l : List Bun} {t p : Int} {b : Bun} (h : Pays l (t - b.1) (p - b.2)) (hb : b ∈ l) : Pays l t p := by
  have key : ∀ {l : List Bun} {t p : Int} (_ : Pays l t p) (b : Bun), b ∈ l → Pays l (t + b.1) (p + b.2) := by
    intro l t p h
    induction h with
    | nil => intro b hb; cases hb
    | @skip a l t p h ih =>
      intro b hb
      rcases List.mem_cons.1 hb with rfl | hb
      · exact .take (.skip h)
      · exact .skip (ih b hb)
    | @take a l t p h ih =>
      intro b hb
      have h1 := Pays.take (ih b hb)
      rwa [show t + b.1 + a.1 = t + a.1 + b.1 by omega, show p + b.2 + a.2 = p + a.2 + b.2 by omega] at h1
  have := key h b hb
  rwa [show t - b.1 + b.1 = t by omega, show p - b.2 + b.2 = p by omega] at this
theorem Pays.cons_iff {b : Bun} {l : List Bun} {t p : Int} : Pays (b :: l) t p ↔ Pays l t p ∨ Pays (b :: l) (t - b.1) (p - b.2) := by
  constructor
  · intro h
    cases h with
    | skip h => exact .inl h
    | @take _ _ t p h => exact .inr (by rwa [show t + b.1 - b.1 = t by omega, show p + b.2 - b.2 = p by omega])
  · rintro (h | h)
    · exact .skip h
    · exact h.of_take (List.mem_cons_self ..)
theorem Pays.last {l : List Bun} {t p : Int} (h : Pays l t p) (ht : t ≠ 0) : ∃ b ∈ l, Pays l (t - b.1) (p - b.2) := by
  induction h with
  | nil => exact absurd rfl ht
  | skip _ ih =>
    obtain ⟨b, hb, h⟩ := ih ht
    exact ⟨b, List.mem_cons_of_mem _ hb, .skip h⟩
  | @take b l t p h _ => exact ⟨b, List.mem_cons_self .., by rwa [show t + b.1 - b.1 = t by omega, show p + b.2 - b.2 = p by omega]⟩
theorem Pays.cons_mono {b : Bun} {l : List Bun} {t p : Int} (h : Pays l t p) : ∀ k : Nat, Pays (b :: l) (t + k * b.1) (p + k * b.2)
  | 0 => by rw [show t + ((0 : Nat) : Int) * b.1 = t by simp, show p + ((0 : Nat) : Int) * b.2 = p by simp]; exact .skip h
  | k + 1 => by
    have := Pays.take (cons_mono (b := b) h k)
    rwa [show t + (k : Int) * b.1 + b.1 = t + ((k + 1 : Nat) : Int) * b.1 by rw [Int.natCast_succ, Int.add_mul]; omega, show p + (k : Int) * b.2 + b.2 = p + ((k + 1 : Nat) : Int) * b.2 by rw [Int.natCast_succ, Int.add_mul]; omega] at this
theorem Pays.count {b : Bun} {l : List Bun} {t p : Int} (h : Pays (b :: l) t p) : ∃ k : Nat, Pays l (t - k * b.1) (p - k * b.2) := by
  generalize hm : b :: l = m at h
  induction h with
  | nil => cases hm
  | @skip a m t p h _ =>
    cases hm
    exact ⟨0, by rwa [show t - ((0 : Nat) : Int) * b.1 = t by simp, show p - ((0 : Nat) : Int) * b.2 = p by simp]⟩
  | @take a m t p _ ih =>
    cases hm
    obtain ⟨k, h⟩ := ih rfl
    refine ⟨k + 1, ?_⟩
    rwa [show t + b.1 - ((k + 1 : Nat) : Int) * b.1 = t - (k : Int) * b.1 by rw [Int.natCast_succ, Int.add_mul]; omega, show p + b.2 - ((k + 1 : Nat) : Int) * b.2 = p - (k : Int) * b.2 by rw [Int.natCast_succ, Int.add_mul]; omega]

/-- A table's entry: the least price, or one that stands for none. -/
def Ent (N : Int) (l : List Bun) (t e : Int) : Prop := e ≤ N ∧ (e = N ∨ Pays l t e) ∧ ∀ p, Pays l t p → e ≤ p
def Least (l : List Bun) (t p : Int) : Prop := Pays l t p ∧ ∀ q, Pays l t q → p ≤ q
theorem Ent.least {N : Int} {l : List Bun} {t e : Int} (h : Ent N l t e) (hlt : e < N) : Least l t e := by
  obtain ⟨_, h2, h3⟩ := h
  rcases h2 with rfl | h2
  · omega
  · exact ⟨h2, h3⟩
theorem Ent.none {N : Int} {l : List Bun} {t : Int} (h : Ent N l t N) (hf : Fine l) (hN : 1000000 * t < N) : ∀ p, ¬ Pays l t p := by
  intro p hp
  have := h.2.2 p hp
  have := hp.le hf
  omega
theorem Ent.of_least {N : Int} {l : List Bun} {t e p : Int} (h : Ent N l t e) (hl : Least l t p) (hf : Fine l) (hN : 1000000 * t < N) : e = p := by
  have h1 := h.2.2 p hl.1
  have h2 := hl.1.le hf
  rcases h.2.1 with rfl | h3
  · omega
  · have := hl.2 e h3; omega
theorem Ent.uniq {N : Int} {l : List Bun} {t e e' : Int} (h : Ent N l t e) (h' : Ent N l t e') (hf : Fine l) (hN : 1000000 * t < N) : e = e' := by
  by_cases h1 : e' < N
  · exact h.of_least (h'.least h1) hf hN
  · by_cases h2 : e < N
    · exact (h'.of_least (h.least h2) hf hN).symm
    · have := h.1; have := h'.1; omega
theorem Least.uniq {l : List Bun} {t p q : Int} (h : Least l t p) (h' : Least l t q) : p = q := by
  have := h.2 q h'.1
  have := h'.2 p h.1
  omega
theorem Ent.nil_zero {N : Int} (hN : 0 ≤ N) : Ent N [] 0 0 := ⟨hN, .inr .nil, fun p h => by cases h; exact Int.le_refl _⟩
theorem Ent.nil_pos {N t : Int} (ht : t ≠ 0) : Ent N [] t N := ⟨Int.le_refl _, .inl rfl, fun p h => by cases h; exact absurd rfl ht⟩
/-- One more bundle. -/
theorem Ent.cons {N : Int} {b : Bun} {l : List Bun} {t e e1 : Int} (h : Ent N l t e) (h1 : Ent N (b :: l) (t - b.1) e1) (hb : e1 < N) : Ent N (b :: l) t (min e (e1 + b.2)) := by
  refine ⟨by have := h.1; omega, ?_, fun p hp => ?_⟩
  · by_cases hle : e ≤ e1 + b.2
    · rw [Int.min_eq_left hle]
      rcases h.2.1 with h2 | h2
      · exact .inl h2
      · exact .inr (.skip h2)
    · rw [Int.min_eq_right (by omega)]
      refine .inr (Pays.cons_iff.2 (.inr ?_))
      rw [show e1 + b.2 - b.2 = e1 by omega]
      exact (h1.least hb).1
  · rcases Pays.cons_iff.1 hp with h2 | h2
    · have := h.2.2 p h2; omega
    · have := h1.2.2 _ h2; omega
theorem Ent.cons_none {N : Int} {b : Bun} {l : List Bun} {t e : Int} (h : Ent N l t e) (h1 : ∀ p, ¬ Pays (b :: l) (t - b.1) p) : Ent N (b :: l) t e := by
  refine ⟨h.1, ?_, fun p hp => ?_⟩
  · rcases h.2.1 with h2 | h2
    · exact .inl h2
    · exact .inr (.skip h2)
  · rcases Pays.cons_iff.1 hp with h2 | h2
    · exact h.2.2 p h2
    · exact absurd h2 (h1 _)
theorem Pays.neg {l : List Bun} {t p : Int} (hf : Fine l) (ht : t < 0) : ¬ Pays l t p := fun h => by have := h.le hf; omega

/-! ## The counts that come first -/
/-- k is the greatest number of a bundle with which the price is still the least. -/
def MaxC (b : Bun) (l : List Bun) (t p : Int) (k : Int) : Prop := 0 ≤ k ∧ Pays l (t - k * b.1) (p - k * b.2) ∧ ∀ j, 0 ≤ j → Pays l (t - j * b.1) (p - j * b.2) → j ≤ k
theorem MaxC.uniq {b : Bun} {l : List Bun} {t p k k' : Int} (h : MaxC b l t p k) (h' : MaxC b l t p k') : k = k' := by
  have := h.2.2 _ h'.1 h'.2.1
  have := h'.2.2 _ h.1 h.2.1
  omega
inductive Best : List Bun → Int → Int → List Int → Prop
  | nil : Best [] 0 0 []
  | cons {b : Bun} {l : List Bun} {t p k : Int} {r : List Int} : MaxC b l t p k → Best l (t - k * b.1) (p - k * b.2) r → Best (b :: l) t p (k :: r)
theorem Best.uniq {l : List Bun} {t p : Int} {r r' : List Int} (h : Best l t p r) (h' : Best l t p r') : r = r' := by
  induction h generalizing r' with
  | nil => cases h'; rfl
  | cons hm _ ih =>
    cases h' with
    | cons hm' h' =>
      obtain rfl := hm.uniq hm'
      rw [ih h']
theorem Best.length {l : List Bun} {t p : Int} {r : List Int} (h : Best l t p r) : r.length = l.length := by
  induction h with
  | nil => rfl
  | cons _ _ ih => simp [ih]
/-- The rest of the cheapest is the cheapest. -/
theorem Least.rest {b : Bun} {l : List Bun} {t p k : Int} (h : Least (b :: l) t p) (hk : 0 ≤ k) (hp : Pays l (t - k * b.1) (p - k * b.2)) : Least l (t - k * b.1) (p - k * b.2) := by
  refine ⟨hp, fun q hq => ?_⟩
  obtain ⟨n, rfl⟩ : ∃ n : Nat, k = n := ⟨k.toNat, by omega⟩
  have h1 := hq.cons_mono (b := b) n
  rw [show t - (n : Int) * b.1 + (n : Int) * b.1 = t by omega] at h1
  have := h.2 _ h1
  omega
/-- One bundle taken from the cheapest. -/
theorem Least.prev {b : Bun} {l : List Bun} {t p : Int} (h : Least (b :: l) t p) (hp : Pays (b :: l) (t - b.1) (p - b.2)) : Least (b :: l) (t - b.1) (p - b.2) := by
  refine ⟨hp, fun q hq => ?_⟩
  have h1 := Pays.take hq
  rw [show t - b.1 + b.1 = t by omega] at h1
  have := h.2 _ h1
  omega
theorem Least.prev_iff {b : Bun} {l : List Bun} {t p q : Int} (h : Least (b :: l) t p) (hq : Least (b :: l) (t - b.1) q) : q + b.2 = p ↔ Pays (b :: l) (t - b.1) (p - b.2) := by
  constructor
  · intro e
    rw [show p - b.2 = q by omega]
    exact hq.1
  · intro e
    have := (h.prev e).uniq hq
    omega
end Go.Proofs.Try.V
