/- Plain laws: what the last text needs of the others, in one. No condition beyond those typed in each theorem. -/
import Derived.Test.YtealdoeaafoemaaGreatFn1
namespace Go.Proofs.Tryz.V.L01
open Go.Vi
set_option maxRecDepth 100000
abbrev Bun := Int × Int
abbrev qeU := Int × (Int × ((List Int) × ((List Int) × ((List Bun) × (Int × (Int × Int))))))
abbrev Cnt := (List Int) × ((List Int) × ((List (Int × Int)) × ((List Int) × Int)))
abbrev Night := Int × (Int × (Int × (Int × (Int × Int))))
theorem loopIdx {α D R : Type} [Inhabited α] {L : Nat → D → Option R} (mk : Nat → D) (l : List α) (q : α → Bool) (hit : Nat → R) (e : R) (c : Nat) {N : Nat} (hN : l.length + c < N)
  (hend : ∀ N, L (N + 1) (mk l.length) = some e)
  (hstep : ∀ N i, c ≤ N → i < l.length → L (N + 1) (mk i) = if q (gd l (i : Int)) then some (hit i) else L N (mk (i + 1))) :
  L N (mk 0) = some (match l.findIdx? q with | some i => hit i | none => e) := by
 have key : ∀ (d i : Nat) (N : Nat), i + d = l.length → d + c < N → L N (mk i) = some (match (l.drop i).findIdx? q with | some j => hit (i + j) | none => e) := by
  intro d
  induction d with
  | zero =>
   intro i N hi hN
   obtain ⟨m, rfl⟩ : ∃ m, N = m + 1 := ⟨N - 1, by omega⟩
   obtain rfl : i = l.length := by omega
   rw [hend, List.drop_length]
   rfl
  | succ d ih =>
   intro i N hi hN
   obtain ⟨m, rfl⟩ : ∃ m, N = m + 1 := ⟨N - 1, by omega⟩
   rw [hstep m i (by omega) (by omega), qd8 (by omega), List.findIdx?_cons]
   cases hq : q (gd l (i : Int)) with
   | true => rfl
   | false =>
    rw [if_neg (by simp), ih (i + 1) m (by omega) (by omega)]
    simp only [Bool.false_eq_true, if_false]
    cases (l.drop (i + 1)).findIdx? q with
    | none => rfl
    | some j =>
     simp only [Option.map_some]
     rw [show i + (j + 1) = i + 1 + j by omega]
 have := key l.length 0 N (by omega) hN
 simpa using this
theorem qbu {α : Type} {l : List α} {q : α → Bool} : (l.findIdx? q).isNone = l.all (fun x => !q x) := by
 induction l with
 | nil => rfl
 | cons x l _ =>
  rw [List.findIdx?_cons, List.all_cons]
  cases q x with
  | true => rfl
  | false => simp
def idxI {α : Type} (l : List α) (q : α → Bool) : Int := match l.findIdx? q with | some i => (i : Int) | none => -1
theorem idxI_nn {α : Type} (l : List α) (q : α → Bool) : decide (idxI l q ≥ 0) = l.any q := by
 have h := qbu (l := l) (q := q)
 unfold idxI
 cases hf : l.findIdx? q with
 | some i =>
  rw [hf] at h
  simp only [Option.isNone_some] at h
  show decide ((i : Int) ≥ 0) = _
  rw [qu (by omega)]
  rw [List.all_eq_not_any_not] at h
  simpa using h
 | none =>
  rw [hf] at h
  simp only [Option.isNone_none] at h
  show decide ((-1 : Int) ≥ 0) = _
  rw [qD (by omega)]
  rw [List.all_eq_not_any_not] at h
  simpa using h
def jD (x lo hi : Int) : Bool := decide (lo ≤ x) && decide (x ≤ hi)
theorem qG {x lo hi : Int} : jD x lo hi = true ↔ lo ≤ x ∧ x ≤ hi := by unfold jD; rw [Bool.and_eq_true, decide_eq_true_iff, decide_eq_true_iff]
theorem g28_eq (x lo hi : Int) : g28 (x, lo, hi, ()) = some ((jD x lo hi, ()), ()) := by
 show F28 qc x lo hi = _
 unfold F28 jD
 by_cases h : lo ≤ x
 ·rw [qu (p := x ≥ lo) h]; rfl
 ·rw [qD (p := x ≥ lo) h]; rfl
theorem g70_eq (l : List Int) (hl : l.length ≤ 1099511627) (f : Int → Option Bool) (q : Int → Bool) (hf : ∀ x ∈ l, f x = some (q x)) : g70 (l, f, ()) = some ((idxI l q, ()), ()) := by
 show F70 qc l f = _
 unfold F70
 have h := loopIdx (L := L70_2) (fun i => ((l, f, (l.length : Int), (i : Int), ()), (), ())) l q (fun i => .inl (((i : Int), ()), (), ())) (.inr ((), (), ())) 0 (N := qc) (by have := qP; omega)
  (fun N => by simp [L70_2, B70_2])
  (fun N i _ hi => by
   simp only [L70_2, B70_2]
   rw [qu (by omega), cond_true, qk (by omega) (by omega), hf _ (qau (by omega) (by omega)), qb, wI (by omega) (by omega)]
   cases q (gd l (i : Int)) <;> rfl)
 have h' : L70_2 qc ((l, f, (l.length : Int), 0, ()), (), ()) = _ := h
 rw [h', qb]
 unfold idxI
 cases l.findIdx? q <;> rfl
theorem g71_eq (l : List Bun) (hl : l.length ≤ 1099511627) (f : Bun → Option Bool) (q : Bun → Bool) (hf : ∀ x ∈ l, f x = some (q x)) : g71 (l, f, ()) = some ((idxI l q, ()), ()) := by
 show F71 qc l f = _
 unfold F71
 have h := loopIdx (L := L71_2) (fun i => ((l, f, (l.length : Int), (i : Int), ()), (), ())) l q (fun i => .inl (((i : Int), ()), (), ())) (.inr ((), (), ())) 0 (N := qc) (by have := qP; omega)
  (fun N => by simp [L71_2, B71_2])
  (fun N i _ hi => by
   simp only [L71_2, B71_2]
   rw [qu (by omega), cond_true, qk (by omega) (by omega), hf _ (qau (by omega) (by omega)), qb, wI (by omega) (by omega)]
   cases q (gd l (i : Int)) <;> rfl)
 have h' : L71_2 qc ((l, f, (l.length : Int), 0, ()), (), ()) = _ := h
 rw [h', qb]
 unfold idxI
 cases l.findIdx? q <;> rfl
theorem g51_eq (l : List Int) (hl : l.length ≤ 1099511627) (f : Int → Option Bool) (q : Int → Bool) (hf : ∀ x ∈ l, f x = some (q x)) : g51 (l, f, ()) = some ((l.any q, ()), ()) := by
 show F51 qc l f = _
 unfold F51
 rw [g70_eq l hl f q hf, qb, idxI_nn]
theorem g52_eq (l : List Bun) (hl : l.length ≤ 1099511627) (f : Bun → Option Bool) (q : Bun → Bool) (hf : ∀ x ∈ l, f x = some (q x)) : g52 (l, f, ()) = some ((l.any q, ()), ()) := by
 show F52 qc l f = _
 unfold F52
 rw [g71_eq l hl f q hf, qb, idxI_nn]
theorem any_not {α : Type} {l : List α} {q : α → Bool} : l.any (fun x => !q x) = !l.all q := by
 rw [List.all_eq_not_any_not, Bool.not_not]
def okB (f : qeU) (b : Bun) : Bool := jD b.1 1 1000 && (jD b.2 1 1000000 && !decide (IntKind.wrap .i64 (f.2.2.2.2.2.1 * b.1) > b.2))
def qd6 (f : qeU) : Bool :=
 jD f.2.2.1.length 1 8 && (((f.2.2.2.1.length : Int) == (f.2.2.1.length : Int)) && (jD f.1 0 20 && (jD f.2.1 0 12 && (decide ((f.2.2.2.2.1.length : Int) ≤ 6) && ((f.2.2.1.all (jD · 0 100000) && f.2.2.2.1.all (jD · 0 1000000)) && (jD f.2.2.2.2.2.1 0 1000 && (jD f.2.2.2.2.2.2.1 0 1000000 && (jD f.2.2.2.2.2.2.2 1 1440 && f.2.2.2.2.1.all (okB f)))))))))
def qdl (f : qeU) : Prop := f.2.2.1.length ≤ 1099511627 ∧ f.2.2.2.1.length ≤ 1099511627 ∧ f.2.2.2.2.1.length ≤ 1099511627
theorem qcc {R : Type} (b : Bool) (x y : R) : cond (!b) x y = cond b y x := by cases b <;> rfl
theorem g27_eq (f : qeU) (hs : qdl f) : g27 (f, ()) = some ((if qd6 f then 0 else 10, ()), ()) := by
 obtain ⟨s1, s2, s3⟩ := hs
 show F27 qc f = _
 unfold F27
 have e1 : ∀ lo hi : Int, Mk.m49.p.g (lo, hi, ()) = some ((some lo, some hi, ()), ()) := fun _ _ => rfl
 have e2 : ∀ lo hi : Int, ∀ l : List Int, l.length ≤ 1099511627 → g51 (l, (fun v5 => qa (g50 (v5, lo, hi, ())) fun y6 => some y6.1.1), ()) = some ((l.any (fun x => !jD x lo hi), ()), ()) := by
  intro lo hi l hl
  refine g51_eq l hl _ _ fun x _ => ?_
  show qa (F50 qc x lo hi) _ = _
  unfold F50
  rw [g28_eq]
  rfl
 have e3 : g52 (f.2.2.2.2.1, (fun v19 => qa (g53 (v19, f, ())) fun y20 => some y20.1.1), ()) = some ((f.2.2.2.2.1.any (fun b => !okB f b), ()), ()) := by
  refine g52_eq _ s3 _ _ fun b _ => ?_
  show qa (F53 qc b f) _ = _
  unfold F53 okB
  rw [g28_eq, g28_eq]
  rw [qb, qcc, qb, qcc]
  cases jD b.1 1 1000
  ·rfl
  cases jD b.2 1 1000000
  ·rfl
  rw [Bool.true_and, Bool.true_and, Bool.not_not]
  rfl
 simp only [g28_eq, qb, qcc]
 unfold qd6
 have d : decide ((f.2.2.2.2.1.length : Int) > 6) = !decide ((f.2.2.2.2.1.length : Int) ≤ 6) := by
  by_cases h : (f.2.2.2.2.1.length : Int) ≤ 6
  ·rw [qu h, qD (by omega)]; rfl
  ·rw [qD h, qu (by omega)]; rfl
 rw [d, bne, qcc, qcc]
 cases jD f.2.2.1.length 1 8
 ·rfl
 cases (f.2.2.2.1.length : Int) == (f.2.2.1.length : Int)
 ·rfl
 cases jD f.1 0 20
 ·rfl
 cases jD f.2.1 0 12
 ·rfl
 cases decide ((f.2.2.2.2.1.length : Int) ≤ 6)
 ·rfl
 simp only [cond_true, Bool.true_and]
 rw [qV (e1 0 100000)]
 have h1 := e2 0 100000 _ s1
 have h2 := e2 0 1000000 _ s2
 rw [any_not] at h1 h2 e3
 refine (qV h1 _).trans ?_
 rw [qcc]
 cases f.2.2.1.all (jD · 0 100000)
 ·rfl
 rw [cond_true, qV (e1 0 1000000)]
 refine (qV h2 _).trans ?_
 rw [qcc]
 cases f.2.2.2.1.all (jD · 0 1000000)
 ·rfl
 rw [cond_true]
 cases jD f.2.2.2.2.2.1 0 1000
 ·rfl
 cases jD f.2.2.2.2.2.2.1 0 1000000
 ·rfl
 cases jD f.2.2.2.2.2.2.2 1 1440
 ·rfl
 rw [cond_true, cond_true, cond_true]
 refine (qV e3 _).trans ?_
 rw [qcc]
 cases f.2.2.2.2.1.all (okB f) <;> rfl
inductive j8 : List Bun → Int → Int → Prop
 | nil : j8 [] 0 0
 | skip {b : Bun} {l : List Bun} {t p : Int} : j8 l t p → j8 (b :: l) t p
 | take {b : Bun} {l : List Bun} {t p : Int} : j8 (b :: l) t p → j8 (b :: l) (t + b.1) (p + b.2)
def qcl (l : List Bun) : Prop := ∀ b ∈ l, 1 ≤ b.1 ∧ b.1 ≤ 1000 ∧ 1 ≤ b.2 ∧ b.2 ≤ 1000000
theorem qcl.tail {b : Bun} {l : List Bun} (h : qcl (b :: l)) : qcl l := fun x hx => h x (List.mem_cons_of_mem _ hx)
theorem qcl.drop {l : List Bun} (h : qcl l) (i : Nat) : qcl (l.drop i) := fun x hx => h x (List.mem_of_mem_drop hx)
theorem j8.zero : ∀ l : List Bun, j8 l 0 0
 | [] => .nil
 | _ :: l => .skip (j8.zero l)
theorem j8.le {l : List Bun} {t p : Int} (h : j8 l t p) (hf : qcl l) : 0 ≤ t ∧ 0 ≤ p ∧ p ≤ 1000000 * t := by
 induction h with
 | nil => omega
 | skip _ ih => exact ih hf.tail
 | take _ ih =>
  have h1 := ih hf
  have h2 := hf _ (List.mem_cons_self ..)
  omega
theorem j8.of_take {l : List Bun} {t p : Int} {b : Bun} (h : j8 l (t - b.1) (p - b.2)) (hb : b ∈ l) : j8 l t p := by
 have key : ∀ {l : List Bun} {t p : Int} (_ : j8 l t p) (b : Bun), b ∈ l → j8 l (t + b.1) (p + b.2) := by
  intro l t p h
  induction h with
  | nil => intro b hb; cases hb
  | @skip a l t p h ih =>
   intro b hb
   rcases List.mem_cons.1 hb with rfl | hb
   ·exact .take (.skip h)
   ·exact .skip (ih b hb)
  | @take a l t p h ih =>
   intro b hb
   have h1 := j8.take (ih b hb)
   rwa [show t + b.1 + a.1 = t + a.1 + b.1 by omega, show p + b.2 + a.2 = p + a.2 + b.2 by omega] at h1
 have := key h b hb
 rwa [show t - b.1 + b.1 = t by omega, show p - b.2 + b.2 = p by omega] at this
theorem j8.cons_iff {b : Bun} {l : List Bun} {t p : Int} : j8 (b :: l) t p ↔ j8 l t p ∨ j8 (b :: l) (t - b.1) (p - b.2) := by
 constructor
 ·intro h
  cases h with
  | skip h => exact .inl h
  | @take _ _ t p h => exact .inr (by rwa [show t + b.1 - b.1 = t by omega, show p + b.2 - b.2 = p by omega])
 ·rintro (h | h)
  ·exact .skip h
  ·exact h.of_take (List.mem_cons_self ..)
theorem j8.cons_mono {b : Bun} {l : List Bun} {t p : Int} (h : j8 l t p) : ∀ k : Nat, j8 (b :: l) (t + k * b.1) (p + k * b.2)
 | 0 => by rw [show t + ((0 : Nat) : Int) * b.1 = t by simp, show p + ((0 : Nat) : Int) * b.2 = p by simp]; exact .skip h
 | k + 1 => by
  have := j8.take (cons_mono (b := b) h k)
  rwa [show t + (k : Int) * b.1 + b.1 = t + ((k + 1 : Nat) : Int) * b.1 by rw [Int.natCast_succ, Int.add_mul]; omega, show p + (k : Int) * b.2 + b.2 = p + ((k + 1 : Nat) : Int) * b.2 by rw [Int.natCast_succ, Int.add_mul]; omega] at this
theorem j8.count {b : Bun} {l : List Bun} {t p : Int} (h : j8 (b :: l) t p) : ∃ k : Nat, j8 l (t - k * b.1) (p - k * b.2) := by
 generalize hm : b :: l = m at h
 induction h with
 | nil => cases hm
 | @skip a m t p h _ =>
  cases hm
  exact ⟨0, by rwa [show t - ((0 : Nat) : Int) * b.1 = t by simp, show p - ((0 : Nat) : Int) * b.2 = p by simp]⟩
 | @take a m t p _ ih =>
  cases hm
  obtain ⟨k, h⟩ := ih rfl
  refine ⟨k + 1, ?_⟩
  rwa [show t + b.1 - ((k + 1 : Nat) : Int) * b.1 = t - (k : Int) * b.1 by rw [Int.natCast_succ, Int.add_mul]; omega, show p + b.2 - ((k + 1 : Nat) : Int) * b.2 = p - (k : Int) * b.2 by rw [Int.natCast_succ, Int.add_mul]; omega]
def Ent (N : Int) (l : List Bun) (t e : Int) : Prop := e ≤ N ∧ (e = N ∨ j8 l t e) ∧ ∀ p, j8 l t p → e ≤ p
def qaZ (l : List Bun) (t p : Int) : Prop := j8 l t p ∧ ∀ q, j8 l t q → p ≤ q
theorem Ent.least {N : Int} {l : List Bun} {t e : Int} (h : Ent N l t e) (hlt : e < N) : qaZ l t e := by
 obtain ⟨_, h2, h3⟩ := h
 rcases h2 with rfl | h2
 ·omega
 ·exact ⟨h2, h3⟩
theorem Ent.none {N : Int} {l : List Bun} {t : Int} (h : Ent N l t N) (hf : qcl l) (hN : 1000000 * t < N) : ∀ p, ¬ j8 l t p := by
 intro p hp
 have := h.2.2 p hp
 have := hp.le hf
 omega
theorem Ent.of_least {N : Int} {l : List Bun} {t e p : Int} (h : Ent N l t e) (hl : qaZ l t p) (hf : qcl l) (hN : 1000000 * t < N) : e = p := by
 have h1 := h.2.2 p hl.1
 have h2 := hl.1.le hf
 rcases h.2.1 with rfl | h3
 ·omega
 ·have := hl.2 e h3; omega
theorem Ent.uniq {N : Int} {l : List Bun} {t e e' : Int} (h : Ent N l t e) (h' : Ent N l t e') (hf : qcl l) (hN : 1000000 * t < N) : e = e' := by
 by_cases h1 : e' < N
 ·exact h.of_least (h'.least h1) hf hN
 ·by_cases h2 : e < N
  ·exact (h'.of_least (h.least h2) hf hN).symm
  ·have := h.1; have := h'.1; omega
theorem qaZ.uniq {l : List Bun} {t p q : Int} (h : qaZ l t p) (h' : qaZ l t q) : p = q := by
 have := h.2 q h'.1
 have := h'.2 p h.1
 omega
theorem Ent.nil_zero {N : Int} (hN : 0 ≤ N) : Ent N [] 0 0 := ⟨hN, .inr .nil, fun p h => by cases h; exact Int.le_refl _⟩
theorem Ent.nil_pos {N t : Int} (ht : t ≠ 0) : Ent N [] t N := ⟨Int.le_refl _, .inl rfl, fun p h => by cases h; exact absurd rfl ht⟩
theorem Ent.cons {N : Int} {b : Bun} {l : List Bun} {t e e1 : Int} (h : Ent N l t e) (h1 : Ent N (b :: l) (t - b.1) e1) (hb : e1 < N) : Ent N (b :: l) t (min e (e1 + b.2)) := by
 refine ⟨by have := h.1; omega, ?_, fun p hp => ?_⟩
 ·by_cases hle : e ≤ e1 + b.2
  ·rw [Int.min_eq_left hle]
   rcases h.2.1 with h2 | h2
   ·exact .inl h2
   ·exact .inr (.skip h2)
  ·rw [Int.min_eq_right (by omega)]
   refine .inr (j8.cons_iff.2 (.inr ?_))
   rw [show e1 + b.2 - b.2 = e1 by omega]
   exact (h1.least hb).1
 ·rcases j8.cons_iff.1 hp with h2 | h2
  ·have := h.2.2 p h2; omega
  ·have := h1.2.2 _ h2; omega
theorem Ent.cons_none {N : Int} {b : Bun} {l : List Bun} {t e : Int} (h : Ent N l t e) (h1 : ∀ p, ¬ j8 (b :: l) (t - b.1) p) : Ent N (b :: l) t e := by
 refine ⟨h.1, ?_, fun p hp => ?_⟩
 ·rcases h.2.1 with h2 | h2
  ·exact .inl h2
  ·exact .inr (.skip h2)
 ·rcases j8.cons_iff.1 hp with h2 | h2
  ·exact h.2.2 p h2
  ·exact absurd h2 (h1 _)
theorem j8.neg {l : List Bun} {t p : Int} (hf : qcl l) (ht : t < 0) : ¬ j8 l t p := fun h => by have := h.le hf; omega
def MaxC (b : Bun) (l : List Bun) (t p : Int) (k : Int) : Prop := 0 ≤ k ∧ j8 l (t - k * b.1) (p - k * b.2) ∧ ∀ j, 0 ≤ j → j8 l (t - j * b.1) (p - j * b.2) → j ≤ k
theorem MaxC.uniq {b : Bun} {l : List Bun} {t p k k' : Int} (h : MaxC b l t p k) (h' : MaxC b l t p k') : k = k' := by
 have := h.2.2 _ h'.1 h'.2.1
 have := h'.2.2 _ h.1 h.2.1
 omega
inductive qfY : List Bun → Int → Int → List Int → Prop
 | nil : qfY [] 0 0 []
 | cons {b : Bun} {l : List Bun} {t p k : Int} {r : List Int} : MaxC b l t p k → qfY l (t - k * b.1) (p - k * b.2) r → qfY (b :: l) t p (k :: r)
theorem qfY.uniq {l : List Bun} {t p : Int} {r r' : List Int} (h : qfY l t p r) (h' : qfY l t p r') : r = r' := by
 induction h generalizing r' with
 | nil => cases h'; rfl
 | cons hm _ ih =>
  cases h' with
  | cons hm' h' =>
   obtain rfl := hm.uniq hm'
   rw [ih h']
theorem qfY.length {l : List Bun} {t p : Int} {r : List Int} (h : qfY l t p r) : r.length = l.length := by
 induction h with
 | nil => rfl
 | cons _ _ ih => simp [ih]
theorem qaZ.rest {b : Bun} {l : List Bun} {t p k : Int} (h : qaZ (b :: l) t p) (hk : 0 ≤ k) (hp : j8 l (t - k * b.1) (p - k * b.2)) : qaZ l (t - k * b.1) (p - k * b.2) := by
 refine ⟨hp, fun q hq => ?_⟩
 obtain ⟨n, rfl⟩ : ∃ n : Nat, k = n := ⟨k.toNat, by omega⟩
 have h1 := hq.cons_mono (b := b) n
 rw [show t - (n : Int) * b.1 + (n : Int) * b.1 = t by omega] at h1
 have := h.2 _ h1
 omega
theorem qaZ.prev {b : Bun} {l : List Bun} {t p : Int} (h : qaZ (b :: l) t p) (hp : j8 (b :: l) (t - b.1) (p - b.2)) : qaZ (b :: l) (t - b.1) (p - b.2) := by
 refine ⟨hp, fun q hq => ?_⟩
 have h1 := j8.take hq
 rw [show t - b.1 + b.1 = t by omega] at h1
 have := h.2 _ h1
 omega
theorem qaZ.prev_iff {b : Bun} {l : List Bun} {t p q : Int} (h : qaZ (b :: l) t p) (hq : qaZ (b :: l) (t - b.1) q) : q + b.2 = p ↔ j8 (b :: l) (t - b.1) (p - b.2) := by
 constructor
 ·intro e
  rw [show p - b.2 = q by omega]
  exact hq.1
 ·intro e
  have := (h.prev e).uniq hq
  omega
theorem qgw {n : Int} (h0 : 0 ≤ n) (h : n ≤ 4294967295) : IntKind.wrap .u64 n = n := by
 show n % 18446744073709551616 = n
 exact Int.emod_eq_of_lt h0 (by omega)
theorem shr_0 {n : Int} (h0 : 0 ≤ n) (h : n ≤ 4294967295) : qdU .u64 n 32 = 0 := by
 show n.fdiv 4294967296 = 0
 rw [Int.fdiv_eq_ediv_of_nonneg _ (by omega)]
 exact Int.ediv_eq_zero_of_lt h0 (by omega)
theorem qkL {n : Int} (h0 : 0 ≤ n) (h : n ≤ 4294967295) : qbJ .and .u64 n 4294967295 = n := by
 show IntKind.wrap .u64 ((BitVec.ofInt 64 n &&& BitVec.ofInt 64 4294967295).toNat : Int) = n
 have e : (BitVec.ofInt 64 n).toNat = n.toNat := by
  rw [BitVec.toNat_ofInt]
  rw [Int.emod_eq_of_lt h0 (by show n < 18446744073709551616; omega)]
 have e2 : (BitVec.ofInt 64 4294967295).toNat = 4294967295 := by decide
 rw [BitVec.toNat_and, e, e2, show (4294967295 : Nat) = 2 ^ 32 - 1 by decide, Nat.and_two_pow_sub_one_eq_mod, Nat.mod_eq_of_lt (by show n.toNat < 4294967296; omega)]
 rw [show ((n.toNat : Nat) : Int) = n by omega]
 exact qgw h0 h
theorem negK_in {R : Type} {a : Int} (h : 0 ≤ a) (k : Option R) : qdQ a k = k := by
 unfold qdQ
 rw [if_neg (by omega)]
theorem g107_one {n : Int} (h0 : 0 ≤ n) (h : n ≤ 1048576) : g107 (1, n, ()) = some ((0, n, ()), ()) := by
 show F107 qc 1 n = _
 unfold F107
 have b1 : qbJ .and .u64 1 4294967295 = 1 := qkL (by omega) (by omega)
 have b0 : qbJ .and .u64 0 4294967295 = 0 := qkL (by omega) (by omega)
 have s1 : qdU .u64 1 32 = 0 := shr_0 (by omega) (by omega)
 have s0 : qdU .u64 0 32 = 0 := shr_0 (by omega) (by omega)
 have u0 : IntKind.wrap .u64 0 = 0 := qgw (by omega) (by omega)
 have un : IntKind.wrap .u64 n = n := qgw h0 (by omega)
 simp only [negK_in (show (0 : Int) ≤ 32 by decide), qaF, b1, qkL h0 (show n ≤ 4294967295 by omega), s1, shr_0 h0 (show n ≤ 4294967295 by omega), Int.one_mul, Int.zero_mul, Int.mul_zero, Int.add_zero, un, u0, s0, b0]
theorem qln {α : Type} (b c : α) {n k : Nat} (hk : k ≤ n) : qbO (List.replicate k b ++ List.replicate (n - k) c) ((List.replicate k b ++ List.replicate (n - k) c).take k) k = List.replicate (k + min k (n - k)) b ++ List.replicate (n - (k + min k (n - k))) c := by
 have h1 : (List.replicate k b ++ List.replicate (n - k) c).take k = List.replicate k b := List.take_left' (by simp)
 have h2 : (List.replicate k b ++ List.replicate (n - k) c).length = n := by simp; omega
 unfold qbO
 rw [h1, h2, List.take_replicate, List.length_replicate, List.replicate_append_replicate]
 rw [List.drop_append, List.drop_eq_nil_of_le (by simp), List.nil_append, List.length_replicate, List.drop_replicate]
 congr 2
 ·omega
 ·omega
theorem g72_one (b : Int) (n : Nat) (hn : n ≤ 1048576) : g72 ([b], (n : Int), ()) = some ((List.replicate n b, ()), ()) := by
 show F72 qc [b] (n : Int) = _
 unfold F72
 have e1 : IntKind.wrap .u64 (([b] : List Int).length : Int) = 1 := qgw (by simp) (by simp)
 have e2 : IntKind.wrap .u64 (n : Int) = n := qgw (by omega) (by omega)
 have e3 : g87 (1, (n : Int), ()) = some ((0, (n : Int), ()), ()) := by
  show F87 qc 1 (n : Int) = _
  unfold F87
  rw [g107_one (by omega) (by omega)]
  rfl
 rw [qD (p := (n : Int) < 0) (by omega), cond_false, e1, e2, e3, qb]
 simp only [qaF]
 rw [qD (p := (0 : Int) > 0) (by omega), cond_false, qD (p := (n : Int) > 9223372036854775807) (by omega), cond_false, wI (by omega) (by omega), qaG (by omega), qaG (by omega), jT (by omega) (by omega), Int.toNat_natCast]
 by_cases h0 : n = 0
 ·subst h0
  obtain ⟨m, hm⟩ : ∃ m, qc = m + 1 := ⟨qc - 1, by have := qP; omega⟩
  have : L72_8 qc ((0, ()), ([], ()), ()) = some ((), ([], ()), ()) := by
   rw [hm]
   simp [L72_8, B72_8]
  show qa (L72_8 qc ((0, ()), ([], ()), ())) _ = _
  rw [this]
  rfl
 have ei : qbO (List.replicate n 0) [b] (0 : Int).toNat = List.replicate 1 b ++ List.replicate (n - 1) 0 := by
  show (List.replicate n (0 : Int)).take 0 ++ [b].take ((List.replicate n (0 : Int)).length - 0) ++ (List.replicate n (0 : Int)).drop (0 + min 1 ((List.replicate n (0 : Int)).length - 0)) = _
  rw [List.length_replicate, List.take_zero, List.nil_append, List.drop_replicate, show 0 + min 1 (n - 0) = 1 by omega, List.take_of_length_le (by simp; omega)]
  rfl
 have em : ((min ([b] : List Int).length ((List.replicate n (0 : Int)).length - (0 : Int).toNat) : Nat) : Int) = ((1 : Nat) : Int) := by
  rw [List.length_replicate]
  show ((min 1 (n - 0) : Nat) : Int) = _
  omega
 rw [ei, em]
 obtain ⟨r, hr, hrr⟩ := loopM (L := L72_8) (fun k : Nat => (((k : Int), ()), (List.replicate k b ++ List.replicate (n - k) 0, ()), ())) (fun k => 1 ≤ k ∧ k ≤ n) (fun r => r = ((), (List.replicate n b, ()), ())) 0 (fun k => n - k)
  (fun N k _ hk => by
   have hlen : (List.replicate k b ++ List.replicate (n - k) 0).length = n := by simp; omega
   simp only [L72_8, B72_8]
   rw [hlen]
   by_cases hlt : k < n
   ·refine .inl ⟨k + min k (n - k), by omega, by omega, ?_⟩
    have hl2 : ((List.replicate k b ++ List.replicate (n - k) 0).take ((k : Nat) : Int).toNat).length = k := by
     rw [Int.toNat_natCast, List.length_take, hlen]
     omega
    rw [qu (by omega), cond_true]
    simp only [qdh, qaG (show (0 : Int) ≤ (k : Int) by omega), qaG (show (k : Int) ≤ (n : Int) by omega), qbm, qbn]
    rw [hl2, Int.toNat_natCast, qln b 0 (by omega), wI (by omega) (by omega), show (k : Int) + ((min k (n - k) : Nat) : Int) = ((k + min k (n - k) : Nat) : Int) by omega]
   ·obtain rfl : k = n := by omega
    refine .inr ⟨_, ?_, rfl⟩
    rw [qD (by omega), cond_false, Nat.sub_self, List.replicate_zero, List.append_nil])
  (n - 1) qc 1 (Nat.le_refl _) ⟨Nat.le_refl _, by omega⟩ (by have := qP; omega)
 have hr' : L72_8 qc ((((1 : Nat) : Int), ()), (List.replicate 1 b ++ List.replicate (n - 1) 0, ()), ()) = some r := hr
 rw [hr', hrr]
 rfl
abbrev NO : Int := 1152921504606846976
def Tab (l : List Bun) (M : Nat) (o : List (List Int)) (lo : Nat) : Prop :=
 o.length = l.length + 1 ∧ (∀ i : Nat, i ≤ l.length → (gd o (i : Int)).length = M) ∧ ∀ i : Nat, lo ≤ i → i ≤ l.length → ∀ t : Nat, t < M → Ent NO (l.drop i) t (gd (gd o (i : Int)) (t : Int))
theorem row68 (l : List Bun) (hl : qcl l) (hk : l.length ≤ 6) (n most : Int) (M : Nat) (hM : M ≤ 3000) (i : Nat) (hi : i < l.length) (o : List (List Int)) (ho : Tab l M o (i + 1)) {N : Nat} (hN : M < N) :
  ∃ o', Tab l M o' i ∧ L54_13 N ((l, n, most, (i : Int), (M : Int), 0, ()), (o, ()), ()) = some ((l, n, most, (i : Int), ()), (o', ()), ()) := by
 obtain ⟨h1, h2, h3⟩ := ho
 have hd : l.drop i = gd l (i : Int) :: l.drop (i + 1) := qd8 hi
 have hb := hl _ (qau (l := l) (i := (i : Int)) (by omega) (by omega))
 have hfd : qcl (gd l (i : Int) :: l.drop (i + 1)) := by rw [← hd]; exact hl.drop i
 have w1 : IntKind.wrap .i64 ((i : Int) + 1) = ((i + 1 : Nat) : Int) := by rw [wI (by omega) (by omega)]; omega
 have hS := h2 (i + 1) (by omega)
 have hR0 := h2 i (by omega)
 obtain ⟨r, hr, R, hR, hE, rfl⟩ := qia (L := L54_13) (fun (t : Nat) (R : List Int) => ((l, n, most, (i : Int), (M : Int), (t : Int), ()), (o.set i R, ()), ()))
  (fun t R => R.length = M ∧ ∀ t' : Nat, t' < t → Ent NO (l.drop i) t' (gd R (t' : Int)))
  (fun r => ∃ R : List Int, R.length = M ∧ (∀ t' : Nat, t' < M → Ent NO (l.drop i) t' (gd R (t' : Int))) ∧ r = ((l, n, most, (i : Int), ()), (o.set i R, ()), ())) 0 M (s := gd o (i : Int)) ⟨hR0, fun t' h => by omega⟩ (by omega)
  (fun N R hR => ⟨_, by simp [L54_13, B54_13], R, hR.1, hR.2, rfl⟩)
  (fun N t R _ ht ⟨hR, hE⟩ => by
   refine .inl ?_
   have g1 : gd (o.set i R) (i : Int) = R := by
    have := qaN (l := o) (i := (i : Int)) (c := R) (by omega) (by omega)
    rwa [Int.toNat_natCast] at this
   have g2 : gd (o.set i R) ((i + 1 : Nat) : Int) = gd o ((i + 1 : Nat) : Int) := by
    have := qbI (l := o) (i := (i : Int)) (j := ((i + 1 : Nat) : Int)) (c := R) (by omega) (by omega) (by omega)
    rwa [Int.toNat_natCast] at this
   have hlen : (o.set i R).length = l.length + 1 := by rw [List.length_set, h1]
   simp only [L54_13, B54_13]
   rw [qu (by omega), cond_true]
   have gg : ∀ R' : List Int, gd ((o.set i R).set (i : Int).toNat R') (i : Int) = R' := fun R' => qaN (by omega) (by omega)
   have hlen2 : ∀ R' : List Int, ((o.set i R).set (i : Int).toNat R').length = l.length + 1 := fun R' => by rw [List.length_set, hlen]
   have hset : ∀ v : Int, (R.set (t : Int).toNat v).length = M := fun v => by rw [List.length_set, hR]
   have aS : ∀ {α : Type} (k : Int → Option α), qi (gd o ((i + 1 : Nat) : Int)) (t : Int) k = k (gd (gd o ((i + 1 : Nat) : Int)) (t : Int)) := fun k => qk (by omega) (by omega) k
   have aR : ∀ {α : Type} (k : Int → Option α), qi R (t : Int) k = k (gd R (t : Int)) := fun k => qk (by omega) (by omega) k
   have aR' : ∀ {α : Type} (v j : Int), 0 ≤ j → j < M → ∀ (k : Int → Option α), qi (R.set (t : Int).toNat v) j k = k (gd (R.set (t : Int).toNat v) j) := fun v j h1 h2 k => qk h1 (by rw [hset]; exact h2) k
   have aO : ∀ {α : Type} (k : List Int → Option α), qi (o.set i R) (i : Int) k = k R := fun k => by rw [qk (by omega) (by omega), g1]
   have aO1 : ∀ {α : Type} (k : List Int → Option α), qi (o.set i R) ((i + 1 : Nat) : Int) k = k (gd o ((i + 1 : Nat) : Int)) := fun k => by rw [qk (by omega) (by omega), g2]
   have aO2 : ∀ {α : Type} (R' : List Int) (k : List Int → Option α), qi ((o.set i R).set (i : Int).toNat R') (i : Int) k = k R' := fun R' k => by rw [qk (by omega) (by rw [hlen2]; omega), gg]
   have aL : ∀ {α : Type} (k : Bun → Option α), qi l (i : Int) k = k (gd l (i : Int)) := fun k => qk (by omega) (by omega) k
   have i1 : ∀ {α : Type} (k : Option α), jS (i : Int) (l.length + 1) k = k := fun k => jM (by omega) (by omega) k
   have i2 : ∀ {α : Type} (k : Option α), jS ((i + 1 : Nat) : Int) (l.length + 1) k = k := fun k => jM (by omega) (by omega) k
   have i3 : ∀ {α : Type} (k : Option α), jS (t : Int) M k = k := fun k => jM (by omega) (by omega) k
   have w2 : IntKind.wrap .i64 ((t : Int) - (gd l (i : Int)).1) = (t : Int) - (gd l (i : Int)).1 := wI (by omega) (by omega)
   have w3 : IntKind.wrap .i64 ((t : Int) + 1) = ((t + 1 : Nat) : Int) := by rw [wI (by omega) (by omega)]; omega
   simp only [w1, w2, w3, hlen, hlen2, hR, hS, hset, aS, aR, aO, aO1, aO2, aL, i1, i2, i3]
   have sS := h3 (i + 1) (by omega) (by omega) t (by omega)
   have ss : ∀ R' : List Int, (o.set i R).set (i : Int).toNat R' = o.set i R' := fun R' => by rw [Int.toNat_natCast, List.set_set]
   have step : ∀ v : Int, Ent NO (l.drop i) t v → (R.set t v).length = M ∧ ∀ t' : Nat, t' < t + 1 → Ent NO (l.drop i) t' (gd (R.set t v) (t' : Int)) := by
    intro v hv
    refine ⟨by rw [List.length_set, hR], fun t' ht' => ?_⟩
    by_cases h : t' = t
    ·subst h
     have := qaN (l := R) (i := (t' : Int)) (c := v) (by omega) (by omega)
     rw [Int.toNat_natCast] at this
     rw [this]; exact hv
    ·have := qbI (l := R) (i := (t : Int)) (j := (t' : Int)) (c := v) (by omega) (by omega) (by omega)
     rw [Int.toNat_natCast] at this
     rw [this]; exact hE t' (by omega)
   by_cases hge : (t : Int) - (gd l (i : Int)).1 ≥ 0
   ·rw [qu hge, cond_true, jM (n := M) hge (by omega)]
    rw [aR' _ _ hge (by omega)]
    have hne : gd (R.set (t : Int).toNat (gd (gd o ((i + 1 : Nat) : Int)) (t : Int))) ((t : Int) - (gd l (i : Int)).1) = gd R ((t : Int) - (gd l (i : Int)).1) := qbI (by omega) hge (by omega)
    rw [hne]
    obtain ⟨t1, ht1⟩ : ∃ t1 : Nat, (t1 : Int) = (t : Int) - (gd l (i : Int)).1 := ⟨((t : Int) - (gd l (i : Int)).1).toNat, by omega⟩
    have hE1 := hE t1 (by omega)
    rw [ht1] at hE1
    by_cases hlt : gd R ((t : Int) - (gd l (i : Int)).1) < NO
    ·rw [qu hlt, cond_true, aR' _ (t : Int) (by omega) (by omega), jM (n := M) hge (by omega), aR' _ _ hge (by omega), hne, aR' _ (t : Int) (by omega) (by omega)]
     have hs : gd (R.set (t : Int).toNat (gd (gd o ((i + 1 : Nat) : Int)) (t : Int))) (t : Int) = gd (gd o ((i + 1 : Nat) : Int)) (t : Int) := qaN (by omega) (by omega)
     have hp := ((hE1.least hlt).1.le (by rw [hd]; exact hfd))
     have w4 : IntKind.wrap .i64 (gd R ((t : Int) - (gd l (i : Int)).1) + (gd l (i : Int)).2) = gd R ((t : Int) - (gd l (i : Int)).1) + (gd l (i : Int)).2 := wI (by omega) (by omega)
     simp only [qao]
     rw [hs, w4]
     simp only [Int.toNat_natCast, List.set_set]
     rw [hd] at hE1
     refine ⟨_, step _ ?_, rfl⟩
     rw [hd]
     exact sS.cons hE1 hlt
    ·rw [qD hlt, cond_false, ss]
     rw [Int.toNat_natCast]
     refine ⟨_, step _ ?_, rfl⟩
     rw [hd] at hE1 ⊢
     have hN : gd R ((t : Int) - (gd l (i : Int)).1) = NO := by have := hE1.1; omega
     rw [hN] at hE1
     exact sS.cons_none (hE1.none hfd (by show _ < (1152921504606846976 : Int); omega))
   ·rw [qD hge, cond_false, ss, Int.toNat_natCast]
    refine ⟨_, step _ ?_, rfl⟩
    rw [hd]
    exact sS.cons_none (fun p => j8.neg hfd (by omega)))
 have e0 : o.set i (gd o (i : Int)) = o := by
  refine qfO (by rw [List.length_set]) fun j hj => ?_
  by_cases h : j = i
  ·subst h
   have := qaN (l := o) (i := (j : Int)) (c := gd o (j : Int)) (by omega) (by omega)
   rwa [Int.toNat_natCast] at this
  ·have := qbI (l := o) (i := (i : Int)) (j := (j : Int)) (c := gd o (i : Int)) (by omega) (by omega) (by omega)
   rwa [Int.toNat_natCast] at this
 rw [e0] at hr
 refine ⟨_, ⟨by rw [List.length_set, h1], fun j hj => ?_, fun j hj hj2 t ht => ?_⟩, hr⟩
 ·by_cases h : j = i
  ·subst h
   have := qaN (l := o) (i := (j : Int)) (c := R) (by omega) (by omega)
   rw [Int.toNat_natCast] at this
   rw [this, hR]
  ·have := qbI (l := o) (i := (i : Int)) (j := (j : Int)) (c := R) (by omega) (by omega) (by omega)
   rw [Int.toNat_natCast] at this
   rw [this, h2 j hj]
 ·by_cases h : j = i
  ·subst h
   have := qaN (l := o) (i := (j : Int)) (c := R) (by omega) (by omega)
   rw [Int.toNat_natCast] at this
   rw [this]; exact hE t ht
  ·have := qbI (l := o) (i := (i : Int)) (j := (j : Int)) (c := R) (by omega) (by omega) (by omega)
   rw [Int.toNat_natCast] at this
   rw [this]; exact h3 j (by omega) hj2 t ht
theorem qct {α : Type} [Inhabited α] {l : List α} {i : Nat} {c : α} (h : i < l.length) (j : Nat) : gd (l.set i c) (j : Int) = if j = i then c else gd l (j : Int) := by
 by_cases e : j = i
 ·subst e
  have := qaN (l := l) (i := (j : Int)) (c := c) (by omega) (by omega)
  rw [Int.toNat_natCast] at this
  rw [this, if_pos rfl]
 ·have := qbI (l := l) (i := (i : Int)) (j := (j : Int)) (c := c) (by omega) (by omega) (by omega)
  rw [Int.toNat_natCast] at this
  rw [this, if_neg e]
theorem fill68 (l : List Bun) (n : Int) (m : Nat) (hm : m ≤ 2000) (hk : l.length ≤ 6) {N : Nat} (hN : 100 < N) :
  ∃ o : List (List Int), o.length = l.length + 1 ∧ (∀ i : Nat, i < l.length + 1 → gd o (i : Int) = List.replicate (m + 1) NO) ∧
   L54_4 N ((l, n, (m : Int), ((List.replicate (l.length + 1) ([] : List Int)).length : Int), 0, ()), ((List.replicate (l.length + 1) ([] : List Int)), ()), ()) = some ((l, n, (m : Int), ()), (o, ()), ()) := by
 rw [List.length_replicate]
 obtain ⟨r, hr, o, h1, h2, rfl⟩ := qia (L := L54_4) (fun (t : Nat) (o : List (List Int)) => ((l, n, (m : Int), ((l.length + 1 : Nat) : Int), (t : Int), ()), (o, ()), ()))
  (fun t o => o.length = l.length + 1 ∧ ∀ i : Nat, i < t → gd o (i : Int) = List.replicate (m + 1) NO)
  (fun r => ∃ o : List (List Int), o.length = l.length + 1 ∧ (∀ i : Nat, i < l.length + 1 → gd o (i : Int) = List.replicate (m + 1) NO) ∧ r = ((l, n, (m : Int), ()), (o, ()), ())) 0 (l.length + 1) (N := N) (s := List.replicate (l.length + 1) []) ⟨by simp, fun i hi => by omega⟩ (by omega)
  (fun N o h => ⟨_, by simp [L54_4, B54_4], o, h.1, h.2, rfl⟩)
  (fun N t o _ ht ⟨h1, h2⟩ => by
   refine .inl ⟨o.set t (List.replicate (m + 1) NO), ⟨by rw [List.length_set, h1], fun i hi => ?_⟩, ?_⟩
   ·rw [qct (by omega)]
    by_cases e : i = t
    ·rw [if_pos e]
    ·rw [if_neg e]; exact h2 i (by omega)
   ·simp only [L54_4, B54_4]
    rw [qu (by omega), cond_true, show IntKind.wrap .i64 ((m : Int) + 1) = ((m + 1 : Nat) : Int) by rw [wI (by omega) (by omega)]; omega, g72_one _ _ (by omega), qb, jM (by omega) (by omega), qk (by omega) (by omega), wI (by omega) (by omega), Int.toNat_natCast]
    rfl)
 exact ⟨o, h1, h2, hr⟩
theorem tab68 (l : List Bun) (hl : qcl l) (n most : Int) (M : Nat) (hM : M ≤ 3000) (hk : l.length ≤ 6) (o : List (List Int)) (ho : Tab l M o l.length) {N : Nat} (hN : 4000 < N) :
  ∃ o', Tab l M o' 0 ∧ L54_10 N ((l, n, most, (l.length : Int) - 1, ()), (o, ()), ()) = some ((l, n, most, ()), (o', ()), ()) := by
 obtain ⟨r, hr, o', h1, rfl⟩ := qia (L := L54_10) (fun (j : Nat) (o : List (List Int)) => ((l, n, most, (l.length : Int) - 1 - (j : Int), ()), (o, ()), ()))
  (fun j o => Tab l M o (l.length - j))
  (fun r => ∃ o' : List (List Int), Tab l M o' 0 ∧ r = ((l, n, most, ()), (o', ()), ())) 3001 l.length (N := N) (s := o) ho (by omega)
  (fun N o h => ⟨_, by simp only [L54_10, B54_10]; rw [qD (by omega), cond_false], o, by rwa [show l.length - l.length = 0 by omega] at h, rfl⟩)
  (fun N j o hc hj h => by
   obtain ⟨i, hi⟩ : ∃ i : Nat, i = l.length - (j + 1) := ⟨_, rfl⟩
   rw [show l.length - j = i + 1 by omega] at h
   obtain ⟨o', h', e⟩ := row68 l hl hk n most M hM i (by omega) o h (N := N) (by omega)
   refine .inl ⟨o', by rwa [← hi], ?_⟩
   simp only [L54_10, B54_10]
   rw [show (l.length : Int) - 1 - (j : Int) = (i : Int) by omega, qu (by omega), cond_true, jM (by omega) (by rw [h.1]; omega), qk (by omega) (by rw [h.1]; omega), h.2.1 i (by omega), e, qb]
   simp only
   rw [wI (by omega) (by omega), show (l.length : Int) - 1 - ((j + 1 : Nat) : Int) = (i : Int) - 1 by omega])
 refine ⟨o', h1, ?_⟩
 rw [← hr]
 simp
def qis (c : List Int) (n M t : Nat) : Prop := n ≤ t ∧ t < M ∧ ∀ t' : Nat, n ≤ t' → t' < M → gd c (t : Int) ≤ gd c (t' : Int) ∧ (gd c (t' : Int) = gd c (t : Int) → t ≤ t')
theorem arg68 (l : List Bun) (n m : Nat) (hm : m ≤ 2000) (hn : n ≤ m) (o : List (List Int)) (h0 : 0 < o.length) (h1 : (gd o 0).length = m + 1) {N : Nat} (hN : 4000 < N) :
  ∃ t, qis (gd o 0) n (m + 1) t ∧ L54_22 N ((l, (m : Int), (n : Int), (n : Int), ()), (o, ()), ()) = some ((l, (t : Int), ()), (o, ()), ()) := by
 obtain ⟨r, hr, t, h1, rfl⟩ := qia (L := L54_22) (fun (j : Nat) (t : Nat) => ((l, (m : Int), (t : Int), ((n + j : Nat) : Int), ()), (o, ()), ()))
  (fun j t => n ≤ t ∧ (t < n + j ∨ t = n) ∧ ∀ t' : Nat, n ≤ t' → t' < n + j → gd (gd o 0) (t : Int) ≤ gd (gd o 0) (t' : Int) ∧ (gd (gd o 0) (t' : Int) = gd (gd o 0) (t : Int) → t ≤ t'))
  (fun r => ∃ t : Nat, qis (gd o 0) n (m + 1) t ∧ r = ((l, (t : Int), ()), (o, ()), ())) 0 (m + 1 - n) (N := N) (s := n) ⟨by omega, by omega, fun t' h1 h2 => by omega⟩ (by omega)
  (fun N t h => ⟨_, by simp only [L54_22, B54_22]; rw [qD (by omega), cond_false], t, ⟨h.1, by omega, fun t' h1 h2 => h.2.2 t' h1 (by omega)⟩, rfl⟩)
  (fun N j t _ hj ⟨q1, q2, q3⟩ => by
   left
   have e1 : ∀ {α : Type} (k : Option α), jS 0 o.length k = k := fun k => jM (by omega) (by omega) k
   have e2 : ∀ {α : Type} (k : List Int → Option α), qi o 0 k = k (gd o 0) := fun k => qk (by omega) (by omega) k
   have e3 : ∀ {α : Type} (x : Nat), x ≤ m → ∀ (k : Int → Option α), qi (gd o 0) (x : Int) k = k (gd (gd o 0) (x : Int)) := fun x hx k => qk (by omega) (by omega) k
   have e4 : ∀ {α : Type} (x : Nat), x ≤ m → ∀ (k : Option α), jS (x : Int) (gd o 0).length k = k := fun x hx k => jM (by omega) (by omega) k
   have w3 : IntKind.wrap .i64 (((n + j : Nat) : Int) + 1) = ((n + (j + 1) : Nat) : Int) := by rw [wI (by omega) (by omega)]; omega
   simp only [L54_22, B54_22, e1, e2, w3]
   rw [qu (by omega), cond_true, e4 _ (by omega), e3 _ (by omega), e4 _ (by omega), e3 _ (by omega)]
   by_cases hlt : gd (gd o 0) ((n + j : Nat) : Int) < gd (gd o 0) (t : Int)
   ·rw [qu hlt, cond_true]
    refine ⟨n + j, ⟨by omega, by omega, fun t' h1 h2 => ?_⟩, rfl⟩
    by_cases e : t' = n + j
    ·subst e; exact ⟨Int.le_refl _, fun _ => Nat.le_refl _⟩
    ·have := (q3 t' h1 (by omega)).1
     exact ⟨by omega, fun h => by omega⟩
   ·rw [qD hlt, cond_false]
    refine ⟨t, ⟨q1, by omega, fun t' h1 h2 => ?_⟩, rfl⟩
    by_cases e : t' = n + j
    ·subst e; exact ⟨by omega, fun _ => by omega⟩
    ·exact q3 t' h1 (by omega))
 exact ⟨t, h1, hr⟩
theorem MaxC.of_end {b : Bun} {l : List Bun} {t p : Int} {k : Nat} (h : j8 (b :: l) (t - k * b.1) (p - k * b.2)) (he : ¬ j8 (b :: l) (t - k * b.1 - b.1) (p - k * b.2 - b.2)) : MaxC b l t p k := by
 refine ⟨by omega, ?_, fun j hj hp => ?_⟩
 ·rcases j8.cons_iff.1 h with h | h
  ·exact h
  ·exact absurd h he
 ·by_cases hjk : j ≤ k
  ·exact hjk
  ·refine absurd ?_ he
   obtain ⟨d, hd⟩ : ∃ d : Nat, j = (k : Int) + 1 + d := ⟨(j - k - 1).toNat, by omega⟩
   have := hp.cons_mono (b := b) d
   have e1 : j * b.1 = (k : Int) * b.1 + b.1 + (d : Int) * b.1 := by rw [hd, Int.add_mul, Int.add_mul, Int.one_mul]
   have e2 : j * b.2 = (k : Int) * b.2 + b.2 + (d : Int) * b.2 := by rw [hd, Int.add_mul, Int.add_mul, Int.one_mul]
   rwa [show t - j * b.1 + (d : Int) * b.1 = t - k * b.1 - b.1 by omega, show p - j * b.2 + (d : Int) * b.2 = p - k * b.2 - b.2 by omega] at this
theorem take68 (l : List Bun) (hl : qcl l) (hk : l.length ≤ 6) (price : Int) (m : Nat) (hm : m ≤ 2000) (i : Nat) (hi : i < l.length) (o : List (List Int)) (ho : Tab l (m + 1) o 0) (T p : Int) (hT : T ≤ m) (hL : qaZ (l.drop i) T p) (many : List Int) (hml : many.length = l.length) (hz : gd many (i : Int) = 0) {N : Nat} (hN : 3000 < N) :
  ∃ k : Nat, MaxC (gd l (i : Int)) (l.drop (i + 1)) T p k ∧ qaZ (l.drop (i + 1)) (T - k * (gd l (i : Int)).1) (p - k * (gd l (i : Int)).2) ∧
   L54_34 N ((price, T, (i : Int), p, l, (l.length : Int), (i : Int), ()), (gd l (i : Int), o, many, ()), ()) = some ((price, T - k * (gd l (i : Int)).1, l, (l.length : Int), (i : Int), ()), (o, many.set i k, ()), ()) := by
 obtain ⟨h1, h2, h3⟩ := ho
 have hd : l.drop i = gd l (i : Int) :: l.drop (i + 1) := qd8 hi
 have hb := hl _ (qau (l := l) (i := (i : Int)) (by omega) (by omega))
 have hfd : qcl (gd l (i : Int) :: l.drop (i + 1)) := by rw [← hd]; exact hl.drop i
 rw [hd] at hL
 revert hL hb hfd
 generalize hbv : gd l (i : Int) = b
 intro hL hb hfd
 have hT0 := (hL.1.le hfd).1
 have hrow := h2 i (by omega)
 have e0 : many.set i 0 = many := by
  refine qfO (by rw [List.length_set]) fun j hj => ?_
  rw [qct (by omega)]
  by_cases h : j = i
  ·rw [if_pos h, h, hz]
  ·rw [if_neg h]
 obtain ⟨r, hr, k, q1, q2, rfl⟩ := loopM (L := L54_34) (fun k : Nat => ((price, T - k * b.1, (i : Int), p - k * b.2, l, (l.length : Int), (i : Int), ()), (b, o, many.set i k, ()), ()))
  (fun k => qaZ (b :: l.drop (i + 1)) (T - k * b.1) (p - k * b.2))
  (fun r => ∃ k : Nat, MaxC b (l.drop (i + 1)) T p k ∧ qaZ (l.drop (i + 1)) (T - k * b.1) (p - k * b.2) ∧ r = ((price, T - k * b.1, l, (l.length : Int), (i : Int), ()), (o, many.set i k, ()), ())) 0 (fun k => (T - k * b.1).toNat)
  (fun N k _ hP => by
   have hle := hP.1.le hfd
   have hkb : (k : Int) ≤ k * b.1 := by
    have := Int.mul_le_mul_of_nonneg_left hb.1 (show (0 : Int) ≤ k by omega)
    omega
   have hkb2 : (0 : Int) ≤ k * b.2 := Int.mul_nonneg (by omega) (by omega)
   have e1 : ((k + 1 : Nat) : Int) * b.1 = k * b.1 + b.1 := by rw [Int.natCast_succ, Int.add_mul]; omega
   have e2 : ((k + 1 : Nat) : Int) * b.2 = k * b.2 + b.2 := by rw [Int.natCast_succ, Int.add_mul]; omega
   have hex : ¬ j8 (b :: l.drop (i + 1)) (T - k * b.1 - b.1) (p - k * b.2 - b.2) → ∃ r, some ((price, T - k * b.1, l, (l.length : Int), (i : Int), ()), (o, many.set i k, ()), ()) = some r ∧ ∃ k : Nat, MaxC b (l.drop (i + 1)) T p k ∧ qaZ (l.drop (i + 1)) (T - k * b.1) (p - k * b.2) ∧ r = ((price, T - k * b.1, l, (l.length : Int), (i : Int), ()), (o, many.set i k, ()), ()) := fun he => by
    have hm := MaxC.of_end hP.1 he
    exact ⟨_, rfl, k, hm, hL.rest (by omega) hm.2.1, rfl⟩
   have i1 : ∀ {α : Type} (k : Option α), jS (i : Int) o.length k = k := fun k => jM (by omega) (by omega) k
   have i2 : ∀ {α : Type} (k : List Int → Option α), qi o (i : Int) k = k (gd o (i : Int)) := fun k => qk (by omega) (by omega) k
   simp only [L54_34, B54_34, i1, i2]
   by_cases hge : T - k * b.1 ≥ b.1
   ·obtain ⟨t1, ht1⟩ : ∃ t1 : Nat, (t1 : Int) = T - k * b.1 - b.1 := ⟨(T - k * b.1 - b.1).toNat, by omega⟩
    have w2 : IntKind.wrap .i64 (T - k * b.1 - b.1) = (t1 : Int) := by rw [wI (by omega) (by omega), ht1]
    have i3 : ∀ {α : Type} (k : Option α), jS (t1 : Int) (gd o (i : Int)).length k = k := fun k => jM (by omega) (by omega) k
    have i4 : ∀ {α : Type} (k : Int → Option α), qi (gd o (i : Int)) (t1 : Int) k = k (gd (gd o (i : Int)) (t1 : Int)) := fun k => qk (by omega) (by omega) k
    have hE := h3 i (by omega) (by omega) t1 (by omega)
    rw [hd, hbv] at hE
    rw [qu hge, cond_true, w2, i3, i4]
    by_cases hlt : gd (gd o (i : Int)) (t1 : Int) < NO
    ·rw [qu hlt, cond_true, i3, i4]
     have hLq : qaZ (b :: l.drop (i + 1)) (T - k * b.1 - b.1) (gd (gd o (i : Int)) (t1 : Int)) := Eq.subst (motive := fun x => qaZ (b :: l.drop (i + 1)) x (gd (gd o (i : Int)) (t1 : Int))) ht1 (hE.least hlt)
     have hq := hLq.1.le hfd
     rw [wI (by omega) (by omega)]
     by_cases heq : gd (gd o (i : Int)) (t1 : Int) + b.2 = p - k * b.2
     ·have hpv : gd (gd o (i : Int)) (t1 : Int) = p - k * b.2 - b.2 := by omega
      rw [heq, beq_self_eq_true, cond_true]
      have i5 : ∀ {α : Type} (k' : Option α), jS (i : Int) (many.set i (k : Int)).length k' = k' := fun k' => jM (by omega) (by rw [List.length_set, hml]; omega) k'
      have i6 : ∀ {α : Type} (k' : Int → Option α), qi (many.set i (k : Int)) (i : Int) k' = k' (k : Int) := fun k' => by
       rw [qk (by omega) (by rw [List.length_set, hml]; omega), qct (by omega), if_pos rfl]
      rw [i5, i6, i5, i6, i3, i4]
      refine .inl ⟨k + 1, ?_, ?_, ?_⟩
      ·have h := (qaZ.prev_iff hP hLq).1 heq
       have := hP.prev h
       rwa [e1, e2, show T - (k * b.1 + b.1) = T - k * b.1 - b.1 by omega, show p - (k * b.2 + b.2) = p - k * b.2 - b.2 by omega]
      ·rw [e1]; omega
      ·rw [hpv, ht1, e1, e2, show T - (k * b.1 + b.1) = T - k * b.1 - b.1 by omega, show p - (k * b.2 + b.2) = p - k * b.2 - b.2 by omega, Int.toNat_natCast, List.set_set, wI (by omega) (by omega)]
       rfl
     ·rw [beq_false_of_ne heq, cond_false]
      exact .inr (hex fun h => heq ((qaZ.prev_iff hP hLq).2 h))
    ·rw [qD hlt, cond_false]
     refine .inr (hex ?_)
     have hN : gd (gd o (i : Int)) (t1 : Int) = NO := by have := hE.1; omega
     rw [hN] at hE
     rw [← ht1]
     exact hE.none hfd (by show _ < (1152921504606846976 : Int); omega) _
   ·rw [qD hge, cond_false]
    exact .inr (hex fun h => by have := h.le hfd; omega))
  2001 N 0 (by omega) (by simpa using hL) (by omega)
 refine ⟨k, q1, q2, ?_⟩
 rw [← hr]
 simp [e0]
theorem qjX (l : List Bun) (hl : qcl l) (hk : l.length ≤ 6) (price : Int) (m : Nat) (hm : m ≤ 2000) (o : List (List Int)) (ho : Tab l (m + 1) o 0) (T p : Int) (hT : T ≤ m) (hL : qaZ l T p) {N : Nat} (hN : 4000 < N) :
  ∃ r, qfY l T p r ∧ L54_31 N ((price, T, l, (l.length : Int), 0, ()), (o, List.replicate l.length 0, ()), ()) = some ((price, ()), (r, ()), ()) := by
 obtain ⟨r, hr, r', h1, rfl⟩ := qia (L := L54_31) (fun (j : Nat) (s : Int × List Int) => ((price, s.1, l, (l.length : Int), (j : Int), ()), (o, s.2, ()), ()))
  (fun j s => s.1 ≤ m ∧ s.2.length = l.length ∧ (∀ x : Nat, j ≤ x → x < l.length → gd s.2 (x : Int) = 0) ∧ ∃ q, qaZ (l.drop j) s.1 q ∧ ∀ r', qfY (l.drop j) s.1 q r' → qfY l T p (s.2.take j ++ r'))
  (fun r => ∃ r' : List Int, qfY l T p r' ∧ r = ((price, ()), (r', ()), ())) 3001 l.length (N := N) (s := (T, List.replicate l.length 0)) ⟨hT, by simp, fun x _ hx => qcu (by omega) (by omega), p, hL, fun r' h => h⟩ (by omega)
  (fun N s ⟨_, q2, _, q, q4, q5⟩ => by
   rw [List.drop_length] at q4 q5
   obtain ⟨h1, _⟩ := q4
   revert q5
   generalize s.1 = t at h1
   cases h1
   intro q5
   have := q5 [] .nil
   rw [List.append_nil, ← q2, List.take_length] at this
   refine ⟨_, by simp only [L54_31, B54_31]; rw [qD (by omega), cond_false], _, this, rfl⟩)
  (fun N j s hc hj ⟨q1, q2, q3, q, q4, q5⟩ => by
   obtain ⟨o1, o2, o3⟩ := ho
   have hd : l.drop j = gd l (j : Int) :: l.drop (j + 1) := qd8 hj
   obtain ⟨t, ht⟩ : ∃ t : Nat, s.1 = (t : Int) := ⟨s.1.toNat, by have := (q4.1.le (hl.drop j)).1; omega⟩
   have e := (o3 j (by omega) (by omega) t (by omega)).of_least (by rw [← ht]; exact q4) (hl.drop j) (by show _ < (1152921504606846976 : Int); omega)
   have hrow := o2 j (by omega)
   obtain ⟨k, k1, k2, k3⟩ := take68 l hl hk price m hm j hj o ⟨o1, o2, o3⟩ s.1 q q1 q4 s.2 q2 (q3 j (Nat.le_refl _) hj) (N := N) (by omega)
   have hb := hl _ (qau (l := l) (i := (j : Int)) (by omega) (by omega))
   have hkb : (0 : Int) ≤ k * (gd l (j : Int)).1 := Int.mul_nonneg (by omega) (by omega)
   refine .inl ⟨(s.1 - k * (gd l (j : Int)).1, s.2.set j k), ⟨by simp only; omega, by rw [List.length_set, q2], fun x h1 h2 => ?_, _, k2, fun r' h => ?_⟩, ?_⟩
   ·simp only
    rw [qct (by omega), if_neg (by omega)]
    exact q3 x (by omega) h2
   ·simp only at h ⊢
    have h2 := q5 (k :: r') (by rw [hd]; exact .cons k1 h)
    have e2 : (s.2.set j (k : Int)).take (j + 1) = s.2.take j ++ [(k : Int)] := by
     rw [qgy (by rw [List.length_set]; omega), qct (by omega), if_pos rfl, List.take_set_of_le (Nat.le_refl _)]
    rw [e2, List.append_assoc]
    exact h2
   ·simp only [L54_31, B54_31]
    rw [qu (by omega), cond_true, qk (by omega) (by omega), jM (by omega) (by omega), qk (by omega) (by omega), jM (by omega) (by omega), qk (by omega) (by omega), qk (by omega) (by omega)]
    have e' : gd (gd o (j : Int)) s.1 = q := by rw [ht]; exact e
    rw [e', k3, qb]
    simp only
    rw [wI (by omega) (by omega)]
    rfl)
 exact ⟨r', h1, hr⟩
def qgg (l : List Bun) (n : Nat) : Prop := ∀ t : Nat, n ≤ t → t ≤ n + 1000 → ∀ p, ¬ j8 l t p
def Opt (l : List Bun) (n t : Nat) (p : Int) : Prop := n ≤ t ∧ t ≤ n + 1000 ∧ j8 l t p ∧ ∀ t' : Nat, n ≤ t' → t' ≤ n + 1000 → ∀ p', j8 l t' p' → p ≤ p' ∧ (p' = p → t ≤ t')
def qhE (l : List Bun) (n : Nat) (r : List Int) (p : Int) : Prop := ∃ t, Opt l n t p ∧ qfY l t p r
theorem Opt.uniq {l : List Bun} {n t t' : Nat} {p p' : Int} (h : Opt l n t p) (h' : Opt l n t' p') : t = t' ∧ p = p' := by
 have a := h.2.2.2 t' h'.1 h'.2.1 p' h'.2.2.1
 have b := h'.2.2.2 t h.1 h.2.1 p h.2.2.1
 have e : p = p' := by omega
 have := a.2 e.symm
 have := b.2 e
 omega
theorem qhE.uniq {l : List Bun} {n : Nat} {r r' : List Int} {p p' : Int} (h : qhE l n r p) (h' : qhE l n r' p') : r = r' ∧ p = p' := by
 obtain ⟨t, h1, h2⟩ := h
 obtain ⟨t', h3, h4⟩ := h'
 obtain ⟨rfl, rfl⟩ := h1.uniq h3
 exact ⟨h2.uniq h4, rfl⟩
theorem Opt.least {l : List Bun} {n t : Nat} {p : Int} (h : Opt l n t p) : qaZ l t p := ⟨h.2.2.1, fun q hq => (h.2.2.2 t h.1 h.2.1 q hq).1⟩
theorem qis.opt {N : Int} {l : List Bun} {c : List Int} {n t : Nat} (hc : ∀ t : Nat, t < n + 1001 → Ent N l t (gd c (t : Int))) (h : qis c n (n + 1001) t) (hlt : gd c (t : Int) < N) : Opt l n t (gd c (t : Int)) := by
 obtain ⟨h1, h2, h3⟩ := h
 refine ⟨h1, by omega, ((hc t h2).least hlt).1, fun t' q1 q2 p' hp => ?_⟩
 have a := h3 t' q1 (by omega)
 have b := (hc t' (by omega)).2.2 p' hp
 exact ⟨by omega, fun e => a.2 (by omega)⟩
theorem qis.noBuy {N : Int} {l : List Bun} {c : List Int} {n t : Nat} (hl : qcl l) (hn : 1000000 * ((n : Int) + 1000) < N) (hc : ∀ t : Nat, t < n + 1001 → Ent N l t (gd c (t : Int))) (h : qis c n (n + 1001) t) (hlt : gd c (t : Int) = N) : qgg l n := by
 obtain ⟨h1, h2, h3⟩ := h
 intro t' q1 q2 p hp
 have a := (h3 t' q1 (by omega)).1
 have b := (hc t' (by omega)).2.2 p hp
 have := hp.le hl
 omega
theorem same54_4 : @L10054_4 = @L54_4 := by kernel_rfl
theorem qlj : @L10054_10 = @L54_10 := by kernel_rfl
theorem qli : @L10054_22 = @L54_22 := by kernel_rfl
theorem qlh : @L10054_31 = @L54_31 := by kernel_rfl
theorem g54_made (l : List Bun) (hl : qcl l) (hk : l.length ≤ 6) (n : Nat) (hn : n ≤ 1000) :
  (qgg l n ∧ g54 (l, (n : Int), ()) = none) ∨ ∃ r p, qhE l n r p ∧ g54 (l, (n : Int), ()) = some ((r, p, ()), ()) := by
 have hf := qP
 have e0 : g54 (l, (n : Int), ()) = F54 qc l n := rfl
 rw [e0]
 unfold F54
 have w1 : IntKind.wrap .i64 ((l.length : Int) + 1) = ((l.length + 1 : Nat) : Int) := by rw [wI (by omega) (by omega)]; omega
 have w2 : IntKind.wrap .i64 ((n : Int) + 1000) = ((n + 1000 : Nat) : Int) := by rw [wI (by omega) (by omega)]; omega
 have w3 : IntKind.wrap .i64 ((l.length : Int) - 1) = (l.length : Int) - 1 := wI (by omega) (by omega)
 rw [w1, w2, qaG (by omega), qaG (by omega), jT (by omega) (by omega), Int.toNat_natCast]
 obtain ⟨o, h1, h2, e1⟩ := fill68 l n (n + 1000) (by omega) hk (N := qc) (by omega)
 rw [e1, qb]
 simp only
 have hgo : gd o (l.length : Int) = List.replicate (n + 1000 + 1) NO := h2 l.length (by omega)
 rw [jM (by omega) (by omega), qk (by omega) (by omega), hgo, jM (by omega) (by rw [List.length_replicate]; omega), qk (by omega) (by omega), hgo, qk (by omega) (by rw [List.length_replicate]; omega), w3, Int.toNat_natCast]
 have hgs : ∀ j : Nat, gd (o.set l.length ((List.replicate (n + 1000 + 1) NO).set (0 : Int).toNat 0)) (j : Int) = if j = l.length then (List.replicate (n + 1000 + 1) NO).set (0 : Int).toNat 0 else gd o (j : Int) := qct (by omega)
 have ht : Tab l (n + 1000 + 1) (o.set l.length ((List.replicate (n + 1000 + 1) NO).set (0 : Int).toNat 0)) l.length := by
  refine ⟨by rw [List.length_set, h1], fun i hi => ?_, fun i q1 q2 t q3 => ?_⟩
  ·rw [hgs]
   by_cases e : i = l.length
   ·rw [if_pos e, List.length_set, List.length_replicate]
   ·rw [if_neg e, h2 i (by omega), List.length_replicate]
  ·obtain rfl : i = l.length := by omega
   rw [hgs, if_pos rfl, List.drop_length, show (0 : Int).toNat = 0 from rfl, qct (by rw [List.length_replicate]; omega)]
   by_cases e : t = 0
   ·rw [if_pos e, e]; exact .nil_zero (by decide)
   ·rw [if_neg e, qcu (by omega) (by omega)]; exact .nil_pos (by omega)
 obtain ⟨o2, t2, e2⟩ := tab68 l hl n ((n + 1000 : Nat) : Int) (n + 1000 + 1) (by omega) hk _ ht (N := qc) (by omega)
 rw [e2, qb]
 simp only
 obtain ⟨u1, u2, u3⟩ := t2
 have u20 := u2 0 (by omega)
 obtain ⟨t, hfst, e3⟩ := arg68 l n (n + 1000) (by omega) (by omega) o2 (by omega) u20 (N := qc) (by omega)
 rw [e3, qb]
 simp only
 have hft := hfst
 obtain ⟨v1, v2, _⟩ := hft
 have hent : ∀ t : Nat, t < n + 1001 → Ent NO l t (gd (gd o2 0) (t : Int)) := fun t ht => u3 0 (Nat.le_refl _) (Nat.zero_le _) t (by omega)
 rw [jM (by omega) (by omega), qk (by omega) (by omega)]
 have u20' : (gd o2 0).length = n + 1000 + 1 := u20
 rw [jM (by omega) (by omega), qk (by omega) (by omega), qk (by omega) (by omega)]
 by_cases hno : gd (gd o2 0) (t : Int) = NO
 ·left
  refine ⟨hfst.noBuy hl (by show _ < (1152921504606846976 : Int); omega) hent hno, ?_⟩
  rw [hno, beq_self_eq_true, cond_true]
 ·right
  have hlt : gd (gd o2 0) (t : Int) < NO := by have := (hent t (by omega)).1; omega
  have ho := hfst.opt hent hlt
  obtain ⟨r, hb, e4⟩ := qjX l hl hk (gd (gd o2 0) (t : Int)) (n + 1000) (by omega) o2 ⟨u1, u2, u3⟩ (t : Int) (gd (gd o2 0) (t : Int)) (by omega) ho.least (N := qc) (by omega)
  refine ⟨r, gd (gd o2 0) (t : Int), ⟨t, ho, hb⟩, ?_⟩
  rw [beq_false_of_ne hno, cond_false, qaG (by omega), qaG (by omega), jT (by omega) (by omega), Int.toNat_natCast, e4]
  rfl
theorem g54_nil (l : List Bun) (hl : qcl l) (hk : l.length ≤ 6) (n : Nat) (hn : n ≤ 1000) :
  (qgg l n ∧ g10054 (l, (n : Int), ()) = some (([], 0, ()), ())) ∨ ∃ r p, qhE l n r p ∧ g10054 (l, (n : Int), ()) = none := by
 have hf := qP
 have e0 : g10054 (l, (n : Int), ()) = F10054 qc l n := rfl
 rw [e0]
 unfold F10054
 rw [same54_4, qlj, qli, qlh]
 have w1 : IntKind.wrap .i64 ((l.length : Int) + 1) = ((l.length + 1 : Nat) : Int) := by rw [wI (by omega) (by omega)]; omega
 have w2 : IntKind.wrap .i64 ((n : Int) + 1000) = ((n + 1000 : Nat) : Int) := by rw [wI (by omega) (by omega)]; omega
 have w3 : IntKind.wrap .i64 ((l.length : Int) - 1) = (l.length : Int) - 1 := wI (by omega) (by omega)
 rw [w1, w2, qaG (by omega), qaG (by omega), jT (by omega) (by omega), Int.toNat_natCast]
 obtain ⟨o, h1, h2, e1⟩ := fill68 l n (n + 1000) (by omega) hk (N := qc) (by omega)
 rw [e1, qb]
 simp only
 have hgo : gd o (l.length : Int) = List.replicate (n + 1000 + 1) NO := h2 l.length (by omega)
 rw [jM (by omega) (by omega), qk (by omega) (by omega), hgo, jM (by omega) (by rw [List.length_replicate]; omega), qk (by omega) (by omega), hgo, qk (by omega) (by rw [List.length_replicate]; omega), w3, Int.toNat_natCast]
 have hgs : ∀ j : Nat, gd (o.set l.length ((List.replicate (n + 1000 + 1) NO).set (0 : Int).toNat 0)) (j : Int) = if j = l.length then (List.replicate (n + 1000 + 1) NO).set (0 : Int).toNat 0 else gd o (j : Int) := qct (by omega)
 have ht : Tab l (n + 1000 + 1) (o.set l.length ((List.replicate (n + 1000 + 1) NO).set (0 : Int).toNat 0)) l.length := by
  refine ⟨by rw [List.length_set, h1], fun i hi => ?_, fun i q1 q2 t q3 => ?_⟩
  ·rw [hgs]
   by_cases e : i = l.length
   ·rw [if_pos e, List.length_set, List.length_replicate]
   ·rw [if_neg e, h2 i (by omega), List.length_replicate]
  ·obtain rfl : i = l.length := by omega
   rw [hgs, if_pos rfl, List.drop_length, show (0 : Int).toNat = 0 from rfl, qct (by rw [List.length_replicate]; omega)]
   by_cases e : t = 0
   ·rw [if_pos e, e]; exact .nil_zero (by decide)
   ·rw [if_neg e, qcu (by omega) (by omega)]; exact .nil_pos (by omega)
 obtain ⟨o2, t2, e2⟩ := tab68 l hl n ((n + 1000 : Nat) : Int) (n + 1000 + 1) (by omega) hk _ ht (N := qc) (by omega)
 rw [e2, qb]
 simp only
 obtain ⟨u1, u2, u3⟩ := t2
 have u20 := u2 0 (by omega)
 obtain ⟨t, hfst, e3⟩ := arg68 l n (n + 1000) (by omega) (by omega) o2 (by omega) u20 (N := qc) (by omega)
 rw [e3, qb]
 simp only
 have hft := hfst
 obtain ⟨v1, v2, _⟩ := hft
 have hent : ∀ t : Nat, t < n + 1001 → Ent NO l t (gd (gd o2 0) (t : Int)) := fun t ht => u3 0 (Nat.le_refl _) (Nat.zero_le _) t (by omega)
 rw [jM (by omega) (by omega), qk (by omega) (by omega)]
 have u20' : (gd o2 0).length = n + 1000 + 1 := u20
 rw [jM (by omega) (by omega), qk (by omega) (by omega), qk (by omega) (by omega)]
 by_cases hno : gd (gd o2 0) (t : Int) = NO
 ·left
  refine ⟨hfst.noBuy hl (by show _ < (1152921504606846976 : Int); omega) hent hno, ?_⟩
  rw [hno, beq_self_eq_true, cond_true]
 ·right
  have hlt : gd (gd o2 0) (t : Int) < NO := by have := (hent t (by omega)).1; omega
  have ho := hfst.opt hent hlt
  obtain ⟨r, hb, e4⟩ := qjX l hl hk (gd (gd o2 0) (t : Int)) (n + 1000) (by omega) o2 ⟨u1, u2, u3⟩ (t : Int) (gd (gd o2 0) (t : Int)) (by omega) ho.least (N := qc) (by omega)
  refine ⟨r, gd (gd o2 0) (t : Int), ⟨t, ho, hb⟩, ?_⟩
  rw [beq_false_of_ne hno, cond_false, qaG (by omega), qaG (by omega), jT (by omega) (by omega), Int.toNat_natCast, e4]
  rfl
theorem qhw {l : List Bun} {n : Nat} {r : List Int} {p : Int} (h : qhE l n r p) : ¬ qgg l n := by
 obtain ⟨t, h1, _⟩ := h
 exact fun hn => hn t h1.1 h1.2.1 p h1.2.2.1
theorem g54_eq (l : List Bun) (hl : qcl l) (hk : l.length ≤ 6) (n : Nat) (hn : n ≤ 1000) :
  (qgg l n ∧ g10054 (l, (n : Int), ()) = some (([], 0, ()), ())) ∨ ∃ r p, qhE l n r p ∧ g54 (l, (n : Int), ()) = some ((r, p, ()), ()) ∧ g10054 (l, (n : Int), ()) = none := by
 rcases g54_nil l hl hk n hn with h | ⟨r, p, h1, h2⟩
 ·exact .inl h
 ·rcases g54_made l hl hk n hn with h | ⟨r, p, h3, h4⟩
  ·exact absurd h.1 (qhw h1)
  ·exact .inr ⟨r, p, h3, h4, h2⟩
theorem j8.mul {b : Bun} {l : List Bun} (h : b ∈ l) : ∀ k : Nat, j8 l (k * b.1) (k * b.2)
 | 0 => by
  rw [show ((0 : Nat) : Int) * b.1 = 0 by simp, show ((0 : Nat) : Int) * b.2 = 0 by simp]
  exact .zero l
 | k + 1 => by
  refine j8.of_take (b := b) ?_ h
  have := j8.mul h k
  rwa [show ((k + 1 : Nat) : Int) * b.1 - b.1 = (k : Int) * b.1 by rw [Int.natCast_succ, Int.add_mul]; omega, show ((k + 1 : Nat) : Int) * b.2 - b.2 = (k : Int) * b.2 by rw [Int.natCast_succ, Int.add_mul]; omega]
theorem qh5 {l : List Bun} (hl : qcl l) {n : Nat} (hn : n = 0 ∨ l ≠ []) : ¬ qgg l n := by
 intro h
 rcases hn with rfl | hn
 ·exact h 0 (Nat.le_refl _) (by omega) 0 (.zero l)
 ·obtain ⟨b, l', rfl⟩ := List.exists_cons_of_ne_nil hn
  have hb := hl b (List.mem_cons_self ..)
  obtain ⟨k, hk⟩ : ∃ k : Nat, (k : Int) = ((n : Int) + b.1 - 1) / b.1 := ⟨(((n : Int) + b.1 - 1) / b.1).toNat, by have := Int.ediv_nonneg (a := (n : Int) + b.1 - 1) (b := b.1) (by omega) (by omega); omega⟩
  have h1 := Int.ediv_mul_le ((n : Int) + b.1 - 1) (show b.1 ≠ 0 by omega)
  have h2 := Int.lt_ediv_add_one_mul_self ((n : Int) + b.1 - 1) (show 0 < b.1 by omega)
  rw [← hk] at h1 h2
  rw [Int.add_mul, Int.one_mul] at h2
  refine h ((k : Int) * b.1).toNat (by omega) (by omega) (k * b.2) ?_
  rw [show ((((k : Int) * b.1).toNat : Nat) : Int) = (k : Int) * b.1 by omega]
  exact j8.mul (List.mem_cons_self ..) k
theorem qlv {n : Nat} (h : 0 < n) : qgg [] n := by
 intro t h1 _ p hp
 generalize ht : (t : Int) = t' at hp
 cases hp
 omega
theorem qjV {f : qeU} (h : qd6 f = true) : qcl f.2.2.2.2.1 ∧ f.2.2.2.2.1.length ≤ 6 := by
 unfold qd6 at h
 simp only [Bool.and_eq_true, decide_eq_true_eq, List.all_eq_true] at h
 obtain ⟨_, _, _, _, h5, _, _, _, _, h10⟩ := h
 refine ⟨fun b hb => ?_, by omega⟩
 have := h10 b hb
 unfold okB at this
 rw [Bool.and_eq_true, Bool.and_eq_true, qG, qG] at this
 omega
def qhF (f : qeU) (n : Int) (x : (List Int) × Int × Int) : Prop :=
 if qd6 f = false then x = ([], 0, 10) else if jD n 0 1000 = false then x = ([], 0, 1) else if f.2.2.2.2.1 = [] ∧ 0 < n then x = ([], 0, 3) else x.2.2 = 0 ∧ qhE f.2.2.2.2.1 n.toNat x.1 x.2.1
theorem qhF.uniq {f : qeU} {n : Int} {x y : (List Int) × Int × Int} (h : qhF f n x) (h' : qhF f n y) : x = y := by
 unfold qhF at h h'
 split at h
 ·rename_i e; rw [if_pos e] at h'; rw [h, h']
 ·rename_i e; rw [if_neg e] at h'
  split at h
  ·rename_i e; rw [if_pos e] at h'; rw [h, h']
  ·rename_i e; rw [if_neg e] at h'
   split at h
   ·rename_i e; rw [if_pos e] at h'; rw [h, h']
   ·rename_i e; rw [if_neg e] at h'
    obtain ⟨x1, x2, x3⟩ := x
    obtain ⟨y1, y2, y3⟩ := y
    have := h.2.uniq h'.2
    simp only at h h' this
    rw [this.1, this.2, h.1, h'.1]
theorem qcF (n : Nat) : (List.replicate n (0 : Int)).sum = 0 := by
 induction n with
 | zero => rfl
 | succ n ih => rw [List.replicate_succ, List.sum_cons, ih]; rfl
def sumP (l : List (Int × Int)) : Int := (l.map (·.1)).sum
def tot (c : Cnt) : Int := c.1.sum + sumP c.2.2.1 + c.2.2.2.1.sum + c.2.2.2.2
structure Inv (f : qeU) (c : Cnt) (k : Nat) : Prop where
 ls : c.1.length = f.2.2.1.length
 lc : c.2.1.length = f.2.2.1.length
 lp : c.2.2.1.length = f.1.toNat
 lb : c.2.2.2.1.length = f.2.1.toNat
 ns : ∀ x ∈ c.1, 0 ≤ x
 nc : ∀ x ∈ c.2.1, 0 ≤ x ∧ x ≤ 1000000 * ((k : Int) + 1)
 np : ∀ x ∈ c.2.2.1, 0 ≤ x.1
 nb : ∀ x ∈ c.2.2.2.1, 0 ≤ x
 nl : 0 ≤ c.2.2.2.2
 tt : tot c = f.2.2.1.sum
structure Ok (f : qeU) : Prop where
 s1 : 1 ≤ f.2.2.1.length
 s8 : f.2.2.1.length ≤ 8
 c8 : f.2.2.2.1.length = f.2.2.1.length
 p0 : 0 ≤ f.1
 p1 : f.1 ≤ 20
 b0 : 0 ≤ f.2.1
 b1 : f.2.1 ≤ 12
 st : ∀ x ∈ f.2.2.1, 0 ≤ x ∧ x ≤ 100000
 ca : ∀ x ∈ f.2.2.2.1, 0 ≤ x ∧ x ≤ 1000000
 r0 : 0 ≤ f.2.2.2.2.2.1
 r1 : f.2.2.2.2.2.1 ≤ 1000
 d0 : 0 ≤ f.2.2.2.2.2.2.1
 d1 : f.2.2.2.2.2.2.1 ≤ 1000000
 h0 : 1 ≤ f.2.2.2.2.2.2.2
 h1 : f.2.2.2.2.2.2.2 ≤ 1440
 fine : qcl f.2.2.2.2.1
 six : f.2.2.2.2.1.length ≤ 6
 win : ∀ b ∈ f.2.2.2.2.1, f.2.2.2.2.2.1 * b.1 ≤ b.2
def cnt0 (f : qeU) : Cnt := (f.2.2.1, f.2.2.2.1, List.replicate f.1.toNat (0, 0), List.replicate f.2.1.toNat 0, 0)
theorem qgC (n : Nat) : sumP (List.replicate n (0, 0)) = 0 := by
 unfold sumP
 rw [List.map_replicate, qcF]
theorem Inv.zero {f : qeU} (h : Ok f) : Inv f (cnt0 f) 0 := by
 refine ⟨rfl, h.c8, List.length_replicate, List.length_replicate, fun x hx => (h.st x hx).1, fun x hx => ?_, fun x hx => ?_, fun x hx => ?_, Int.le_refl _, ?_⟩
 ·have := h.ca x hx; omega
 ·rw [(List.mem_replicate.1 hx).2]; exact Int.le_refl _
 ·rw [(List.mem_replicate.1 hx).2]; exact Int.le_refl _
 ·unfold tot cnt0
  simp only
  rw [qgC, qcF]
  omega
structure NInv (t : Night) (k : Nat) : Prop where
 s0 : 0 ≤ t.1
 s1 : t.1 ≤ 100000 * k
 t0 : 0 ≤ t.2.1
 t1 : t.2.1 ≤ 100000 * k
 r0 : 0 ≤ t.2.2.1
 r1 : t.2.2.1 ≤ 100000 * k
 h : t.2.2.2.1 = 0
 l0 : 0 ≤ t.2.2.2.2.1
 l1 : t.2.2.2.2.1 ≤ 100000 * k
 c0 : -(100000000 * (k : Int)) ≤ t.2.2.2.2.2
 c1 : t.2.2.2.2.2 ≤ 1000000 * k
def nt0 : Night := (0, 0, 0, 0, 0, 0)
theorem NInv.zero : NInv nt0 0 := ⟨by decide, by decide, by decide, by decide, by decide, by decide, rfl, by decide, by decide, by decide, by decide⟩
def first (n : Nat) (q : Nat → Bool) : Option Nat := (List.range n).find? q
theorem qhi {n : Nat} {q : Nat → Bool} : first n q = none ↔ ∀ j, j < n → q j = false := by
 unfold first
 rw [List.find?_eq_none]
 simp
theorem qhh {n : Nat} {q : Nat → Bool} {i : Nat} : first n q = some i ↔ i < n ∧ q i = true ∧ ∀ j, j < i → q j = false := by
 unfold first
 rw [List.find?_range_eq_some]
 simp only [List.mem_range, Bool.not_eq_true']
 constructor
 ·rintro ⟨h1, h2, h3⟩; exact ⟨h2, h1, h3⟩
 ·rintro ⟨h1, h2, h3⟩; exact ⟨h2, h1, h3⟩
theorem qlx {D R : Type} {L : Nat → D → Option R} (mk : Nat → D) (n : Nat) (q : Nat → Bool) (hit : Nat → R) (e : R) (c : Nat) {N : Nat} (hN : n + c < N)
  (hend : ∀ N, (∀ j, j < n → q j = false) → L (N + 1) (mk n) = some e)
  (hstep : ∀ N i, c ≤ N → i < n → (∀ j, j < i → q j = false) → L (N + 1) (mk i) = bif q i then some (hit i) else L N (mk (i + 1))) :
  L N (mk 0) = some (match first n q with | some i => hit i | none => e) := by
 have key : ∀ (d i : Nat) (N : Nat), i + d = n → d + c < N → (∀ j, j < i → q j = false) → L N (mk i) = some (match first n q with | some i => hit i | none => e) := by
  intro d
  induction d with
  | zero =>
   intro i N hi hN hq
   obtain ⟨m, rfl⟩ : ∃ m, N = m + 1 := ⟨N - 1, by omega⟩
   obtain rfl : i = n := by omega
   rw [hend m hq, qhi.2 hq]
  | succ d ih =>
   intro i N hi hN hq
   obtain ⟨m, rfl⟩ : ∃ m, N = m + 1 := ⟨N - 1, by omega⟩
   rw [hstep m i (by omega) (by omega) hq]
   cases h : q i with
   | true => rw [cond_true, qhh.2 ⟨by omega, h, hq⟩]
   | false =>
    rw [cond_false]
    refine ih (i + 1) m (by omega) (by omega) fun j hj => ?_
    by_cases e : j = i
    ·rw [e, h]
    ·exact hq j (by omega)
 exact key n 0 N (by omega) hN fun j hj => absurd hj (by omega)
def exF : qeU := (2, 2, [100, 50], [0, 1000], [(1, 200), (6, 1000)], 150, 2500, 180)
theorem ex_pays {t p : Int} (h : j8 [(1, 200), (6, 1000)] t p) : ∃ a b : Nat, t = a + 6 * b ∧ p = 200 * a + 1000 * b := by
 obtain ⟨a, h1⟩ := h.count
 obtain ⟨b, h2⟩ := h1.count
 revert h2
 generalize e1 : t - (a : Int) * ((1, 200) : Bun).1 - (b : Int) * ((6, 1000) : Bun).1 = x
 generalize e2 : p - (a : Int) * ((1, 200) : Bun).2 - (b : Int) * ((6, 1000) : Bun).2 = y
 intro h2
 cases h2
 simp only at e1 e2
 exact ⟨a, b, by omega, by omega⟩
theorem ex_pays1 {t p : Int} (h : j8 [(6, 1000)] t p) : ∃ b : Nat, t = 6 * b ∧ p = 1000 * b := by
 obtain ⟨b, h2⟩ := h.count
 revert h2
 generalize e1 : t - (b : Int) * ((6, 1000) : Bun).1 = x
 generalize e2 : p - (b : Int) * ((6, 1000) : Bun).2 = y
 intro h2
 cases h2
 simp only at e1 e2
 exact ⟨b, by omega, by omega⟩
theorem ex_buys : qhE exF.2.2.2.2.1 7 [1, 1] 1200 := by
 show qhE [(1, 200), (6, 1000)] 7 [1, 1] 1200
 have p6 : j8 [(6, 1000)] 6 1000 := j8.take (b := (6, 1000)) (t := 0) (p := 0) (.zero _)
 have p7 : j8 [(1, 200), (6, 1000)] 7 1200 := j8.take (b := (1, 200)) (t := 6) (p := 1000) (.skip p6)
 refine ⟨7, ⟨Nat.le_refl _, by decide, p7, fun t' h1 h2 p' hp => ?_⟩, ?_⟩
 ·obtain ⟨a, b, e1, e2⟩ := ex_pays hp
  omega
 ·refine .cons (k := 1) ⟨by decide, p6, fun j hj hp => ?_⟩ (.cons (k := 1) ⟨by decide, .zero _, fun j hj hp => ?_⟩ ?_)
  ·obtain ⟨b, e1, e2⟩ := ex_pays1 hp
   simp only at e1 e2
   omega
  ·revert hp
   generalize e1 : ((7 : Nat) : Int) - 1 * ((1, 200) : Bun).1 - j * ((6, 1000) : Bun).1 = x
   generalize e2 : (1200 : Int) - 1 * ((1, 200) : Bun).2 - j * ((6, 1000) : Bun).2 = y
   intro hp
   cases hp
   simp only at e1 e2
   omega
  ·exact .nil
theorem g29_eq (f : qeU) (hl : qcl f.2.2.2.2.1) (hk : f.2.2.2.2.1.length ≤ 6) (n : Nat) (hn : n ≤ 1000) :
  (qgg f.2.2.2.2.1 n ∧ g29 (f, (n : Int), ()) = some (([], 0, 3, ()), ())) ∨ ∃ r p, qhE f.2.2.2.2.1 n r p ∧ g29 (f, (n : Int), ()) = some ((r, p, 0, ()), ()) := by
 have e0 : g29 (f, (n : Int), ()) = F29 qc f n := rfl
 rw [e0]
 unfold F29
 rcases g54_eq f.2.2.2.2.1 hl hk n hn with ⟨h, h2⟩ | ⟨r, p, h, h1, h2⟩
 ·left
  exact ⟨h, by rw [h2]; rfl⟩
 ·right
  exact ⟨r, p, h, by rw [h2, h1]; rfl⟩
theorem g12_eq (f : qeU) (hs : qdl f) (n : Int) : ∃ x, qhF f n x ∧ g12 (f, n, ()) = some ((x.1, x.2.1, x.2.2, ()), ()) := by
 have e0 : g12 (f, n, ()) = F12 qc f n := rfl
 rw [e0]
 unfold F12
 rw [g27_eq f hs, qb]
 by_cases hv : qd6 f = false
 ·refine ⟨([], 0, 10), by unfold qhF; rw [if_pos hv], ?_⟩
  rw [hv]; rfl
 have hv' : qd6 f = true := by simpa using hv
 rw [hv', if_pos rfl, show ((0 : Int) != 0) = false from rfl, cond_false, g28_eq, qb]
 by_cases hn : jD n 0 1000 = false
 ·refine ⟨([], 0, 1), by unfold qhF; rw [if_neg hv, if_pos hn], ?_⟩
  rw [hn]; rfl
 have hn' : jD n 0 1000 = true := by simpa using hn
 have hr := qG.1 hn'
 rw [hn', Bool.not_true, cond_false]
 obtain ⟨hl, hk⟩ := qjV hv'
 obtain ⟨m, rfl⟩ : ∃ m : Nat, n = m := ⟨n.toNat, by omega⟩
 rcases g29_eq f hl hk m (by omega) with ⟨h, h1⟩ | ⟨r, p, h, h1⟩
 ·refine ⟨([], 0, 3), ?_, by rw [h1]; rfl⟩
  unfold qhF
  rw [if_neg hv, if_neg hn, if_pos]
  refine ⟨?_, ?_⟩
  ·exact Classical.byContradiction fun hne => qh5 hl (.inr hne) h
  ·exact Classical.byContradiction fun hne => qh5 hl (.inl (by omega)) h
 ·refine ⟨(r, p, 0), ?_, by rw [h1]; rfl⟩
  unfold qhF
  rw [if_neg hv, if_neg hn, if_neg, Int.toNat_natCast]
  ·exact ⟨rfl, h⟩
  ·rintro ⟨e1, e2⟩
   rw [e1] at h
   exact qhw h (qlv (by omega))
theorem g13_eq (a b : List Int) (ha : a.length ≤ 1000000000) : g13 (a, b, ()) = some ((decide (a = b), ()), ()) := by
 have hfu := qP
 have e0 : g13 (a, b, ()) = F13 qc a b := rfl
 rw [e0]
 unfold F13
 by_cases hl : a.length = b.length
 ·rw [show ((a.length : Int) != (b.length : Int)) = false by rw [hl, bne_self_eq_false], cond_false]
  have h := qlx (L := L13_4) (fun i => ((a, b, (i : Int), ()), (), ())) a.length (fun i => decide (gd a (i : Int) ≠ gd b (i : Int))) (fun _ => .inl ((false, ()), (), ())) (.inr ((), (), ())) 0 (N := qc) (by omega)
   (fun N _ => by simp only [L13_4, B13_4]; rw [qD (by omega), cond_false])
   (fun N i _ hi _ => by
    simp only [L13_4, B13_4]
    rw [qu (by omega), cond_true, qk (by omega) (by omega), qk (by omega) (by omega), wI (by omega) (by omega)]
    by_cases he : gd a (i : Int) = gd b (i : Int)
    ·rw [he, bne_self_eq_false, qD (fun h => h rfl)]
     rfl
    ·rw [bne_iff_ne.2 he, qu he]
     rfl)
  have h' : L13_4 qc ((a, b, 0, ()), (), ()) = _ := h
  rw [h', qb]
  cases hq : first a.length (fun i => decide (gd a (i : Int) ≠ gd b (i : Int))) with
  | none =>
   rw [qhi] at hq
   have : a = b := qfO hl fun i hi => by
    have := hq i hi
    rw [decide_eq_false_iff_not] at this
    exact Classical.not_not.1 this
   rw [qu this]
   rfl
  | some i =>
   rw [qhh] at hq
   have := of_decide_eq_true hq.2.1
   rw [qD (p := a = b) fun h => this (by rw [h])]
   rfl
 ·rw [bne_iff_ne.2 (fun h => hl (by omega)), cond_true, qD (fun h => hl (by rw [h]))]
def exT : qeU := (0, 0, [5], [0], [(1, 200), (6, 1000)], 0, 0, 1)
theorem exT_ok : qd6 exT = true := by decide
theorem exT_s : qdl exT := by unfold qdl exT; simp
theorem buyT : g12 (exT, 7, ()) = some (([1, 1], 1200, 0, ()), ()) := by
 obtain ⟨x, h1, h2⟩ := g12_eq exT exT_s 7
 have h3 : qhF exT 7 ([1, 1], 1200, 0) := by
  unfold qhF
  rw [if_neg (by rw [exT_ok]; decide), if_neg (by decide), if_neg (by unfold exT; simp)]
  exact ⟨rfl, ex_buys⟩
 obtain rfl := h1.uniq h3
 exact h2
theorem root01 : g13 ([1, 1], [1, 1], ()) = some ((true, ()), ()) := g13_eq [1, 1] [1, 1] (by simp)
end Go.Proofs.Tryz.V.L01
