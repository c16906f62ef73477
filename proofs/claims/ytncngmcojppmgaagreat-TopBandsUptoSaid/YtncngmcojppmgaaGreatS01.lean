/- Plain laws: what the last text needs of the others, in one. No condition beyond those typed in each theorem. -/
import Derived.Test.YtncngmcojppmgaaGreatFn4
namespace Go.Proofs.Tryz.V.L01
open Go.Vi
set_option maxRecDepth 100000
abbrev Bun := Int × Int
abbrev Fair := Int × (Int × ((List Int) × ((List Int) × ((List Bun) × (Int × (Int × Int))))))
abbrev qcI := Int × (Int × (Int × (Int × Int)))
abbrev Cnt := (List Int) × ((List Int) × ((List (Int × Int)) × ((List Int) × Int)))
abbrev qeo := Int × (Int × (Int × (Int × (Int × Int))))
theorem qbQ {α D R : Type} [Inhabited α] {L : Nat → D → Option R} (mk : Nat → D) (l : List α) (q : α → Bool) (hit : Nat → R) (e : R) (c : Nat) {N : Nat} (hN : l.length + c < N)
  (hend : ∀ N, L (N + 1) (mk l.length) = some e)
  (hstep : ∀ N i, c ≤ N → i < l.length → L (N + 1) (mk i) = if q (gd l (i : Int)) then some (hit i) else L N (mk (i + 1))) :
  L N (mk 0) = some (match l.findIdx? q with | some i => hit i | none => e) := by
 have key : ∀ (d i : Nat) (N : Nat), i + d = l.length → d + c < N → L N (mk i) = some (match (l.drop i).findIdx? q with | some j => hit (i + j) | none => e) := by
  intro d
  induction d with
  | zero =>
   intro i N hi hN
   obtain ⟨m, rfl⟩ : ∃ m, N = m + 1 := ⟨N - 1, by omega⟩
   obtain rfl : i = l.length := by omega
   rw [hend, List.drop_length]
   rfl
  | succ d ih =>
   intro i N hi hN
   obtain ⟨m, rfl⟩ : ∃ m, N = m + 1 := ⟨N - 1, by omega⟩
   rw [hstep m i (by omega) (by omega), qe0 (by omega), List.findIdx?_cons]
   cases hq : q (gd l (i : Int)) with
   | true => rfl
   | false =>
    rw [if_neg (by simp), ih (i + 1) m (by omega) (by omega)]
    simp only [Bool.false_eq_true, if_false]
    cases (l.drop (i + 1)).findIdx? q with
    | none => rfl
    | some j =>
     simp only [Option.map_some]
     rw [show i + (j + 1) = i + 1 + j by omega]
 have := key l.length 0 N (by omega) hN
 simpa using this
theorem findIdx_none {α : Type} {l : List α} {q : α → Bool} : (l.findIdx? q).isNone = l.all (fun x => !q x) := by
 induction l with
 | nil => rfl
 | cons x l _ =>
  rw [List.findIdx?_cons, List.all_cons]
  cases q x with
  | true => rfl
  | false => simp
def qfq {α : Type} (l : List α) (q : α → Bool) : Int := match l.findIdx? q with | some i => (i : Int) | none => -1
theorem qdi {α : Type} (l : List α) (q : α → Bool) : decide (qfq l q ≥ 0) = l.any q := by
 have h := findIdx_none (l := l) (q := q)
 unfold qfq
 cases hf : l.findIdx? q with
 | some i =>
  rw [hf] at h
  simp only [Option.isNone_some] at h
  show decide ((i : Int) ≥ 0) = _
  rw [qX (by omega)]
  rw [List.all_eq_not_any_not] at h
  simpa using h
 | none =>
  rw [hf] at h
  simp only [Option.isNone_none] at h
  show decide ((-1 : Int) ≥ 0) = _
  rw [jC (by omega)]
  rw [List.all_eq_not_any_not] at h
  simpa using h
def j9 (x lo hi : Int) : Bool := decide (lo ≤ x) && decide (x ≤ hi)
theorem qK {x lo hi : Int} : j9 x lo hi = true ↔ lo ≤ x ∧ x ≤ hi := by unfold j9; rw [Bool.and_eq_true, decide_eq_true_iff, decide_eq_true_iff]
theorem rng_f {x lo hi : Int} : j9 x lo hi = false ↔ ¬ (lo ≤ x ∧ x ≤ hi) := by rw [← qK, Bool.not_eq_true]
theorem g18_eq (x lo hi : Int) : g18 (x, lo, hi, ()) = some ((j9 x lo hi, ()), ()) := by
 show F18 qi x lo hi = _
 unfold F18 j9
 by_cases h : lo ≤ x
 ·rw [qX (p := x ≥ lo) h]; rfl
 ·rw [jC (p := x ≥ lo) h]; rfl
theorem g43_eq (l : List Int) (hl : l.length ≤ 1099511627) (f : Int → Option Bool) (q : Int → Bool) (hf : ∀ x ∈ l, f x = some (q x)) : g43 (l, f, ()) = some ((qfq l q, ()), ()) := by
 show F43 qi l f = _
 unfold F43
 have h := qbQ (L := L43_2) (fun i => ((l, f, (l.length : Int), (i : Int), ()), (), ())) l q (fun i => .inl (((i : Int), ()), (), ())) (.inr ((), (), ())) 0 (N := qi) (by have := qcx; omega)
  (fun N => by simp [L43_2, B43_2])
  (fun N i _ hi => by
   simp only [L43_2, B43_2]
   rw [qX (by omega), cond_true, qp (by omega) (by omega), hf _ (jF (by omega) (by omega)), qb, wI (by omega) (by omega)]
   cases q (gd l (i : Int)) <;> rfl)
 have h' : L43_2 qi ((l, f, (l.length : Int), 0, ()), (), ()) = _ := h
 rw [h', qb]
 unfold qfq
 cases l.findIdx? q <;> rfl
theorem g62_eq (l : List Bun) (hl : l.length ≤ 1099511627) (f : Bun → Option Bool) (q : Bun → Bool) (hf : ∀ x ∈ l, f x = some (q x)) : g62 (l, f, ()) = some ((qfq l q, ()), ()) := by
 show F62 qi l f = _
 unfold F62
 have h := qbQ (L := L62_2) (fun i => ((l, f, (l.length : Int), (i : Int), ()), (), ())) l q (fun i => .inl (((i : Int), ()), (), ())) (.inr ((), (), ())) 0 (N := qi) (by have := qcx; omega)
  (fun N => by simp [L62_2, B62_2])
  (fun N i _ hi => by
   simp only [L62_2, B62_2]
   rw [qX (by omega), cond_true, qp (by omega) (by omega), hf _ (jF (by omega) (by omega)), qb, wI (by omega) (by omega)]
   cases q (gd l (i : Int)) <;> rfl)
 have h' : L62_2 qi ((l, f, (l.length : Int), 0, ()), (), ()) = _ := h
 rw [h', qb]
 unfold qfq
 cases l.findIdx? q <;> rfl
theorem g24_eq (l : List Int) (hl : l.length ≤ 1099511627) (f : Int → Option Bool) (q : Int → Bool) (hf : ∀ x ∈ l, f x = some (q x)) : g24 (l, f, ()) = some ((l.any q, ()), ()) := by
 show F24 qi l f = _
 unfold F24
 rw [g43_eq l hl f q hf, qb, qdi]
theorem g38_eq (l : List Bun) (hl : l.length ≤ 1099511627) (f : Bun → Option Bool) (q : Bun → Bool) (hf : ∀ x ∈ l, f x = some (q x)) : g38 (l, f, ()) = some ((l.any q, ()), ()) := by
 show F38 qi l f = _
 unfold F38
 rw [g62_eq l hl f q hf, qb, qdi]
theorem qdr {α : Type} {l : List α} {q : α → Bool} : l.any (fun x => !q x) = !l.all q := by
 rw [List.all_eq_not_any_not, Bool.not_not]
def okB (f : Fair) (b : Bun) : Bool := j9 b.1 1 1000 && (j9 b.2 1 1000000 && !decide (IntKind.wrap .i64 (f.2.2.2.2.2.1 * b.1) > b.2))
def fairOK (f : Fair) : Bool :=
 j9 f.2.2.1.length 1 8 && (((f.2.2.2.1.length : Int) == (f.2.2.1.length : Int)) && (j9 f.1 0 20 && (j9 f.2.1 0 12 && (decide ((f.2.2.2.2.1.length : Int) ≤ 6) && ((f.2.2.1.all (j9 · 0 100000) && f.2.2.2.1.all (j9 · 0 1000000)) && (j9 f.2.2.2.2.2.1 0 1000 && (j9 f.2.2.2.2.2.2.1 0 1000000 && (j9 f.2.2.2.2.2.2.2 1 1440 && f.2.2.2.2.1.all (okB f)))))))))
def Sized (f : Fair) : Prop := f.2.2.1.length ≤ 1099511627 ∧ f.2.2.2.1.length ≤ 1099511627 ∧ f.2.2.2.2.1.length ≤ 1099511627
theorem qbU {R : Type} (b : Bool) (x y : R) : cond (!b) x y = cond b y x := by cases b <;> rfl
theorem g17_eq (f : Fair) (hs : Sized f) : g17 (f, ()) = some ((if fairOK f then 0 else 10, ()), ()) := by
 obtain ⟨s1, s2, s3⟩ := hs
 show F17 qi f = _
 unfold F17
 have e1 : ∀ lo hi : Int, Mk.m36.p.g (lo, hi, ()) = some ((some lo, some hi, ()), ()) := fun _ _ => rfl
 have e2 : ∀ lo hi : Int, ∀ l : List Int, l.length ≤ 1099511627 → g24 (l, (fun v5 => qa (g37 (v5, lo, hi, ())) fun y6 => some y6.1.1), ()) = some ((l.any (fun x => !j9 x lo hi), ()), ()) := by
  intro lo hi l hl
  refine g24_eq l hl _ _ fun x _ => ?_
  show qa (F37 qi x lo hi) _ = _
  unfold F37
  rw [g18_eq]
  rfl
 have e3 : g38 (f.2.2.2.2.1, (fun v19 => qa (g39 (v19, f, ())) fun y20 => some y20.1.1), ()) = some ((f.2.2.2.2.1.any (fun b => !okB f b), ()), ()) := by
  refine g38_eq _ s3 _ _ fun b _ => ?_
  show qa (F39 qi b f) _ = _
  unfold F39 okB
  rw [g18_eq, g18_eq]
  rw [qb, qbU, qb, qbU]
  cases j9 b.1 1 1000
  ·rfl
  cases j9 b.2 1 1000000
  ·rfl
  rw [Bool.true_and, Bool.true_and, Bool.not_not]
  rfl
 simp only [g18_eq, qb, qbU]
 unfold fairOK
 have d : decide ((f.2.2.2.2.1.length : Int) > 6) = !decide ((f.2.2.2.2.1.length : Int) ≤ 6) := by
  by_cases h : (f.2.2.2.2.1.length : Int) ≤ 6
  ·rw [qX h, jC (by omega)]; rfl
  ·rw [jC h, qX (by omega)]; rfl
 rw [d, bne, qbU, qbU]
 cases j9 f.2.2.1.length 1 8
 ·rfl
 cases (f.2.2.2.1.length : Int) == (f.2.2.1.length : Int)
 ·rfl
 cases j9 f.1 0 20
 ·rfl
 cases j9 f.2.1 0 12
 ·rfl
 cases decide ((f.2.2.2.2.1.length : Int) ≤ 6)
 ·rfl
 simp only [cond_true, Bool.true_and]
 rw [qcg (e1 0 100000)]
 have h1 := e2 0 100000 _ s1
 have h2 := e2 0 1000000 _ s2
 rw [qdr] at h1 h2 e3
 refine (qcg h1 _).trans ?_
 rw [qbU]
 cases f.2.2.1.all (j9 · 0 100000)
 ·rfl
 rw [cond_true, qcg (e1 0 1000000)]
 refine (qcg h2 _).trans ?_
 rw [qbU]
 cases f.2.2.2.1.all (j9 · 0 1000000)
 ·rfl
 rw [cond_true]
 cases j9 f.2.2.2.2.2.1 0 1000
 ·rfl
 cases j9 f.2.2.2.2.2.2.1 0 1000000
 ·rfl
 cases j9 f.2.2.2.2.2.2.2 1 1440
 ·rfl
 rw [cond_true, cond_true, cond_true]
 refine (qcg e3 _).trans ?_
 rw [qbU]
 cases f.2.2.2.2.1.all (okB f) <;> rfl
inductive j8 : List Bun → Int → Int → Prop
 | nil : j8 [] 0 0
 | skip {b : Bun} {l : List Bun} {t p : Int} : j8 l t p → j8 (b :: l) t p
 | take {b : Bun} {l : List Bun} {t p : Int} : j8 (b :: l) t p → j8 (b :: l) (t + b.1) (p + b.2)
def qb2 (l : List Bun) : Prop := ∀ b ∈ l, 1 ≤ b.1 ∧ b.1 ≤ 1000 ∧ 1 ≤ b.2 ∧ b.2 ≤ 1000000
theorem qb2.tail {b : Bun} {l : List Bun} (h : qb2 (b :: l)) : qb2 l := fun x hx => h x (List.mem_cons_of_mem _ hx)
theorem qb2.drop {l : List Bun} (h : qb2 l) (i : Nat) : qb2 (l.drop i) := fun x hx => h x (List.mem_of_mem_drop hx)
theorem j8.zero : ∀ l : List Bun, j8 l 0 0
 | [] => .nil
 | _ :: l => .skip (j8.zero l)
theorem j8.le {l : List Bun} {t p : Int} (h : j8 l t p) (hf : qb2 l) : 0 ≤ t ∧ 0 ≤ p ∧ p ≤ 1000000 * t := by
 induction h with
 | nil => omega
 | skip _ ih => exact ih hf.tail
 | take _ ih =>
  have h1 := ih hf
  have h2 := hf _ (List.mem_cons_self ..)
  omega
theorem j8.of_take {l : List Bun} {t p : Int} {b : Bun} (h : j8 l (t - b.1) (p - b.2)) (hb : b ∈ l) : j8 l t p := by
 have key : ∀ {l : List Bun} {t p : Int} (_ : j8 l t p) (b : Bun), b ∈ l → j8 l (t + b.1) (p + b.2) := by
  intro l t p h
  induction h with
  | nil => intro b hb; cases hb
  | @skip a l t p h ih =>
   intro b hb
   rcases List.mem_cons.1 hb with rfl | hb
   ·exact .take (.skip h)
   ·exact .skip (ih b hb)
  | @take a l t p h ih =>
   intro b hb
   have h1 := j8.take (ih b hb)
   rwa [show t + b.1 + a.1 = t + a.1 + b.1 by omega, show p + b.2 + a.2 = p + a.2 + b.2 by omega] at h1
 have := key h b hb
 rwa [show t - b.1 + b.1 = t by omega, show p - b.2 + b.2 = p by omega] at this
theorem j8.cons_iff {b : Bun} {l : List Bun} {t p : Int} : j8 (b :: l) t p ↔ j8 l t p ∨ j8 (b :: l) (t - b.1) (p - b.2) := by
 constructor
 ·intro h
  cases h with
  | skip h => exact .inl h
  | @take _ _ t p h => exact .inr (by rwa [show t + b.1 - b.1 = t by omega, show p + b.2 - b.2 = p by omega])
 ·rintro (h | h)
  ·exact .skip h
  ·exact h.of_take (List.mem_cons_self ..)
theorem j8.cons_mono {b : Bun} {l : List Bun} {t p : Int} (h : j8 l t p) : ∀ k : Nat, j8 (b :: l) (t + k * b.1) (p + k * b.2)
 | 0 => by rw [show t + ((0 : Nat) : Int) * b.1 = t by simp, show p + ((0 : Nat) : Int) * b.2 = p by simp]; exact .skip h
 | k + 1 => by
  have := j8.take (cons_mono (b := b) h k)
  rwa [show t + (k : Int) * b.1 + b.1 = t + ((k + 1 : Nat) : Int) * b.1 by rw [Int.natCast_succ, Int.add_mul]; omega, show p + (k : Int) * b.2 + b.2 = p + ((k + 1 : Nat) : Int) * b.2 by rw [Int.natCast_succ, Int.add_mul]; omega] at this
theorem j8.count {b : Bun} {l : List Bun} {t p : Int} (h : j8 (b :: l) t p) : ∃ k : Nat, j8 l (t - k * b.1) (p - k * b.2) := by
 generalize hm : b :: l = m at h
 induction h with
 | nil => cases hm
 | @skip a m t p h _ =>
  cases hm
  exact ⟨0, by rwa [show t - ((0 : Nat) : Int) * b.1 = t by simp, show p - ((0 : Nat) : Int) * b.2 = p by simp]⟩
 | @take a m t p _ ih =>
  cases hm
  obtain ⟨k, h⟩ := ih rfl
  refine ⟨k + 1, ?_⟩
  rwa [show t + b.1 - ((k + 1 : Nat) : Int) * b.1 = t - (k : Int) * b.1 by rw [Int.natCast_succ, Int.add_mul]; omega, show p + b.2 - ((k + 1 : Nat) : Int) * b.2 = p - (k : Int) * b.2 by rw [Int.natCast_succ, Int.add_mul]; omega]
def Ent (N : Int) (l : List Bun) (t e : Int) : Prop := e ≤ N ∧ (e = N ∨ j8 l t e) ∧ ∀ p, j8 l t p → e ≤ p
def qaX (l : List Bun) (t p : Int) : Prop := j8 l t p ∧ ∀ q, j8 l t q → p ≤ q
theorem Ent.least {N : Int} {l : List Bun} {t e : Int} (h : Ent N l t e) (hlt : e < N) : qaX l t e := by
 obtain ⟨_, h2, h3⟩ := h
 rcases h2 with rfl | h2
 ·omega
 ·exact ⟨h2, h3⟩
theorem Ent.none {N : Int} {l : List Bun} {t : Int} (h : Ent N l t N) (hf : qb2 l) (hN : 1000000 * t < N) : ∀ p, ¬ j8 l t p := by
 intro p hp
 have := h.2.2 p hp
 have := hp.le hf
 omega
theorem Ent.of_least {N : Int} {l : List Bun} {t e p : Int} (h : Ent N l t e) (hl : qaX l t p) (hf : qb2 l) (hN : 1000000 * t < N) : e = p := by
 have h1 := h.2.2 p hl.1
 have h2 := hl.1.le hf
 rcases h.2.1 with rfl | h3
 ·omega
 ·have := hl.2 e h3; omega
theorem Ent.uniq {N : Int} {l : List Bun} {t e e' : Int} (h : Ent N l t e) (h' : Ent N l t e') (hf : qb2 l) (hN : 1000000 * t < N) : e = e' := by
 by_cases h1 : e' < N
 ·exact h.of_least (h'.least h1) hf hN
 ·by_cases h2 : e < N
  ·exact (h'.of_least (h.least h2) hf hN).symm
  ·have := h.1; have := h'.1; omega
theorem qaX.uniq {l : List Bun} {t p q : Int} (h : qaX l t p) (h' : qaX l t q) : p = q := by
 have := h.2 q h'.1
 have := h'.2 p h.1
 omega
theorem Ent.nil_zero {N : Int} (hN : 0 ≤ N) : Ent N [] 0 0 := ⟨hN, .inr .nil, fun p h => by cases h; exact Int.le_refl _⟩
theorem Ent.nil_pos {N t : Int} (ht : t ≠ 0) : Ent N [] t N := ⟨Int.le_refl _, .inl rfl, fun p h => by cases h; exact absurd rfl ht⟩
theorem Ent.cons {N : Int} {b : Bun} {l : List Bun} {t e e1 : Int} (h : Ent N l t e) (h1 : Ent N (b :: l) (t - b.1) e1) (hb : e1 < N) : Ent N (b :: l) t (min e (e1 + b.2)) := by
 refine ⟨by have := h.1; omega, ?_, fun p hp => ?_⟩
 ·by_cases hle : e ≤ e1 + b.2
  ·rw [Int.min_eq_left hle]
   rcases h.2.1 with h2 | h2
   ·exact .inl h2
   ·exact .inr (.skip h2)
  ·rw [Int.min_eq_right (by omega)]
   refine .inr (j8.cons_iff.2 (.inr ?_))
   rw [show e1 + b.2 - b.2 = e1 by omega]
   exact (h1.least hb).1
 ·rcases j8.cons_iff.1 hp with h2 | h2
  ·have := h.2.2 p h2; omega
  ·have := h1.2.2 _ h2; omega
theorem Ent.cons_none {N : Int} {b : Bun} {l : List Bun} {t e : Int} (h : Ent N l t e) (h1 : ∀ p, ¬ j8 (b :: l) (t - b.1) p) : Ent N (b :: l) t e := by
 refine ⟨h.1, ?_, fun p hp => ?_⟩
 ·rcases h.2.1 with h2 | h2
  ·exact .inl h2
  ·exact .inr (.skip h2)
 ·rcases j8.cons_iff.1 hp with h2 | h2
  ·exact h.2.2 p h2
  ·exact absurd h2 (h1 _)
theorem j8.neg {l : List Bun} {t p : Int} (hf : qb2 l) (ht : t < 0) : ¬ j8 l t p := fun h => by have := h.le hf; omega
def MaxC (b : Bun) (l : List Bun) (t p : Int) (k : Int) : Prop := 0 ≤ k ∧ j8 l (t - k * b.1) (p - k * b.2) ∧ ∀ j, 0 ≤ j → j8 l (t - j * b.1) (p - j * b.2) → j ≤ k
theorem MaxC.uniq {b : Bun} {l : List Bun} {t p k k' : Int} (h : MaxC b l t p k) (h' : MaxC b l t p k') : k = k' := by
 have := h.2.2 _ h'.1 h'.2.1
 have := h'.2.2 _ h.1 h.2.1
 omega
inductive qfN : List Bun → Int → Int → List Int → Prop
 | nil : qfN [] 0 0 []
 | cons {b : Bun} {l : List Bun} {t p k : Int} {r : List Int} : MaxC b l t p k → qfN l (t - k * b.1) (p - k * b.2) r → qfN (b :: l) t p (k :: r)
theorem qfN.uniq {l : List Bun} {t p : Int} {r r' : List Int} (h : qfN l t p r) (h' : qfN l t p r') : r = r' := by
 induction h generalizing r' with
 | nil => cases h'; rfl
 | cons hm _ ih =>
  cases h' with
  | cons hm' h' =>
   obtain rfl := hm.uniq hm'
   rw [ih h']
theorem qfN.length {l : List Bun} {t p : Int} {r : List Int} (h : qfN l t p r) : r.length = l.length := by
 induction h with
 | nil => rfl
 | cons _ _ ih => simp [ih]
theorem qaX.rest {b : Bun} {l : List Bun} {t p k : Int} (h : qaX (b :: l) t p) (hk : 0 ≤ k) (hp : j8 l (t - k * b.1) (p - k * b.2)) : qaX l (t - k * b.1) (p - k * b.2) := by
 refine ⟨hp, fun q hq => ?_⟩
 obtain ⟨n, rfl⟩ : ∃ n : Nat, k = n := ⟨k.toNat, by omega⟩
 have h1 := hq.cons_mono (b := b) n
 rw [show t - (n : Int) * b.1 + (n : Int) * b.1 = t by omega] at h1
 have := h.2 _ h1
 omega
theorem qaX.prev {b : Bun} {l : List Bun} {t p : Int} (h : qaX (b :: l) t p) (hp : j8 (b :: l) (t - b.1) (p - b.2)) : qaX (b :: l) (t - b.1) (p - b.2) := by
 refine ⟨hp, fun q hq => ?_⟩
 have h1 := j8.take hq
 rw [show t - b.1 + b.1 = t by omega] at h1
 have := h.2 _ h1
 omega
theorem qaX.prev_iff {b : Bun} {l : List Bun} {t p q : Int} (h : qaX (b :: l) t p) (hq : qaX (b :: l) (t - b.1) q) : q + b.2 = p ↔ j8 (b :: l) (t - b.1) (p - b.2) := by
 constructor
 ·intro e
  rw [show p - b.2 = q by omega]
  exact hq.1
 ·intro e
  have := (h.prev e).uniq hq
  omega
theorem qgr {n : Int} (h0 : 0 ≤ n) (h : n ≤ 4294967295) : IntKind.wrap .u64 n = n := by
 show n % 18446744073709551616 = n
 exact Int.emod_eq_of_lt h0 (by omega)
theorem shr_0 {n : Int} (h0 : 0 ≤ n) (h : n ≤ 4294967295) : qgb .u64 n 32 = 0 := by
 show n.fdiv 4294967296 = 0
 rw [Int.fdiv_eq_ediv_of_nonneg _ (by omega)]
 exact Int.ediv_eq_zero_of_lt h0 (by omega)
theorem qkR {n : Int} (h0 : 0 ≤ n) (h : n ≤ 4294967295) : qc3 .and .u64 n 4294967295 = n := by
 show IntKind.wrap .u64 ((BitVec.ofInt 64 n &&& BitVec.ofInt 64 4294967295).toNat : Int) = n
 have e : (BitVec.ofInt 64 n).toNat = n.toNat := by
  rw [BitVec.toNat_ofInt]
  rw [Int.emod_eq_of_lt h0 (by show n < 18446744073709551616; omega)]
 have e2 : (BitVec.ofInt 64 4294967295).toNat = 4294967295 := by decide
 rw [BitVec.toNat_and, e, e2, show (4294967295 : Nat) = 2 ^ 32 - 1 by decide, Nat.and_two_pow_sub_one_eq_mod, Nat.mod_eq_of_lt (by show n.toNat < 4294967296; omega)]
 rw [show ((n.toNat : Nat) : Int) = n by omega]
 exact qgr h0 h
theorem negK_in {R : Type} {a : Int} (h : 0 ≤ a) (k : Option R) : qg1 a k = k := by
 unfold qg1
 rw [if_neg (by omega)]
theorem g102_one {n : Int} (h0 : 0 ≤ n) (h : n ≤ 1048576) : g102 (1, n, ()) = some ((0, n, ()), ()) := by
 show F102 qi 1 n = _
 unfold F102
 have b1 : qc3 .and .u64 1 4294967295 = 1 := qkR (by omega) (by omega)
 have b0 : qc3 .and .u64 0 4294967295 = 0 := qkR (by omega) (by omega)
 have s1 : qgb .u64 1 32 = 0 := shr_0 (by omega) (by omega)
 have s0 : qgb .u64 0 32 = 0 := shr_0 (by omega) (by omega)
 have u0 : IntKind.wrap .u64 0 = 0 := qgr (by omega) (by omega)
 have un : IntKind.wrap .u64 n = n := qgr h0 (by omega)
 simp only [negK_in (show (0 : Int) ≤ 32 by decide), qU, b1, qkR h0 (show n ≤ 4294967295 by omega), s1, shr_0 h0 (show n ≤ 4294967295 by omega), Int.one_mul, Int.zero_mul, Int.mul_zero, Int.add_zero, un, u0, s0, b0]
theorem qlE {α : Type} (b c : α) {n k : Nat} (hk : k ≤ n) : qbA (List.replicate k b ++ List.replicate (n - k) c) ((List.replicate k b ++ List.replicate (n - k) c).take k) k = List.replicate (k + min k (n - k)) b ++ List.replicate (n - (k + min k (n - k))) c := by
 have h1 : (List.replicate k b ++ List.replicate (n - k) c).take k = List.replicate k b := List.take_left' (by simp)
 have h2 : (List.replicate k b ++ List.replicate (n - k) c).length = n := by simp; omega
 unfold qbA
 rw [h1, h2, List.take_replicate, List.length_replicate, List.replicate_append_replicate]
 rw [List.drop_append, List.drop_eq_nil_of_le (by simp), List.nil_append, List.length_replicate, List.drop_replicate]
 congr 2
 ·omega
 ·omega
theorem g63_one (b : Int) (n : Nat) (hn : n ≤ 1048576) : g63 ([b], (n : Int), ()) = some ((List.replicate n b, ()), ()) := by
 show F63 qi [b] (n : Int) = _
 unfold F63
 have e1 : IntKind.wrap .u64 (([b] : List Int).length : Int) = 1 := qgr (by simp) (by simp)
 have e2 : IntKind.wrap .u64 (n : Int) = n := qgr (by omega) (by omega)
 have e3 : g78 (1, (n : Int), ()) = some ((0, (n : Int), ()), ()) := by
  show F78 qi 1 (n : Int) = _
  unfold F78
  rw [g102_one (by omega) (by omega)]
  rfl
 rw [jC (p := (n : Int) < 0) (by omega), cond_false, e1, e2, e3, qb]
 simp only [qU]
 rw [jC (p := (0 : Int) > 0) (by omega), cond_false, jC (p := (n : Int) > 9223372036854775807) (by omega), cond_false, wI (by omega) (by omega), qaz (by omega), qaz (by omega), jR (by omega) (by omega), Int.toNat_natCast]
 by_cases h0 : n = 0
 ·subst h0
  obtain ⟨m, hm⟩ : ∃ m, qi = m + 1 := ⟨qi - 1, by have := qcx; omega⟩
  have : L63_8 qi ((0, ()), ([], ()), ()) = some ((), ([], ()), ()) := by
   rw [hm]
   simp [L63_8, B63_8]
  show qa (L63_8 qi ((0, ()), ([], ()), ())) _ = _
  rw [this]
  rfl
 have ei : qbA (List.replicate n 0) [b] (0 : Int).toNat = List.replicate 1 b ++ List.replicate (n - 1) 0 := by
  show (List.replicate n (0 : Int)).take 0 ++ [b].take ((List.replicate n (0 : Int)).length - 0) ++ (List.replicate n (0 : Int)).drop (0 + min 1 ((List.replicate n (0 : Int)).length - 0)) = _
  rw [List.length_replicate, List.take_zero, List.nil_append, List.drop_replicate, show 0 + min 1 (n - 0) = 1 by omega, List.take_of_length_le (by simp; omega)]
  rfl
 have em : ((min ([b] : List Int).length ((List.replicate n (0 : Int)).length - (0 : Int).toNat) : Nat) : Int) = ((1 : Nat) : Int) := by
  rw [List.length_replicate]
  show ((min 1 (n - 0) : Nat) : Int) = _
  omega
 rw [ei, em]
 obtain ⟨r, hr, hrr⟩ := loopM (L := L63_8) (fun k : Nat => (((k : Int), ()), (List.replicate k b ++ List.replicate (n - k) 0, ()), ())) (fun k => 1 ≤ k ∧ k ≤ n) (fun r => r = ((), (List.replicate n b, ()), ())) 0 (fun k => n - k)
  (fun N k _ hk => by
   have hlen : (List.replicate k b ++ List.replicate (n - k) 0).length = n := by simp; omega
   simp only [L63_8, B63_8]
   rw [hlen]
   by_cases hlt : k < n
   ·refine .inl ⟨k + min k (n - k), by omega, by omega, ?_⟩
    have hl2 : ((List.replicate k b ++ List.replicate (n - k) 0).take ((k : Nat) : Int).toNat).length = k := by
     rw [Int.toNat_natCast, List.length_take, hlen]
     omega
    rw [qX (by omega), cond_true]
    simp only [qhq, qaz (show (0 : Int) ≤ (k : Int) by omega), qaz (show (k : Int) ≤ (n : Int) by omega), qaf, qag]
    rw [hl2, Int.toNat_natCast, qlE b 0 (by omega), wI (by omega) (by omega), show (k : Int) + ((min k (n - k) : Nat) : Int) = ((k + min k (n - k) : Nat) : Int) by omega]
   ·obtain rfl : k = n := by omega
    refine .inr ⟨_, ?_, rfl⟩
    rw [jC (by omega), cond_false, Nat.sub_self, List.replicate_zero, List.append_nil])
  (n - 1) qi 1 (Nat.le_refl _) ⟨Nat.le_refl _, by omega⟩ (by have := qcx; omega)
 have hr' : L63_8 qi ((((1 : Nat) : Int), ()), (List.replicate 1 b ++ List.replicate (n - 1) 0, ()), ()) = some r := hr
 rw [hr', hrr]
 rfl
abbrev NO : Int := 1152921504606846976
def Tab (l : List Bun) (M : Nat) (o : List (List Int)) (lo : Nat) : Prop :=
 o.length = l.length + 1 ∧ (∀ i : Nat, i ≤ l.length → (gd o (i : Int)).length = M) ∧ ∀ i : Nat, lo ≤ i → i ≤ l.length → ∀ t : Nat, t < M → Ent NO (l.drop i) t (gd (gd o (i : Int)) (t : Int))
theorem row68 (l : List Bun) (hl : qb2 l) (hk : l.length ≤ 6) (n most : Int) (M : Nat) (hM : M ≤ 3000) (i : Nat) (hi : i < l.length) (o : List (List Int)) (ho : Tab l M o (i + 1)) {N : Nat} (hN : M < N) :
  ∃ o', Tab l M o' i ∧ L40_13 N ((l, n, most, (i : Int), (M : Int), 0, ()), (o, ()), ()) = some ((l, n, most, (i : Int), ()), (o', ()), ()) := by
 obtain ⟨h1, h2, h3⟩ := ho
 have hd : l.drop i = gd l (i : Int) :: l.drop (i + 1) := qe0 hi
 have hb := hl _ (jF (l := l) (i := (i : Int)) (by omega) (by omega))
 have hfd : qb2 (gd l (i : Int) :: l.drop (i + 1)) := by rw [← hd]; exact hl.drop i
 have w1 : IntKind.wrap .i64 ((i : Int) + 1) = ((i + 1 : Nat) : Int) := by rw [wI (by omega) (by omega)]; omega
 have hS := h2 (i + 1) (by omega)
 have hR0 := h2 i (by omega)
 obtain ⟨r, hr, R, hR, hE, rfl⟩ := qjH (L := L40_13) (fun (t : Nat) (R : List Int) => ((l, n, most, (i : Int), (M : Int), (t : Int), ()), (o.set i R, ()), ()))
  (fun t R => R.length = M ∧ ∀ t' : Nat, t' < t → Ent NO (l.drop i) t' (gd R (t' : Int)))
  (fun r => ∃ R : List Int, R.length = M ∧ (∀ t' : Nat, t' < M → Ent NO (l.drop i) t' (gd R (t' : Int))) ∧ r = ((l, n, most, (i : Int), ()), (o.set i R, ()), ())) 0 M (s := gd o (i : Int)) ⟨hR0, fun t' h => by omega⟩ (by omega)
  (fun N R hR => ⟨_, by simp [L40_13, B40_13], R, hR.1, hR.2, rfl⟩)
  (fun N t R _ ht ⟨hR, hE⟩ => by
   refine .inl ?_
   have g1 : gd (o.set i R) (i : Int) = R := by
    have := qaW (l := o) (i := (i : Int)) (c := R) (by omega) (by omega)
    rwa [Int.toNat_natCast] at this
   have g2 : gd (o.set i R) ((i + 1 : Nat) : Int) = gd o ((i + 1 : Nat) : Int) := by
    have := qaO (l := o) (i := (i : Int)) (j := ((i + 1 : Nat) : Int)) (c := R) (by omega) (by omega) (by omega)
    rwa [Int.toNat_natCast] at this
   have hlen : (o.set i R).length = l.length + 1 := by rw [List.length_set, h1]
   simp only [L40_13, B40_13]
   rw [qX (by omega), cond_true]
   have gg : ∀ R' : List Int, gd ((o.set i R).set (i : Int).toNat R') (i : Int) = R' := fun R' => qaW (by omega) (by omega)
   have hlen2 : ∀ R' : List Int, ((o.set i R).set (i : Int).toNat R').length = l.length + 1 := fun R' => by rw [List.length_set, hlen]
   have hset : ∀ v : Int, (R.set (t : Int).toNat v).length = M := fun v => by rw [List.length_set, hR]
   have aS : ∀ {α : Type} (k : Int → Option α), qc (gd o ((i + 1 : Nat) : Int)) (t : Int) k = k (gd (gd o ((i + 1 : Nat) : Int)) (t : Int)) := fun k => qp (by omega) (by omega) k
   have aR : ∀ {α : Type} (k : Int → Option α), qc R (t : Int) k = k (gd R (t : Int)) := fun k => qp (by omega) (by omega) k
   have aR' : ∀ {α : Type} (v j : Int), 0 ≤ j → j < M → ∀ (k : Int → Option α), qc (R.set (t : Int).toNat v) j k = k (gd (R.set (t : Int).toNat v) j) := fun v j h1 h2 k => qp h1 (by rw [hset]; exact h2) k
   have aO : ∀ {α : Type} (k : List Int → Option α), qc (o.set i R) (i : Int) k = k R := fun k => by rw [qp (by omega) (by omega), g1]
   have aO1 : ∀ {α : Type} (k : List Int → Option α), qc (o.set i R) ((i + 1 : Nat) : Int) k = k (gd o ((i + 1 : Nat) : Int)) := fun k => by rw [qp (by omega) (by omega), g2]
   have aO2 : ∀ {α : Type} (R' : List Int) (k : List Int → Option α), qc ((o.set i R).set (i : Int).toNat R') (i : Int) k = k R' := fun R' k => by rw [qp (by omega) (by rw [hlen2]; omega), gg]
   have aL : ∀ {α : Type} (k : Bun → Option α), qc l (i : Int) k = k (gd l (i : Int)) := fun k => qp (by omega) (by omega) k
   have i1 : ∀ {α : Type} (k : Option α), jS (i : Int) (l.length + 1) k = k := fun k => qE (by omega) (by omega) k
   have i2 : ∀ {α : Type} (k : Option α), jS ((i + 1 : Nat) : Int) (l.length + 1) k = k := fun k => qE (by omega) (by omega) k
   have i3 : ∀ {α : Type} (k : Option α), jS (t : Int) M k = k := fun k => qE (by omega) (by omega) k
   have w2 : IntKind.wrap .i64 ((t : Int) - (gd l (i : Int)).1) = (t : Int) - (gd l (i : Int)).1 := wI (by omega) (by omega)
   have w3 : IntKind.wrap .i64 ((t : Int) + 1) = ((t + 1 : Nat) : Int) := by rw [wI (by omega) (by omega)]; omega
   simp only [w1, w2, w3, hlen, hlen2, hR, hS, hset, aS, aR, aO, aO1, aO2, aL, i1, i2, i3]
   have sS := h3 (i + 1) (by omega) (by omega) t (by omega)
   have ss : ∀ R' : List Int, (o.set i R).set (i : Int).toNat R' = o.set i R' := fun R' => by rw [Int.toNat_natCast, List.set_set]
   have step : ∀ v : Int, Ent NO (l.drop i) t v → (R.set t v).length = M ∧ ∀ t' : Nat, t' < t + 1 → Ent NO (l.drop i) t' (gd (R.set t v) (t' : Int)) := by
    intro v hv
    refine ⟨by rw [List.length_set, hR], fun t' ht' => ?_⟩
    by_cases h : t' = t
    ·subst h
     have := qaW (l := R) (i := (t' : Int)) (c := v) (by omega) (by omega)
     rw [Int.toNat_natCast] at this
     rw [this]; exact hv
    ·have := qaO (l := R) (i := (t : Int)) (j := (t' : Int)) (c := v) (by omega) (by omega) (by omega)
     rw [Int.toNat_natCast] at this
     rw [this]; exact hE t' (by omega)
   by_cases hge : (t : Int) - (gd l (i : Int)).1 ≥ 0
   ·rw [qX hge, cond_true, qE (n := M) hge (by omega)]
    rw [aR' _ _ hge (by omega)]
    have hne : gd (R.set (t : Int).toNat (gd (gd o ((i + 1 : Nat) : Int)) (t : Int))) ((t : Int) - (gd l (i : Int)).1) = gd R ((t : Int) - (gd l (i : Int)).1) := qaO (by omega) hge (by omega)
    rw [hne]
    obtain ⟨t1, ht1⟩ : ∃ t1 : Nat, (t1 : Int) = (t : Int) - (gd l (i : Int)).1 := ⟨((t : Int) - (gd l (i : Int)).1).toNat, by omega⟩
    have hE1 := hE t1 (by omega)
    rw [ht1] at hE1
    by_cases hlt : gd R ((t : Int) - (gd l (i : Int)).1) < NO
    ·rw [qX hlt, cond_true, aR' _ (t : Int) (by omega) (by omega), qE (n := M) hge (by omega), aR' _ _ hge (by omega), hne, aR' _ (t : Int) (by omega) (by omega)]
     have hs : gd (R.set (t : Int).toNat (gd (gd o ((i + 1 : Nat) : Int)) (t : Int))) (t : Int) = gd (gd o ((i + 1 : Nat) : Int)) (t : Int) := qaW (by omega) (by omega)
     have hp := ((hE1.least hlt).1.le (by rw [hd]; exact hfd))
     have w4 : IntKind.wrap .i64 (gd R ((t : Int) - (gd l (i : Int)).1) + (gd l (i : Int)).2) = gd R ((t : Int) - (gd l (i : Int)).1) + (gd l (i : Int)).2 := wI (by omega) (by omega)
     simp only [qY]
     rw [hs, w4]
     simp only [Int.toNat_natCast, List.set_set]
     rw [hd] at hE1
     refine ⟨_, step _ ?_, rfl⟩
     rw [hd]
     exact sS.cons hE1 hlt
    ·rw [jC hlt, cond_false, ss]
     rw [Int.toNat_natCast]
     refine ⟨_, step _ ?_, rfl⟩
     rw [hd] at hE1 ⊢
     have hN : gd R ((t : Int) - (gd l (i : Int)).1) = NO := by have := hE1.1; omega
     rw [hN] at hE1
     exact sS.cons_none (hE1.none hfd (by show _ < (1152921504606846976 : Int); omega))
   ·rw [jC hge, cond_false, ss, Int.toNat_natCast]
    refine ⟨_, step _ ?_, rfl⟩
    rw [hd]
    exact sS.cons_none (fun p => j8.neg hfd (by omega)))
 have e0 : o.set i (gd o (i : Int)) = o := by
  refine qkI (by rw [List.length_set]) fun j hj => ?_
  by_cases h : j = i
  ·subst h
   have := qaW (l := o) (i := (j : Int)) (c := gd o (j : Int)) (by omega) (by omega)
   rwa [Int.toNat_natCast] at this
  ·have := qaO (l := o) (i := (i : Int)) (j := (j : Int)) (c := gd o (i : Int)) (by omega) (by omega) (by omega)
   rwa [Int.toNat_natCast] at this
 rw [e0] at hr
 refine ⟨_, ⟨by rw [List.length_set, h1], fun j hj => ?_, fun j hj hj2 t ht => ?_⟩, hr⟩
 ·by_cases h : j = i
  ·subst h
   have := qaW (l := o) (i := (j : Int)) (c := R) (by omega) (by omega)
   rw [Int.toNat_natCast] at this
   rw [this, hR]
  ·have := qaO (l := o) (i := (i : Int)) (j := (j : Int)) (c := R) (by omega) (by omega) (by omega)
   rw [Int.toNat_natCast] at this
   rw [this, h2 j hj]
 ·by_cases h : j = i
  ·subst h
   have := qaW (l := o) (i := (j : Int)) (c := R) (by omega) (by omega)
   rw [Int.toNat_natCast] at this
   rw [this]; exact hE t ht
  ·have := qaO (l := o) (i := (i : Int)) (j := (j : Int)) (c := R) (by omega) (by omega) (by omega)
   rw [Int.toNat_natCast] at this
   rw [this]; exact h3 j (by omega) hj2 t ht
theorem qca {α : Type} [Inhabited α] {l : List α} {i : Nat} {c : α} (h : i < l.length) (j : Nat) : gd (l.set i c) (j : Int) = if j = i then c else gd l (j : Int) := by
 by_cases e : j = i
 ·subst e
  have := qaW (l := l) (i := (j : Int)) (c := c) (by omega) (by omega)
  rw [Int.toNat_natCast] at this
  rw [this, if_pos rfl]
 ·have := qaO (l := l) (i := (i : Int)) (j := (j : Int)) (c := c) (by omega) (by omega) (by omega)
  rw [Int.toNat_natCast] at this
  rw [this, if_neg e]
theorem fill68 (l : List Bun) (n : Int) (m : Nat) (hm : m ≤ 2000) (hk : l.length ≤ 6) {N : Nat} (hN : 100 < N) :
  ∃ o : List (List Int), o.length = l.length + 1 ∧ (∀ i : Nat, i < l.length + 1 → gd o (i : Int) = List.replicate (m + 1) NO) ∧
   L40_4 N ((l, n, (m : Int), ((List.replicate (l.length + 1) ([] : List Int)).length : Int), 0, ()), ((List.replicate (l.length + 1) ([] : List Int)), ()), ()) = some ((l, n, (m : Int), ()), (o, ()), ()) := by
 rw [List.length_replicate]
 obtain ⟨r, hr, o, h1, h2, rfl⟩ := qjH (L := L40_4) (fun (t : Nat) (o : List (List Int)) => ((l, n, (m : Int), ((l.length + 1 : Nat) : Int), (t : Int), ()), (o, ()), ()))
  (fun t o => o.length = l.length + 1 ∧ ∀ i : Nat, i < t → gd o (i : Int) = List.replicate (m + 1) NO)
  (fun r => ∃ o : List (List Int), o.length = l.length + 1 ∧ (∀ i : Nat, i < l.length + 1 → gd o (i : Int) = List.replicate (m + 1) NO) ∧ r = ((l, n, (m : Int), ()), (o, ()), ())) 0 (l.length + 1) (N := N) (s := List.replicate (l.length + 1) []) ⟨by simp, fun i hi => by omega⟩ (by omega)
  (fun N o h => ⟨_, by simp [L40_4, B40_4], o, h.1, h.2, rfl⟩)
  (fun N t o _ ht ⟨h1, h2⟩ => by
   refine .inl ⟨o.set t (List.replicate (m + 1) NO), ⟨by rw [List.length_set, h1], fun i hi => ?_⟩, ?_⟩
   ·rw [qca (by omega)]
    by_cases e : i = t
    ·rw [if_pos e]
    ·rw [if_neg e]; exact h2 i (by omega)
   ·simp only [L40_4, B40_4]
    rw [qX (by omega), cond_true, show IntKind.wrap .i64 ((m : Int) + 1) = ((m + 1 : Nat) : Int) by rw [wI (by omega) (by omega)]; omega, g63_one _ _ (by omega), qb, qE (by omega) (by omega), qp (by omega) (by omega), wI (by omega) (by omega), Int.toNat_natCast]
    rfl)
 exact ⟨o, h1, h2, hr⟩
theorem tab68 (l : List Bun) (hl : qb2 l) (n most : Int) (M : Nat) (hM : M ≤ 3000) (hk : l.length ≤ 6) (o : List (List Int)) (ho : Tab l M o l.length) {N : Nat} (hN : 4000 < N) :
  ∃ o', Tab l M o' 0 ∧ L40_10 N ((l, n, most, (l.length : Int) - 1, ()), (o, ()), ()) = some ((l, n, most, ()), (o', ()), ()) := by
 obtain ⟨r, hr, o', h1, rfl⟩ := qjH (L := L40_10) (fun (j : Nat) (o : List (List Int)) => ((l, n, most, (l.length : Int) - 1 - (j : Int), ()), (o, ()), ()))
  (fun j o => Tab l M o (l.length - j))
  (fun r => ∃ o' : List (List Int), Tab l M o' 0 ∧ r = ((l, n, most, ()), (o', ()), ())) 3001 l.length (N := N) (s := o) ho (by omega)
  (fun N o h => ⟨_, by simp only [L40_10, B40_10]; rw [jC (by omega), cond_false], o, by rwa [show l.length - l.length = 0 by omega] at h, rfl⟩)
  (fun N j o hc hj h => by
   obtain ⟨i, hi⟩ : ∃ i : Nat, i = l.length - (j + 1) := ⟨_, rfl⟩
   rw [show l.length - j = i + 1 by omega] at h
   obtain ⟨o', h', e⟩ := row68 l hl hk n most M hM i (by omega) o h (N := N) (by omega)
   refine .inl ⟨o', by rwa [← hi], ?_⟩
   simp only [L40_10, B40_10]
   rw [show (l.length : Int) - 1 - (j : Int) = (i : Int) by omega, qX (by omega), cond_true, qE (by omega) (by rw [h.1]; omega), qp (by omega) (by rw [h.1]; omega), h.2.1 i (by omega), e, qb]
   simp only
   rw [wI (by omega) (by omega), show (l.length : Int) - 1 - ((j + 1 : Nat) : Int) = (i : Int) - 1 by omega])
 refine ⟨o', h1, ?_⟩
 rw [← hr]
 simp
def qiz (c : List Int) (n M t : Nat) : Prop := n ≤ t ∧ t < M ∧ ∀ t' : Nat, n ≤ t' → t' < M → gd c (t : Int) ≤ gd c (t' : Int) ∧ (gd c (t' : Int) = gd c (t : Int) → t ≤ t')
theorem arg68 (l : List Bun) (n m : Nat) (hm : m ≤ 2000) (hn : n ≤ m) (o : List (List Int)) (h0 : 0 < o.length) (h1 : (gd o 0).length = m + 1) {N : Nat} (hN : 4000 < N) :
  ∃ t, qiz (gd o 0) n (m + 1) t ∧ L40_22 N ((l, (m : Int), (n : Int), (n : Int), ()), (o, ()), ()) = some ((l, (t : Int), ()), (o, ()), ()) := by
 obtain ⟨r, hr, t, h1, rfl⟩ := qjH (L := L40_22) (fun (j : Nat) (t : Nat) => ((l, (m : Int), (t : Int), ((n + j : Nat) : Int), ()), (o, ()), ()))
  (fun j t => n ≤ t ∧ (t < n + j ∨ t = n) ∧ ∀ t' : Nat, n ≤ t' → t' < n + j → gd (gd o 0) (t : Int) ≤ gd (gd o 0) (t' : Int) ∧ (gd (gd o 0) (t' : Int) = gd (gd o 0) (t : Int) → t ≤ t'))
  (fun r => ∃ t : Nat, qiz (gd o 0) n (m + 1) t ∧ r = ((l, (t : Int), ()), (o, ()), ())) 0 (m + 1 - n) (N := N) (s := n) ⟨by omega, by omega, fun t' h1 h2 => by omega⟩ (by omega)
  (fun N t h => ⟨_, by simp only [L40_22, B40_22]; rw [jC (by omega), cond_false], t, ⟨h.1, by omega, fun t' h1 h2 => h.2.2 t' h1 (by omega)⟩, rfl⟩)
  (fun N j t _ hj ⟨q1, q2, q3⟩ => by
   left
   have e1 : ∀ {α : Type} (k : Option α), jS 0 o.length k = k := fun k => qE (by omega) (by omega) k
   have e2 : ∀ {α : Type} (k : List Int → Option α), qc o 0 k = k (gd o 0) := fun k => qp (by omega) (by omega) k
   have e3 : ∀ {α : Type} (x : Nat), x ≤ m → ∀ (k : Int → Option α), qc (gd o 0) (x : Int) k = k (gd (gd o 0) (x : Int)) := fun x hx k => qp (by omega) (by omega) k
   have e4 : ∀ {α : Type} (x : Nat), x ≤ m → ∀ (k : Option α), jS (x : Int) (gd o 0).length k = k := fun x hx k => qE (by omega) (by omega) k
   have w3 : IntKind.wrap .i64 (((n + j : Nat) : Int) + 1) = ((n + (j + 1) : Nat) : Int) := by rw [wI (by omega) (by omega)]; omega
   simp only [L40_22, B40_22, e1, e2, w3]
   rw [qX (by omega), cond_true, e4 _ (by omega), e3 _ (by omega), e4 _ (by omega), e3 _ (by omega)]
   by_cases hlt : gd (gd o 0) ((n + j : Nat) : Int) < gd (gd o 0) (t : Int)
   ·rw [qX hlt, cond_true]
    refine ⟨n + j, ⟨by omega, by omega, fun t' h1 h2 => ?_⟩, rfl⟩
    by_cases e : t' = n + j
    ·subst e; exact ⟨Int.le_refl _, fun _ => Nat.le_refl _⟩
    ·have := (q3 t' h1 (by omega)).1
     exact ⟨by omega, fun h => by omega⟩
   ·rw [jC hlt, cond_false]
    refine ⟨t, ⟨q1, by omega, fun t' h1 h2 => ?_⟩, rfl⟩
    by_cases e : t' = n + j
    ·subst e; exact ⟨by omega, fun _ => by omega⟩
    ·exact q3 t' h1 (by omega))
 exact ⟨t, h1, hr⟩
theorem MaxC.of_end {b : Bun} {l : List Bun} {t p : Int} {k : Nat} (h : j8 (b :: l) (t - k * b.1) (p - k * b.2)) (he : ¬ j8 (b :: l) (t - k * b.1 - b.1) (p - k * b.2 - b.2)) : MaxC b l t p k := by
 refine ⟨by omega, ?_, fun j hj hp => ?_⟩
 ·rcases j8.cons_iff.1 h with h | h
  ·exact h
  ·exact absurd h he
 ·by_cases hjk : j ≤ k
  ·exact hjk
  ·refine absurd ?_ he
   obtain ⟨d, hd⟩ : ∃ d : Nat, j = (k : Int) + 1 + d := ⟨(j - k - 1).toNat, by omega⟩
   have := hp.cons_mono (b := b) d
   have e1 : j * b.1 = (k : Int) * b.1 + b.1 + (d : Int) * b.1 := by rw [hd, Int.add_mul, Int.add_mul, Int.one_mul]
   have e2 : j * b.2 = (k : Int) * b.2 + b.2 + (d : Int) * b.2 := by rw [hd, Int.add_mul, Int.add_mul, Int.one_mul]
   rwa [show t - j * b.1 + (d : Int) * b.1 = t - k * b.1 - b.1 by omega, show p - j * b.2 + (d : Int) * b.2 = p - k * b.2 - b.2 by omega] at this
theorem take68 (l : List Bun) (hl : qb2 l) (hk : l.length ≤ 6) (price : Int) (m : Nat) (hm : m ≤ 2000) (i : Nat) (hi : i < l.length) (o : List (List Int)) (ho : Tab l (m + 1) o 0) (T p : Int) (hT : T ≤ m) (hL : qaX (l.drop i) T p) (many : List Int) (hml : many.length = l.length) (hz : gd many (i : Int) = 0) {N : Nat} (hN : 3000 < N) :
  ∃ k : Nat, MaxC (gd l (i : Int)) (l.drop (i + 1)) T p k ∧ qaX (l.drop (i + 1)) (T - k * (gd l (i : Int)).1) (p - k * (gd l (i : Int)).2) ∧
   L40_34 N ((price, T, (i : Int), p, l, (l.length : Int), (i : Int), ()), (gd l (i : Int), o, many, ()), ()) = some ((price, T - k * (gd l (i : Int)).1, l, (l.length : Int), (i : Int), ()), (o, many.set i k, ()), ()) := by
 obtain ⟨h1, h2, h3⟩ := ho
 have hd : l.drop i = gd l (i : Int) :: l.drop (i + 1) := qe0 hi
 have hb := hl _ (jF (l := l) (i := (i : Int)) (by omega) (by omega))
 have hfd : qb2 (gd l (i : Int) :: l.drop (i + 1)) := by rw [← hd]; exact hl.drop i
 rw [hd] at hL
 revert hL hb hfd
 generalize hbv : gd l (i : Int) = b
 intro hL hb hfd
 have hT0 := (hL.1.le hfd).1
 have hrow := h2 i (by omega)
 have e0 : many.set i 0 = many := by
  refine qkI (by rw [List.length_set]) fun j hj => ?_
  rw [qca (by omega)]
  by_cases h : j = i
  ·rw [if_pos h, h, hz]
  ·rw [if_neg h]
 obtain ⟨r, hr, k, q1, q2, rfl⟩ := loopM (L := L40_34) (fun k : Nat => ((price, T - k * b.1, (i : Int), p - k * b.2, l, (l.length : Int), (i : Int), ()), (b, o, many.set i k, ()), ()))
  (fun k => qaX (b :: l.drop (i + 1)) (T - k * b.1) (p - k * b.2))
  (fun r => ∃ k : Nat, MaxC b (l.drop (i + 1)) T p k ∧ qaX (l.drop (i + 1)) (T - k * b.1) (p - k * b.2) ∧ r = ((price, T - k * b.1, l, (l.length : Int), (i : Int), ()), (o, many.set i k, ()), ())) 0 (fun k => (T - k * b.1).toNat)
  (fun N k _ hP => by
   have hle := hP.1.le hfd
   have hkb : (k : Int) ≤ k * b.1 := by
    have := Int.mul_le_mul_of_nonneg_left hb.1 (show (0 : Int) ≤ k by omega)
    omega
   have hkb2 : (0 : Int) ≤ k * b.2 := Int.mul_nonneg (by omega) (by omega)
   have e1 : ((k + 1 : Nat) : Int) * b.1 = k * b.1 + b.1 := by rw [Int.natCast_succ, Int.add_mul]; omega
   have e2 : ((k + 1 : Nat) : Int) * b.2 = k * b.2 + b.2 := by rw [Int.natCast_succ, Int.add_mul]; omega
   have hex : ¬ j8 (b :: l.drop (i + 1)) (T - k * b.1 - b.1) (p - k * b.2 - b.2) → ∃ r, some ((price, T - k * b.1, l, (l.length : Int), (i : Int), ()), (o, many.set i k, ()), ()) = some r ∧ ∃ k : Nat, MaxC b (l.drop (i + 1)) T p k ∧ qaX (l.drop (i + 1)) (T - k * b.1) (p - k * b.2) ∧ r = ((price, T - k * b.1, l, (l.length : Int), (i : Int), ()), (o, many.set i k, ()), ()) := fun he => by
    have hm := MaxC.of_end hP.1 he
    exact ⟨_, rfl, k, hm, hL.rest (by omega) hm.2.1, rfl⟩
   have i1 : ∀ {α : Type} (k : Option α), jS (i : Int) o.length k = k := fun k => qE (by omega) (by omega) k
   have i2 : ∀ {α : Type} (k : List Int → Option α), qc o (i : Int) k = k (gd o (i : Int)) := fun k => qp (by omega) (by omega) k
   simp only [L40_34, B40_34, i1, i2]
   by_cases hge : T - k * b.1 ≥ b.1
   ·obtain ⟨t1, ht1⟩ : ∃ t1 : Nat, (t1 : Int) = T - k * b.1 - b.1 := ⟨(T - k * b.1 - b.1).toNat, by omega⟩
    have w2 : IntKind.wrap .i64 (T - k * b.1 - b.1) = (t1 : Int) := by rw [wI (by omega) (by omega), ht1]
    have i3 : ∀ {α : Type} (k : Option α), jS (t1 : Int) (gd o (i : Int)).length k = k := fun k => qE (by omega) (by omega) k
    have i4 : ∀ {α : Type} (k : Int → Option α), qc (gd o (i : Int)) (t1 : Int) k = k (gd (gd o (i : Int)) (t1 : Int)) := fun k => qp (by omega) (by omega) k
    have hE := h3 i (by omega) (by omega) t1 (by omega)
    rw [hd, hbv] at hE
    rw [qX hge, cond_true, w2, i3, i4]
    by_cases hlt : gd (gd o (i : Int)) (t1 : Int) < NO
    ·rw [qX hlt, cond_true, i3, i4]
     have hLq : qaX (b :: l.drop (i + 1)) (T - k * b.1 - b.1) (gd (gd o (i : Int)) (t1 : Int)) := Eq.subst (motive := fun x => qaX (b :: l.drop (i + 1)) x (gd (gd o (i : Int)) (t1 : Int))) ht1 (hE.least hlt)
     have hq := hLq.1.le hfd
     rw [wI (by omega) (by omega)]
     by_cases heq : gd (gd o (i : Int)) (t1 : Int) + b.2 = p - k * b.2
     ·have hpv : gd (gd o (i : Int)) (t1 : Int) = p - k * b.2 - b.2 := by omega
      rw [heq, beq_self_eq_true, cond_true]
      have i5 : ∀ {α : Type} (k' : Option α), jS (i : Int) (many.set i (k : Int)).length k' = k' := fun k' => qE (by omega) (by rw [List.length_set, hml]; omega) k'
      have i6 : ∀ {α : Type} (k' : Int → Option α), qc (many.set i (k : Int)) (i : Int) k' = k' (k : Int) := fun k' => by
       rw [qp (by omega) (by rw [List.length_set, hml]; omega), qca (by omega), if_pos rfl]
      rw [i5, i6, i5, i6, i3, i4]
      refine .inl ⟨k + 1, ?_, ?_, ?_⟩
      ·have h := (qaX.prev_iff hP hLq).1 heq
       have := hP.prev h
       rwa [e1, e2, show T - (k * b.1 + b.1) = T - k * b.1 - b.1 by omega, show p - (k * b.2 + b.2) = p - k * b.2 - b.2 by omega]
      ·rw [e1]; omega
      ·rw [hpv, ht1, e1, e2, show T - (k * b.1 + b.1) = T - k * b.1 - b.1 by omega, show p - (k * b.2 + b.2) = p - k * b.2 - b.2 by omega, Int.toNat_natCast, List.set_set, wI (by omega) (by omega)]
       rfl
     ·rw [beq_false_of_ne heq, cond_false]
      exact .inr (hex fun h => heq ((qaX.prev_iff hP hLq).2 h))
    ·rw [jC hlt, cond_false]
     refine .inr (hex ?_)
     have hN : gd (gd o (i : Int)) (t1 : Int) = NO := by have := hE.1; omega
     rw [hN] at hE
     rw [← ht1]
     exact hE.none hfd (by show _ < (1152921504606846976 : Int); omega) _
   ·rw [jC hge, cond_false]
    exact .inr (hex fun h => by have := h.le hfd; omega))
  2001 N 0 (by omega) (by simpa using hL) (by omega)
 refine ⟨k, q1, q2, ?_⟩
 rw [← hr]
 simp [e0]
theorem qjT (l : List Bun) (hl : qb2 l) (hk : l.length ≤ 6) (price : Int) (m : Nat) (hm : m ≤ 2000) (o : List (List Int)) (ho : Tab l (m + 1) o 0) (T p : Int) (hT : T ≤ m) (hL : qaX l T p) {N : Nat} (hN : 4000 < N) :
  ∃ r, qfN l T p r ∧ L40_31 N ((price, T, l, (l.length : Int), 0, ()), (o, List.replicate l.length 0, ()), ()) = some ((price, ()), (r, ()), ()) := by
 obtain ⟨r, hr, r', h1, rfl⟩ := qjH (L := L40_31) (fun (j : Nat) (s : Int × List Int) => ((price, s.1, l, (l.length : Int), (j : Int), ()), (o, s.2, ()), ()))
  (fun j s => s.1 ≤ m ∧ s.2.length = l.length ∧ (∀ x : Nat, j ≤ x → x < l.length → gd s.2 (x : Int) = 0) ∧ ∃ q, qaX (l.drop j) s.1 q ∧ ∀ r', qfN (l.drop j) s.1 q r' → qfN l T p (s.2.take j ++ r'))
  (fun r => ∃ r' : List Int, qfN l T p r' ∧ r = ((price, ()), (r', ()), ())) 3001 l.length (N := N) (s := (T, List.replicate l.length 0)) ⟨hT, by simp, fun x _ hx => qdl (by omega) (by omega), p, hL, fun r' h => h⟩ (by omega)
  (fun N s ⟨_, q2, _, q, q4, q5⟩ => by
   rw [List.drop_length] at q4 q5
   obtain ⟨h1, _⟩ := q4
   revert q5
   generalize s.1 = t at h1
   cases h1
   intro q5
   have := q5 [] .nil
   rw [List.append_nil, ← q2, List.take_length] at this
   refine ⟨_, by simp only [L40_31, B40_31]; rw [jC (by omega), cond_false], _, this, rfl⟩)
  (fun N j s hc hj ⟨q1, q2, q3, q, q4, q5⟩ => by
   obtain ⟨o1, o2, o3⟩ := ho
   have hd : l.drop j = gd l (j : Int) :: l.drop (j + 1) := qe0 hj
   obtain ⟨t, ht⟩ : ∃ t : Nat, s.1 = (t : Int) := ⟨s.1.toNat, by have := (q4.1.le (hl.drop j)).1; omega⟩
   have e := (o3 j (by omega) (by omega) t (by omega)).of_least (by rw [← ht]; exact q4) (hl.drop j) (by show _ < (1152921504606846976 : Int); omega)
   have hrow := o2 j (by omega)
   obtain ⟨k, k1, k2, k3⟩ := take68 l hl hk price m hm j hj o ⟨o1, o2, o3⟩ s.1 q q1 q4 s.2 q2 (q3 j (Nat.le_refl _) hj) (N := N) (by omega)
   have hb := hl _ (jF (l := l) (i := (j : Int)) (by omega) (by omega))
   have hkb : (0 : Int) ≤ k * (gd l (j : Int)).1 := Int.mul_nonneg (by omega) (by omega)
   refine .inl ⟨(s.1 - k * (gd l (j : Int)).1, s.2.set j k), ⟨by simp only; omega, by rw [List.length_set, q2], fun x h1 h2 => ?_, _, k2, fun r' h => ?_⟩, ?_⟩
   ·simp only
    rw [qca (by omega), if_neg (by omega)]
    exact q3 x (by omega) h2
   ·simp only at h ⊢
    have h2 := q5 (k :: r') (by rw [hd]; exact .cons k1 h)
    have e2 : (s.2.set j (k : Int)).take (j + 1) = s.2.take j ++ [(k : Int)] := by
     rw [take_nat (by rw [List.length_set]; omega), qca (by omega), if_pos rfl, List.take_set_of_le (Nat.le_refl _)]
    rw [e2, List.append_assoc]
    exact h2
   ·simp only [L40_31, B40_31]
    rw [qX (by omega), cond_true, qp (by omega) (by omega), qE (by omega) (by omega), qp (by omega) (by omega), qE (by omega) (by omega), qp (by omega) (by omega), qp (by omega) (by omega)]
    have e' : gd (gd o (j : Int)) s.1 = q := by rw [ht]; exact e
    rw [e', k3, qb]
    simp only
    rw [wI (by omega) (by omega)]
    rfl)
 exact ⟨r', h1, hr⟩
def qf9 (l : List Bun) (n : Nat) : Prop := ∀ t : Nat, n ≤ t → t ≤ n + 1000 → ∀ p, ¬ j8 l t p
def Opt (l : List Bun) (n t : Nat) (p : Int) : Prop := n ≤ t ∧ t ≤ n + 1000 ∧ j8 l t p ∧ ∀ t' : Nat, n ≤ t' → t' ≤ n + 1000 → ∀ p', j8 l t' p' → p ≤ p' ∧ (p' = p → t ≤ t')
def qhM (l : List Bun) (n : Nat) (r : List Int) (p : Int) : Prop := ∃ t, Opt l n t p ∧ qfN l t p r
theorem Opt.uniq {l : List Bun} {n t t' : Nat} {p p' : Int} (h : Opt l n t p) (h' : Opt l n t' p') : t = t' ∧ p = p' := by
 have a := h.2.2.2 t' h'.1 h'.2.1 p' h'.2.2.1
 have b := h'.2.2.2 t h.1 h.2.1 p h.2.2.1
 have e : p = p' := by omega
 have := a.2 e.symm
 have := b.2 e
 omega
theorem qhM.uniq {l : List Bun} {n : Nat} {r r' : List Int} {p p' : Int} (h : qhM l n r p) (h' : qhM l n r' p') : r = r' ∧ p = p' := by
 obtain ⟨t, h1, h2⟩ := h
 obtain ⟨t', h3, h4⟩ := h'
 obtain ⟨rfl, rfl⟩ := h1.uniq h3
 exact ⟨h2.uniq h4, rfl⟩
theorem Opt.least {l : List Bun} {n t : Nat} {p : Int} (h : Opt l n t p) : qaX l t p := ⟨h.2.2.1, fun q hq => (h.2.2.2 t h.1 h.2.1 q hq).1⟩
theorem qiz.opt {N : Int} {l : List Bun} {c : List Int} {n t : Nat} (hc : ∀ t : Nat, t < n + 1001 → Ent N l t (gd c (t : Int))) (h : qiz c n (n + 1001) t) (hlt : gd c (t : Int) < N) : Opt l n t (gd c (t : Int)) := by
 obtain ⟨h1, h2, h3⟩ := h
 refine ⟨h1, by omega, ((hc t h2).least hlt).1, fun t' q1 q2 p' hp => ?_⟩
 have a := h3 t' q1 (by omega)
 have b := (hc t' (by omega)).2.2 p' hp
 exact ⟨by omega, fun e => a.2 (by omega)⟩
theorem qiz.noBuy {N : Int} {l : List Bun} {c : List Int} {n t : Nat} (hl : qb2 l) (hn : 1000000 * ((n : Int) + 1000) < N) (hc : ∀ t : Nat, t < n + 1001 → Ent N l t (gd c (t : Int))) (h : qiz c n (n + 1001) t) (hlt : gd c (t : Int) = N) : qf9 l n := by
 obtain ⟨h1, h2, h3⟩ := h
 intro t' q1 q2 p hp
 have a := (h3 t' q1 (by omega)).1
 have b := (hc t' (by omega)).2.2 p hp
 have := hp.le hl
 omega
theorem same40_4 : @L10040_4 = @L40_4 := by kernel_rfl
theorem qlz : @L10040_10 = @L40_10 := by kernel_rfl
theorem qly : @L10040_22 = @L40_22 := by kernel_rfl
theorem qlx : @L10040_31 = @L40_31 := by kernel_rfl
theorem g40_made (l : List Bun) (hl : qb2 l) (hk : l.length ≤ 6) (n : Nat) (hn : n ≤ 1000) :
  (qf9 l n ∧ g40 (l, (n : Int), ()) = none) ∨ ∃ r p, qhM l n r p ∧ g40 (l, (n : Int), ()) = some ((r, p, ()), ()) := by
 have hf := qcx
 have e0 : g40 (l, (n : Int), ()) = F40 qi l n := rfl
 rw [e0]
 unfold F40
 have w1 : IntKind.wrap .i64 ((l.length : Int) + 1) = ((l.length + 1 : Nat) : Int) := by rw [wI (by omega) (by omega)]; omega
 have w2 : IntKind.wrap .i64 ((n : Int) + 1000) = ((n + 1000 : Nat) : Int) := by rw [wI (by omega) (by omega)]; omega
 have w3 : IntKind.wrap .i64 ((l.length : Int) - 1) = (l.length : Int) - 1 := wI (by omega) (by omega)
 rw [w1, w2, qaz (by omega), qaz (by omega), jR (by omega) (by omega), Int.toNat_natCast]
 obtain ⟨o, h1, h2, e1⟩ := fill68 l n (n + 1000) (by omega) hk (N := qi) (by omega)
 rw [e1, qb]
 simp only
 have hgo : gd o (l.length : Int) = List.replicate (n + 1000 + 1) NO := h2 l.length (by omega)
 rw [qE (by omega) (by omega), qp (by omega) (by omega), hgo, qE (by omega) (by rw [List.length_replicate]; omega), qp (by omega) (by omega), hgo, qp (by omega) (by rw [List.length_replicate]; omega), w3, Int.toNat_natCast]
 have hgs : ∀ j : Nat, gd (o.set l.length ((List.replicate (n + 1000 + 1) NO).set (0 : Int).toNat 0)) (j : Int) = if j = l.length then (List.replicate (n + 1000 + 1) NO).set (0 : Int).toNat 0 else gd o (j : Int) := qca (by omega)
 have ht : Tab l (n + 1000 + 1) (o.set l.length ((List.replicate (n + 1000 + 1) NO).set (0 : Int).toNat 0)) l.length := by
  refine ⟨by rw [List.length_set, h1], fun i hi => ?_, fun i q1 q2 t q3 => ?_⟩
  ·rw [hgs]
   by_cases e : i = l.length
   ·rw [if_pos e, List.length_set, List.length_replicate]
   ·rw [if_neg e, h2 i (by omega), List.length_replicate]
  ·obtain rfl : i = l.length := by omega
   rw [hgs, if_pos rfl, List.drop_length, show (0 : Int).toNat = 0 from rfl, qca (by rw [List.length_replicate]; omega)]
   by_cases e : t = 0
   ·rw [if_pos e, e]; exact .nil_zero (by decide)
   ·rw [if_neg e, qdl (by omega) (by omega)]; exact .nil_pos (by omega)
 obtain ⟨o2, t2, e2⟩ := tab68 l hl n ((n + 1000 : Nat) : Int) (n + 1000 + 1) (by omega) hk _ ht (N := qi) (by omega)
 rw [e2, qb]
 simp only
 obtain ⟨u1, u2, u3⟩ := t2
 have u20 := u2 0 (by omega)
 obtain ⟨t, hfst, e3⟩ := arg68 l n (n + 1000) (by omega) (by omega) o2 (by omega) u20 (N := qi) (by omega)
 rw [e3, qb]
 simp only
 have hft := hfst
 obtain ⟨v1, v2, _⟩ := hft
 have hent : ∀ t : Nat, t < n + 1001 → Ent NO l t (gd (gd o2 0) (t : Int)) := fun t ht => u3 0 (Nat.le_refl _) (Nat.zero_le _) t (by omega)
 rw [qE (by omega) (by omega), qp (by omega) (by omega)]
 have u20' : (gd o2 0).length = n + 1000 + 1 := u20
 rw [qE (by omega) (by omega), qp (by omega) (by omega), qp (by omega) (by omega)]
 by_cases hno : gd (gd o2 0) (t : Int) = NO
 ·left
  refine ⟨hfst.noBuy hl (by show _ < (1152921504606846976 : Int); omega) hent hno, ?_⟩
  rw [hno, beq_self_eq_true, cond_true]
 ·right
  have hlt : gd (gd o2 0) (t : Int) < NO := by have := (hent t (by omega)).1; omega
  have ho := hfst.opt hent hlt
  obtain ⟨r, hb, e4⟩ := qjT l hl hk (gd (gd o2 0) (t : Int)) (n + 1000) (by omega) o2 ⟨u1, u2, u3⟩ (t : Int) (gd (gd o2 0) (t : Int)) (by omega) ho.least (N := qi) (by omega)
  refine ⟨r, gd (gd o2 0) (t : Int), ⟨t, ho, hb⟩, ?_⟩
  rw [beq_false_of_ne hno, cond_false, qaz (by omega), qaz (by omega), jR (by omega) (by omega), Int.toNat_natCast, e4]
  rfl
theorem g40_nil (l : List Bun) (hl : qb2 l) (hk : l.length ≤ 6) (n : Nat) (hn : n ≤ 1000) :
  (qf9 l n ∧ g10040 (l, (n : Int), ()) = some (([], 0, ()), ())) ∨ ∃ r p, qhM l n r p ∧ g10040 (l, (n : Int), ()) = none := by
 have hf := qcx
 have e0 : g10040 (l, (n : Int), ()) = F10040 qi l n := rfl
 rw [e0]
 unfold F10040
 rw [same40_4, qlz, qly, qlx]
 have w1 : IntKind.wrap .i64 ((l.length : Int) + 1) = ((l.length + 1 : Nat) : Int) := by rw [wI (by omega) (by omega)]; omega
 have w2 : IntKind.wrap .i64 ((n : Int) + 1000) = ((n + 1000 : Nat) : Int) := by rw [wI (by omega) (by omega)]; omega
 have w3 : IntKind.wrap .i64 ((l.length : Int) - 1) = (l.length : Int) - 1 := wI (by omega) (by omega)
 rw [w1, w2, qaz (by omega), qaz (by omega), jR (by omega) (by omega), Int.toNat_natCast]
 obtain ⟨o, h1, h2, e1⟩ := fill68 l n (n + 1000) (by omega) hk (N := qi) (by omega)
 rw [e1, qb]
 simp only
 have hgo : gd o (l.length : Int) = List.replicate (n + 1000 + 1) NO := h2 l.length (by omega)
 rw [qE (by omega) (by omega), qp (by omega) (by omega), hgo, qE (by omega) (by rw [List.length_replicate]; omega), qp (by omega) (by omega), hgo, qp (by omega) (by rw [List.length_replicate]; omega), w3, Int.toNat_natCast]
 have hgs : ∀ j : Nat, gd (o.set l.length ((List.replicate (n + 1000 + 1) NO).set (0 : Int).toNat 0)) (j : Int) = if j = l.length then (List.replicate (n + 1000 + 1) NO).set (0 : Int).toNat 0 else gd o (j : Int) := qca (by omega)
 have ht : Tab l (n + 1000 + 1) (o.set l.length ((List.replicate (n + 1000 + 1) NO).set (0 : Int).toNat 0)) l.length := by
  refine ⟨by rw [List.length_set, h1], fun i hi => ?_, fun i q1 q2 t q3 => ?_⟩
  ·rw [hgs]
   by_cases e : i = l.length
   ·rw [if_pos e, List.length_set, List.length_replicate]
   ·rw [if_neg e, h2 i (by omega), List.length_replicate]
  ·obtain rfl : i = l.length := by omega
   rw [hgs, if_pos rfl, List.drop_length, show (0 : Int).toNat = 0 from rfl, qca (by rw [List.length_replicate]; omega)]
   by_cases e : t = 0
   ·rw [if_pos e, e]; exact .nil_zero (by decide)
   ·rw [if_neg e, qdl (by omega) (by omega)]; exact .nil_pos (by omega)
 obtain ⟨o2, t2, e2⟩ := tab68 l hl n ((n + 1000 : Nat) : Int) (n + 1000 + 1) (by omega) hk _ ht (N := qi) (by omega)
 rw [e2, qb]
 simp only
 obtain ⟨u1, u2, u3⟩ := t2
 have u20 := u2 0 (by omega)
 obtain ⟨t, hfst, e3⟩ := arg68 l n (n + 1000) (by omega) (by omega) o2 (by omega) u20 (N := qi) (by omega)
 rw [e3, qb]
 simp only
 have hft := hfst
 obtain ⟨v1, v2, _⟩ := hft
 have hent : ∀ t : Nat, t < n + 1001 → Ent NO l t (gd (gd o2 0) (t : Int)) := fun t ht => u3 0 (Nat.le_refl _) (Nat.zero_le _) t (by omega)
 rw [qE (by omega) (by omega), qp (by omega) (by omega)]
 have u20' : (gd o2 0).length = n + 1000 + 1 := u20
 rw [qE (by omega) (by omega), qp (by omega) (by omega), qp (by omega) (by omega)]
 by_cases hno : gd (gd o2 0) (t : Int) = NO
 ·left
  refine ⟨hfst.noBuy hl (by show _ < (1152921504606846976 : Int); omega) hent hno, ?_⟩
  rw [hno, beq_self_eq_true, cond_true]
 ·right
  have hlt : gd (gd o2 0) (t : Int) < NO := by have := (hent t (by omega)).1; omega
  have ho := hfst.opt hent hlt
  obtain ⟨r, hb, e4⟩ := qjT l hl hk (gd (gd o2 0) (t : Int)) (n + 1000) (by omega) o2 ⟨u1, u2, u3⟩ (t : Int) (gd (gd o2 0) (t : Int)) (by omega) ho.least (N := qi) (by omega)
  refine ⟨r, gd (gd o2 0) (t : Int), ⟨t, ho, hb⟩, ?_⟩
  rw [beq_false_of_ne hno, cond_false, qaz (by omega), qaz (by omega), jR (by omega) (by omega), Int.toNat_natCast, e4]
  rfl
theorem qhC {l : List Bun} {n : Nat} {r : List Int} {p : Int} (h : qhM l n r p) : ¬ qf9 l n := by
 obtain ⟨t, h1, _⟩ := h
 exact fun hn => hn t h1.1 h1.2.1 p h1.2.2.1
theorem g40_eq (l : List Bun) (hl : qb2 l) (hk : l.length ≤ 6) (n : Nat) (hn : n ≤ 1000) :
  (qf9 l n ∧ g10040 (l, (n : Int), ()) = some (([], 0, ()), ())) ∨ ∃ r p, qhM l n r p ∧ g40 (l, (n : Int), ()) = some ((r, p, ()), ()) ∧ g10040 (l, (n : Int), ()) = none := by
 rcases g40_nil l hl hk n hn with h | ⟨r, p, h1, h2⟩
 ·exact .inl h
 ·rcases g40_made l hl hk n hn with h | ⟨r, p, h3, h4⟩
  ·exact absurd h.1 (qhC h1)
  ·exact .inr ⟨r, p, h3, h4, h2⟩
theorem j8.mul {b : Bun} {l : List Bun} (h : b ∈ l) : ∀ k : Nat, j8 l (k * b.1) (k * b.2)
 | 0 => by
  rw [show ((0 : Nat) : Int) * b.1 = 0 by simp, show ((0 : Nat) : Int) * b.2 = 0 by simp]
  exact .zero l
 | k + 1 => by
  refine j8.of_take (b := b) ?_ h
  have := j8.mul h k
  rwa [show ((k + 1 : Nat) : Int) * b.1 - b.1 = (k : Int) * b.1 by rw [Int.natCast_succ, Int.add_mul]; omega, show ((k + 1 : Nat) : Int) * b.2 - b.2 = (k : Int) * b.2 by rw [Int.natCast_succ, Int.add_mul]; omega]
theorem qid {l : List Bun} (hl : qb2 l) {n : Nat} (hn : n = 0 ∨ l ≠ []) : ¬ qf9 l n := by
 intro h
 rcases hn with rfl | hn
 ·exact h 0 (Nat.le_refl _) (by omega) 0 (.zero l)
 ·obtain ⟨b, l', rfl⟩ := List.exists_cons_of_ne_nil hn
  have hb := hl b (List.mem_cons_self ..)
  obtain ⟨k, hk⟩ : ∃ k : Nat, (k : Int) = ((n : Int) + b.1 - 1) / b.1 := ⟨(((n : Int) + b.1 - 1) / b.1).toNat, by have := Int.ediv_nonneg (a := (n : Int) + b.1 - 1) (b := b.1) (by omega) (by omega); omega⟩
  have h1 := Int.ediv_mul_le ((n : Int) + b.1 - 1) (show b.1 ≠ 0 by omega)
  have h2 := Int.lt_ediv_add_one_mul_self ((n : Int) + b.1 - 1) (show 0 < b.1 by omega)
  rw [← hk] at h1 h2
  rw [Int.add_mul, Int.one_mul] at h2
  refine h ((k : Int) * b.1).toNat (by omega) (by omega) (k * b.2) ?_
  rw [show ((((k : Int) * b.1).toNat : Nat) : Int) = (k : Int) * b.1 by omega]
  exact j8.mul (List.mem_cons_self ..) k
theorem qlL {n : Nat} (h : 0 < n) : qf9 [] n := by
 intro t h1 _ p hp
 generalize ht : (t : Int) = t' at hp
 cases hp
 omega
theorem qf2 {f : Fair} (h : fairOK f = true) : qb2 f.2.2.2.2.1 ∧ f.2.2.2.2.1.length ≤ 6 := by
 unfold fairOK at h
 simp only [Bool.and_eq_true, decide_eq_true_eq, List.all_eq_true] at h
 obtain ⟨_, _, _, _, h5, _, _, _, _, h10⟩ := h
 refine ⟨fun b hb => ?_, by omega⟩
 have := h10 b hb
 unfold okB at this
 rw [Bool.and_eq_true, Bool.and_eq_true, qK, qK] at this
 omega
def qhN (f : Fair) (n : Int) (x : (List Int) × Int × Int) : Prop :=
 if fairOK f = false then x = ([], 0, 10) else if j9 n 0 1000 = false then x = ([], 0, 1) else if f.2.2.2.2.1 = [] ∧ 0 < n then x = ([], 0, 3) else x.2.2 = 0 ∧ qhM f.2.2.2.2.1 n.toNat x.1 x.2.1
theorem qhN.uniq {f : Fair} {n : Int} {x y : (List Int) × Int × Int} (h : qhN f n x) (h' : qhN f n y) : x = y := by
 unfold qhN at h h'
 split at h
 ·rename_i e; rw [if_pos e] at h'; rw [h, h']
 ·rename_i e; rw [if_neg e] at h'
  split at h
  ·rename_i e; rw [if_pos e] at h'; rw [h, h']
  ·rename_i e; rw [if_neg e] at h'
   split at h
   ·rename_i e; rw [if_pos e] at h'; rw [h, h']
   ·rename_i e; rw [if_neg e] at h'
    obtain ⟨x1, x2, x3⟩ := x
    obtain ⟨y1, y2, y3⟩ := y
    have := h.2.uniq h'.2
    simp only at h h' this
    rw [this.1, this.2, h.1, h'.1]
theorem qdS {l : List Int} {i : Nat} {v : Int} (h : i < l.length) : (l.set i v).sum = l.sum - gd l (i : Int) + v := by
 induction l generalizing i with
 | nil => simp at h
 | cons x l ih =>
  cases i with
  | zero =>
   rw [show gd (x :: l) ((0 : Nat) : Int) = x from rfl]
   simp only [List.set_cons_zero, List.sum_cons]
   omega
  | succ i =>
   have e : gd (x :: l) ((i + 1 : Nat) : Int) = gd l (i : Int) := by
    have h1 := qdG (l := l) (i := i) (by simpa using h)
    exact qco (by simpa using h1)
   rw [e]
   simp only [List.set_cons_succ, List.sum_cons]
   rw [ih (by simpa using h)]
   omega
theorem qes {l : List Int} (h : ∀ x ∈ l, 0 ≤ x) : 0 ≤ l.sum := by
 induction l with
 | nil => exact Int.le_refl _
 | cons x l ih =>
  have h1 := h x (List.mem_cons_self ..)
  have h2 := ih fun y hy => h y (List.mem_cons_of_mem _ hy)
  rw [List.sum_cons]
  omega
theorem qew {l : List Int} (h : ∀ x ∈ l, 0 ≤ x) {y : Int} (hy : y ∈ l) : y ≤ l.sum := by
 induction l with
 | nil => cases hy
 | cons x l ih =>
  have h1 := h x (List.mem_cons_self ..)
  have h2 : ∀ y ∈ l, 0 ≤ y := fun y hy => h y (List.mem_cons_of_mem _ hy)
  have h3 := qes h2
  rw [List.sum_cons]
  rcases List.mem_cons.1 hy with rfl | hy
  ·omega
  ·have := ih h2 hy; omega
theorem sum_le {l : List Int} {m : Int} (h : ∀ x ∈ l, x ≤ m) : l.sum ≤ l.length * m := by
 induction l with
 | nil => simp
 | cons x l ih =>
  have h1 := h x (List.mem_cons_self ..)
  have h2 := ih fun y hy => h y (List.mem_cons_of_mem _ hy)
  rw [List.sum_cons, List.length_cons, Int.natCast_succ, Int.add_mul]
  omega
theorem qcj (n : Nat) : (List.replicate n (0 : Int)).sum = 0 := by
 induction n with
 | zero => rfl
 | succ n ih => rw [List.replicate_succ, List.sum_cons, ih]; rfl
def qgw (l : List (Int × Int)) : Int := (l.map (·.1)).sum
theorem gd_map1 {l : List (Int × Int)} {i : Nat} (h : i < l.length) : gd (l.map (·.1)) (i : Int) = (gd l (i : Int)).1 := qco (by rw [List.getElem?_map, qdG h]; rfl)
theorem qji {l : List (Int × Int)} {i : Nat} {v : Int × Int} (h : i < l.length) : qgw (l.set i v) = qgw l - (gd l (i : Int)).1 + v.1 := by
 unfold qgw
 rw [List.map_set, qdS (by simpa using h), gd_map1 h]
theorem qkY {l : List (Int × Int)} (h : ∀ x ∈ l, 0 ≤ x.1) : 0 ≤ qgw l := qes fun x hx => by
 obtain ⟨y, hy, rfl⟩ := List.mem_map.1 hx
 exact h y hy
theorem qjE {l : List (Int × Int)} (h : ∀ x ∈ l, 0 ≤ x.1) {y : Int × Int} (hy : y ∈ l) : y.1 ≤ qgw l := qew (fun x hx => by
 obtain ⟨y, hy, rfl⟩ := List.mem_map.1 hx
 exact h y hy) (List.mem_map.2 ⟨y, hy, rfl⟩)
def okD (f : Fair) (c : Cnt) (d : qcI) : Bool :=
 let tA := j9 d.2.2.1 0 ((c.1.length : Int) - 1)
 let pA := j9 d.2.2.1 0 ((c.2.2.1.length : Int) - 1)
 let pB := j9 d.2.2.2.1 0 ((c.2.2.1.length : Int) - 1)
 let bB := j9 d.2.2.2.1 0 ((c.2.2.2.1.length : Int) - 1)
 bif d.2.1 == 1 then tA && (pB && (j9 d.2.2.2.2 0 ((f.2.2.2.2.1.length : Int) - 1) && decide ((gd f.2.2.2.2.1 d.2.2.2.2).1 ≤ gd c.1 d.2.2.1)))
 else bif d.2.1 == 2 then pA && (bB && (j9 d.2.2.2.2 0 1000 && (decide (d.1 < (gd c.2.2.1 d.2.2.1).2) || decide (d.2.2.2.2 ≤ (gd c.2.2.1 d.2.2.1).1))))
 else bif d.2.1 == 3 then tA && (pB && (d.2.2.2.2 == 0))
 else bif d.2.1 == 4 then tA && (pB && (j9 d.2.2.2.2 1 100000 && (decide (d.2.2.2.2 ≤ (gd c.2.2.1 d.2.2.2.1).1) && decide (d.2.2.2.2 * f.2.2.2.2.2.1 ≤ gd c.2.1 d.2.2.1))))
 else bif d.2.1 == 5 then tA && (bB && (d.2.2.2.2 == 0))
 else bif d.2.1 == 6 then pA && (pB && (!(d.2.2.1 == d.2.2.2.1) && (j9 d.2.2.2.2 1 100000 && decide (d.2.2.2.2 ≤ (gd c.2.2.1 d.2.2.1).1))))
 else bif d.2.1 == 7 then pA && ((d.2.2.2.1 == 0) && (j9 d.2.2.2.2 1 100000 && decide (d.2.2.2.2 ≤ (gd c.2.2.1 d.2.2.1).1)))
 else false
def mv (l : List (Int × Int)) (i v : Int) : List (Int × Int) := l.set i.toNat ((gd l i).1 + v, (gd l i).2)
def ad (l : List Int) (i v : Int) : List Int := l.set i.toNat (gd l i + v)
def stepD (f : Fair) (c : Cnt) (d : qcI) : Cnt :=
 bif d.2.1 == 1 then (ad c.1 d.2.2.1 (-(gd f.2.2.2.2.1 d.2.2.2.2).1), ad c.2.1 d.2.2.1 (gd f.2.2.2.2.1 d.2.2.2.2).2, mv c.2.2.1 d.2.2.2.1 (gd f.2.2.2.2.1 d.2.2.2.2).1, c.2.2.2.1, c.2.2.2.2)
 else bif d.2.1 == 2 then (bif decide (d.1 < (gd c.2.2.1 d.2.2.1).2) then c else (c.1, c.2.1, mv c.2.2.1 d.2.2.1 (-d.2.2.2.2), ad c.2.2.2.1 d.2.2.2.1 d.2.2.2.2, c.2.2.2.2))
 else bif d.2.1 == 3 then (c.1, ad c.2.1 d.2.2.1 f.2.2.2.2.2.2.1, c.2.2.1.set d.2.2.2.1.toNat ((gd c.2.2.1 d.2.2.2.1).1, max (gd c.2.2.1 d.2.2.2.1).2 (IntKind.wrap .i64 (d.1 + f.2.2.2.2.2.2.2))), c.2.2.2.1, c.2.2.2.2)
 else bif d.2.1 == 4 then (ad c.1 d.2.2.1 d.2.2.2.2, ad c.2.1 d.2.2.1 (-(d.2.2.2.2 * f.2.2.2.2.2.1)), mv c.2.2.1 d.2.2.2.1 (-d.2.2.2.2), c.2.2.2.1, c.2.2.2.2)
 else bif d.2.1 == 5 then (ad c.1 d.2.2.1 (gd c.2.2.2.1 d.2.2.2.1), c.2.1, c.2.2.1, c.2.2.2.1.set d.2.2.2.1.toNat 0, c.2.2.2.2)
 else bif d.2.1 == 6 then (c.1, c.2.1, mv (mv c.2.2.1 d.2.2.1 (-d.2.2.2.2)) d.2.2.2.1 d.2.2.2.2, c.2.2.2.1, c.2.2.2.2)
 else (c.1, c.2.1, mv c.2.2.1 d.2.2.1 (-d.2.2.2.2), c.2.2.2.1, c.2.2.2.2 + d.2.2.2.2)
def tot (c : Cnt) : Int := c.1.sum + qgw c.2.2.1 + c.2.2.2.1.sum + c.2.2.2.2
structure Inv (f : Fair) (c : Cnt) (k : Nat) : Prop where
 ls : c.1.length = f.2.2.1.length
 lc : c.2.1.length = f.2.2.1.length
 lp : c.2.2.1.length = f.1.toNat
 lb : c.2.2.2.1.length = f.2.1.toNat
 ns : ∀ x ∈ c.1, 0 ≤ x
 nc : ∀ x ∈ c.2.1, 0 ≤ x ∧ x ≤ 1000000 * ((k : Int) + 1)
 np : ∀ x ∈ c.2.2.1, 0 ≤ x.1
 nb : ∀ x ∈ c.2.2.2.1, 0 ≤ x
 nl : 0 ≤ c.2.2.2.2
 tt : tot c = f.2.2.1.sum
structure Ok (f : Fair) : Prop where
 s1 : 1 ≤ f.2.2.1.length
 s8 : f.2.2.1.length ≤ 8
 c8 : f.2.2.2.1.length = f.2.2.1.length
 p0 : 0 ≤ f.1
 p1 : f.1 ≤ 20
 b0 : 0 ≤ f.2.1
 b1 : f.2.1 ≤ 12
 st : ∀ x ∈ f.2.2.1, 0 ≤ x ∧ x ≤ 100000
 ca : ∀ x ∈ f.2.2.2.1, 0 ≤ x ∧ x ≤ 1000000
 r0 : 0 ≤ f.2.2.2.2.2.1
 r1 : f.2.2.2.2.2.1 ≤ 1000
 d0 : 0 ≤ f.2.2.2.2.2.2.1
 d1 : f.2.2.2.2.2.2.1 ≤ 1000000
 h0 : 1 ≤ f.2.2.2.2.2.2.2
 h1 : f.2.2.2.2.2.2.2 ≤ 1440
 fine : qb2 f.2.2.2.2.1
 six : f.2.2.2.2.1.length ≤ 6
 win : ∀ b ∈ f.2.2.2.2.1, f.2.2.2.2.2.1 * b.1 ≤ b.2
theorem Ok.of {f : Fair} (h : fairOK f = true) : Ok f := by
 obtain ⟨hf, hk⟩ := qf2 h
 unfold fairOK at h
 simp only [Bool.and_eq_true, decide_eq_true_eq, List.all_eq_true, qK, beq_iff_eq] at h
 obtain ⟨h1, h2, h3, h4, h5, ⟨h6, h7⟩, h8, h9, h10, h11⟩ := h
 refine ⟨by omega, by omega, by omega, h3.1, h3.2, h4.1, h4.2, h6, h7, h8.1, h8.2, h9.1, h9.2, h10.1, h10.2, hf, hk, fun b hb => ?_⟩
 have h := h11 b hb
 have hb := hf b hb
 unfold okB at h
 simp only [Bool.and_eq_true, Bool.not_eq_true', decide_eq_false_iff_not] at h
 have h2 := h.2.2
 have m0 : 0 ≤ f.2.2.2.2.2.1 * b.1 := Int.mul_nonneg h8.1 (by omega)
 have m1 : f.2.2.2.2.2.1 * b.1 ≤ 1000 * 1000 := Int.mul_le_mul h8.2 hb.2.1 (by omega) (by omega)
 rw [wI (by omega) (by omega)] at h2
 omega
theorem Ok.sum {f : Fair} (h : Ok f) : 0 ≤ f.2.2.1.sum ∧ f.2.2.1.sum ≤ 800000 := by
 have h1 := sum_le (l := f.2.2.1) (m := 100000) fun x hx => (h.st x hx).2
 have h2 := qes fun x hx => (h.st x hx).1
 have := h.s8
 omega
def cnt0 (f : Fair) : Cnt := (f.2.2.1, f.2.2.2.1, List.replicate f.1.toNat (0, 0), List.replicate f.2.1.toNat 0, 0)
theorem qgv (n : Nat) : qgw (List.replicate n (0, 0)) = 0 := by
 unfold qgw
 rw [List.map_replicate, qcj]
theorem Inv.zero {f : Fair} (h : Ok f) : Inv f (cnt0 f) 0 := by
 refine ⟨rfl, h.c8, List.length_replicate, List.length_replicate, fun x hx => (h.st x hx).1, fun x hx => ?_, fun x hx => ?_, fun x hx => ?_, Int.le_refl _, ?_⟩
 ·have := h.ca x hx; omega
 ·rw [(List.mem_replicate.1 hx).2]; exact Int.le_refl _
 ·rw [(List.mem_replicate.1 hx).2]; exact Int.le_refl _
 ·unfold tot cnt0
  simp only
  rw [qgv, qcj]
  omega
theorem nn_set {l : List Int} {i : Nat} {v : Int} (h : ∀ x ∈ l, 0 ≤ x) (hv : 0 ≤ v) : ∀ x ∈ l.set i v, 0 ≤ x := fun x hx => by
 rcases List.mem_or_eq_of_mem_set hx with h1 | rfl
 ·exact h x h1
 ·exact hv
theorem qk5 {l : List (Int × Int)} {i : Nat} {v : Int × Int} (h : ∀ x ∈ l, 0 ≤ x.1) (hv : 0 ≤ v.1) : ∀ x ∈ l.set i v, 0 ≤ x.1 := fun x hx => by
 rcases List.mem_or_eq_of_mem_set hx with h1 | rfl
 ·exact h x h1
 ·exact hv
theorem qiB {l : List Int} {i v : Int} (h0 : 0 ≤ i) (h : i < l.length) : (ad l i v).sum = l.sum + v := by
 unfold ad
 rw [qdS (by omega), show ((i.toNat : Nat) : Int) = i by omega]
 omega
theorem qdT {l : List (Int × Int)} {i v : Int} (h0 : 0 ≤ i) (h : i < l.length) : qgw (mv l i v) = qgw l + v := by
 unfold mv
 rw [qji (by omega), show ((i.toNat : Nat) : Int) = i by omega]
 simp only
 omega
theorem qey {l : List Int} {i v : Int} : (ad l i v).length = l.length := List.length_set
theorem qex {l : List (Int × Int)} {i v : Int} : (mv l i v).length = l.length := List.length_set
theorem nn_ad {l : List Int} {i v : Int} (h : ∀ x ∈ l, 0 ≤ x) (hv : 0 ≤ gd l i + v) : ∀ x ∈ ad l i v, 0 ≤ x := nn_set h hv
theorem qie {l : List (Int × Int)} {i v : Int} (h : ∀ x ∈ l, 0 ≤ x.1) (hv : 0 ≤ (gd l i).1 + v) : ∀ x ∈ mv l i v, 0 ≤ x.1 := qk5 h hv
theorem nc_ad {l : List Int} {i v m m' : Int} (h : ∀ x ∈ l, 0 ≤ x ∧ x ≤ m) (hm : m ≤ m') (hv : 0 ≤ gd l i + v ∧ gd l i + v ≤ m') : ∀ x ∈ ad l i v, 0 ≤ x ∧ x ≤ m' := fun x hx => by
 rcases List.mem_or_eq_of_mem_set hx with h1 | rfl
 ·have := h x h1; omega
 ·exact hv
theorem gd_mv_ne {l : List (Int × Int)} {i j v : Int} (h0 : 0 ≤ i) (h1 : 0 ≤ j) (h : j ≠ i) : gd (mv l i v) j = gd l j := qaO h0 h1 h
theorem Inv.step {f : Fair} (hf : Ok f) {c : Cnt} {k : Nat} (h : Inv f c k) {d : qcI} (hd : okD f c d = true) : Inv f (stepD f c d) (k + 1) := by
 obtain ⟨P, X, S, C, Bs, rf, bd, hr⟩ := f
 obtain ⟨st, ca, pu, bo, lo⟩ := c
 obtain ⟨at', kd, a, b, n⟩ := d
 obtain ⟨ls, lc, lp, lb, ns, nc, np, nb, nl, tt⟩ := h
 have hsum := hf.sum
 obtain ⟨s1, s8, c8, p0, p1, b0, b1, hst, hca, r0, r1, d0, d1, h0, h1, fine, six, _⟩ := hf
 have n1 := qes ns
 have n2 := qkY np
 have n3 := qes nb
 unfold okD at hd
 unfold stepD
 unfold tot at tt
 simp only at *
 have nc' : ∀ x ∈ ca, 0 ≤ x ∧ x ≤ 1000000 * (((k + 1 : Nat) : Int) + 1) := fun x hx => by have := nc x hx; omega
 by_cases k1 : kd = 1
 ·subst k1
  simp only [Int.reduceBEq, cond_true, Bool.and_eq_true, qK, decide_eq_true_eq] at hd ⊢
  obtain ⟨hA, hB, hN, hle⟩ := hd
  have hb := fine _ (jF (l := Bs) (i := n) (by omega) (by omega))
  have q1 := np _ (jF (l := pu) (i := b) (by omega) (by omega))
  have q2 := nc _ (jF (l := ca) (i := a) (by omega) (by omega))
  exact ⟨by rw [qey, ls], by rw [qey, lc], by rw [qex, lp], lb, nn_ad ns (by omega), nc_ad nc (by omega) (by omega), qie np (by omega), nb, nl, by
   unfold tot
   simp only
   rw [qiB (by omega) (by omega), qdT (by omega) (by omega)]
   omega⟩
 by_cases k2 : kd = 2
 ·subst k2
  simp only [Int.reduceBEq, cond_true, cond_false, Bool.and_eq_true, Bool.or_eq_true, qK, decide_eq_true_eq] at hd ⊢
  obtain ⟨hA, hB, hN, hle⟩ := hd
  by_cases hlt : at' < (gd pu a).2
  ·rw [qX hlt, cond_true]
   exact ⟨ls, lc, lp, lb, ns, nc', np, nb, nl, tt⟩
  ·rw [jC hlt, cond_false]
   have q3 := nb _ (jF (l := bo) (i := b) (by omega) (by omega))
   exact ⟨ls, lc, by rw [qex, lp], by rw [qey, lb], ns, nc', qie np (by omega), nn_ad nb (by omega), nl, by
    unfold tot
    simp only
    rw [qiB (by omega) (by omega), qdT (by omega) (by omega)]
    omega⟩
 by_cases k3 : kd = 3
 ·subst k3
  simp only [Int.reduceBEq, cond_true, cond_false, Bool.and_eq_true, qK, beq_iff_eq] at hd ⊢
  obtain ⟨hA, hB, hN⟩ := hd
  have q1 := np _ (jF (l := pu) (i := b) (by omega) (by omega))
  have q2 := nc _ (jF (l := ca) (i := a) (by omega) (by omega))
  exact ⟨ls, by rw [qey, lc], by rw [List.length_set, lp], lb, ns, nc_ad nc (by omega) (by omega), qk5 np q1, nb, nl, by
   unfold tot
   simp only
   rw [qji (by omega), show ((b.toNat : Nat) : Int) = b by omega]
   omega⟩
 by_cases k4 : kd = 4
 ·subst k4
  simp only [Int.reduceBEq, cond_true, cond_false, Bool.and_eq_true, qK, decide_eq_true_eq] at hd ⊢
  obtain ⟨hA, hB, hN, hle, hcs⟩ := hd
  have q1 := np _ (jF (l := pu) (i := b) (by omega) (by omega))
  have q2 := nc _ (jF (l := ca) (i := a) (by omega) (by omega))
  have q3 := ns _ (jF (l := st) (i := a) (by omega) (by omega))
  have m0 : 0 ≤ n * rf := Int.mul_nonneg (by omega) r0
  exact ⟨by rw [qey, ls], by rw [qey, lc], by rw [qex, lp], lb, nn_ad ns (by omega), nc_ad nc (by omega) (by omega), qie np (by omega), nb, nl, by
   unfold tot
   simp only
   rw [qiB (by omega) (by omega), qdT (by omega) (by omega)]
   omega⟩
 by_cases k5 : kd = 5
 ·subst k5
  simp only [Int.reduceBEq, cond_true, cond_false, Bool.and_eq_true, qK, beq_iff_eq] at hd ⊢
  obtain ⟨hA, hB, hN⟩ := hd
  have q3 := ns _ (jF (l := st) (i := a) (by omega) (by omega))
  have q4 := nb _ (jF (l := bo) (i := b) (by omega) (by omega))
  exact ⟨by rw [qey, ls], lc, lp, by rw [List.length_set, lb], nn_ad ns (by omega), nc', np, nn_set nb (Int.le_refl _), nl, by
   unfold tot
   simp only
   rw [qiB (by omega) (by omega), qdS (by omega), show ((b.toNat : Nat) : Int) = b by omega]
   omega⟩
 by_cases k6 : kd = 6
 ·subst k6
  simp only [Int.reduceBEq, cond_true, cond_false, Bool.and_eq_true, qK, decide_eq_true_eq, Bool.not_eq_true', beq_eq_false_iff_ne] at hd ⊢
  obtain ⟨hA, hB, hne, hN, hle⟩ := hd
  have q1 := np _ (jF (l := pu) (i := b) (by omega) (by omega))
  exact ⟨ls, lc, by rw [qex, qex, lp], lb, ns, nc', qie (qie np (by omega)) (by rw [gd_mv_ne (by omega) (by omega) (Ne.symm hne)]; omega), nb, nl, by
   unfold tot
   simp only
   rw [qdT (by omega) (by rw [qex]; omega), qdT (by omega) (by omega)]
   omega⟩
 by_cases k7 : kd = 7
 ·subst k7
  simp only [Int.reduceBEq, cond_true, cond_false, Bool.and_eq_true, qK, decide_eq_true_eq, beq_iff_eq] at hd ⊢
  obtain ⟨hA, hB, hN, hle⟩ := hd
  exact ⟨ls, lc, by rw [qex, lp], lb, ns, nc', qie np (by omega), nb, by simp only; omega, by
   unfold tot
   simp only
   rw [qdT (by omega) (by omega)]
   omega⟩
 ·rw [beq_false_of_ne k1, beq_false_of_ne k2, beq_false_of_ne k3, beq_false_of_ne k4, beq_false_of_ne k5, beq_false_of_ne k6, beq_false_of_ne k7] at hd
  cases hd
abbrev qf8 := Fair × (Cnt × (Int × qeo))
def qg0 (f : Fair) (c : Cnt) (d : qcI) (t : qeo) : qeo :=
 bif d.2.1 == 1 then (t.1 + (gd f.2.2.2.2.1 d.2.2.2.2).1, t.2.1, t.2.2.1, t.2.2.2.1, t.2.2.2.2.1, t.2.2.2.2.2 + (gd f.2.2.2.2.1 d.2.2.2.2).2)
 else bif d.2.1 == 2 then (bif decide (d.1 < (gd c.2.2.1 d.2.2.1).2) then t else (t.1, t.2.1 + d.2.2.2.2, t.2.2.1, t.2.2.2.1, t.2.2.2.2.1, t.2.2.2.2.2))
 else bif d.2.1 == 3 then (t.1, t.2.1, t.2.2.1, t.2.2.2.1, t.2.2.2.2.1, t.2.2.2.2.2 + f.2.2.2.2.2.2.1)
 else bif d.2.1 == 4 then (t.1, t.2.1, t.2.2.1 + d.2.2.2.2, t.2.2.2.1, t.2.2.2.2.1, t.2.2.2.2.2 + -(d.2.2.2.2 * f.2.2.2.2.2.1))
 else bif d.2.1 == 7 then (t.1, t.2.1, t.2.2.1, t.2.2.2.1, t.2.2.2.2.1 + d.2.2.2.2, t.2.2.2.2.2)
 else t
structure NInv (t : qeo) (k : Nat) : Prop where
 s0 : 0 ≤ t.1
 s1 : t.1 ≤ 100000 * k
 t0 : 0 ≤ t.2.1
 t1 : t.2.1 ≤ 100000 * k
 r0 : 0 ≤ t.2.2.1
 r1 : t.2.2.1 ≤ 100000 * k
 h : t.2.2.2.1 = 0
 l0 : 0 ≤ t.2.2.2.2.1
 l1 : t.2.2.2.2.1 ≤ 100000 * k
 c0 : -(100000000 * (k : Int)) ≤ t.2.2.2.2.2
 c1 : t.2.2.2.2.2 ≤ 1000000 * k
def nt0 : qeo := (0, 0, 0, 0, 0, 0)
theorem NInv.zero : NInv nt0 0 := ⟨by decide, by decide, by decide, by decide, by decide, by decide, rfl, by decide, by decide, by decide, by decide⟩
theorem NInv.step {f : Fair} (hf : Ok f) {c : Cnt} {k : Nat} (h : Inv f c k) {t : qeo} (ht : NInv t k) {d : qcI} (hd : okD f c d = true) : NInv (qg0 f c d t) (k + 1) := by
 obtain ⟨P, X, S, C, Bs, rf, bd, hr⟩ := f
 obtain ⟨st, ca, pu, bo, lo⟩ := c
 obtain ⟨at', kd, a, b, n⟩ := d
 obtain ⟨sd, tk, rt, he, ls, cs⟩ := t
 obtain ⟨a0, a1, a2, a3, a4, a5, a6, a7, a8, a9, a10⟩ := ht
 obtain ⟨s1, s8, c8, p0, p1, b0, b1, hst, hca, r0, r1, d0, d1, h0, h1, fine, six, _⟩ := hf
 unfold okD at hd
 unfold qg0
 simp only at *
 by_cases k1 : kd = 1
 ·subst k1
  simp only [Int.reduceBEq, cond_true, Bool.and_eq_true, qK, decide_eq_true_eq] at hd ⊢
  obtain ⟨hA, hB, hN, hle⟩ := hd
  have hb := fine _ (jF (l := Bs) (i := n) (by omega) (by omega))
  refine ⟨?_, ?_, ?_, ?_, ?_, ?_, ?_, ?_, ?_, ?_, ?_⟩ <;> simp only <;> omega
 by_cases k2 : kd = 2
 ·subst k2
  simp only [Int.reduceBEq, cond_true, cond_false, Bool.and_eq_true, qK] at hd ⊢
  obtain ⟨hA, hB, hN, hle⟩ := hd
  cases decide (at' < (gd pu a).2) <;> refine ⟨?_, ?_, ?_, ?_, ?_, ?_, ?_, ?_, ?_, ?_, ?_⟩ <;> simp only [cond_true, cond_false] <;> omega
 by_cases k3 : kd = 3
 ·subst k3
  simp only [Int.reduceBEq, cond_true, cond_false]
  refine ⟨?_, ?_, ?_, ?_, ?_, ?_, ?_, ?_, ?_, ?_, ?_⟩ <;> simp only <;> omega
 by_cases k4 : kd = 4
 ·subst k4
  simp only [Int.reduceBEq, cond_true, cond_false, Bool.and_eq_true, qK, decide_eq_true_eq] at hd ⊢
  obtain ⟨hA, hB, hN, hle, hcs⟩ := hd
  have m0 : 0 ≤ n * rf := Int.mul_nonneg (by omega) r0
  have m1 : n * rf ≤ 100000 * 1000 := Int.mul_le_mul hN.2 r1 r0 (by omega)
  refine ⟨?_, ?_, ?_, ?_, ?_, ?_, ?_, ?_, ?_, ?_, ?_⟩ <;> simp only <;> omega
 by_cases k7 : kd = 7
 ·subst k7
  simp only [Int.reduceBEq, cond_true, cond_false, Bool.and_eq_true, qK] at hd ⊢
  obtain ⟨hA, hB, hN, hle⟩ := hd
  refine ⟨?_, ?_, ?_, ?_, ?_, ?_, ?_, ?_, ?_, ?_, ?_⟩ <;> simp only <;> omega
 ·simp only [beq_false_of_ne k1, beq_false_of_ne k2, beq_false_of_ne k3, beq_false_of_ne k4, beq_false_of_ne k7, cond_false]
  refine ⟨?_, ?_, ?_, ?_, ?_, ?_, ?_, ?_, ?_, ?_, ?_⟩ <;> simp only <;> omega
theorem g56_eq (s : qf8) (n : Int) (h : s.2.1.1.length ≤ 1000) : g56 (s, n, ()) = some ((j9 n 0 ((s.2.1.1.length : Int) - 1), ()), ()) := by
 show F56 qi s n = _
 unfold F56
 rw [wI (by omega) (by omega), g18_eq]
 rfl
theorem g57_eq (s : qf8) (n : Int) (h0 : 0 ≤ s.1.1) (h : s.1.1 ≤ 1000) : g57 (s, n, ()) = some ((j9 n 0 (s.1.1 - 1), ()), ()) := by
 show F57 qi s n = _
 unfold F57
 rw [wI (by omega) (by omega), g18_eq]
 rfl
theorem g58_eq (s : qf8) (n : Int) (h0 : 0 ≤ s.1.2.1) (h : s.1.2.1 ≤ 1000) : g58 (s, n, ()) = some ((j9 n 0 (s.1.2.1 - 1), ()), ()) := by
 show F58 qi s n = _
 unfold F58
 rw [wI (by omega) (by omega), g18_eq]
 rfl
theorem g59_eq (s : qf8) (p t : Int) (h0 : 0 ≤ p) (h : p < s.2.1.2.2.1.length) : g59 (s, p, t, ()) = some ((decide (t < (gd s.2.1.2.2.1 p).2), ()), ()) := by
 show F59 qi s p t = _
 unfold F59
 rw [qp h0 h]
theorem g60_eq (s : qf8) (p n : Int) (h0 : 0 ≤ s.1.1) (h : s.1.1 ≤ 1000) (hl : (s.2.1.2.2.1.length : Int) = s.1.1) : g60 (s, p, n, ()) = some ((j9 p 0 (s.1.1 - 1) && j9 n 1 (gd s.2.1.2.2.1 p).1, ()), ()) := by
 show F60 qi s p n = _
 unfold F60
 rw [g57_eq s p h0 h, qb]
 simp only
 cases hp : j9 p 0 (s.1.1 - 1)
 ·rfl
 rw [qK] at hp
 rw [cond_true, qp (by omega) (by omega), g18_eq]
 rfl
theorem rng_le {n lo hi m : Int} (h : n ≤ m) : j9 n lo hi = (j9 n lo m && decide (n ≤ hi)) := by
 unfold j9
 by_cases h1 : lo ≤ n
 ·rw [qX h1, qX h]
  rfl
 ·rw [jC h1]
  rfl
theorem qiI {n lo hi : Int} (h : ¬ n ≤ hi) : j9 n lo hi = false := rng_f.2 (by omega)
theorem g34_eq {f : Fair} (hf : Ok f) {c : Cnt} {k : Nat} (h : Inv f c k) (last : Int) (t : qeo) (d : qcI) : g34 ((f, (c, (last, t))), d, ()) = some ((j9 d.1 last 1440 && okD f c d, ()), ()) := by
 have e0 : g34 ((f, (c, (last, t))), d, ()) = F34 qi (f, (c, (last, t))) d := rfl
 rw [e0]
 obtain ⟨P, X, S, C, Bs, rf, bd, hr⟩ := f
 obtain ⟨st, ca, pu, bo, lo⟩ := c
 obtain ⟨at', kd, a, b, n⟩ := d
 obtain ⟨ls, lc, lp, lb, ns, nc, np, nb, nl, tt⟩ := h
 obtain ⟨s1, s8, c8, p0, p1, b0, b1, hst, hca, r0, r1, d0, d1, h0, h1, fine, six, _⟩ := hf
 simp only at *
 have e1 : ∀ n, g56 (((P, X, S, C, Bs, rf, bd, hr), ((st, ca, pu, bo, lo), (last, t))), n, ()) = some ((j9 n 0 ((st.length : Int) - 1), ()), ()) := fun n => g56_eq _ n (by simp only; omega)
 have e2 : ∀ n, g57 (((P, X, S, C, Bs, rf, bd, hr), ((st, ca, pu, bo, lo), (last, t))), n, ()) = some ((j9 n 0 ((pu.length : Int) - 1), ()), ()) := fun n => by
  rw [show (pu.length : Int) = P by omega]
  exact g57_eq _ n p0 (by simp only; omega)
 have e3 : ∀ n, g58 (((P, X, S, C, Bs, rf, bd, hr), ((st, ca, pu, bo, lo), (last, t))), n, ()) = some ((j9 n 0 ((bo.length : Int) - 1), ()), ()) := fun n => by
  rw [show (bo.length : Int) = X by omega]
  exact g58_eq _ n b0 (by simp only; omega)
 have e4 : ∀ p n, g60 (((P, X, S, C, Bs, rf, bd, hr), ((st, ca, pu, bo, lo), (last, t))), p, n, ()) = some ((j9 p 0 ((pu.length : Int) - 1) && j9 n 1 (gd pu p).1, ()), ()) := fun p n => by
  rw [show (pu.length : Int) = P by omega]
  exact g60_eq _ p n p0 (by simp only; omega) (by simp only; omega)
 unfold F34 okD
 have w4 : IntKind.wrap .i64 ((Bs.length : Int) - 1) = (Bs.length : Int) - 1 := wI (by omega) (by omega)
 simp only [g18_eq, qb, e1, e2, e3, e4, w4]
 cases j9 at' last 1440
 ·rfl
 simp only [Bool.not_true, cond_false, Bool.true_and]
 by_cases hn : n > 100000
 ·rw [qX hn, cond_true]
  by_cases k1 : kd = 1
  ·subst k1
   simp only [Int.reduceBEq, cond_true]
   rw [qiI (n := n) (hi := (Bs.length : Int) - 1) (by omega)]
   cases j9 a 0 ((st.length : Int) - 1) <;> cases j9 b 0 ((pu.length : Int) - 1) <;> rfl
  by_cases k2 : kd = 2
  ·subst k2
   simp only [Int.reduceBEq, cond_true, cond_false]
   rw [qiI (n := n) (hi := 1000) (by omega)]
   cases j9 a 0 ((pu.length : Int) - 1) <;> cases j9 b 0 ((bo.length : Int) - 1) <;> rfl
  rw [qiI (n := n) (hi := 100000) (by omega), beq_false_of_ne (show n ≠ 0 by omega), beq_false_of_ne k1, beq_false_of_ne k2]
  simp only [Bool.false_and, Bool.and_false, cond_false]
  cases kd == 3 <;> cases kd == 4 <;> cases kd == 5 <;> cases kd == 6 <;> cases kd == 7 <;> rfl
 rw [jC hn, cond_false]
 have e5 : ∀ p, j9 n 1 (gd pu p).1 = (j9 n 1 100000 && decide (n ≤ (gd pu p).1)) := fun p => rng_le (by omega)
 simp only [e5]
 by_cases k1 : kd = 1
 ·subst k1
  simp only [Int.reduceBEq, cond_true]
  cases hA : j9 a 0 ((st.length : Int) - 1)
  ·rfl
  cases hB : j9 b 0 ((pu.length : Int) - 1)
  ·rfl
  cases hN : j9 n 0 ((Bs.length : Int) - 1)
  ·rfl
  rw [qK] at hA hB hN
  simp only [cond_true, Bool.true_and]
  rw [qp (by omega) (by omega), qp (by omega) (by omega)]
 by_cases k2 : kd = 2
 ·subst k2
  simp only [Int.reduceBEq, cond_true, cond_false]
  cases hA : j9 a 0 ((pu.length : Int) - 1)
  ·rfl
  cases hB : j9 b 0 ((bo.length : Int) - 1)
  ·rfl
  cases hN : j9 n 0 1000
  ·rfl
  rw [qK] at hA hB hN
  simp only [cond_true, Bool.true_and]
  rw [g59_eq _ _ _ (by omega) (by simp only; omega), qb, qp (by omega) (by omega)]
  cases decide (at' < (gd pu a).2) <;> rfl
 by_cases k3 : kd = 3
 ·subst k3
  simp only [Int.reduceBEq, cond_true, cond_false]
  cases hA : j9 a 0 ((st.length : Int) - 1)
  ·rfl
  cases hB : j9 b 0 ((pu.length : Int) - 1) <;> rfl
 by_cases k4 : kd = 4
 ·subst k4
  simp only [Int.reduceBEq, cond_true, cond_false]
  cases hA : j9 a 0 ((st.length : Int) - 1)
  ·rfl
  cases hB : j9 b 0 ((pu.length : Int) - 1)
  ·rfl
  cases hN : j9 n 1 100000
  ·rfl
  cases hle : decide (n ≤ (gd pu b).1)
  ·rfl
  rw [qK] at hA hB hN
  have m0 : 0 ≤ n * rf := Int.mul_nonneg (by omega) r0
  have m1 : n * rf ≤ 100000 * 1000 := Int.mul_le_mul hN.2 r1 r0 (by omega)
  simp only [cond_true, Bool.true_and, qY]
  rw [qp (by omega) (by omega), wI (by omega) (by omega)]
 by_cases k5 : kd = 5
 ·subst k5
  simp only [Int.reduceBEq, cond_true, cond_false]
  cases hA : j9 a 0 ((st.length : Int) - 1)
  ·rfl
  cases hB : j9 b 0 ((bo.length : Int) - 1) <;> rfl
 by_cases k6 : kd = 6
 ·subst k6
  simp only [Int.reduceBEq, cond_true, cond_false]
  cases j9 a 0 ((pu.length : Int) - 1) <;> cases j9 b 0 ((pu.length : Int) - 1) <;> cases j9 n 1 100000 <;> cases decide (n ≤ (gd pu a).1) <;> cases hab : (a == b) <;> simp [bne, hab]
 by_cases k7 : kd = 7
 ·subst k7
  simp only [Int.reduceBEq, cond_true, cond_false]
  cases j9 a 0 ((pu.length : Int) - 1) <;> cases j9 n 1 100000 <;> cases decide (n ≤ (gd pu a).1) <;> cases hab : (b == 0) <;> simp
 ·simp only [beq_false_of_ne k1, beq_false_of_ne k2, beq_false_of_ne k3, beq_false_of_ne k4, beq_false_of_ne k5, beq_false_of_ne k6, beq_false_of_ne k7, cond_false]
theorem g61_eq (f : Fair) (c : Cnt) (last : Int) (t : qeo) (i v : Int) (h0 : 0 ≤ i) (h : i < c.2.1.length) (w1 : IntKind.wrap .i64 (gd c.2.1 i + v) = gd c.2.1 i + v) (w2 : IntKind.wrap .i64 (t.2.2.2.2.2 + v) = t.2.2.2.2.2 + v) :
  g61 ((f, (c, (last, t))), i, v, ()) = some ((), ((f, ((c.1, (ad c.2.1 i v, c.2.2)), (last, (t.1, t.2.1, t.2.2.1, t.2.2.2.1, t.2.2.2.2.1, t.2.2.2.2.2 + v)))), ())) := by
 show F61 qi (f, (c, (last, t))) i v = _
 unfold F61
 simp only [qY]
 rw [qE h0 h, qp h0 h, qE h0 h, qp h0 h, w1, w2]
 rfl
theorem g35_eq {f : Fair} (hf : Ok f) {c : Cnt} {k : Nat} (h : Inv f c k) (hk : k ≤ 1000) (last : Int) {t : qeo} (ht : NInv t k) {d : qcI} (hd : okD f c d = true) :
  g35 ((f, (c, (last, t))), d, ()) = some ((), ((f, (stepD f c d, (d.1, qg0 f c d t))), ())) := by
 have e0 : g35 ((f, (c, (last, t))), d, ()) = F35 qi (f, (c, (last, t))) d := rfl
 rw [e0]
 obtain ⟨P, X, S, C, Bs, rf, bd, hr⟩ := f
 obtain ⟨st, ca, pu, bo, lo⟩ := c
 obtain ⟨at', kd, a, b, n⟩ := d
 obtain ⟨sd, tk, rt, he, ls', cs⟩ := t
 obtain ⟨a0, a1, a2, a3, a4, a5, a6, a7, a8, a9, a10⟩ := ht
 obtain ⟨ls, lc, lp, lb, ns, nc, np, nb, nl, tt⟩ := h
 have hsum := hf.sum
 obtain ⟨s1, s8, c8, p0, p1, b0, b1, hst, hca, r0, r1, d0, d1, h0, h1, fine, six, _⟩ := hf
 have n1 := qes ns
 have n2 := qkY np
 have n3 := qes nb
 have z1 : ∀ {i : Int}, 0 ≤ i → i < st.length → gd st i ≤ st.sum := fun h1 h2 => qew ns (jF h1 h2)
 have z2 : ∀ {i : Int}, 0 ≤ i → i < pu.length → (gd pu i).1 ≤ qgw pu := fun h1 h2 => qjE np (jF h1 h2)
 have z3 : ∀ {i : Int}, 0 ≤ i → i < bo.length → gd bo i ≤ bo.sum := fun h1 h2 => qew nb (jF h1 h2)
 unfold tot at tt
 unfold okD at hd
 unfold F35 stepD qg0
 simp only at *
 by_cases k1 : kd = 1
 ·subst k1
  simp only [Int.reduceBEq, cond_true, Bool.and_eq_true, qK, decide_eq_true_eq] at hd ⊢
  obtain ⟨hA, hB, hN, hle⟩ := hd
  have hb := fine _ (jF (l := Bs) (i := n) (by omega) (by omega))
  have q1 := np _ (jF (l := pu) (i := b) (by omega) (by omega))
  have q2 := nc _ (jF (l := ca) (i := a) (by omega) (by omega))
  have q3 := ns _ (jF (l := st) (i := a) (by omega) (by omega))
  have q4 := z1 (i := a) (by omega) (by omega)
  have q5 := z2 (i := b) (by omega) (by omega)
  have e1 : ∀ {R : Type} (k : Option R), jS a st.length k = k := fun k => qE (by omega) (by omega) k
  have e2 : ∀ {R : Type} (k : Int → Option R), qc st a k = k (gd st a) := fun k => qp (by omega) (by omega) k
  have e3 : ∀ {R : Type} (k : Bun → Option R), qc Bs n k = k (gd Bs n) := fun k => qp (by omega) (by omega) k
  have e4 : ∀ {R : Type} (k : Option R), jS b pu.length k = k := fun k => qE (by omega) (by omega) k
  have e5 : ∀ {R : Type} (k : (Int × Int) → Option R), qc pu b k = k (gd pu b) := fun k => qp (by omega) (by omega) k
  have w5 : IntKind.wrap .i64 (gd st a - (gd Bs n).1) = gd st a - (gd Bs n).1 := wI (by omega) (by omega)
  have w6 : IntKind.wrap .i64 ((gd pu b).1 + (gd Bs n).1) = (gd pu b).1 + (gd Bs n).1 := wI (by omega) (by omega)
  have w7 : IntKind.wrap .i64 (sd + (gd Bs n).1) = sd + (gd Bs n).1 := wI (by omega) (by omega)
  simp only [qhq, qY, e3, qaf, qag, e1, e2, e4, e5, w5, w6, w7]
  rw [g61_eq _ _ _ _ _ _ (by omega) (by simp only; omega) (wI (by simp only; omega) (by simp only; omega)) (wI (by simp only; omega) (by simp only; omega))]
  rfl
 by_cases k2 : kd = 2
 ·subst k2
  simp only [Int.reduceBEq, cond_true, cond_false, Bool.and_eq_true, Bool.or_eq_true, qK, decide_eq_true_eq] at hd ⊢
  obtain ⟨hA, hB, hN, hle⟩ := hd
  have q1 := np _ (jF (l := pu) (i := a) (by omega) (by omega))
  have q2 := nb _ (jF (l := bo) (i := b) (by omega) (by omega))
  have q4 := z3 (i := b) (by omega) (by omega)
  have q5 := z2 (i := a) (by omega) (by omega)
  have e1 : ∀ {R : Type} (k : Option R), jS a pu.length k = k := fun k => qE (by omega) (by omega) k
  have e2 : ∀ {R : Type} (k : (Int × Int) → Option R), qc pu a k = k (gd pu a) := fun k => qp (by omega) (by omega) k
  have e4 : ∀ {R : Type} (k : Option R), jS b bo.length k = k := fun k => qE (by omega) (by omega) k
  have e5 : ∀ {R : Type} (k : Int → Option R), qc bo b k = k (gd bo b) := fun k => qp (by omega) (by omega) k
  rw [g59_eq _ _ _ (by omega) (by simp only; omega), qb]
  simp only [e1, e2, e4, e5, qY]
  by_cases hlt : at' < (gd pu a).2
  ·rw [qX hlt, cond_true]
   rfl
  ·rw [jC hlt, cond_false, cond_false, cond_false, wI (by omega) (by omega), wI (by omega) (by omega), wI (by omega) (by omega)]
   rfl
 by_cases k3 : kd = 3
 ·subst k3
  simp only [Int.reduceBEq, cond_true, cond_false, Bool.and_eq_true, qK, beq_iff_eq] at hd ⊢
  obtain ⟨hA, hB, hN⟩ := hd
  have q2 := nc _ (jF (l := ca) (i := a) (by omega) (by omega))
  have e4 : ∀ {R : Type} (k : Option R), jS b pu.length k = k := fun k => qE (by omega) (by omega) k
  have e5 : ∀ {R : Type} (k : (Int × Int) → Option R), qc pu b k = k (gd pu b) := fun k => qp (by omega) (by omega) k
  simp only [e4, e5, qY]
  rw [g61_eq _ _ _ _ _ _ (by omega) (by simp only; omega) (wI (by simp only; omega) (by simp only; omega)) (wI (by simp only; omega) (by simp only; omega))]
  rfl
 by_cases k4 : kd = 4
 ·subst k4
  simp only [Int.reduceBEq, cond_true, cond_false, Bool.and_eq_true, qK, decide_eq_true_eq] at hd ⊢
  obtain ⟨hA, hB, hN, hle, hcs⟩ := hd
  have q1 := np _ (jF (l := pu) (i := b) (by omega) (by omega))
  have q2 := nc _ (jF (l := ca) (i := a) (by omega) (by omega))
  have q3 := ns _ (jF (l := st) (i := a) (by omega) (by omega))
  have q4 := z1 (i := a) (by omega) (by omega)
  have q5 := z2 (i := b) (by omega) (by omega)
  have m0 : 0 ≤ n * rf := Int.mul_nonneg (by omega) r0
  have m1 : n * rf ≤ 100000 * 1000 := Int.mul_le_mul hN.2 r1 r0 (by omega)
  have e1 : ∀ {R : Type} (k : Option R), jS a st.length k = k := fun k => qE (by omega) (by omega) k
  have e2 : ∀ {R : Type} (k : Int → Option R), qc st a k = k (gd st a) := fun k => qp (by omega) (by omega) k
  have e4 : ∀ {R : Type} (k : Option R), jS b pu.length k = k := fun k => qE (by omega) (by omega) k
  have e5 : ∀ {R : Type} (k : (Int × Int) → Option R), qc pu b k = k (gd pu b) := fun k => qp (by omega) (by omega) k
  have w5 : IntKind.wrap .i64 ((gd pu b).1 - n) = (gd pu b).1 - n := wI (by omega) (by omega)
  have w6 : IntKind.wrap .i64 (gd st a + n) = gd st a + n := wI (by omega) (by omega)
  have w7 : IntKind.wrap .i64 (rt + n) = rt + n := wI (by omega) (by omega)
  have w8 : IntKind.wrap .i64 (0 - n) = 0 - n := wI (by omega) (by omega)
  have m2 : (0 - n) * rf = -(n * rf) := by rw [Int.sub_mul, Int.zero_mul, Int.zero_sub]
  have w9 : IntKind.wrap .i64 (-(n * rf)) = -(n * rf) := wI (by omega) (by omega)
  simp only [e1, e2, e4, e5, w5, w6, w7, w8, m2, w9, qY]
  rw [g61_eq _ _ _ _ _ _ (by omega) (by simp only; omega) (wI (by simp only; omega) (by simp only; omega)) (wI (by simp only; omega) (by simp only; omega))]
  rfl
 by_cases k5 : kd = 5
 ·subst k5
  simp only [Int.reduceBEq, cond_true, cond_false, Bool.and_eq_true, qK, beq_iff_eq] at hd ⊢
  obtain ⟨hA, hB, hN⟩ := hd
  have q3 := ns _ (jF (l := st) (i := a) (by omega) (by omega))
  have q4 := z1 (i := a) (by omega) (by omega)
  have q5 := nb _ (jF (l := bo) (i := b) (by omega) (by omega))
  have q6 := z3 (i := b) (by omega) (by omega)
  have e1 : ∀ {R : Type} (k : Option R), jS a st.length k = k := fun k => qE (by omega) (by omega) k
  have e2 : ∀ {R : Type} (k : Int → Option R), qc st a k = k (gd st a) := fun k => qp (by omega) (by omega) k
  have e4 : ∀ {R : Type} (k : Option R), jS b bo.length k = k := fun k => qE (by omega) (by omega) k
  have e5 : ∀ {R : Type} (k : Int → Option R), qc bo b k = k (gd bo b) := fun k => qp (by omega) (by omega) k
  have w5 : IntKind.wrap .i64 (gd st a + gd bo b) = gd st a + gd bo b := wI (by omega) (by omega)
  simp only [e1, e2, e4, e5, w5, qY]
  rfl
 by_cases k6 : kd = 6
 ·subst k6
  simp only [Int.reduceBEq, cond_true, cond_false, Bool.and_eq_true, qK, decide_eq_true_eq, Bool.not_eq_true', beq_eq_false_iff_ne] at hd ⊢
  obtain ⟨hA, hB, hne, hN, hle⟩ := hd
  have q1 := np _ (jF (l := pu) (i := b) (by omega) (by omega))
  have q5 := z2 (i := b) (by omega) (by omega)
  have q7 := z2 (i := a) (by omega) (by omega)
  have e1 : ∀ {R : Type} (k : Option R), jS a pu.length k = k := fun k => qE (by omega) (by omega) k
  have e2 : ∀ {R : Type} (k : (Int × Int) → Option R), qc pu a k = k (gd pu a) := fun k => qp (by omega) (by omega) k
  have e3 : ∀ (v : Int × Int), gd (pu.set a.toNat v) b = gd pu b := fun v => qaO (by omega) (by omega) (Ne.symm hne)
  have e4 : ∀ {R : Type} (v : Int × Int) (k : Option R), jS b (pu.set a.toNat v).length k = k := fun v k => qE (by omega) (by rw [List.length_set]; omega) k
  have e5 : ∀ {R : Type} (v : Int × Int) (k : (Int × Int) → Option R), qc (pu.set a.toNat v) b k = k (gd pu b) := fun v k => by rw [qp (by omega) (by rw [List.length_set]; omega), e3]
  have w5 : IntKind.wrap .i64 ((gd pu b).1 + n) = (gd pu b).1 + n := wI (by omega) (by omega)
  have w6 : IntKind.wrap .i64 ((gd pu a).1 - n) = (gd pu a).1 - n := wI (by omega) (by omega)
  simp only [e1, e2, e4, e5, w5, w6, qY]
  unfold mv
  rw [e3]
  rfl
 by_cases k7 : kd = 7
 ·subst k7
  simp only [Int.reduceBEq, cond_true, cond_false, Bool.and_eq_true, qK, decide_eq_true_eq, beq_iff_eq] at hd ⊢
  obtain ⟨hA, hB, hN, hle⟩ := hd
  have q6 := np _ (jF (l := pu) (i := a) (by omega) (by omega))
  have q7 := z2 (i := a) (by omega) (by omega)
  have e1 : ∀ {R : Type} (k : Option R), jS a pu.length k = k := fun k => qE (by omega) (by omega) k
  have e2 : ∀ {R : Type} (k : (Int × Int) → Option R), qc pu a k = k (gd pu a) := fun k => qp (by omega) (by omega) k
  have w5 : IntKind.wrap .i64 (lo + n) = lo + n := wI (by omega) (by omega)
  have w6 : IntKind.wrap .i64 ((gd pu a).1 - n) = (gd pu a).1 - n := wI (by omega) (by omega)
  have w7 : IntKind.wrap .i64 (ls' + n) = ls' + n := wI (by omega) (by omega)
  simp only [e1, e2, w5, w6, w7, qY]
  rfl
 ·simp only [beq_false_of_ne k1, beq_false_of_ne k2, beq_false_of_ne k3, beq_false_of_ne k4, beq_false_of_ne k5, beq_false_of_ne k6, beq_false_of_ne k7, cond_false] at hd
  cases hd
def first (n : Nat) (q : Nat → Bool) : Option Nat := (List.range n).find? q
theorem qeE {n : Nat} {q : Nat → Bool} : first n q = none ↔ ∀ j, j < n → q j = false := by
 unfold first
 rw [List.find?_eq_none]
 simp
theorem qhn {n : Nat} {q : Nat → Bool} {i : Nat} : first n q = some i ↔ i < n ∧ q i = true ∧ ∀ j, j < i → q j = false := by
 unfold first
 rw [List.find?_range_eq_some]
 simp only [List.mem_range, Bool.not_eq_true']
 constructor
 ·rintro ⟨h1, h2, h3⟩; exact ⟨h2, h1, h3⟩
 ·rintro ⟨h1, h2, h3⟩; exact ⟨h2, h1, h3⟩
theorem qih {D R : Type} {L : Nat → D → Option R} (mk : Nat → D) (n : Nat) (q : Nat → Bool) (hit : Nat → R) (e : R) (c : Nat) {N : Nat} (hN : n + c < N)
  (hend : ∀ N, (∀ j, j < n → q j = false) → L (N + 1) (mk n) = some e)
  (hstep : ∀ N i, c ≤ N → i < n → (∀ j, j < i → q j = false) → L (N + 1) (mk i) = bif q i then some (hit i) else L N (mk (i + 1))) :
  L N (mk 0) = some (match first n q with | some i => hit i | none => e) := by
 have key : ∀ (d i : Nat) (N : Nat), i + d = n → d + c < N → (∀ j, j < i → q j = false) → L N (mk i) = some (match first n q with | some i => hit i | none => e) := by
  intro d
  induction d with
  | zero =>
   intro i N hi hN hq
   obtain ⟨m, rfl⟩ : ∃ m, N = m + 1 := ⟨N - 1, by omega⟩
   obtain rfl : i = n := by omega
   rw [hend m hq, qeE.2 hq]
  | succ d ih =>
   intro i N hi hN hq
   obtain ⟨m, rfl⟩ : ∃ m, N = m + 1 := ⟨N - 1, by omega⟩
   rw [hstep m i (by omega) (by omega) hq]
   cases h : q i with
   | true => rw [cond_true, qhn.2 ⟨by omega, h, hq⟩]
   | false =>
    rw [cond_false]
    refine ih (i + 1) m (by omega) (by omega) fun j hj => ?_
    by_cases e : j = i
    ·rw [e, h]
    ·exact hq j (by omega)
 exact key n 0 N (by omega) hN fun j hj => absurd hj (by omega)
def stC (f : Fair) (l : List qcI) : Nat → Cnt
 | 0 => cnt0 f
 | i + 1 => stepD f (stC f l i) (gd l (i : Int))
def stT (f : Fair) (l : List qcI) : Nat → qeo
 | 0 => nt0
 | i + 1 => qg0 f (stC f l i) (gd l (i : Int)) (stT f l i)
def lastT (l : List qcI) : Nat → Int
 | 0 => 0
 | i + 1 => (gd l (i : Int)).1
def bad (f : Fair) (l : List qcI) (i : Nat) : Bool := !(j9 (gd l (i : Int)).1 (lastT l i) 1440 && okD f (stC f l i) (gd l (i : Int)))
theorem Inv.all {f : Fair} (hf : Ok f) (l : List qcI) : ∀ i : Nat, (∀ j, j < i → bad f l j = false) → Inv f (stC f l i) i
 | 0, _ => .zero hf
 | i + 1, h => by
  refine (Inv.all hf l i fun j hj => h j (by omega)).step hf ?_
  have := h i (by omega)
  unfold bad at this
  rw [Bool.not_eq_false', Bool.and_eq_true] at this
  exact this.2
theorem NInv.all {f : Fair} (hf : Ok f) (l : List qcI) : ∀ i : Nat, (∀ j, j < i → bad f l j = false) → NInv (stT f l i) i
 | 0, _ => .zero
 | i + 1, h => by
  refine (NInv.all hf l i fun j hj => h j (by omega)).step hf (Inv.all hf l i fun j hj => h j (by omega)) ?_
  have := h i (by omega)
  unfold bad at this
  rw [Bool.not_eq_false', Bool.and_eq_true] at this
  exact this.2
def qdy (f : Fair) (l : List qcI) (i : Nat) : qf8 := (f, (stC f l i, (lastT l i, stT f l i)))
theorem g55_eq (l : List Int) (h : l.length ≤ 1000000) : g55 (l, ()) = some ((l, ()), ()) := by
 show F55 qi l = _
 unfold F55
 refine nilK_of (fun h0 => ?_) ?_
 ·rw [List.length_eq_zero_iff.1 h0]; rfl
 ·rw [cond_false, jR (by simp <;> omega) (by simp <;> omega), List.nil_append]
theorem g33_eq {f : Fair} (hf : Ok f) : g33 (f, ()) = some ((qdy f [] 0, ()), ()) := by
 have e0 : g33 (f, ()) = F33 qi f := rfl
 rw [e0]
 have h1 := hf.s8
 have h2 := hf.c8
 have h3 := hf.p0
 have h4 := hf.p1
 have h5 := hf.b0
 have h6 := hf.b1
 have e1 : g55 (f.2.2.1, ()) = some ((f.2.2.1, ()), ()) := g55_eq _ (by omega)
 have e2 : g55 (f.2.2.2.1, ()) = some ((f.2.2.2.1, ()), ()) := g55_eq _ (by omega)
 have l1 : ∀ {R : Type} (k : Option R), jG 0 f.1 k = k := fun k => qaz h3 k
 have l2 : ∀ {R : Type} (k : Option R), jG f.1 f.1 k = k := fun k => qaz (Int.le_refl _) k
 have l3 : ∀ {R : Type} (k : Option R), qB f.1 k = k := fun k => jR h3 (by omega) k
 have l4 : ∀ {R : Type} (k : Option R), jG 0 f.2.1 k = k := fun k => qaz h5 k
 have l5 : ∀ {R : Type} (k : Option R), jG f.2.1 f.2.1 k = k := fun k => qaz (Int.le_refl _) k
 have l6 : ∀ {R : Type} (k : Option R), qB f.2.1 k = k := fun k => jR h5 (by omega) k
 unfold F33
 simp only [qhq, e1, e2, qb, l1, l2, l3, l4, l5, l6, qY, qaf, qag]
 rfl
def resL (f : Fair) (l : List qcI) : ((Option qf8 × Int × Int × Unit) × Unit × Unit) ⊕ (Unit × (qf8 × Unit) × Unit) :=
 match first l.length (bad f l) with
 | some i => .inl ((none, (i : Int), 11, ()), (), ())
 | none => .inr ((), (qdy f l l.length, ()), ())
theorem qlN {f : Fair} (hf : Ok f) (l : List qcI) (hl : l.length ≤ 200) : L10015_8 qi ((l, (l.length : Int), 0, ()), (qdy f [] 0, ()), ()) = some (resL f l) := by
 have hfu := qcx
 have h := qih (L := L10015_8) (fun i => ((l, (l.length : Int), (i : Int), ()), (qdy f l i, ()), ())) l.length (bad f l) (fun i => .inl ((none, (i : Int), 11, ()), (), ())) (.inr ((), (qdy f l l.length, ()), ())) 0 (N := qi) (by omega)
  (fun N _ => by simp only [L10015_8, B10015_8]; rw [jC (by omega), cond_false])
  (fun N i _ hi hb => by
   have hI := Inv.all hf l i hb
   simp only [L10015_8, B10015_8]
   rw [qX (by omega), cond_true, qp (by omega) (by omega)]
   have e := g34_eq hf hI (lastT l i) (stT f l i) (gd l (i : Int))
   have e' : g34 (qdy f l i, gd l (i : Int), ()) = _ := e
   rw [e', qb]
   unfold bad
   cases hg : (j9 (gd l (i : Int)).1 (lastT l i) 1440 && okD f (stC f l i) (gd l (i : Int)))
   ·rfl
   ·rw [Bool.and_eq_true] at hg
    have e2 := g35_eq hf hI (by omega) (lastT l i) (NInv.all hf l i hb) hg.2
    have e2' : g35 (qdy f l i, gd l (i : Int), ()) = some ((), (qdy f l (i + 1), ())) := e2
    simp only [Bool.not_true, cond_false]
    rw [e2', qb]
    have e3 : g16 ((qdy f l (i + 1)), ()) = some ((), ()) := rfl
    simp only
    rw [e3, qb, wI (by omega) (by omega)]
    rfl)
 exact h
def wrong (f : Fair) (l : List qcI) : Option (Int × Int) :=
 if fairOK f = false then some (0, 10) else if 200 < l.length then some (0, 2) else match first l.length (bad f l) with | some i => some ((i : Int), 11) | none => none
theorem wrong_of {f : Fair} {l : List qcI} (h1 : fairOK f = true) (h2 : l.length ≤ 200) (h3 : ∀ j, j < l.length → bad f l j = false) : wrong f l = none := by
 unfold wrong
 rw [if_neg (by rw [h1]; decide), if_neg (by omega), qeE.2 h3]
theorem g10015_eq (f : Fair) (hs : Sized f) (l : List qcI) : g10015 (f, l, (), ()) = match wrong f l with | some _ => none | none => some ((qdy f l l.length, 0, 0, ()), ()) := by
 have e0 : g10015 (f, l, (), ()) = F10015 qi f l () := rfl
 rw [e0]
 unfold F10015 wrong
 rw [g17_eq f hs, qb]
 by_cases hv : fairOK f = false
 ·rw [hv]; rfl
 have hv' : fairOK f = true := by simpa using hv
 rw [if_neg hv, hv', if_pos rfl, show ((0 : Int) != 0) = false from rfl, cond_false]
 by_cases hl : 200 < l.length
 ·rw [qX (by omega), cond_true, if_pos hl]
 ·rw [jC (by omega), cond_false, if_neg hl, g33_eq (.of hv'), qb]
  simp only
  rw [qlN (.of hv') l (by omega), qb]
  unfold resL
  cases first l.length (bad f l) <;> rfl
def exF : Fair := (2, 2, [100, 50], [0, 1000], [(1, 200), (6, 1000)], 150, 2500, 180)
theorem ex_pays {t p : Int} (h : j8 [(1, 200), (6, 1000)] t p) : ∃ a b : Nat, t = a + 6 * b ∧ p = 200 * a + 1000 * b := by
 obtain ⟨a, h1⟩ := h.count
 obtain ⟨b, h2⟩ := h1.count
 revert h2
 generalize e1 : t - (a : Int) * ((1, 200) : Bun).1 - (b : Int) * ((6, 1000) : Bun).1 = x
 generalize e2 : p - (a : Int) * ((1, 200) : Bun).2 - (b : Int) * ((6, 1000) : Bun).2 = y
 intro h2
 cases h2
 simp only at e1 e2
 exact ⟨a, b, by omega, by omega⟩
theorem ex_pays1 {t p : Int} (h : j8 [(6, 1000)] t p) : ∃ b : Nat, t = 6 * b ∧ p = 1000 * b := by
 obtain ⟨b, h2⟩ := h.count
 revert h2
 generalize e1 : t - (b : Int) * ((6, 1000) : Bun).1 = x
 generalize e2 : p - (b : Int) * ((6, 1000) : Bun).2 = y
 intro h2
 cases h2
 simp only at e1 e2
 exact ⟨b, by omega, by omega⟩
theorem ex_buys : qhM exF.2.2.2.2.1 7 [1, 1] 1200 := by
 show qhM [(1, 200), (6, 1000)] 7 [1, 1] 1200
 have p6 : j8 [(6, 1000)] 6 1000 := j8.take (b := (6, 1000)) (t := 0) (p := 0) (.zero _)
 have p7 : j8 [(1, 200), (6, 1000)] 7 1200 := j8.take (b := (1, 200)) (t := 6) (p := 1000) (.skip p6)
 refine ⟨7, ⟨Nat.le_refl _, by decide, p7, fun t' h1 h2 p' hp => ?_⟩, ?_⟩
 ·obtain ⟨a, b, e1, e2⟩ := ex_pays hp
  omega
 ·refine .cons (k := 1) ⟨by decide, p6, fun j hj hp => ?_⟩ (.cons (k := 1) ⟨by decide, .zero _, fun j hj hp => ?_⟩ ?_)
  ·obtain ⟨b, e1, e2⟩ := ex_pays1 hp
   simp only at e1 e2
   omega
  ·revert hp
   generalize e1 : ((7 : Nat) : Int) - 1 * ((1, 200) : Bun).1 - j * ((6, 1000) : Bun).1 = x
   generalize e2 : (1200 : Int) - 1 * ((1, 200) : Bun).2 - j * ((6, 1000) : Bun).2 = y
   intro hp
   cases hp
   simp only at e1 e2
   omega
  ·exact .nil
theorem g19_eq (f : Fair) (hl : qb2 f.2.2.2.2.1) (hk : f.2.2.2.2.1.length ≤ 6) (n : Nat) (hn : n ≤ 1000) :
  (qf9 f.2.2.2.2.1 n ∧ g19 (f, (n : Int), ()) = some (([], 0, 3, ()), ())) ∨ ∃ r p, qhM f.2.2.2.2.1 n r p ∧ g19 (f, (n : Int), ()) = some ((r, p, 0, ()), ()) := by
 have e0 : g19 (f, (n : Int), ()) = F19 qi f n := rfl
 rw [e0]
 unfold F19
 rcases g40_eq f.2.2.2.2.1 hl hk n hn with ⟨h, h2⟩ | ⟨r, p, h, h1, h2⟩
 ·left
  exact ⟨h, by rw [h2]; rfl⟩
 ·right
  exact ⟨r, p, h, by rw [h2, h1]; rfl⟩
theorem g12_eq (f : Fair) (hs : Sized f) (n : Int) : ∃ x, qhN f n x ∧ g12 (f, n, ()) = some ((x.1, x.2.1, x.2.2, ()), ()) := by
 have e0 : g12 (f, n, ()) = F12 qi f n := rfl
 rw [e0]
 unfold F12
 rw [g17_eq f hs, qb]
 by_cases hv : fairOK f = false
 ·refine ⟨([], 0, 10), by unfold qhN; rw [if_pos hv], ?_⟩
  rw [hv]; rfl
 have hv' : fairOK f = true := by simpa using hv
 rw [hv', if_pos rfl, show ((0 : Int) != 0) = false from rfl, cond_false, g18_eq, qb]
 by_cases hn : j9 n 0 1000 = false
 ·refine ⟨([], 0, 1), by unfold qhN; rw [if_neg hv, if_pos hn], ?_⟩
  rw [hn]; rfl
 have hn' : j9 n 0 1000 = true := by simpa using hn
 have hr := qK.1 hn'
 rw [hn', Bool.not_true, cond_false]
 obtain ⟨hl, hk⟩ := qf2 hv'
 obtain ⟨m, rfl⟩ : ∃ m : Nat, n = m := ⟨n.toNat, by omega⟩
 rcases g19_eq f hl hk m (by omega) with ⟨h, h1⟩ | ⟨r, p, h, h1⟩
 ·refine ⟨([], 0, 3), ?_, by rw [h1]; rfl⟩
  unfold qhN
  rw [if_neg hv, if_neg hn, if_pos]
  refine ⟨?_, ?_⟩
  ·exact Classical.byContradiction fun hne => qid hl (.inr hne) h
  ·exact Classical.byContradiction fun hne => qid hl (.inl (by omega)) h
 ·refine ⟨(r, p, 0), ?_, by rw [h1]; rfl⟩
  unfold qhN
  rw [if_neg hv, if_neg hn, if_neg, Int.toNat_natCast]
  ·exact ⟨rfl, h⟩
  ·rintro ⟨e1, e2⟩
   rw [e1] at h
   exact qhC h (qlL (by omega))
theorem g11_eq (a b : List Int) (ha : a.length ≤ 1000000000) : g11 (a, b, ()) = some ((decide (a = b), ()), ()) := by
 have hfu := qcx
 have e0 : g11 (a, b, ()) = F11 qi a b := rfl
 rw [e0]
 unfold F11
 by_cases hl : a.length = b.length
 ·rw [show ((a.length : Int) != (b.length : Int)) = false by rw [hl, bne_self_eq_false], cond_false]
  have h := qih (L := L11_4) (fun i => ((a, b, (i : Int), ()), (), ())) a.length (fun i => decide (gd a (i : Int) ≠ gd b (i : Int))) (fun _ => .inl ((false, ()), (), ())) (.inr ((), (), ())) 0 (N := qi) (by omega)
   (fun N _ => by simp only [L11_4, B11_4]; rw [jC (by omega), cond_false])
   (fun N i _ hi _ => by
    simp only [L11_4, B11_4]
    rw [qX (by omega), cond_true, qp (by omega) (by omega), qp (by omega) (by omega), wI (by omega) (by omega)]
    by_cases he : gd a (i : Int) = gd b (i : Int)
    ·rw [he, bne_self_eq_false, jC (fun h => h rfl)]
     rfl
    ·rw [bne_iff_ne.2 he, qX he]
     rfl)
  have h' : L11_4 qi ((a, b, 0, ()), (), ()) = _ := h
  rw [h', qb]
  cases hq : first a.length (fun i => decide (gd a (i : Int) ≠ gd b (i : Int))) with
  | none =>
   rw [qeE] at hq
   have : a = b := qkI hl fun i hi => by
    have := hq i hi
    rw [decide_eq_false_iff_not] at this
    exact Classical.not_not.1 this
   rw [qX this]
   rfl
  | some i =>
   rw [qhn] at hq
   have := of_decide_eq_true hq.2.1
   rw [jC (p := a = b) fun h => this (by rw [h])]
   rfl
 ·rw [bne_iff_ne.2 (fun h => hl (by omega)), cond_true, jC (fun h => hl (by rw [h]))]
def exT : Fair := (0, 0, [5], [0], [(1, 200), (6, 1000)], 0, 0, 1)
theorem exT_ok : fairOK exT = true := by decide
theorem exT_s : Sized exT := by unfold Sized exT; simp
theorem buyT : g12 (exT, 7, ()) = some (([1, 1], 1200, 0, ()), ()) := by
 obtain ⟨x, h1, h2⟩ := g12_eq exT exT_s 7
 have h3 : qhN exT 7 ([1, 1], 1200, 0) := by
  unfold qhN
  rw [if_neg (by rw [exT_ok]; decide), if_neg (by decide), if_neg (by unfold exT; simp)]
  exact ⟨rfl, ex_buys⟩
 obtain rfl := h1.uniq h3
 exact h2
theorem root01 : g11 ([1, 1], [1, 1], ()) = some ((true, ()), ()) := g11_eq [1, 1] [1, 1] (by simp)
theorem root10052 (f : Fair) (hs : Sized f) (l : List qcI) : g10015 (f, l, (), ()) = match wrong f l with | some _ => none | none => some ((qdy f l l.length, 0, 0, ()), ()) := g10015_eq f hs l
theorem rootWrong {f : Fair} {l : List qcI} (h1 : fairOK f = true) (h2 : l.length ≤ 200) (h3 : ∀ j, j < l.length → bad f l j = false) : wrong f l = none := wrong_of h1 h2 h3
end Go.Proofs.Tryz.V.L01
