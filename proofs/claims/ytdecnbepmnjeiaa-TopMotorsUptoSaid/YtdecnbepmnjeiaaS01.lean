/- Plain laws: what the last text needs of the others, in one. No condition beyond those typed in each theorem. -/
import Derived.Test.YtdecnbepmnjeiaaFn4
namespace Go.Proofs.Try.V.L01
open Go.Vi
set_option maxRecDepth 100000
abbrev Bun := Int × Int
abbrev qev := Int × (Int × ((List Int) × ((List Int) × ((List Bun) × (Int × (Int × Int))))))
abbrev Cnt := (List Int) × ((List Int) × ((List (Int × Int)) × ((List Int) × Int)))
abbrev Night := Int × (Int × (Int × (Int × (Int × Int))))
theorem loopIdx {α D R : Type} [Inhabited α] {L : Nat → D → Option R} (mk : Nat → D) (l : List α) (q : α → Bool) (hit : Nat → R) (e : R) (c : Nat) {N : Nat} (hN : l.length + c < N)
  (hend : ∀ N, L (N + 1) (mk l.length) = some e)
  (hstep : ∀ N i, c ≤ N → i < l.length → L (N + 1) (mk i) = if q (gd l (i : Int)) then some (hit i) else L N (mk (i + 1))) :
  L N (mk 0) = some (match l.findIdx? q with | some i => hit i | none => e) := by
 have key : ∀ (d i : Nat) (N : Nat), i + d = l.length → d + c < N → L N (mk i) = some (match (l.drop i).findIdx? q with | some j => hit (i + j) | none => e) := by
  intro d
  induction d with
  | zero =>
   intro i N hi hN
   obtain ⟨m, rfl⟩ : ∃ m, N = m + 1 := ⟨N - 1, by omega⟩
   obtain rfl : i = l.length := by omega
   rw [hend, List.drop_length]
   rfl
  | succ d ih =>
   intro i N hi hN
   obtain ⟨m, rfl⟩ : ∃ m, N = m + 1 := ⟨N - 1, by omega⟩
   rw [hstep m i (by omega) (by omega), qdR (by omega), List.findIdx?_cons]
   cases hq : q (gd l (i : Int)) with
   | true => rfl
   | false =>
    rw [if_neg (by simp), ih (i + 1) m (by omega) (by omega)]
    simp only [Bool.false_eq_true, if_false]
    cases (l.drop (i + 1)).findIdx? q with
    | none => rfl
    | some j =>
     simp only [Option.map_some]
     rw [show i + (j + 1) = i + 1 + j by omega]
 have := key l.length 0 N (by omega) hN
 simpa using this
theorem qip {α : Type} {l : List α} {q : α → Bool} : (l.findIdx? q).isNone = l.all (fun x => !q x) := by
 induction l with
 | nil => rfl
 | cons x l _ =>
  rw [List.findIdx?_cons, List.all_cons]
  cases q x with
  | true => rfl
  | false => simp
def idxI {α : Type} (l : List α) (q : α → Bool) : Int := match l.findIdx? q with | some i => (i : Int) | none => -1
theorem idxI_nn {α : Type} (l : List α) (q : α → Bool) : decide (idxI l q ≥ 0) = l.any q := by
 have h := qip (l := l) (q := q)
 unfold idxI
 cases hf : l.findIdx? q with
 | some i =>
  rw [hf] at h
  simp only [Option.isNone_some] at h
  show decide ((i : Int) ≥ 0) = _
  rw [qM (by omega)]
  rw [List.all_eq_not_any_not] at h
  simpa using h
 | none =>
  rw [hf] at h
  simp only [Option.isNone_none] at h
  show decide ((-1 : Int) ≥ 0) = _
  rw [qL (by omega)]
  rw [List.all_eq_not_any_not] at h
  simpa using h
def rng (x lo hi : Int) : Bool := decide (lo ≤ x) && decide (x ≤ hi)
theorem jL {x lo hi : Int} : rng x lo hi = true ↔ lo ≤ x ∧ x ≤ hi := by unfold rng; rw [Bool.and_eq_true, decide_eq_true_iff, decide_eq_true_iff]
theorem g19_eq (x lo hi : Int) : g19 (x, lo, hi, ()) = some ((rng x lo hi, ()), ()) := by
 show F19 qj x lo hi = _
 unfold F19 rng
 by_cases h : lo ≤ x
 ·rw [qM (p := x ≥ lo) h]; rfl
 ·rw [qL (p := x ≥ lo) h]; rfl
theorem g69_eq (l : List Int) (hl : l.length ≤ 1099511627) (f : Int → Option Bool) (q : Int → Bool) (hf : ∀ x ∈ l, f x = some (q x)) : g69 (l, f, ()) = some ((idxI l q, ()), ()) := by
 show F69 qj l f = _
 unfold F69
 have h := loopIdx (L := L69_2) (fun i => ((l, f, (l.length : Int), (i : Int), ()), (), ())) l q (fun i => .inl (((i : Int), ()), (), ())) (.inr ((), (), ())) 0 (N := qj) (by have := jP; omega)
  (fun N => by simp [L69_2, B69_2])
  (fun N i _ hi => by
   simp only [L69_2, B69_2]
   rw [qM (by omega), cond_true, qv (by omega) (by omega), hf _ (j6 (by omega) (by omega)), qd, wI (by omega) (by omega)]
   cases q (gd l (i : Int)) <;> rfl)
 have h' : L69_2 qj ((l, f, (l.length : Int), 0, ()), (), ()) = _ := h
 rw [h', qd]
 unfold idxI
 cases l.findIdx? q <;> rfl
theorem g70_eq (l : List Bun) (hl : l.length ≤ 1099511627) (f : Bun → Option Bool) (q : Bun → Bool) (hf : ∀ x ∈ l, f x = some (q x)) : g70 (l, f, ()) = some ((idxI l q, ()), ()) := by
 show F70 qj l f = _
 unfold F70
 have h := loopIdx (L := L70_2) (fun i => ((l, f, (l.length : Int), (i : Int), ()), (), ())) l q (fun i => .inl (((i : Int), ()), (), ())) (.inr ((), (), ())) 0 (N := qj) (by have := jP; omega)
  (fun N => by simp [L70_2, B70_2])
  (fun N i _ hi => by
   simp only [L70_2, B70_2]
   rw [qM (by omega), cond_true, qv (by omega) (by omega), hf _ (j6 (by omega) (by omega)), qd, wI (by omega) (by omega)]
   cases q (gd l (i : Int)) <;> rfl)
 have h' : L70_2 qj ((l, f, (l.length : Int), 0, ()), (), ()) = _ := h
 rw [h', qd]
 unfold idxI
 cases l.findIdx? q <;> rfl
theorem g52_eq (l : List Int) (hl : l.length ≤ 1099511627) (f : Int → Option Bool) (q : Int → Bool) (hf : ∀ x ∈ l, f x = some (q x)) : g52 (l, f, ()) = some ((l.any q, ()), ()) := by
 show F52 qj l f = _
 unfold F52
 rw [g69_eq l hl f q hf, qd, idxI_nn]
theorem g53_eq (l : List Bun) (hl : l.length ≤ 1099511627) (f : Bun → Option Bool) (q : Bun → Bool) (hf : ∀ x ∈ l, f x = some (q x)) : g53 (l, f, ()) = some ((l.any q, ()), ()) := by
 show F53 qj l f = _
 unfold F53
 rw [g70_eq l hl f q hf, qd, idxI_nn]
theorem qiC {α : Type} {l : List α} {q : α → Bool} : l.any (fun x => !q x) = !l.all q := by
 rw [List.all_eq_not_any_not, Bool.not_not]
def okB (f : qev) (b : Bun) : Bool := rng b.1 1 1000 && (rng b.2 1 1000000 && !decide (IntKind.wrap .i64 (f.2.2.2.2.2.1 * b.1) > b.2))
def qdQ (f : qev) : Bool :=
 rng f.2.2.1.length 1 8 && (((f.2.2.2.1.length : Int) == (f.2.2.1.length : Int)) && (rng f.1 0 20 && (rng f.2.1 0 12 && (decide ((f.2.2.2.2.1.length : Int) ≤ 6) && ((f.2.2.1.all (rng · 0 100000) && f.2.2.2.1.all (rng · 0 1000000)) && (rng f.2.2.2.2.2.1 0 1000 && (rng f.2.2.2.2.2.2.1 0 1000000 && (rng f.2.2.2.2.2.2.2 1 1440 && f.2.2.2.2.1.all (okB f)))))))))
def Sized (f : qev) : Prop := f.2.2.1.length ≤ 1099511627 ∧ f.2.2.2.1.length ≤ 1099511627 ∧ f.2.2.2.2.1.length ≤ 1099511627
theorem qb7 {R : Type} (b : Bool) (x y : R) : cond (!b) x y = cond b y x := by cases b <;> rfl
theorem g18_eq (f : qev) (hs : Sized f) : g18 (f, ()) = some ((if qdQ f then 0 else 10, ()), ()) := by
 obtain ⟨s1, s2, s3⟩ := hs
 show F18 qj f = _
 unfold F18
 have e1 : ∀ lo hi : Int, Mk.m50.p.g (lo, hi, ()) = some ((some lo, some hi, ()), ()) := fun _ _ => rfl
 have e2 : ∀ lo hi : Int, ∀ l : List Int, l.length ≤ 1099511627 → g52 (l, (fun v5 => qa (g51 (v5, lo, hi, ())) fun y6 => some y6.1.1), ()) = some ((l.any (fun x => !rng x lo hi), ()), ()) := by
  intro lo hi l hl
  refine g52_eq l hl _ _ fun x _ => ?_
  show qa (F51 qj x lo hi) _ = _
  unfold F51
  rw [g19_eq]
  rfl
 have e3 : g53 (f.2.2.2.2.1, (fun v19 => qa (g54 (v19, f, ())) fun y20 => some y20.1.1), ()) = some ((f.2.2.2.2.1.any (fun b => !okB f b), ()), ()) := by
  refine g53_eq _ s3 _ _ fun b _ => ?_
  show qa (F54 qj b f) _ = _
  unfold F54 okB
  rw [g19_eq, g19_eq]
  rw [qd, qb7, qd, qb7]
  cases rng b.1 1 1000
  ·rfl
  cases rng b.2 1 1000000
  ·rfl
  rw [Bool.true_and, Bool.true_and, Bool.not_not]
  rfl
 simp only [g19_eq, qd, qb7]
 unfold qdQ
 have d : decide ((f.2.2.2.2.1.length : Int) > 6) = !decide ((f.2.2.2.2.1.length : Int) ≤ 6) := by
  by_cases h : (f.2.2.2.2.1.length : Int) ≤ 6
  ·rw [qM h, qL (by omega)]; rfl
  ·rw [qL h, qM (by omega)]; rfl
 rw [d, bne, qb7, qb7]
 cases rng f.2.2.1.length 1 8
 ·rfl
 cases (f.2.2.2.1.length : Int) == (f.2.2.1.length : Int)
 ·rfl
 cases rng f.1 0 20
 ·rfl
 cases rng f.2.1 0 12
 ·rfl
 cases decide ((f.2.2.2.2.1.length : Int) ≤ 6)
 ·rfl
 simp only [cond_true, Bool.true_and]
 rw [qad (e1 0 100000)]
 have h1 := e2 0 100000 _ s1
 have h2 := e2 0 1000000 _ s2
 rw [qiC] at h1 h2 e3
 refine (qad h1 _).trans ?_
 rw [qb7]
 cases f.2.2.1.all (rng · 0 100000)
 ·rfl
 rw [cond_true, qad (e1 0 1000000)]
 refine (qad h2 _).trans ?_
 rw [qb7]
 cases f.2.2.2.1.all (rng · 0 1000000)
 ·rfl
 rw [cond_true]
 cases rng f.2.2.2.2.2.1 0 1000
 ·rfl
 cases rng f.2.2.2.2.2.2.1 0 1000000
 ·rfl
 cases rng f.2.2.2.2.2.2.2 1 1440
 ·rfl
 rw [cond_true, cond_true, cond_true]
 refine (qad e3 _).trans ?_
 rw [qb7]
 cases f.2.2.2.2.1.all (okB f) <;> rfl
inductive qac : List Bun → Int → Int → Prop
 | nil : qac [] 0 0
 | skip {b : Bun} {l : List Bun} {t p : Int} : qac l t p → qac (b :: l) t p
 | take {b : Bun} {l : List Bun} {t p : Int} : qac (b :: l) t p → qac (b :: l) (t + b.1) (p + b.2)
def qcb (l : List Bun) : Prop := ∀ b ∈ l, 1 ≤ b.1 ∧ b.1 ≤ 1000 ∧ 1 ≤ b.2 ∧ b.2 ≤ 1000000
theorem qcb.tail {b : Bun} {l : List Bun} (h : qcb (b :: l)) : qcb l := fun x hx => h x (List.mem_cons_of_mem _ hx)
theorem qcb.drop {l : List Bun} (h : qcb l) (i : Nat) : qcb (l.drop i) := fun x hx => h x (List.mem_of_mem_drop hx)
theorem qac.zero : ∀ l : List Bun, qac l 0 0
 | [] => .nil
 | _ :: l => .skip (qac.zero l)
theorem qac.le {l : List Bun} {t p : Int} (h : qac l t p) (hf : qcb l) : 0 ≤ t ∧ 0 ≤ p ∧ p ≤ 1000000 * t := by
 induction h with
 | nil => omega
 | skip _ ih => exact ih hf.tail
 | take _ ih =>
  have h1 := ih hf
  have h2 := hf _ (List.mem_cons_self ..)
  omega
theorem qac.of_take {l : List Bun} {t p : Int} {b : Bun} (h : qac l (t - b.1) (p - b.2)) (hb : b ∈ l) : qac l t p := by
 have key : ∀ {l : List Bun} {t p : Int} (_ : qac l t p) (b : Bun), b ∈ l → qac l (t + b.1) (p + b.2) := by
  intro l t p h
  induction h with
  | nil => intro b hb; cases hb
  | @skip a l t p h ih =>
   intro b hb
   rcases List.mem_cons.1 hb with rfl | hb
   ·exact .take (.skip h)
   ·exact .skip (ih b hb)
  | @take a l t p h ih =>
   intro b hb
   have h1 := qac.take (ih b hb)
   rwa [show t + b.1 + a.1 = t + a.1 + b.1 by omega, show p + b.2 + a.2 = p + a.2 + b.2 by omega] at h1
 have := key h b hb
 rwa [show t - b.1 + b.1 = t by omega, show p - b.2 + b.2 = p by omega] at this
theorem qac.cons_iff {b : Bun} {l : List Bun} {t p : Int} : qac (b :: l) t p ↔ qac l t p ∨ qac (b :: l) (t - b.1) (p - b.2) := by
 constructor
 ·intro h
  cases h with
  | skip h => exact .inl h
  | @take _ _ t p h => exact .inr (by rwa [show t + b.1 - b.1 = t by omega, show p + b.2 - b.2 = p by omega])
 ·rintro (h | h)
  ·exact .skip h
  ·exact h.of_take (List.mem_cons_self ..)
theorem qac.cons_mono {b : Bun} {l : List Bun} {t p : Int} (h : qac l t p) : ∀ k : Nat, qac (b :: l) (t + k * b.1) (p + k * b.2)
 | 0 => by rw [show t + ((0 : Nat) : Int) * b.1 = t by simp, show p + ((0 : Nat) : Int) * b.2 = p by simp]; exact .skip h
 | k + 1 => by
  have := qac.take (cons_mono (b := b) h k)
  rwa [show t + (k : Int) * b.1 + b.1 = t + ((k + 1 : Nat) : Int) * b.1 by rw [Int.natCast_succ, Int.add_mul]; omega, show p + (k : Int) * b.2 + b.2 = p + ((k + 1 : Nat) : Int) * b.2 by rw [Int.natCast_succ, Int.add_mul]; omega] at this
theorem qac.count {b : Bun} {l : List Bun} {t p : Int} (h : qac (b :: l) t p) : ∃ k : Nat, qac l (t - k * b.1) (p - k * b.2) := by
 generalize hm : b :: l = m at h
 induction h with
 | nil => cases hm
 | @skip a m t p h _ =>
  cases hm
  exact ⟨0, by rwa [show t - ((0 : Nat) : Int) * b.1 = t by simp, show p - ((0 : Nat) : Int) * b.2 = p by simp]⟩
 | @take a m t p _ ih =>
  cases hm
  obtain ⟨k, h⟩ := ih rfl
  refine ⟨k + 1, ?_⟩
  rwa [show t + b.1 - ((k + 1 : Nat) : Int) * b.1 = t - (k : Int) * b.1 by rw [Int.natCast_succ, Int.add_mul]; omega, show p + b.2 - ((k + 1 : Nat) : Int) * b.2 = p - (k : Int) * b.2 by rw [Int.natCast_succ, Int.add_mul]; omega]
def Ent (N : Int) (l : List Bun) (t e : Int) : Prop := e ≤ N ∧ (e = N ∨ qac l t e) ∧ ∀ p, qac l t p → e ≤ p
def qa4 (l : List Bun) (t p : Int) : Prop := qac l t p ∧ ∀ q, qac l t q → p ≤ q
theorem Ent.least {N : Int} {l : List Bun} {t e : Int} (h : Ent N l t e) (hlt : e < N) : qa4 l t e := by
 obtain ⟨_, h2, h3⟩ := h
 rcases h2 with rfl | h2
 ·omega
 ·exact ⟨h2, h3⟩
theorem Ent.none {N : Int} {l : List Bun} {t : Int} (h : Ent N l t N) (hf : qcb l) (hN : 1000000 * t < N) : ∀ p, ¬ qac l t p := by
 intro p hp
 have := h.2.2 p hp
 have := hp.le hf
 omega
theorem Ent.of_least {N : Int} {l : List Bun} {t e p : Int} (h : Ent N l t e) (hl : qa4 l t p) (hf : qcb l) (hN : 1000000 * t < N) : e = p := by
 have h1 := h.2.2 p hl.1
 have h2 := hl.1.le hf
 rcases h.2.1 with rfl | h3
 ·omega
 ·have := hl.2 e h3; omega
theorem Ent.uniq {N : Int} {l : List Bun} {t e e' : Int} (h : Ent N l t e) (h' : Ent N l t e') (hf : qcb l) (hN : 1000000 * t < N) : e = e' := by
 by_cases h1 : e' < N
 ·exact h.of_least (h'.least h1) hf hN
 ·by_cases h2 : e < N
  ·exact (h'.of_least (h.least h2) hf hN).symm
  ·have := h.1; have := h'.1; omega
theorem qa4.uniq {l : List Bun} {t p q : Int} (h : qa4 l t p) (h' : qa4 l t q) : p = q := by
 have := h.2 q h'.1
 have := h'.2 p h.1
 omega
theorem Ent.nil_zero {N : Int} (hN : 0 ≤ N) : Ent N [] 0 0 := ⟨hN, .inr .nil, fun p h => by cases h; exact Int.le_refl _⟩
theorem Ent.nil_pos {N t : Int} (ht : t ≠ 0) : Ent N [] t N := ⟨Int.le_refl _, .inl rfl, fun p h => by cases h; exact absurd rfl ht⟩
theorem Ent.cons {N : Int} {b : Bun} {l : List Bun} {t e e1 : Int} (h : Ent N l t e) (h1 : Ent N (b :: l) (t - b.1) e1) (hb : e1 < N) : Ent N (b :: l) t (min e (e1 + b.2)) := by
 refine ⟨by have := h.1; omega, ?_, fun p hp => ?_⟩
 ·by_cases hle : e ≤ e1 + b.2
  ·rw [Int.min_eq_left hle]
   rcases h.2.1 with h2 | h2
   ·exact .inl h2
   ·exact .inr (.skip h2)
  ·rw [Int.min_eq_right (by omega)]
   refine .inr (qac.cons_iff.2 (.inr ?_))
   rw [show e1 + b.2 - b.2 = e1 by omega]
   exact (h1.least hb).1
 ·rcases qac.cons_iff.1 hp with h2 | h2
  ·have := h.2.2 p h2; omega
  ·have := h1.2.2 _ h2; omega
theorem Ent.cons_none {N : Int} {b : Bun} {l : List Bun} {t e : Int} (h : Ent N l t e) (h1 : ∀ p, ¬ qac (b :: l) (t - b.1) p) : Ent N (b :: l) t e := by
 refine ⟨h.1, ?_, fun p hp => ?_⟩
 ·rcases h.2.1 with h2 | h2
  ·exact .inl h2
  ·exact .inr (.skip h2)
 ·rcases qac.cons_iff.1 hp with h2 | h2
  ·exact h.2.2 p h2
  ·exact absurd h2 (h1 _)
theorem qac.neg {l : List Bun} {t p : Int} (hf : qcb l) (ht : t < 0) : ¬ qac l t p := fun h => by have := h.le hf; omega
def MaxC (b : Bun) (l : List Bun) (t p : Int) (k : Int) : Prop := 0 ≤ k ∧ qac l (t - k * b.1) (p - k * b.2) ∧ ∀ j, 0 ≤ j → qac l (t - j * b.1) (p - j * b.2) → j ≤ k
theorem MaxC.uniq {b : Bun} {l : List Bun} {t p k k' : Int} (h : MaxC b l t p k) (h' : MaxC b l t p k') : k = k' := by
 have := h.2.2 _ h'.1 h'.2.1
 have := h'.2.2 _ h.1 h.2.1
 omega
inductive qfu : List Bun → Int → Int → List Int → Prop
 | nil : qfu [] 0 0 []
 | cons {b : Bun} {l : List Bun} {t p k : Int} {r : List Int} : MaxC b l t p k → qfu l (t - k * b.1) (p - k * b.2) r → qfu (b :: l) t p (k :: r)
theorem qfu.uniq {l : List Bun} {t p : Int} {r r' : List Int} (h : qfu l t p r) (h' : qfu l t p r') : r = r' := by
 induction h generalizing r' with
 | nil => cases h'; rfl
 | cons hm _ ih =>
  cases h' with
  | cons hm' h' =>
   obtain rfl := hm.uniq hm'
   rw [ih h']
theorem qfu.length {l : List Bun} {t p : Int} {r : List Int} (h : qfu l t p r) : r.length = l.length := by
 induction h with
 | nil => rfl
 | cons _ _ ih => simp [ih]
theorem qa4.rest {b : Bun} {l : List Bun} {t p k : Int} (h : qa4 (b :: l) t p) (hk : 0 ≤ k) (hp : qac l (t - k * b.1) (p - k * b.2)) : qa4 l (t - k * b.1) (p - k * b.2) := by
 refine ⟨hp, fun q hq => ?_⟩
 obtain ⟨n, rfl⟩ : ∃ n : Nat, k = n := ⟨k.toNat, by omega⟩
 have h1 := hq.cons_mono (b := b) n
 rw [show t - (n : Int) * b.1 + (n : Int) * b.1 = t by omega] at h1
 have := h.2 _ h1
 omega
theorem qa4.prev {b : Bun} {l : List Bun} {t p : Int} (h : qa4 (b :: l) t p) (hp : qac (b :: l) (t - b.1) (p - b.2)) : qa4 (b :: l) (t - b.1) (p - b.2) := by
 refine ⟨hp, fun q hq => ?_⟩
 have h1 := qac.take hq
 rw [show t - b.1 + b.1 = t by omega] at h1
 have := h.2 _ h1
 omega
theorem qa4.prev_iff {b : Bun} {l : List Bun} {t p q : Int} (h : qa4 (b :: l) t p) (hq : qa4 (b :: l) (t - b.1) q) : q + b.2 = p ↔ qac (b :: l) (t - b.1) (p - b.2) := by
 constructor
 ·intro e
  rw [show p - b.2 = q by omega]
  exact hq.1
 ·intro e
  have := (h.prev e).uniq hq
  omega
theorem u64_in {n : Int} (h0 : 0 ≤ n) (h : n ≤ 4294967295) : IntKind.wrap .u64 n = n := by
 show n % 18446744073709551616 = n
 exact Int.emod_eq_of_lt h0 (by omega)
theorem qgg {n : Int} (h0 : 0 ≤ n) (h : n ≤ 4294967295) : qbu .u64 n 32 = 0 := by
 show n.fdiv 4294967296 = 0
 rw [Int.fdiv_eq_ediv_of_nonneg _ (by omega)]
 exact Int.ediv_eq_zero_of_lt h0 (by omega)
theorem qeu {n : Int} (h0 : 0 ≤ n) (h : n ≤ 4294967295) : qai .and .u64 n 4294967295 = n := by
 show IntKind.wrap .u64 ((BitVec.ofInt 64 n &&& BitVec.ofInt 64 4294967295).toNat : Int) = n
 have e : (BitVec.ofInt 64 n).toNat = n.toNat := by
  rw [BitVec.toNat_ofInt]
  rw [Int.emod_eq_of_lt h0 (by show n < 18446744073709551616; omega)]
 have e2 : (BitVec.ofInt 64 4294967295).toNat = 4294967295 := by decide
 rw [BitVec.toNat_and, e, e2, show (4294967295 : Nat) = 2 ^ 32 - 1 by decide, Nat.and_two_pow_sub_one_eq_mod, Nat.mod_eq_of_lt (by show n.toNat < 4294967296; omega)]
 rw [show ((n.toNat : Nat) : Int) = n by omega]
 exact u64_in h0 h
theorem negK_in {R : Type} {a : Int} (h : 0 ≤ a) (k : Option R) : qbL a k = k := by
 unfold qbL
 rw [if_neg (by omega)]
theorem g74_one {n : Int} (h0 : 0 ≤ n) (h : n ≤ 1048576) : g74 (1, n, ()) = some ((0, n, ()), ()) := by
 show F74 qj 1 n = _
 unfold F74
 have b1 : qai .and .u64 1 4294967295 = 1 := qeu (by omega) (by omega)
 have b0 : qai .and .u64 0 4294967295 = 0 := qeu (by omega) (by omega)
 have s1 : qbu .u64 1 32 = 0 := qgg (by omega) (by omega)
 have s0 : qbu .u64 0 32 = 0 := qgg (by omega) (by omega)
 have u0 : IntKind.wrap .u64 0 = 0 := u64_in (by omega) (by omega)
 have un : IntKind.wrap .u64 n = n := u64_in h0 (by omega)
 simp only [negK_in (show (0 : Int) ≤ 32 by decide), jK, b1, qeu h0 (show n ≤ 4294967295 by omega), s1, qgg h0 (show n ≤ 4294967295 by omega), Int.one_mul, Int.zero_mul, Int.mul_zero, Int.add_zero, un, u0, s0, b0]
theorem qe2 {α : Type} (b c : α) {n k : Nat} (hk : k ≤ n) : qbc (List.replicate k b ++ List.replicate (n - k) c) ((List.replicate k b ++ List.replicate (n - k) c).take k) k = List.replicate (k + min k (n - k)) b ++ List.replicate (n - (k + min k (n - k))) c := by
 have h1 : (List.replicate k b ++ List.replicate (n - k) c).take k = List.replicate k b := List.take_left' (by simp)
 have h2 : (List.replicate k b ++ List.replicate (n - k) c).length = n := by simp; omega
 unfold qbc
 rw [h1, h2, List.take_replicate, List.length_replicate, List.replicate_append_replicate]
 rw [List.drop_append, List.drop_eq_nil_of_le (by simp), List.nil_append, List.length_replicate, List.drop_replicate]
 congr 2
 ·omega
 ·omega
theorem g71_one (b : Int) (n : Nat) (hn : n ≤ 1048576) : g71 ([b], (n : Int), ()) = some ((List.replicate n b, ()), ()) := by
 show F71 qj [b] (n : Int) = _
 unfold F71
 have e1 : IntKind.wrap .u64 (([b] : List Int).length : Int) = 1 := u64_in (by simp) (by simp)
 have e2 : IntKind.wrap .u64 (n : Int) = n := u64_in (by omega) (by omega)
 have e3 : g65 (1, (n : Int), ()) = some ((0, (n : Int), ()), ()) := by
  show F65 qj 1 (n : Int) = _
  unfold F65
  rw [g74_one (by omega) (by omega)]
  rfl
 rw [qL (p := (n : Int) < 0) (by omega), cond_false, e1, e2, e3, qd]
 simp only [jK]
 rw [qL (p := (0 : Int) > 0) (by omega), cond_false, qL (p := (n : Int) > 9223372036854775807) (by omega), cond_false, wI (by omega) (by omega), qaV (by omega), qaV (by omega), qaq (by omega) (by omega), Int.toNat_natCast]
 by_cases h0 : n = 0
 ·subst h0
  obtain ⟨m, hm⟩ : ∃ m, qj = m + 1 := ⟨qj - 1, by have := jP; omega⟩
  have : L71_8 qj ((0, ()), ([], ()), ()) = some ((), ([], ()), ()) := by
   rw [hm]
   simp [L71_8, B71_8]
  show qa (L71_8 qj ((0, ()), ([], ()), ())) _ = _
  rw [this]
  rfl
 have ei : qbc (List.replicate n 0) [b] (0 : Int).toNat = List.replicate 1 b ++ List.replicate (n - 1) 0 := by
  show (List.replicate n (0 : Int)).take 0 ++ [b].take ((List.replicate n (0 : Int)).length - 0) ++ (List.replicate n (0 : Int)).drop (0 + min 1 ((List.replicate n (0 : Int)).length - 0)) = _
  rw [List.length_replicate, List.take_zero, List.nil_append, List.drop_replicate, show 0 + min 1 (n - 0) = 1 by omega, List.take_of_length_le (by simp; omega)]
  rfl
 have em : ((min ([b] : List Int).length ((List.replicate n (0 : Int)).length - (0 : Int).toNat) : Nat) : Int) = ((1 : Nat) : Int) := by
  rw [List.length_replicate]
  show ((min 1 (n - 0) : Nat) : Int) = _
  omega
 rw [ei, em]
 obtain ⟨r, hr, hrr⟩ := loopM (L := L71_8) (fun k : Nat => (((k : Int), ()), (List.replicate k b ++ List.replicate (n - k) 0, ()), ())) (fun k => 1 ≤ k ∧ k ≤ n) (fun r => r = ((), (List.replicate n b, ()), ())) 0 (fun k => n - k)
  (fun N k _ hk => by
   have hlen : (List.replicate k b ++ List.replicate (n - k) 0).length = n := by simp; omega
   simp only [L71_8, B71_8]
   rw [hlen]
   by_cases hlt : k < n
   ·refine .inl ⟨k + min k (n - k), by omega, by omega, ?_⟩
    have hl2 : ((List.replicate k b ++ List.replicate (n - k) 0).take ((k : Nat) : Int).toNat).length = k := by
     rw [Int.toNat_natCast, List.length_take, hlen]
     omega
    rw [qM (by omega), cond_true]
    simp only [qa8, qaV (show (0 : Int) ≤ (k : Int) by omega), qaV (show (k : Int) ≤ (n : Int) by omega), qaJ, qaK]
    rw [hl2, Int.toNat_natCast, qe2 b 0 (by omega), wI (by omega) (by omega), show (k : Int) + ((min k (n - k) : Nat) : Int) = ((k + min k (n - k) : Nat) : Int) by omega]
   ·obtain rfl : k = n := by omega
    refine .inr ⟨_, ?_, rfl⟩
    rw [qL (by omega), cond_false, Nat.sub_self, List.replicate_zero, List.append_nil])
  (n - 1) qj 1 (Nat.le_refl _) ⟨Nat.le_refl _, by omega⟩ (by have := jP; omega)
 have hr' : L71_8 qj ((((1 : Nat) : Int), ()), (List.replicate 1 b ++ List.replicate (n - 1) 0, ()), ()) = some r := hr
 rw [hr', hrr]
 rfl
abbrev NO : Int := 1152921504606846976
def Tab (l : List Bun) (M : Nat) (o : List (List Int)) (lo : Nat) : Prop :=
 o.length = l.length + 1 ∧ (∀ i : Nat, i ≤ l.length → (gd o (i : Int)).length = M) ∧ ∀ i : Nat, lo ≤ i → i ≤ l.length → ∀ t : Nat, t < M → Ent NO (l.drop i) t (gd (gd o (i : Int)) (t : Int))
theorem row68 (l : List Bun) (hl : qcb l) (hk : l.length ≤ 6) (n most : Int) (M : Nat) (hM : M ≤ 3000) (i : Nat) (hi : i < l.length) (o : List (List Int)) (ho : Tab l M o (i + 1)) {N : Nat} (hN : M < N) :
  ∃ o', Tab l M o' i ∧ L55_13 N ((l, n, most, (i : Int), (M : Int), 0, ()), (o, ()), ()) = some ((l, n, most, (i : Int), ()), (o', ()), ()) := by
 obtain ⟨h1, h2, h3⟩ := ho
 have hd : l.drop i = gd l (i : Int) :: l.drop (i + 1) := qdR hi
 have hb := hl _ (j6 (l := l) (i := (i : Int)) (by omega) (by omega))
 have hfd : qcb (gd l (i : Int) :: l.drop (i + 1)) := by rw [← hd]; exact hl.drop i
 have w1 : IntKind.wrap .i64 ((i : Int) + 1) = ((i + 1 : Nat) : Int) := by rw [wI (by omega) (by omega)]; omega
 have hS := h2 (i + 1) (by omega)
 have hR0 := h2 i (by omega)
 obtain ⟨r, hr, R, hR, hE, rfl⟩ := qhC (L := L55_13) (fun (t : Nat) (R : List Int) => ((l, n, most, (i : Int), (M : Int), (t : Int), ()), (o.set i R, ()), ()))
  (fun t R => R.length = M ∧ ∀ t' : Nat, t' < t → Ent NO (l.drop i) t' (gd R (t' : Int)))
  (fun r => ∃ R : List Int, R.length = M ∧ (∀ t' : Nat, t' < M → Ent NO (l.drop i) t' (gd R (t' : Int))) ∧ r = ((l, n, most, (i : Int), ()), (o.set i R, ()), ())) 0 M (s := gd o (i : Int)) ⟨hR0, fun t' h => by omega⟩ (by omega)
  (fun N R hR => ⟨_, by simp [L55_13, B55_13], R, hR.1, hR.2, rfl⟩)
  (fun N t R _ ht ⟨hR, hE⟩ => by
   refine .inl ?_
   have g1 : gd (o.set i R) (i : Int) = R := by
    have := qao (l := o) (i := (i : Int)) (c := R) (by omega) (by omega)
    rwa [Int.toNat_natCast] at this
   have g2 : gd (o.set i R) ((i + 1 : Nat) : Int) = gd o ((i + 1 : Nat) : Int) := by
    have := qba (l := o) (i := (i : Int)) (j := ((i + 1 : Nat) : Int)) (c := R) (by omega) (by omega) (by omega)
    rwa [Int.toNat_natCast] at this
   have hlen : (o.set i R).length = l.length + 1 := by rw [List.length_set, h1]
   simp only [L55_13, B55_13]
   rw [qM (by omega), cond_true]
   have gg : ∀ R' : List Int, gd ((o.set i R).set (i : Int).toNat R') (i : Int) = R' := fun R' => qao (by omega) (by omega)
   have hlen2 : ∀ R' : List Int, ((o.set i R).set (i : Int).toNat R').length = l.length + 1 := fun R' => by rw [List.length_set, hlen]
   have hset : ∀ v : Int, (R.set (t : Int).toNat v).length = M := fun v => by rw [List.length_set, hR]
   have aS : ∀ {α : Type} (k : Int → Option α), qe (gd o ((i + 1 : Nat) : Int)) (t : Int) k = k (gd (gd o ((i + 1 : Nat) : Int)) (t : Int)) := fun k => qv (by omega) (by omega) k
   have aR : ∀ {α : Type} (k : Int → Option α), qe R (t : Int) k = k (gd R (t : Int)) := fun k => qv (by omega) (by omega) k
   have aR' : ∀ {α : Type} (v j : Int), 0 ≤ j → j < M → ∀ (k : Int → Option α), qe (R.set (t : Int).toNat v) j k = k (gd (R.set (t : Int).toNat v) j) := fun v j h1 h2 k => qv h1 (by rw [hset]; exact h2) k
   have aO : ∀ {α : Type} (k : List Int → Option α), qe (o.set i R) (i : Int) k = k R := fun k => by rw [qv (by omega) (by omega), g1]
   have aO1 : ∀ {α : Type} (k : List Int → Option α), qe (o.set i R) ((i + 1 : Nat) : Int) k = k (gd o ((i + 1 : Nat) : Int)) := fun k => by rw [qv (by omega) (by omega), g2]
   have aO2 : ∀ {α : Type} (R' : List Int) (k : List Int → Option α), qe ((o.set i R).set (i : Int).toNat R') (i : Int) k = k R' := fun R' k => by rw [qv (by omega) (by rw [hlen2]; omega), gg]
   have aL : ∀ {α : Type} (k : Bun → Option α), qe l (i : Int) k = k (gd l (i : Int)) := fun k => qv (by omega) (by omega) k
   have i1 : ∀ {α : Type} (k : Option α), qZ (i : Int) (l.length + 1) k = k := fun k => jU (by omega) (by omega) k
   have i2 : ∀ {α : Type} (k : Option α), qZ ((i + 1 : Nat) : Int) (l.length + 1) k = k := fun k => jU (by omega) (by omega) k
   have i3 : ∀ {α : Type} (k : Option α), qZ (t : Int) M k = k := fun k => jU (by omega) (by omega) k
   have w2 : IntKind.wrap .i64 ((t : Int) - (gd l (i : Int)).1) = (t : Int) - (gd l (i : Int)).1 := wI (by omega) (by omega)
   have w3 : IntKind.wrap .i64 ((t : Int) + 1) = ((t + 1 : Nat) : Int) := by rw [wI (by omega) (by omega)]; omega
   simp only [w1, w2, w3, hlen, hlen2, hR, hS, hset, aS, aR, aO, aO1, aO2, aL, i1, i2, i3]
   have sS := h3 (i + 1) (by omega) (by omega) t (by omega)
   have ss : ∀ R' : List Int, (o.set i R).set (i : Int).toNat R' = o.set i R' := fun R' => by rw [Int.toNat_natCast, List.set_set]
   have step : ∀ v : Int, Ent NO (l.drop i) t v → (R.set t v).length = M ∧ ∀ t' : Nat, t' < t + 1 → Ent NO (l.drop i) t' (gd (R.set t v) (t' : Int)) := by
    intro v hv
    refine ⟨by rw [List.length_set, hR], fun t' ht' => ?_⟩
    by_cases h : t' = t
    ·subst h
     have := qao (l := R) (i := (t' : Int)) (c := v) (by omega) (by omega)
     rw [Int.toNat_natCast] at this
     rw [this]; exact hv
    ·have := qba (l := R) (i := (t : Int)) (j := (t' : Int)) (c := v) (by omega) (by omega) (by omega)
     rw [Int.toNat_natCast] at this
     rw [this]; exact hE t' (by omega)
   by_cases hge : (t : Int) - (gd l (i : Int)).1 ≥ 0
   ·rw [qM hge, cond_true, jU (n := M) hge (by omega)]
    rw [aR' _ _ hge (by omega)]
    have hne : gd (R.set (t : Int).toNat (gd (gd o ((i + 1 : Nat) : Int)) (t : Int))) ((t : Int) - (gd l (i : Int)).1) = gd R ((t : Int) - (gd l (i : Int)).1) := qba (by omega) hge (by omega)
    rw [hne]
    obtain ⟨t1, ht1⟩ : ∃ t1 : Nat, (t1 : Int) = (t : Int) - (gd l (i : Int)).1 := ⟨((t : Int) - (gd l (i : Int)).1).toNat, by omega⟩
    have hE1 := hE t1 (by omega)
    rw [ht1] at hE1
    by_cases hlt : gd R ((t : Int) - (gd l (i : Int)).1) < NO
    ·rw [qM hlt, cond_true, aR' _ (t : Int) (by omega) (by omega), jU (n := M) hge (by omega), aR' _ _ hge (by omega), hne, aR' _ (t : Int) (by omega) (by omega)]
     have hs : gd (R.set (t : Int).toNat (gd (gd o ((i + 1 : Nat) : Int)) (t : Int))) (t : Int) = gd (gd o ((i + 1 : Nat) : Int)) (t : Int) := qao (by omega) (by omega)
     have hp := ((hE1.least hlt).1.le (by rw [hd]; exact hfd))
     have w4 : IntKind.wrap .i64 (gd R ((t : Int) - (gd l (i : Int)).1) + (gd l (i : Int)).2) = gd R ((t : Int) - (gd l (i : Int)).1) + (gd l (i : Int)).2 := wI (by omega) (by omega)
     simp only [qb8]
     rw [hs, w4]
     simp only [Int.toNat_natCast, List.set_set]
     rw [hd] at hE1
     refine ⟨_, step _ ?_, rfl⟩
     rw [hd]
     exact sS.cons hE1 hlt
    ·rw [qL hlt, cond_false, ss]
     rw [Int.toNat_natCast]
     refine ⟨_, step _ ?_, rfl⟩
     rw [hd] at hE1 ⊢
     have hN : gd R ((t : Int) - (gd l (i : Int)).1) = NO := by have := hE1.1; omega
     rw [hN] at hE1
     exact sS.cons_none (hE1.none hfd (by show _ < (1152921504606846976 : Int); omega))
   ·rw [qL hge, cond_false, ss, Int.toNat_natCast]
    refine ⟨_, step _ ?_, rfl⟩
    rw [hd]
    exact sS.cons_none (fun p => qac.neg hfd (by omega)))
 have e0 : o.set i (gd o (i : Int)) = o := by
  refine qfi (by rw [List.length_set]) fun j hj => ?_
  by_cases h : j = i
  ·subst h
   have := qao (l := o) (i := (j : Int)) (c := gd o (j : Int)) (by omega) (by omega)
   rwa [Int.toNat_natCast] at this
  ·have := qba (l := o) (i := (i : Int)) (j := (j : Int)) (c := gd o (i : Int)) (by omega) (by omega) (by omega)
   rwa [Int.toNat_natCast] at this
 rw [e0] at hr
 refine ⟨_, ⟨by rw [List.length_set, h1], fun j hj => ?_, fun j hj hj2 t ht => ?_⟩, hr⟩
 ·by_cases h : j = i
  ·subst h
   have := qao (l := o) (i := (j : Int)) (c := R) (by omega) (by omega)
   rw [Int.toNat_natCast] at this
   rw [this, hR]
  ·have := qba (l := o) (i := (i : Int)) (j := (j : Int)) (c := R) (by omega) (by omega) (by omega)
   rw [Int.toNat_natCast] at this
   rw [this, h2 j hj]
 ·by_cases h : j = i
  ·subst h
   have := qao (l := o) (i := (j : Int)) (c := R) (by omega) (by omega)
   rw [Int.toNat_natCast] at this
   rw [this]; exact hE t ht
  ·have := qba (l := o) (i := (i : Int)) (j := (j : Int)) (c := R) (by omega) (by omega) (by omega)
   rw [Int.toNat_natCast] at this
   rw [this]; exact h3 j (by omega) hj2 t ht
theorem qch {α : Type} [Inhabited α] {l : List α} {i : Nat} {c : α} (h : i < l.length) (j : Nat) : gd (l.set i c) (j : Int) = if j = i then c else gd l (j : Int) := by
 by_cases e : j = i
 ·subst e
  have := qao (l := l) (i := (j : Int)) (c := c) (by omega) (by omega)
  rw [Int.toNat_natCast] at this
  rw [this, if_pos rfl]
 ·have := qba (l := l) (i := (i : Int)) (j := (j : Int)) (c := c) (by omega) (by omega) (by omega)
  rw [Int.toNat_natCast] at this
  rw [this, if_neg e]
theorem fill68 (l : List Bun) (n : Int) (m : Nat) (hm : m ≤ 2000) (hk : l.length ≤ 6) {N : Nat} (hN : 100 < N) :
  ∃ o : List (List Int), o.length = l.length + 1 ∧ (∀ i : Nat, i < l.length + 1 → gd o (i : Int) = List.replicate (m + 1) NO) ∧
   L55_4 N ((l, n, (m : Int), ((List.replicate (l.length + 1) ([] : List Int)).length : Int), 0, ()), ((List.replicate (l.length + 1) ([] : List Int)), ()), ()) = some ((l, n, (m : Int), ()), (o, ()), ()) := by
 rw [List.length_replicate]
 obtain ⟨r, hr, o, h1, h2, rfl⟩ := qhC (L := L55_4) (fun (t : Nat) (o : List (List Int)) => ((l, n, (m : Int), ((l.length + 1 : Nat) : Int), (t : Int), ()), (o, ()), ()))
  (fun t o => o.length = l.length + 1 ∧ ∀ i : Nat, i < t → gd o (i : Int) = List.replicate (m + 1) NO)
  (fun r => ∃ o : List (List Int), o.length = l.length + 1 ∧ (∀ i : Nat, i < l.length + 1 → gd o (i : Int) = List.replicate (m + 1) NO) ∧ r = ((l, n, (m : Int), ()), (o, ()), ())) 0 (l.length + 1) (N := N) (s := List.replicate (l.length + 1) []) ⟨by simp, fun i hi => by omega⟩ (by omega)
  (fun N o h => ⟨_, by simp [L55_4, B55_4], o, h.1, h.2, rfl⟩)
  (fun N t o _ ht ⟨h1, h2⟩ => by
   refine .inl ⟨o.set t (List.replicate (m + 1) NO), ⟨by rw [List.length_set, h1], fun i hi => ?_⟩, ?_⟩
   ·rw [qch (by omega)]
    by_cases e : i = t
    ·rw [if_pos e]
    ·rw [if_neg e]; exact h2 i (by omega)
   ·simp only [L55_4, B55_4]
    rw [qM (by omega), cond_true, show IntKind.wrap .i64 ((m : Int) + 1) = ((m + 1 : Nat) : Int) by rw [wI (by omega) (by omega)]; omega, g71_one _ _ (by omega), qd, jU (by omega) (by omega), qv (by omega) (by omega), wI (by omega) (by omega), Int.toNat_natCast]
    rfl)
 exact ⟨o, h1, h2, hr⟩
theorem tab68 (l : List Bun) (hl : qcb l) (n most : Int) (M : Nat) (hM : M ≤ 3000) (hk : l.length ≤ 6) (o : List (List Int)) (ho : Tab l M o l.length) {N : Nat} (hN : 4000 < N) :
  ∃ o', Tab l M o' 0 ∧ L55_10 N ((l, n, most, (l.length : Int) - 1, ()), (o, ()), ()) = some ((l, n, most, ()), (o', ()), ()) := by
 obtain ⟨r, hr, o', h1, rfl⟩ := qhC (L := L55_10) (fun (j : Nat) (o : List (List Int)) => ((l, n, most, (l.length : Int) - 1 - (j : Int), ()), (o, ()), ()))
  (fun j o => Tab l M o (l.length - j))
  (fun r => ∃ o' : List (List Int), Tab l M o' 0 ∧ r = ((l, n, most, ()), (o', ()), ())) 3001 l.length (N := N) (s := o) ho (by omega)
  (fun N o h => ⟨_, by simp only [L55_10, B55_10]; rw [qL (by omega), cond_false], o, by rwa [show l.length - l.length = 0 by omega] at h, rfl⟩)
  (fun N j o hc hj h => by
   obtain ⟨i, hi⟩ : ∃ i : Nat, i = l.length - (j + 1) := ⟨_, rfl⟩
   rw [show l.length - j = i + 1 by omega] at h
   obtain ⟨o', h', e⟩ := row68 l hl hk n most M hM i (by omega) o h (N := N) (by omega)
   refine .inl ⟨o', by rwa [← hi], ?_⟩
   simp only [L55_10, B55_10]
   rw [show (l.length : Int) - 1 - (j : Int) = (i : Int) by omega, qM (by omega), cond_true, jU (by omega) (by rw [h.1]; omega), qv (by omega) (by rw [h.1]; omega), h.2.1 i (by omega), e, qd]
   simp only
   rw [wI (by omega) (by omega), show (l.length : Int) - 1 - ((j + 1 : Nat) : Int) = (i : Int) - 1 by omega])
 refine ⟨o', h1, ?_⟩
 rw [← hr]
 simp
def qhT (c : List Int) (n M t : Nat) : Prop := n ≤ t ∧ t < M ∧ ∀ t' : Nat, n ≤ t' → t' < M → gd c (t : Int) ≤ gd c (t' : Int) ∧ (gd c (t' : Int) = gd c (t : Int) → t ≤ t')
theorem arg68 (l : List Bun) (n m : Nat) (hm : m ≤ 2000) (hn : n ≤ m) (o : List (List Int)) (h0 : 0 < o.length) (h1 : (gd o 0).length = m + 1) {N : Nat} (hN : 4000 < N) :
  ∃ t, qhT (gd o 0) n (m + 1) t ∧ L55_22 N ((l, (m : Int), (n : Int), (n : Int), ()), (o, ()), ()) = some ((l, (t : Int), ()), (o, ()), ()) := by
 obtain ⟨r, hr, t, h1, rfl⟩ := qhC (L := L55_22) (fun (j : Nat) (t : Nat) => ((l, (m : Int), (t : Int), ((n + j : Nat) : Int), ()), (o, ()), ()))
  (fun j t => n ≤ t ∧ (t < n + j ∨ t = n) ∧ ∀ t' : Nat, n ≤ t' → t' < n + j → gd (gd o 0) (t : Int) ≤ gd (gd o 0) (t' : Int) ∧ (gd (gd o 0) (t' : Int) = gd (gd o 0) (t : Int) → t ≤ t'))
  (fun r => ∃ t : Nat, qhT (gd o 0) n (m + 1) t ∧ r = ((l, (t : Int), ()), (o, ()), ())) 0 (m + 1 - n) (N := N) (s := n) ⟨by omega, by omega, fun t' h1 h2 => by omega⟩ (by omega)
  (fun N t h => ⟨_, by simp only [L55_22, B55_22]; rw [qL (by omega), cond_false], t, ⟨h.1, by omega, fun t' h1 h2 => h.2.2 t' h1 (by omega)⟩, rfl⟩)
  (fun N j t _ hj ⟨q1, q2, q3⟩ => by
   left
   have e1 : ∀ {α : Type} (k : Option α), qZ 0 o.length k = k := fun k => jU (by omega) (by omega) k
   have e2 : ∀ {α : Type} (k : List Int → Option α), qe o 0 k = k (gd o 0) := fun k => qv (by omega) (by omega) k
   have e3 : ∀ {α : Type} (x : Nat), x ≤ m → ∀ (k : Int → Option α), qe (gd o 0) (x : Int) k = k (gd (gd o 0) (x : Int)) := fun x hx k => qv (by omega) (by omega) k
   have e4 : ∀ {α : Type} (x : Nat), x ≤ m → ∀ (k : Option α), qZ (x : Int) (gd o 0).length k = k := fun x hx k => jU (by omega) (by omega) k
   have w3 : IntKind.wrap .i64 (((n + j : Nat) : Int) + 1) = ((n + (j + 1) : Nat) : Int) := by rw [wI (by omega) (by omega)]; omega
   simp only [L55_22, B55_22, e1, e2, w3]
   rw [qM (by omega), cond_true, e4 _ (by omega), e3 _ (by omega), e4 _ (by omega), e3 _ (by omega)]
   by_cases hlt : gd (gd o 0) ((n + j : Nat) : Int) < gd (gd o 0) (t : Int)
   ·rw [qM hlt, cond_true]
    refine ⟨n + j, ⟨by omega, by omega, fun t' h1 h2 => ?_⟩, rfl⟩
    by_cases e : t' = n + j
    ·subst e; exact ⟨Int.le_refl _, fun _ => Nat.le_refl _⟩
    ·have := (q3 t' h1 (by omega)).1
     exact ⟨by omega, fun h => by omega⟩
   ·rw [qL hlt, cond_false]
    refine ⟨t, ⟨q1, by omega, fun t' h1 h2 => ?_⟩, rfl⟩
    by_cases e : t' = n + j
    ·subst e; exact ⟨by omega, fun _ => by omega⟩
    ·exact q3 t' h1 (by omega))
 exact ⟨t, h1, hr⟩
theorem MaxC.of_end {b : Bun} {l : List Bun} {t p : Int} {k : Nat} (h : qac (b :: l) (t - k * b.1) (p - k * b.2)) (he : ¬ qac (b :: l) (t - k * b.1 - b.1) (p - k * b.2 - b.2)) : MaxC b l t p k := by
 refine ⟨by omega, ?_, fun j hj hp => ?_⟩
 ·rcases qac.cons_iff.1 h with h | h
  ·exact h
  ·exact absurd h he
 ·by_cases hjk : j ≤ k
  ·exact hjk
  ·refine absurd ?_ he
   obtain ⟨d, hd⟩ : ∃ d : Nat, j = (k : Int) + 1 + d := ⟨(j - k - 1).toNat, by omega⟩
   have := hp.cons_mono (b := b) d
   have e1 : j * b.1 = (k : Int) * b.1 + b.1 + (d : Int) * b.1 := by rw [hd, Int.add_mul, Int.add_mul, Int.one_mul]
   have e2 : j * b.2 = (k : Int) * b.2 + b.2 + (d : Int) * b.2 := by rw [hd, Int.add_mul, Int.add_mul, Int.one_mul]
   rwa [show t - j * b.1 + (d : Int) * b.1 = t - k * b.1 - b.1 by omega, show p - j * b.2 + (d : Int) * b.2 = p - k * b.2 - b.2 by omega] at this
theorem take68 (l : List Bun) (hl : qcb l) (hk : l.length ≤ 6) (price : Int) (m : Nat) (hm : m ≤ 2000) (i : Nat) (hi : i < l.length) (o : List (List Int)) (ho : Tab l (m + 1) o 0) (T p : Int) (hT : T ≤ m) (hL : qa4 (l.drop i) T p) (many : List Int) (hml : many.length = l.length) (hz : gd many (i : Int) = 0) {N : Nat} (hN : 3000 < N) :
  ∃ k : Nat, MaxC (gd l (i : Int)) (l.drop (i + 1)) T p k ∧ qa4 (l.drop (i + 1)) (T - k * (gd l (i : Int)).1) (p - k * (gd l (i : Int)).2) ∧
   L55_34 N ((price, T, (i : Int), p, l, (l.length : Int), (i : Int), ()), (gd l (i : Int), o, many, ()), ()) = some ((price, T - k * (gd l (i : Int)).1, l, (l.length : Int), (i : Int), ()), (o, many.set i k, ()), ()) := by
 obtain ⟨h1, h2, h3⟩ := ho
 have hd : l.drop i = gd l (i : Int) :: l.drop (i + 1) := qdR hi
 have hb := hl _ (j6 (l := l) (i := (i : Int)) (by omega) (by omega))
 have hfd : qcb (gd l (i : Int) :: l.drop (i + 1)) := by rw [← hd]; exact hl.drop i
 rw [hd] at hL
 revert hL hb hfd
 generalize hbv : gd l (i : Int) = b
 intro hL hb hfd
 have hT0 := (hL.1.le hfd).1
 have hrow := h2 i (by omega)
 have e0 : many.set i 0 = many := by
  refine qfi (by rw [List.length_set]) fun j hj => ?_
  rw [qch (by omega)]
  by_cases h : j = i
  ·rw [if_pos h, h, hz]
  ·rw [if_neg h]
 obtain ⟨r, hr, k, q1, q2, rfl⟩ := loopM (L := L55_34) (fun k : Nat => ((price, T - k * b.1, (i : Int), p - k * b.2, l, (l.length : Int), (i : Int), ()), (b, o, many.set i k, ()), ()))
  (fun k => qa4 (b :: l.drop (i + 1)) (T - k * b.1) (p - k * b.2))
  (fun r => ∃ k : Nat, MaxC b (l.drop (i + 1)) T p k ∧ qa4 (l.drop (i + 1)) (T - k * b.1) (p - k * b.2) ∧ r = ((price, T - k * b.1, l, (l.length : Int), (i : Int), ()), (o, many.set i k, ()), ())) 0 (fun k => (T - k * b.1).toNat)
  (fun N k _ hP => by
   have hle := hP.1.le hfd
   have hkb : (k : Int) ≤ k * b.1 := by
    have := Int.mul_le_mul_of_nonneg_left hb.1 (show (0 : Int) ≤ k by omega)
    omega
   have hkb2 : (0 : Int) ≤ k * b.2 := Int.mul_nonneg (by omega) (by omega)
   have e1 : ((k + 1 : Nat) : Int) * b.1 = k * b.1 + b.1 := by rw [Int.natCast_succ, Int.add_mul]; omega
   have e2 : ((k + 1 : Nat) : Int) * b.2 = k * b.2 + b.2 := by rw [Int.natCast_succ, Int.add_mul]; omega
   have hex : ¬ qac (b :: l.drop (i + 1)) (T - k * b.1 - b.1) (p - k * b.2 - b.2) → ∃ r, some ((price, T - k * b.1, l, (l.length : Int), (i : Int), ()), (o, many.set i k, ()), ()) = some r ∧ ∃ k : Nat, MaxC b (l.drop (i + 1)) T p k ∧ qa4 (l.drop (i + 1)) (T - k * b.1) (p - k * b.2) ∧ r = ((price, T - k * b.1, l, (l.length : Int), (i : Int), ()), (o, many.set i k, ()), ()) := fun he => by
    have hm := MaxC.of_end hP.1 he
    exact ⟨_, rfl, k, hm, hL.rest (by omega) hm.2.1, rfl⟩
   have i1 : ∀ {α : Type} (k : Option α), qZ (i : Int) o.length k = k := fun k => jU (by omega) (by omega) k
   have i2 : ∀ {α : Type} (k : List Int → Option α), qe o (i : Int) k = k (gd o (i : Int)) := fun k => qv (by omega) (by omega) k
   simp only [L55_34, B55_34, i1, i2]
   by_cases hge : T - k * b.1 ≥ b.1
   ·obtain ⟨t1, ht1⟩ : ∃ t1 : Nat, (t1 : Int) = T - k * b.1 - b.1 := ⟨(T - k * b.1 - b.1).toNat, by omega⟩
    have w2 : IntKind.wrap .i64 (T - k * b.1 - b.1) = (t1 : Int) := by rw [wI (by omega) (by omega), ht1]
    have i3 : ∀ {α : Type} (k : Option α), qZ (t1 : Int) (gd o (i : Int)).length k = k := fun k => jU (by omega) (by omega) k
    have i4 : ∀ {α : Type} (k : Int → Option α), qe (gd o (i : Int)) (t1 : Int) k = k (gd (gd o (i : Int)) (t1 : Int)) := fun k => qv (by omega) (by omega) k
    have hE := h3 i (by omega) (by omega) t1 (by omega)
    rw [hd, hbv] at hE
    rw [qM hge, cond_true, w2, i3, i4]
    by_cases hlt : gd (gd o (i : Int)) (t1 : Int) < NO
    ·rw [qM hlt, cond_true, i3, i4]
     have hLq : qa4 (b :: l.drop (i + 1)) (T - k * b.1 - b.1) (gd (gd o (i : Int)) (t1 : Int)) := Eq.subst (motive := fun x => qa4 (b :: l.drop (i + 1)) x (gd (gd o (i : Int)) (t1 : Int))) ht1 (hE.least hlt)
     have hq := hLq.1.le hfd
     rw [wI (by omega) (by omega)]
     by_cases heq : gd (gd o (i : Int)) (t1 : Int) + b.2 = p - k * b.2
     ·have hpv : gd (gd o (i : Int)) (t1 : Int) = p - k * b.2 - b.2 := by omega
      rw [heq, beq_self_eq_true, cond_true]
      have i5 : ∀ {α : Type} (k' : Option α), qZ (i : Int) (many.set i (k : Int)).length k' = k' := fun k' => jU (by omega) (by rw [List.length_set, hml]; omega) k'
      have i6 : ∀ {α : Type} (k' : Int → Option α), qe (many.set i (k : Int)) (i : Int) k' = k' (k : Int) := fun k' => by
       rw [qv (by omega) (by rw [List.length_set, hml]; omega), qch (by omega), if_pos rfl]
      rw [i5, i6, i5, i6, i3, i4]
      refine .inl ⟨k + 1, ?_, ?_, ?_⟩
      ·have h := (qa4.prev_iff hP hLq).1 heq
       have := hP.prev h
       rwa [e1, e2, show T - (k * b.1 + b.1) = T - k * b.1 - b.1 by omega, show p - (k * b.2 + b.2) = p - k * b.2 - b.2 by omega]
      ·rw [e1]; omega
      ·rw [hpv, ht1, e1, e2, show T - (k * b.1 + b.1) = T - k * b.1 - b.1 by omega, show p - (k * b.2 + b.2) = p - k * b.2 - b.2 by omega, Int.toNat_natCast, List.set_set, wI (by omega) (by omega)]
       rfl
     ·rw [beq_false_of_ne heq, cond_false]
      exact .inr (hex fun h => heq ((qa4.prev_iff hP hLq).2 h))
    ·rw [qL hlt, cond_false]
     refine .inr (hex ?_)
     have hN : gd (gd o (i : Int)) (t1 : Int) = NO := by have := hE.1; omega
     rw [hN] at hE
     rw [← ht1]
     exact hE.none hfd (by show _ < (1152921504606846976 : Int); omega) _
   ·rw [qL hge, cond_false]
    exact .inr (hex fun h => by have := h.le hfd; omega))
  2001 N 0 (by omega) (by simpa using hL) (by omega)
 refine ⟨k, q1, q2, ?_⟩
 rw [← hr]
 simp [e0]
theorem qjo (l : List Bun) (hl : qcb l) (hk : l.length ≤ 6) (price : Int) (m : Nat) (hm : m ≤ 2000) (o : List (List Int)) (ho : Tab l (m + 1) o 0) (T p : Int) (hT : T ≤ m) (hL : qa4 l T p) {N : Nat} (hN : 4000 < N) :
  ∃ r, qfu l T p r ∧ L55_31 N ((price, T, l, (l.length : Int), 0, ()), (o, List.replicate l.length 0, ()), ()) = some ((price, ()), (r, ()), ()) := by
 obtain ⟨r, hr, r', h1, rfl⟩ := qhC (L := L55_31) (fun (j : Nat) (s : Int × List Int) => ((price, s.1, l, (l.length : Int), (j : Int), ()), (o, s.2, ()), ()))
  (fun j s => s.1 ≤ m ∧ s.2.length = l.length ∧ (∀ x : Nat, j ≤ x → x < l.length → gd s.2 (x : Int) = 0) ∧ ∃ q, qa4 (l.drop j) s.1 q ∧ ∀ r', qfu (l.drop j) s.1 q r' → qfu l T p (s.2.take j ++ r'))
  (fun r => ∃ r' : List Int, qfu l T p r' ∧ r = ((price, ()), (r', ()), ())) 3001 l.length (N := N) (s := (T, List.replicate l.length 0)) ⟨hT, by simp, fun x _ hx => qaB (by omega) (by omega), p, hL, fun r' h => h⟩ (by omega)
  (fun N s ⟨_, q2, _, q, q4, q5⟩ => by
   rw [List.drop_length] at q4 q5
   obtain ⟨h1, _⟩ := q4
   revert q5
   generalize s.1 = t at h1
   cases h1
   intro q5
   have := q5 [] .nil
   rw [List.append_nil, ← q2, List.take_length] at this
   refine ⟨_, by simp only [L55_31, B55_31]; rw [qL (by omega), cond_false], _, this, rfl⟩)
  (fun N j s hc hj ⟨q1, q2, q3, q, q4, q5⟩ => by
   obtain ⟨o1, o2, o3⟩ := ho
   have hd : l.drop j = gd l (j : Int) :: l.drop (j + 1) := qdR hj
   obtain ⟨t, ht⟩ : ∃ t : Nat, s.1 = (t : Int) := ⟨s.1.toNat, by have := (q4.1.le (hl.drop j)).1; omega⟩
   have e := (o3 j (by omega) (by omega) t (by omega)).of_least (by rw [← ht]; exact q4) (hl.drop j) (by show _ < (1152921504606846976 : Int); omega)
   have hrow := o2 j (by omega)
   obtain ⟨k, k1, k2, k3⟩ := take68 l hl hk price m hm j hj o ⟨o1, o2, o3⟩ s.1 q q1 q4 s.2 q2 (q3 j (Nat.le_refl _) hj) (N := N) (by omega)
   have hb := hl _ (j6 (l := l) (i := (j : Int)) (by omega) (by omega))
   have hkb : (0 : Int) ≤ k * (gd l (j : Int)).1 := Int.mul_nonneg (by omega) (by omega)
   refine .inl ⟨(s.1 - k * (gd l (j : Int)).1, s.2.set j k), ⟨by simp only; omega, by rw [List.length_set, q2], fun x h1 h2 => ?_, _, k2, fun r' h => ?_⟩, ?_⟩
   ·simp only
    rw [qch (by omega), if_neg (by omega)]
    exact q3 x (by omega) h2
   ·simp only at h ⊢
    have h2 := q5 (k :: r') (by rw [hd]; exact .cons k1 h)
    have e2 : (s.2.set j (k : Int)).take (j + 1) = s.2.take j ++ [(k : Int)] := by
     rw [qiK (by rw [List.length_set]; omega), qch (by omega), if_pos rfl, List.take_set_of_le (Nat.le_refl _)]
    rw [e2, List.append_assoc]
    exact h2
   ·simp only [L55_31, B55_31]
    rw [qM (by omega), cond_true, qv (by omega) (by omega), jU (by omega) (by omega), qv (by omega) (by omega), jU (by omega) (by omega), qv (by omega) (by omega), qv (by omega) (by omega)]
    have e' : gd (gd o (j : Int)) s.1 = q := by rw [ht]; exact e
    rw [e', k3, qd]
    simp only
    rw [wI (by omega) (by omega)]
    rfl)
 exact ⟨r', h1, hr⟩
def qfM (l : List Bun) (n : Nat) : Prop := ∀ t : Nat, n ≤ t → t ≤ n + 1000 → ∀ p, ¬ qac l t p
def Opt (l : List Bun) (n t : Nat) (p : Int) : Prop := n ≤ t ∧ t ≤ n + 1000 ∧ qac l t p ∧ ∀ t' : Nat, n ≤ t' → t' ≤ n + 1000 → ∀ p', qac l t' p' → p ≤ p' ∧ (p' = p → t ≤ t')
def qg4 (l : List Bun) (n : Nat) (r : List Int) (p : Int) : Prop := ∃ t, Opt l n t p ∧ qfu l t p r
theorem Opt.uniq {l : List Bun} {n t t' : Nat} {p p' : Int} (h : Opt l n t p) (h' : Opt l n t' p') : t = t' ∧ p = p' := by
 have a := h.2.2.2 t' h'.1 h'.2.1 p' h'.2.2.1
 have b := h'.2.2.2 t h.1 h.2.1 p h.2.2.1
 have e : p = p' := by omega
 have := a.2 e.symm
 have := b.2 e
 omega
theorem qg4.uniq {l : List Bun} {n : Nat} {r r' : List Int} {p p' : Int} (h : qg4 l n r p) (h' : qg4 l n r' p') : r = r' ∧ p = p' := by
 obtain ⟨t, h1, h2⟩ := h
 obtain ⟨t', h3, h4⟩ := h'
 obtain ⟨rfl, rfl⟩ := h1.uniq h3
 exact ⟨h2.uniq h4, rfl⟩
theorem Opt.least {l : List Bun} {n t : Nat} {p : Int} (h : Opt l n t p) : qa4 l t p := ⟨h.2.2.1, fun q hq => (h.2.2.2 t h.1 h.2.1 q hq).1⟩
theorem qhT.opt {N : Int} {l : List Bun} {c : List Int} {n t : Nat} (hc : ∀ t : Nat, t < n + 1001 → Ent N l t (gd c (t : Int))) (h : qhT c n (n + 1001) t) (hlt : gd c (t : Int) < N) : Opt l n t (gd c (t : Int)) := by
 obtain ⟨h1, h2, h3⟩ := h
 refine ⟨h1, by omega, ((hc t h2).least hlt).1, fun t' q1 q2 p' hp => ?_⟩
 have a := h3 t' q1 (by omega)
 have b := (hc t' (by omega)).2.2 p' hp
 exact ⟨by omega, fun e => a.2 (by omega)⟩
theorem qhT.noBuy {N : Int} {l : List Bun} {c : List Int} {n t : Nat} (hl : qcb l) (hn : 1000000 * ((n : Int) + 1000) < N) (hc : ∀ t : Nat, t < n + 1001 → Ent N l t (gd c (t : Int))) (h : qhT c n (n + 1001) t) (hlt : gd c (t : Int) = N) : qfM l n := by
 obtain ⟨h1, h2, h3⟩ := h
 intro t' q1 q2 p hp
 have a := (h3 t' q1 (by omega)).1
 have b := (hc t' (by omega)).2.2 p hp
 have := hp.le hl
 omega
theorem same55_4 : @L10055_4 = @L55_4 := by kernel_rfl
theorem qkC : @L10055_10 = @L55_10 := by kernel_rfl
theorem qkB : @L10055_22 = @L55_22 := by kernel_rfl
theorem qkA : @L10055_31 = @L55_31 := by kernel_rfl
theorem g55_made (l : List Bun) (hl : qcb l) (hk : l.length ≤ 6) (n : Nat) (hn : n ≤ 1000) :
  (qfM l n ∧ g55 (l, (n : Int), ()) = none) ∨ ∃ r p, qg4 l n r p ∧ g55 (l, (n : Int), ()) = some ((r, p, ()), ()) := by
 have hf := jP
 have e0 : g55 (l, (n : Int), ()) = F55 qj l n := rfl
 rw [e0]
 unfold F55
 have w1 : IntKind.wrap .i64 ((l.length : Int) + 1) = ((l.length + 1 : Nat) : Int) := by rw [wI (by omega) (by omega)]; omega
 have w2 : IntKind.wrap .i64 ((n : Int) + 1000) = ((n + 1000 : Nat) : Int) := by rw [wI (by omega) (by omega)]; omega
 have w3 : IntKind.wrap .i64 ((l.length : Int) - 1) = (l.length : Int) - 1 := wI (by omega) (by omega)
 rw [w1, w2, qaV (by omega), qaV (by omega), qaq (by omega) (by omega), Int.toNat_natCast]
 obtain ⟨o, h1, h2, e1⟩ := fill68 l n (n + 1000) (by omega) hk (N := qj) (by omega)
 rw [e1, qd]
 simp only
 have hgo : gd o (l.length : Int) = List.replicate (n + 1000 + 1) NO := h2 l.length (by omega)
 rw [jU (by omega) (by omega), qv (by omega) (by omega), hgo, jU (by omega) (by rw [List.length_replicate]; omega), qv (by omega) (by omega), hgo, qv (by omega) (by rw [List.length_replicate]; omega), w3, Int.toNat_natCast]
 have hgs : ∀ j : Nat, gd (o.set l.length ((List.replicate (n + 1000 + 1) NO).set (0 : Int).toNat 0)) (j : Int) = if j = l.length then (List.replicate (n + 1000 + 1) NO).set (0 : Int).toNat 0 else gd o (j : Int) := qch (by omega)
 have ht : Tab l (n + 1000 + 1) (o.set l.length ((List.replicate (n + 1000 + 1) NO).set (0 : Int).toNat 0)) l.length := by
  refine ⟨by rw [List.length_set, h1], fun i hi => ?_, fun i q1 q2 t q3 => ?_⟩
  ·rw [hgs]
   by_cases e : i = l.length
   ·rw [if_pos e, List.length_set, List.length_replicate]
   ·rw [if_neg e, h2 i (by omega), List.length_replicate]
  ·obtain rfl : i = l.length := by omega
   rw [hgs, if_pos rfl, List.drop_length, show (0 : Int).toNat = 0 from rfl, qch (by rw [List.length_replicate]; omega)]
   by_cases e : t = 0
   ·rw [if_pos e, e]; exact .nil_zero (by decide)
   ·rw [if_neg e, qaB (by omega) (by omega)]; exact .nil_pos (by omega)
 obtain ⟨o2, t2, e2⟩ := tab68 l hl n ((n + 1000 : Nat) : Int) (n + 1000 + 1) (by omega) hk _ ht (N := qj) (by omega)
 rw [e2, qd]
 simp only
 obtain ⟨u1, u2, u3⟩ := t2
 have u20 := u2 0 (by omega)
 obtain ⟨t, hfst, e3⟩ := arg68 l n (n + 1000) (by omega) (by omega) o2 (by omega) u20 (N := qj) (by omega)
 rw [e3, qd]
 simp only
 have hft := hfst
 obtain ⟨v1, v2, _⟩ := hft
 have hent : ∀ t : Nat, t < n + 1001 → Ent NO l t (gd (gd o2 0) (t : Int)) := fun t ht => u3 0 (Nat.le_refl _) (Nat.zero_le _) t (by omega)
 rw [jU (by omega) (by omega), qv (by omega) (by omega)]
 have u20' : (gd o2 0).length = n + 1000 + 1 := u20
 rw [jU (by omega) (by omega), qv (by omega) (by omega), qv (by omega) (by omega)]
 by_cases hno : gd (gd o2 0) (t : Int) = NO
 ·left
  refine ⟨hfst.noBuy hl (by show _ < (1152921504606846976 : Int); omega) hent hno, ?_⟩
  rw [hno, beq_self_eq_true, cond_true]
 ·right
  have hlt : gd (gd o2 0) (t : Int) < NO := by have := (hent t (by omega)).1; omega
  have ho := hfst.opt hent hlt
  obtain ⟨r, hb, e4⟩ := qjo l hl hk (gd (gd o2 0) (t : Int)) (n + 1000) (by omega) o2 ⟨u1, u2, u3⟩ (t : Int) (gd (gd o2 0) (t : Int)) (by omega) ho.least (N := qj) (by omega)
  refine ⟨r, gd (gd o2 0) (t : Int), ⟨t, ho, hb⟩, ?_⟩
  rw [beq_false_of_ne hno, cond_false, qaV (by omega), qaV (by omega), qaq (by omega) (by omega), Int.toNat_natCast, e4]
  rfl
theorem g55_nil (l : List Bun) (hl : qcb l) (hk : l.length ≤ 6) (n : Nat) (hn : n ≤ 1000) :
  (qfM l n ∧ g10055 (l, (n : Int), ()) = some (([], 0, ()), ())) ∨ ∃ r p, qg4 l n r p ∧ g10055 (l, (n : Int), ()) = none := by
 have hf := jP
 have e0 : g10055 (l, (n : Int), ()) = F10055 qj l n := rfl
 rw [e0]
 unfold F10055
 rw [same55_4, qkC, qkB, qkA]
 have w1 : IntKind.wrap .i64 ((l.length : Int) + 1) = ((l.length + 1 : Nat) : Int) := by rw [wI (by omega) (by omega)]; omega
 have w2 : IntKind.wrap .i64 ((n : Int) + 1000) = ((n + 1000 : Nat) : Int) := by rw [wI (by omega) (by omega)]; omega
 have w3 : IntKind.wrap .i64 ((l.length : Int) - 1) = (l.length : Int) - 1 := wI (by omega) (by omega)
 rw [w1, w2, qaV (by omega), qaV (by omega), qaq (by omega) (by omega), Int.toNat_natCast]
 obtain ⟨o, h1, h2, e1⟩ := fill68 l n (n + 1000) (by omega) hk (N := qj) (by omega)
 rw [e1, qd]
 simp only
 have hgo : gd o (l.length : Int) = List.replicate (n + 1000 + 1) NO := h2 l.length (by omega)
 rw [jU (by omega) (by omega), qv (by omega) (by omega), hgo, jU (by omega) (by rw [List.length_replicate]; omega), qv (by omega) (by omega), hgo, qv (by omega) (by rw [List.length_replicate]; omega), w3, Int.toNat_natCast]
 have hgs : ∀ j : Nat, gd (o.set l.length ((List.replicate (n + 1000 + 1) NO).set (0 : Int).toNat 0)) (j : Int) = if j = l.length then (List.replicate (n + 1000 + 1) NO).set (0 : Int).toNat 0 else gd o (j : Int) := qch (by omega)
 have ht : Tab l (n + 1000 + 1) (o.set l.length ((List.replicate (n + 1000 + 1) NO).set (0 : Int).toNat 0)) l.length := by
  refine ⟨by rw [List.length_set, h1], fun i hi => ?_, fun i q1 q2 t q3 => ?_⟩
  ·rw [hgs]
   by_cases e : i = l.length
   ·rw [if_pos e, List.length_set, List.length_replicate]
   ·rw [if_neg e, h2 i (by omega), List.length_replicate]
  ·obtain rfl : i = l.length := by omega
   rw [hgs, if_pos rfl, List.drop_length, show (0 : Int).toNat = 0 from rfl, qch (by rw [List.length_replicate]; omega)]
   by_cases e : t = 0
   ·rw [if_pos e, e]; exact .nil_zero (by decide)
   ·rw [if_neg e, qaB (by omega) (by omega)]; exact .nil_pos (by omega)
 obtain ⟨o2, t2, e2⟩ := tab68 l hl n ((n + 1000 : Nat) : Int) (n + 1000 + 1) (by omega) hk _ ht (N := qj) (by omega)
 rw [e2, qd]
 simp only
 obtain ⟨u1, u2, u3⟩ := t2
 have u20 := u2 0 (by omega)
 obtain ⟨t, hfst, e3⟩ := arg68 l n (n + 1000) (by omega) (by omega) o2 (by omega) u20 (N := qj) (by omega)
 rw [e3, qd]
 simp only
 have hft := hfst
 obtain ⟨v1, v2, _⟩ := hft
 have hent : ∀ t : Nat, t < n + 1001 → Ent NO l t (gd (gd o2 0) (t : Int)) := fun t ht => u3 0 (Nat.le_refl _) (Nat.zero_le _) t (by omega)
 rw [jU (by omega) (by omega), qv (by omega) (by omega)]
 have u20' : (gd o2 0).length = n + 1000 + 1 := u20
 rw [jU (by omega) (by omega), qv (by omega) (by omega), qv (by omega) (by omega)]
 by_cases hno : gd (gd o2 0) (t : Int) = NO
 ·left
  refine ⟨hfst.noBuy hl (by show _ < (1152921504606846976 : Int); omega) hent hno, ?_⟩
  rw [hno, beq_self_eq_true, cond_true]
 ·right
  have hlt : gd (gd o2 0) (t : Int) < NO := by have := (hent t (by omega)).1; omega
  have ho := hfst.opt hent hlt
  obtain ⟨r, hb, e4⟩ := qjo l hl hk (gd (gd o2 0) (t : Int)) (n + 1000) (by omega) o2 ⟨u1, u2, u3⟩ (t : Int) (gd (gd o2 0) (t : Int)) (by omega) ho.least (N := qj) (by omega)
  refine ⟨r, gd (gd o2 0) (t : Int), ⟨t, ho, hb⟩, ?_⟩
  rw [beq_false_of_ne hno, cond_false, qaV (by omega), qaV (by omega), qaq (by omega) (by omega), Int.toNat_natCast, e4]
  rfl
theorem qgX {l : List Bun} {n : Nat} {r : List Int} {p : Int} (h : qg4 l n r p) : ¬ qfM l n := by
 obtain ⟨t, h1, _⟩ := h
 exact fun hn => hn t h1.1 h1.2.1 p h1.2.2.1
theorem g55_eq (l : List Bun) (hl : qcb l) (hk : l.length ≤ 6) (n : Nat) (hn : n ≤ 1000) :
  (qfM l n ∧ g10055 (l, (n : Int), ()) = some (([], 0, ()), ())) ∨ ∃ r p, qg4 l n r p ∧ g55 (l, (n : Int), ()) = some ((r, p, ()), ()) ∧ g10055 (l, (n : Int), ()) = none := by
 rcases g55_nil l hl hk n hn with h | ⟨r, p, h1, h2⟩
 ·exact .inl h
 ·rcases g55_made l hl hk n hn with h | ⟨r, p, h3, h4⟩
  ·exact absurd h.1 (qgX h1)
  ·exact .inr ⟨r, p, h3, h4, h2⟩
theorem qac.mul {b : Bun} {l : List Bun} (h : b ∈ l) : ∀ k : Nat, qac l (k * b.1) (k * b.2)
 | 0 => by
  rw [show ((0 : Nat) : Int) * b.1 = 0 by simp, show ((0 : Nat) : Int) * b.2 = 0 by simp]
  exact .zero l
 | k + 1 => by
  refine qac.of_take (b := b) ?_ h
  have := qac.mul h k
  rwa [show ((k + 1 : Nat) : Int) * b.1 - b.1 = (k : Int) * b.1 by rw [Int.natCast_succ, Int.add_mul]; omega, show ((k + 1 : Nat) : Int) * b.2 - b.2 = (k : Int) * b.2 by rw [Int.natCast_succ, Int.add_mul]; omega]
theorem qhy {l : List Bun} (hl : qcb l) {n : Nat} (hn : n = 0 ∨ l ≠ []) : ¬ qfM l n := by
 intro h
 rcases hn with rfl | hn
 ·exact h 0 (Nat.le_refl _) (by omega) 0 (.zero l)
 ·obtain ⟨b, l', rfl⟩ := List.exists_cons_of_ne_nil hn
  have hb := hl b (List.mem_cons_self ..)
  obtain ⟨k, hk⟩ : ∃ k : Nat, (k : Int) = ((n : Int) + b.1 - 1) / b.1 := ⟨(((n : Int) + b.1 - 1) / b.1).toNat, by have := Int.ediv_nonneg (a := (n : Int) + b.1 - 1) (b := b.1) (by omega) (by omega); omega⟩
  have h1 := Int.ediv_mul_le ((n : Int) + b.1 - 1) (show b.1 ≠ 0 by omega)
  have h2 := Int.lt_ediv_add_one_mul_self ((n : Int) + b.1 - 1) (show 0 < b.1 by omega)
  rw [← hk] at h1 h2
  rw [Int.add_mul, Int.one_mul] at h2
  refine h ((k : Int) * b.1).toNat (by omega) (by omega) (k * b.2) ?_
  rw [show ((((k : Int) * b.1).toNat : Nat) : Int) = (k : Int) * b.1 by omega]
  exact qac.mul (List.mem_cons_self ..) k
theorem qkN {n : Nat} (h : 0 < n) : qfM [] n := by
 intro t h1 _ p hp
 generalize ht : (t : Int) = t' at hp
 cases hp
 omega
theorem qjm {f : qev} (h : qdQ f = true) : qcb f.2.2.2.2.1 ∧ f.2.2.2.2.1.length ≤ 6 := by
 unfold qdQ at h
 simp only [Bool.and_eq_true, decide_eq_true_eq, List.all_eq_true] at h
 obtain ⟨_, _, _, _, h5, _, _, _, _, h10⟩ := h
 refine ⟨fun b hb => ?_, by omega⟩
 have := h10 b hb
 unfold okB at this
 rw [Bool.and_eq_true, Bool.and_eq_true, jL, jL] at this
 omega
def qg5 (f : qev) (n : Int) (x : (List Int) × Int × Int) : Prop :=
 if qdQ f = false then x = ([], 0, 10) else if rng n 0 1000 = false then x = ([], 0, 1) else if f.2.2.2.2.1 = [] ∧ 0 < n then x = ([], 0, 3) else x.2.2 = 0 ∧ qg4 f.2.2.2.2.1 n.toNat x.1 x.2.1
theorem qg5.uniq {f : qev} {n : Int} {x y : (List Int) × Int × Int} (h : qg5 f n x) (h' : qg5 f n y) : x = y := by
 unfold qg5 at h h'
 split at h
 ·rename_i e; rw [if_pos e] at h'; rw [h, h']
 ·rename_i e; rw [if_neg e] at h'
  split at h
  ·rename_i e; rw [if_pos e] at h'; rw [h, h']
  ·rename_i e; rw [if_neg e] at h'
   split at h
   ·rename_i e; rw [if_pos e] at h'; rw [h, h']
   ·rename_i e; rw [if_neg e] at h'
    obtain ⟨x1, x2, x3⟩ := x
    obtain ⟨y1, y2, y3⟩ := y
    have := h.2.uniq h'.2
    simp only at h h' this
    rw [this.1, this.2, h.1, h'.1]
theorem qcr (n : Nat) : (List.replicate n (0 : Int)).sum = 0 := by
 induction n with
 | zero => rfl
 | succ n ih => rw [List.replicate_succ, List.sum_cons, ih]; rfl
def sumP (l : List (Int × Int)) : Int := (l.map (·.1)).sum
def tot (c : Cnt) : Int := c.1.sum + sumP c.2.2.1 + c.2.2.2.1.sum + c.2.2.2.2
structure Inv (f : qev) (c : Cnt) (k : Nat) : Prop where
 ls : c.1.length = f.2.2.1.length
 lc : c.2.1.length = f.2.2.1.length
 lp : c.2.2.1.length = f.1.toNat
 lb : c.2.2.2.1.length = f.2.1.toNat
 ns : ∀ x ∈ c.1, 0 ≤ x
 nc : ∀ x ∈ c.2.1, 0 ≤ x ∧ x ≤ 1000000 * ((k : Int) + 1)
 np : ∀ x ∈ c.2.2.1, 0 ≤ x.1
 nb : ∀ x ∈ c.2.2.2.1, 0 ≤ x
 nl : 0 ≤ c.2.2.2.2
 tt : tot c = f.2.2.1.sum
structure Ok (f : qev) : Prop where
 s1 : 1 ≤ f.2.2.1.length
 s8 : f.2.2.1.length ≤ 8
 c8 : f.2.2.2.1.length = f.2.2.1.length
 p0 : 0 ≤ f.1
 p1 : f.1 ≤ 20
 b0 : 0 ≤ f.2.1
 b1 : f.2.1 ≤ 12
 st : ∀ x ∈ f.2.2.1, 0 ≤ x ∧ x ≤ 100000
 ca : ∀ x ∈ f.2.2.2.1, 0 ≤ x ∧ x ≤ 1000000
 r0 : 0 ≤ f.2.2.2.2.2.1
 r1 : f.2.2.2.2.2.1 ≤ 1000
 d0 : 0 ≤ f.2.2.2.2.2.2.1
 d1 : f.2.2.2.2.2.2.1 ≤ 1000000
 h0 : 1 ≤ f.2.2.2.2.2.2.2
 h1 : f.2.2.2.2.2.2.2 ≤ 1440
 fine : qcb f.2.2.2.2.1
 six : f.2.2.2.2.1.length ≤ 6
 win : ∀ b ∈ f.2.2.2.2.1, f.2.2.2.2.2.1 * b.1 ≤ b.2
def cnt0 (f : qev) : Cnt := (f.2.2.1, f.2.2.2.1, List.replicate f.1.toNat (0, 0), List.replicate f.2.1.toNat 0, 0)
theorem qga (n : Nat) : sumP (List.replicate n (0, 0)) = 0 := by
 unfold sumP
 rw [List.map_replicate, qcr]
theorem Inv.zero {f : qev} (h : Ok f) : Inv f (cnt0 f) 0 := by
 refine ⟨rfl, h.c8, List.length_replicate, List.length_replicate, fun x hx => (h.st x hx).1, fun x hx => ?_, fun x hx => ?_, fun x hx => ?_, Int.le_refl _, ?_⟩
 ·have := h.ca x hx; omega
 ·rw [(List.mem_replicate.1 hx).2]; exact Int.le_refl _
 ·rw [(List.mem_replicate.1 hx).2]; exact Int.le_refl _
 ·unfold tot cnt0
  simp only
  rw [qga, qcr]
  omega
structure NInv (t : Night) (k : Nat) : Prop where
 s0 : 0 ≤ t.1
 s1 : t.1 ≤ 100000 * k
 t0 : 0 ≤ t.2.1
 t1 : t.2.1 ≤ 100000 * k
 r0 : 0 ≤ t.2.2.1
 r1 : t.2.2.1 ≤ 100000 * k
 h : t.2.2.2.1 = 0
 l0 : 0 ≤ t.2.2.2.2.1
 l1 : t.2.2.2.2.1 ≤ 100000 * k
 c0 : -(100000000 * (k : Int)) ≤ t.2.2.2.2.2
 c1 : t.2.2.2.2.2 ≤ 1000000 * k
def nt0 : Night := (0, 0, 0, 0, 0, 0)
theorem NInv.zero : NInv nt0 0 := ⟨by decide, by decide, by decide, by decide, by decide, by decide, rfl, by decide, by decide, by decide, by decide⟩
def first (n : Nat) (q : Nat → Bool) : Option Nat := (List.range n).find? q
theorem qgO {n : Nat} {q : Nat → Bool} : first n q = none ↔ ∀ j, j < n → q j = false := by
 unfold first
 rw [List.find?_eq_none]
 simp
theorem qgN {n : Nat} {q : Nat → Bool} {i : Nat} : first n q = some i ↔ i < n ∧ q i = true ∧ ∀ j, j < i → q j = false := by
 unfold first
 rw [List.find?_range_eq_some]
 simp only [List.mem_range, Bool.not_eq_true']
 constructor
 ·rintro ⟨h1, h2, h3⟩; exact ⟨h2, h1, h3⟩
 ·rintro ⟨h1, h2, h3⟩; exact ⟨h2, h1, h3⟩
theorem qkP {D R : Type} {L : Nat → D → Option R} (mk : Nat → D) (n : Nat) (q : Nat → Bool) (hit : Nat → R) (e : R) (c : Nat) {N : Nat} (hN : n + c < N)
  (hend : ∀ N, (∀ j, j < n → q j = false) → L (N + 1) (mk n) = some e)
  (hstep : ∀ N i, c ≤ N → i < n → (∀ j, j < i → q j = false) → L (N + 1) (mk i) = bif q i then some (hit i) else L N (mk (i + 1))) :
  L N (mk 0) = some (match first n q with | some i => hit i | none => e) := by
 have key : ∀ (d i : Nat) (N : Nat), i + d = n → d + c < N → (∀ j, j < i → q j = false) → L N (mk i) = some (match first n q with | some i => hit i | none => e) := by
  intro d
  induction d with
  | zero =>
   intro i N hi hN hq
   obtain ⟨m, rfl⟩ : ∃ m, N = m + 1 := ⟨N - 1, by omega⟩
   obtain rfl : i = n := by omega
   rw [hend m hq, qgO.2 hq]
  | succ d ih =>
   intro i N hi hN hq
   obtain ⟨m, rfl⟩ : ∃ m, N = m + 1 := ⟨N - 1, by omega⟩
   rw [hstep m i (by omega) (by omega) hq]
   cases h : q i with
   | true => rw [cond_true, qgN.2 ⟨by omega, h, hq⟩]
   | false =>
    rw [cond_false]
    refine ih (i + 1) m (by omega) (by omega) fun j hj => ?_
    by_cases e : j = i
    ·rw [e, h]
    ·exact hq j (by omega)
 exact key n 0 N (by omega) hN fun j hj => absurd hj (by omega)
def exF : qev := (2, 2, [100, 50], [0, 1000], [(1, 200), (6, 1000)], 150, 2500, 180)
theorem ex_pays {t p : Int} (h : qac [(1, 200), (6, 1000)] t p) : ∃ a b : Nat, t = a + 6 * b ∧ p = 200 * a + 1000 * b := by
 obtain ⟨a, h1⟩ := h.count
 obtain ⟨b, h2⟩ := h1.count
 revert h2
 generalize e1 : t - (a : Int) * ((1, 200) : Bun).1 - (b : Int) * ((6, 1000) : Bun).1 = x
 generalize e2 : p - (a : Int) * ((1, 200) : Bun).2 - (b : Int) * ((6, 1000) : Bun).2 = y
 intro h2
 cases h2
 simp only at e1 e2
 exact ⟨a, b, by omega, by omega⟩
theorem ex_pays1 {t p : Int} (h : qac [(6, 1000)] t p) : ∃ b : Nat, t = 6 * b ∧ p = 1000 * b := by
 obtain ⟨b, h2⟩ := h.count
 revert h2
 generalize e1 : t - (b : Int) * ((6, 1000) : Bun).1 = x
 generalize e2 : p - (b : Int) * ((6, 1000) : Bun).2 = y
 intro h2
 cases h2
 simp only at e1 e2
 exact ⟨b, by omega, by omega⟩
theorem ex_buys : qg4 exF.2.2.2.2.1 7 [1, 1] 1200 := by
 show qg4 [(1, 200), (6, 1000)] 7 [1, 1] 1200
 have p6 : qac [(6, 1000)] 6 1000 := qac.take (b := (6, 1000)) (t := 0) (p := 0) (.zero _)
 have p7 : qac [(1, 200), (6, 1000)] 7 1200 := qac.take (b := (1, 200)) (t := 6) (p := 1000) (.skip p6)
 refine ⟨7, ⟨Nat.le_refl _, by decide, p7, fun t' h1 h2 p' hp => ?_⟩, ?_⟩
 ·obtain ⟨a, b, e1, e2⟩ := ex_pays hp
  omega
 ·refine .cons (k := 1) ⟨by decide, p6, fun j hj hp => ?_⟩ (.cons (k := 1) ⟨by decide, .zero _, fun j hj hp => ?_⟩ ?_)
  ·obtain ⟨b, e1, e2⟩ := ex_pays1 hp
   simp only at e1 e2
   omega
  ·revert hp
   generalize e1 : ((7 : Nat) : Int) - 1 * ((1, 200) : Bun).1 - j * ((6, 1000) : Bun).1 = x
   generalize e2 : (1200 : Int) - 1 * ((1, 200) : Bun).2 - j * ((6, 1000) : Bun).2 = y
   intro hp
   cases hp
   simp only at e1 e2
   omega
  ·exact .nil
theorem g20_eq (f : qev) (hl : qcb f.2.2.2.2.1) (hk : f.2.2.2.2.1.length ≤ 6) (n : Nat) (hn : n ≤ 1000) :
  (qfM f.2.2.2.2.1 n ∧ g20 (f, (n : Int), ()) = some (([], 0, 3, ()), ())) ∨ ∃ r p, qg4 f.2.2.2.2.1 n r p ∧ g20 (f, (n : Int), ()) = some ((r, p, 0, ()), ()) := by
 have e0 : g20 (f, (n : Int), ()) = F20 qj f n := rfl
 rw [e0]
 unfold F20
 rcases g55_eq f.2.2.2.2.1 hl hk n hn with ⟨h, h2⟩ | ⟨r, p, h, h1, h2⟩
 ·left
  exact ⟨h, by rw [h2]; rfl⟩
 ·right
  exact ⟨r, p, h, by rw [h2, h1]; rfl⟩
theorem g11_eq (f : qev) (hs : Sized f) (n : Int) : ∃ x, qg5 f n x ∧ g11 (f, n, ()) = some ((x.1, x.2.1, x.2.2, ()), ()) := by
 have e0 : g11 (f, n, ()) = F11 qj f n := rfl
 rw [e0]
 unfold F11
 rw [g18_eq f hs, qd]
 by_cases hv : qdQ f = false
 ·refine ⟨([], 0, 10), by unfold qg5; rw [if_pos hv], ?_⟩
  rw [hv]; rfl
 have hv' : qdQ f = true := by simpa using hv
 rw [hv', if_pos rfl, show ((0 : Int) != 0) = false from rfl, cond_false, g19_eq, qd]
 by_cases hn : rng n 0 1000 = false
 ·refine ⟨([], 0, 1), by unfold qg5; rw [if_neg hv, if_pos hn], ?_⟩
  rw [hn]; rfl
 have hn' : rng n 0 1000 = true := by simpa using hn
 have hr := jL.1 hn'
 rw [hn', Bool.not_true, cond_false]
 obtain ⟨hl, hk⟩ := qjm hv'
 obtain ⟨m, rfl⟩ : ∃ m : Nat, n = m := ⟨n.toNat, by omega⟩
 rcases g20_eq f hl hk m (by omega) with ⟨h, h1⟩ | ⟨r, p, h, h1⟩
 ·refine ⟨([], 0, 3), ?_, by rw [h1]; rfl⟩
  unfold qg5
  rw [if_neg hv, if_neg hn, if_pos]
  refine ⟨?_, ?_⟩
  ·exact Classical.byContradiction fun hne => qhy hl (.inr hne) h
  ·exact Classical.byContradiction fun hne => qhy hl (.inl (by omega)) h
 ·refine ⟨(r, p, 0), ?_, by rw [h1]; rfl⟩
  unfold qg5
  rw [if_neg hv, if_neg hn, if_neg, Int.toNat_natCast]
  ·exact ⟨rfl, h⟩
  ·rintro ⟨e1, e2⟩
   rw [e1] at h
   exact qgX h (qkN (by omega))
theorem g10_eq (a b : List Int) (ha : a.length ≤ 1000000000) : g10 (a, b, ()) = some ((decide (a = b), ()), ()) := by
 have hfu := jP
 have e0 : g10 (a, b, ()) = F10 qj a b := rfl
 rw [e0]
 unfold F10
 by_cases hl : a.length = b.length
 ·rw [show ((a.length : Int) != (b.length : Int)) = false by rw [hl, bne_self_eq_false], cond_false]
  have h := qkP (L := L10_4) (fun i => ((a, b, (i : Int), ()), (), ())) a.length (fun i => decide (gd a (i : Int) ≠ gd b (i : Int))) (fun _ => .inl ((false, ()), (), ())) (.inr ((), (), ())) 0 (N := qj) (by omega)
   (fun N _ => by simp only [L10_4, B10_4]; rw [qL (by omega), cond_false])
   (fun N i _ hi _ => by
    simp only [L10_4, B10_4]
    rw [qM (by omega), cond_true, qv (by omega) (by omega), qv (by omega) (by omega), wI (by omega) (by omega)]
    by_cases he : gd a (i : Int) = gd b (i : Int)
    ·rw [he, bne_self_eq_false, qL (fun h => h rfl)]
     rfl
    ·rw [bne_iff_ne.2 he, qM he]
     rfl)
  have h' : L10_4 qj ((a, b, 0, ()), (), ()) = _ := h
  rw [h', qd]
  cases hq : first a.length (fun i => decide (gd a (i : Int) ≠ gd b (i : Int))) with
  | none =>
   rw [qgO] at hq
   have : a = b := qfi hl fun i hi => by
    have := hq i hi
    rw [decide_eq_false_iff_not] at this
    exact Classical.not_not.1 this
   rw [qM this]
   rfl
  | some i =>
   rw [qgN] at hq
   have := of_decide_eq_true hq.2.1
   rw [qL (p := a = b) fun h => this (by rw [h])]
   rfl
 ·rw [bne_iff_ne.2 (fun h => hl (by omega)), cond_true, qL (fun h => hl (by rw [h]))]
def exT : qev := (0, 0, [5], [0], [(1, 200), (6, 1000)], 0, 0, 1)
theorem exT_ok : qdQ exT = true := by decide
theorem exT_s : Sized exT := by unfold Sized exT; simp
theorem buyT : g11 (exT, 7, ()) = some (([1, 1], 1200, 0, ()), ()) := by
 obtain ⟨x, h1, h2⟩ := g11_eq exT exT_s 7
 have h3 : qg5 exT 7 ([1, 1], 1200, 0) := by
  unfold qg5
  rw [if_neg (by rw [exT_ok]; decide), if_neg (by decide), if_neg (by unfold exT; simp)]
  exact ⟨rfl, ex_buys⟩
 obtain rfl := h1.uniq h3
 exact h2
theorem root01 : g10 ([1, 1], [1, 1], ()) = some ((true, ()), ()) := g10_eq [1, 1] [1, 1] (by simp)
end Go.Proofs.Try.V.L01
