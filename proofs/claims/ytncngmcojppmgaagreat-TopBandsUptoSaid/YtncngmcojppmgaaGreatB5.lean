/- An evening's queues, plain: who leaves. No condition beyond those typed in each theorem. -/
import Derived.Test.YtncngmcojppmgaaGreatB4
namespace Go.Proofs.Tryz.V.Bd
open Go.Vi
set_option maxRecDepth 100000
section
variable {G : List Gp} {n : Nat} {F : Int → Nat}
def out (ps : List Pa) (t : Int) (s : Int × Int) : Bool := decide (IntKind.wrap .i64 (t - s.2) > (gd ps s.1).1.2.2.2.2)
def InP (ps : List Pa) (s : Int × Int) : Prop := 0 ≤ s.1 ∧ s.1 < ps.length
theorem pred16 {w t : Int} {rs : List Bo} {ps : List Pa} {vs : List Vis} {s : Int × Int} (hs : InP ps s) {a b c d e f g h i j : Int} {gone : List (Int × Int)} (hg : gone.length ≤ 1000000) :
  g28022010016 ((a, b, c, d, s, e, f, g, h, i, j, ()), (gone, N w rs ps t vs, ()), ()) = some ((a, b, c, d, out ps t s, e, f, g, h, i, j, ()), (gone ++ (if out ps t s then [s] else []), N w rs ps t vs, ()), ()) := by
 show F28022010016 qi a b c d s e f g h i j gone (N w rs ps t vs) = _
 unfold F28022010016 N
 rw [qE hs.1 (by simp only [List.length_map]; exact hs.2)]
 have hp := fun {R : Type} (k : Option Pa → Option R) => qaH (l := ps) hs.1 hs.2 k
 have hl : ∀ {R : Type} (k : Option R), qB ((gone.length : Int) + [s].length) k = k := fun k => jR (by simp only [List.length_singleton]; omega) (by simp only [List.length_singleton]; omega) k
 simp only [hp, qb, hl]
 have e0 : decide (IntKind.wrap .i64 (t - s.2) > (gd ps s.1).1.2.2.2.2) = out ps t s := rfl
 rw [e0]
 cases out ps t s with
 | true => rfl
 | false => rw [cond_false]; simp
theorem pred28 {w t : Int} {rs : List Bo} {ps : List Pa} {vs : List Vis} {s : Int × Int} (hs : InP ps s) {a b c d e f g : Int} {x : Int × Int} {gone : List (Int × Int)} (hg : gone.length ≤ 1000000) :
  g28022028 ((a, b, c, s, d, e, f, g, ()), (gone, x, N w rs ps t vs, ()), ()) = some ((a, b, c, out ps t s, d, e, f, g, ()), (gone ++ (if out ps t s then [s] else []), x, N w rs ps t vs, ()), ()) := by
 show F28022028 qi a b c s d e f g gone x (N w rs ps t vs) = _
 unfold F28022028 N
 rw [qE hs.1 (by simp only [List.length_map]; exact hs.2)]
 have hp := fun {R : Type} (k : Option Pa → Option R) => qaH (l := ps) hs.1 hs.2 k
 have hl : ∀ {R : Type} (k : Option R), qB ((gone.length : Int) + [s].length) k = k := fun k => jR (by simp only [List.length_singleton]; omega) (by simp only [List.length_singleton]; omega) k
 simp only [hp, qb, hl]
 have e0 : decide (IntKind.wrap .i64 (t - s.2) > (gd ps s.1).1.2.2.2.2) = out ps t s := rfl
 rw [e0]
 cases out ps t s with
 | true => rfl
 | false => rw [cond_false]; simp
theorem qjM {w t : Int} {rs : List Bo} {ps : List Pa} {vs : List Vis} {r : Int} (r0 : 0 ≤ r) (r1 : r < rs.length) (hq : ∀ s ∈ (gd rs r).q, InP ps s) (hl : (gd rs r).q.length ≤ 100000) {e f a b c d : Int} {gone : List (Int × Int)} (hg : gone.length ≤ 100000) :
  ∀ (suf pre : List (Int × Int)) (N0 : Nat), pre ++ suf = (gd rs r).q → suf.length < N0 →
  (suf.all fun s => !out ps t s) = true ∧ L28022010_2 N0 ((r, ((gd rs r).q.length : Int), (pre.length : Int), e, f, a, b, c, d, ()), (gone, N w rs ps t vs, ()), ()) = some (.inr ((e, f, a, b, c, d, ()), (gone, N w rs ps t vs, ()), ())) ∨
  ∃ p x q, suf = p ++ x :: q ∧ (p.all fun s => !out ps t s) = true ∧ out ps t x = true ∧ L28022010_2 N0 ((r, ((gd rs r).q.length : Int), (pre.length : Int), e, f, a, b, c, d, ()), (gone, N w rs ps t vs, ()), ()) = some (.inl ((((pre ++ p).length : Int), e, f, a, b, c, d, ()), (gone ++ [x], N w rs ps t vs, ()), ()))
 | [], pre, N0, he, hN => by
  obtain ⟨m, rfl⟩ : ∃ m, N0 = m + 1 := ⟨N0 - 1, by omega⟩
  refine .inl ⟨rfl, ?_⟩
  simp only [L28022010_2, B28022010_2]
  rw [jC (by rw [← he]; simp), cond_false]
 | x :: suf, pre, N0, he, hN => by
  obtain ⟨m, rfl⟩ : ∃ m, N0 = m + 1 := ⟨N0 - 1, by omega⟩
  simp only [List.length_cons] at hN
  have hlen : (gd rs r).q.length = pre.length + suf.length + 1 := by rw [← he]; simp; omega
  have hr : ∀ {R : Type} (k : Option Bo → Option R), qc (N w rs ps t vs).2.1 r k = k (some (gd rs r)) := fun k => qaH (l := rs) r0 r1 k
  have hx : gd (gd rs r).q (pre.length : Int) = x := qco (by rw [← he, List.getElem?_append_right (Nat.le_refl _), Nat.sub_self]; rfl)
  have hsx : InP ps x := hq x (by rw [← he]; simp)
  have step : L28022010_2 (m + 1) ((r, ((gd rs r).q.length : Int), (pre.length : Int), e, f, a, b, c, d, ()), (gone, N w rs ps t vs, ()), ()) = cond (out ps t x) (some (.inl (((pre.length : Int), e, f, a, b, c, d, ()), (gone ++ (if out ps t x then [x] else []), N w rs ps t vs, ()), ())))
    (L28022010_2 m ((r, ((gd rs r).q.length : Int), (((pre ++ [x]).length : Nat) : Int), e, f, a, b, c, d, ()), (gone ++ (if out ps t x then [x] else []), N w rs ps t vs, ()), ())) := by
   simp only [L28022010_2, B28022010_2]
   rw [qX (by omega), cond_true, hr, qb, qE (by omega) (by show (pre.length : Int) < ((gd rs r).q.length : Nat); omega), hr, qb, qp (l := (gd rs r).q) (by omega) (by omega), hx, pred16 hsx (by omega), qb]
   simp only []
   rw [jE (by omega)]
   rw [show ((pre.length + 1 : Nat) : Int) = (((pre ++ [x]).length : Nat) : Int) by simp]
  cases ho : out ps t x with
  | true =>
   refine .inr ⟨[], x, suf, rfl, rfl, ho, ?_⟩
   rw [step, ho, cond_true, List.append_nil]
   rfl
  | false =>
   rw [step, ho, cond_false]
   have hgn : gone ++ (if false = true then [x] else []) = gone := by simp
   rw [hgn]
   rcases qjM r0 r1 hq hl hg suf (pre ++ [x]) m (by rw [← he]; simp) (by omega) with ⟨h1, h2⟩ | ⟨p, y, q, h1, h2, h3, h4⟩
   ·exact .inl ⟨by rw [List.all_cons, ho, h1]; rfl, h2⟩
   ·refine .inr ⟨x :: p, y, q, by rw [h1]; rfl, by rw [List.all_cons, ho, h2]; rfl, h3, ?_⟩
    rw [h4]
    simp
theorem qje {α : Type} [Inhabited α] {l : List α} {i : Int} (h0 : 0 ≤ i) (h : i < l.length) {f : α → α} (hf : f (gd l i) = gd l i) : upd l i f = l := by
 unfold upd
 obtain ⟨hn, e⟩ := qd5 h0 h
 rw [hf, ← e, List.set_getElem_self]
theorem qhu {w t : Int} {rs : List Bo} {ps : List Pa} {vs : List Vis} {r : Int} (r0 : 0 ≤ r) (r1 : r < rs.length) {a b c d : Int} :
  ∀ (suf keep junk : List (Int × Int)) (gone : List (Int × Int)) (N0 : Nat), (∀ s ∈ suf, InP ps s) → keep.length + junk.length + suf.length ≤ 100000 → gone.length + suf.length ≤ 200000 → suf.length < N0 → (suf ≠ [] → junk ≠ [] ∨ True) →
  ∃ junk', L28022_5 N0 ((r, (keep.length : Int), ((keep.length + junk.length : Nat) : Int), a, b, c, d, ()), (gone, N w (upd rs r fun x => qas x (keep ++ junk ++ suf)) ps t vs, ()), ()) =
   some ((r, ((keep ++ suf.filter fun s => !out ps t s).length : Int), a, b, c, d, ()), (gone ++ suf.filter (out ps t), N w (upd rs r fun x => qas x ((keep ++ suf.filter fun s => !out ps t s) ++ junk')) ps t vs, ()), ())
 | [], keep, junk, gone, N0, _, hl, _, hN, _ => by
  obtain ⟨m, rfl⟩ : ∃ m, N0 = m + 1 := ⟨N0 - 1, by omega⟩
  refine ⟨junk, ?_⟩
  have hr : ∀ {R : Type} (s : List (Int × Int)) (k : Option Bo → Option R), qc (N w (upd rs r fun x => qas x s) ps t vs).2.1 r k = k (some (qas (gd rs r) s)) := fun s k => by
   show qc ((upd rs r fun x => qas x s).map some) r k = _
   rw [qaH r0 (by rw [qaI]; exact r1), qdk r0 r1]
  simp only [L28022_5, B28022_5, hr, qb]
  rw [jC (by show ¬ ((keep.length + junk.length : Nat) : Int) < ((keep ++ junk ++ []).length : Nat); simp), cond_false]
  simp
 | x :: suf, keep, junk, gone, N0, hs, hl, hg, hN, _ => by
  obtain ⟨m, rfl⟩ : ∃ m, N0 = m + 1 := ⟨N0 - 1, by omega⟩
  simp only [List.length_cons] at hN hl hg
  have hr : ∀ {R : Type} (s : List (Int × Int)) (k : Option Bo → Option R), qc (N w (upd rs r fun x => qas x s) ps t vs).2.1 r k = k (some (qas (gd rs r) s)) := fun s k => by
   show qc ((upd rs r fun x => qas x s).map some) r k = _
   rw [qaH r0 (by rw [qaI]; exact r1), qdk r0 r1]
  have hsx : InP ps x := hs x (by simp)
  obtain ⟨S, hS⟩ : ∃ S, keep ++ junk ++ x :: suf = S := ⟨_, rfl⟩
  have hSl : S.length = keep.length + junk.length + suf.length + 1 := by rw [← hS]; simp; omega
  have hx : gd S ((keep.length + junk.length : Nat) : Int) = x := qco (by rw [← hS, List.getElem?_append_right (by simp)]; simp)
  rw [hS]
  have step : L28022_5 (m + 1) ((r, (keep.length : Int), ((keep.length + junk.length : Nat) : Int), a, b, c, d, ()), (gone, N w (upd rs r fun x => qas x S) ps t vs, ()), ()) = cond (!out ps t x)
    (L28022_5 m ((r, ((keep.length + 1 : Nat) : Int), ((keep.length + junk.length + 1 : Nat) : Int), a, b, c, d, ()), (gone ++ (if out ps t x then [x] else []), N w (upd rs r fun b => qas b (S.set keep.length x)) ps t vs, ()), ()))
    (L28022_5 m ((r, (keep.length : Int), ((keep.length + junk.length + 1 : Nat) : Int), a, b, c, d, ()), (gone ++ (if out ps t x then [x] else []), N w (upd rs r fun x => qas x S) ps t vs, ()), ())) := by
   simp only [L28022_5, B28022_5, hr, qb]
   have hq : (qas (gd rs r) S).2.2.2.2.1 = S := rfl
   simp only [hq]
   rw [qX (by omega), cond_true, qE (by omega) (by omega), qp (by omega) (by omega), hx, pred28 hsx (by omega), qb]
   simp only [hr, qb, hq]
   rw [jE (k := keep.length + junk.length) (by omega), jE (k := keep.length) (by omega), qE (by omega) (by omega), qp (l := S) (by omega) (by omega), qY]
   have hset : ∀ (z : Bo), ((N w (upd rs r fun x => qas x S) ps t vs).2.1.set r.toNat (some z)) = (upd rs r fun _ => z).map some := fun z => by
    show ((upd rs r fun x => qas x S).map some).set r.toNat (some z) = _
    rw [qc7]
    unfold upd
    rw [List.set_set]
   rw [hset]
   rfl
  cases ho : out ps t x with
  | true =>
   rw [step, ho]
   have hj : junk ++ [x] ≠ [] := by simp
   obtain ⟨junk', h⟩ := qhu r0 r1 (w := w) (t := t) (vs := vs) (a := a) (b := b) (c := c) (d := d) suf keep (junk ++ [x]) (gone ++ [x]) m (fun s h => hs s (by simp [h])) (by simp; omega) (by simp; omega) (by omega) (fun _ => .inr trivial)
   refine ⟨junk', ?_⟩
   have e1 : keep ++ (junk ++ [x]) ++ suf = S := by rw [← hS]; simp
   have e2 : ((keep.length + (junk ++ [x]).length : Nat) : Int) = ((keep.length + junk.length + 1 : Nat) : Int) := by simp; omega
   rw [e1, e2] at h
   have f1 : (x :: suf).filter (fun s => !out ps t s) = suf.filter (fun s => !out ps t s) := by rw [List.filter_cons_of_neg (by simp [ho])]
   have f2 : (x :: suf).filter (out ps t) = x :: suf.filter (out ps t) := by rw [List.filter_cons_of_pos (by simp [ho])]
   rw [f1, f2]
   show L28022_5 m _ = _
   rw [if_pos rfl, h]
   simp
  | false =>
   rw [step, ho]
   have f1 : (x :: suf).filter (fun s => !out ps t s) = x :: suf.filter (fun s => !out ps t s) := by rw [List.filter_cons_of_pos (by simp [ho])]
   have f2 : (x :: suf).filter (out ps t) = suf.filter (out ps t) := by rw [List.filter_cons_of_neg (by simp [ho])]
   rw [f1, f2]
   show ∃ junk', L28022_5 m _ = _
   rw [if_neg (by decide), List.append_nil]
   obtain ⟨j2, hj2, hj3⟩ : ∃ j2, S.set keep.length x = keep ++ [x] ++ j2 ++ suf ∧ j2.length = junk.length := by
    cases junk with
    | nil => exact ⟨[], by rw [← hS]; simp, rfl⟩
    | cons y junk => exact ⟨junk ++ [x], by rw [← hS]; simp, by simp⟩
   rw [hj2]
   obtain ⟨junk', h⟩ := qhu r0 r1 (w := w) (t := t) (vs := vs) (a := a) (b := b) (c := c) (d := d) suf (keep ++ [x]) j2 gone m (fun s h => hs s (by simp [h])) (by simp; omega) (by omega) (by omega) (fun _ => .inr trivial)
   refine ⟨junk', ?_⟩
   have e2 : (((keep ++ [x]).length + j2.length : Nat) : Int) = ((keep.length + junk.length + 1 : Nat) : Int) := by simp; omega
   have e3 : (((keep ++ [x]).length : Nat) : Int) = ((keep.length + 1 : Nat) : Int) := by simp
   rw [e2, e3] at h
   rw [h]
   simp
theorem qho {α : Type} {p : α → Bool} {l : List α} (h : l.all p = true) : l.filter p = l := List.filter_eq_self.2 (fun x hx => List.all_eq_true.1 h x hx)
theorem qf0 {α : Type} {p : α → Bool} {l : List α} (h : (l.all fun x => !p x) = true) : l.filter p = [] := List.filter_eq_nil_iff.2 (fun x hx => by have := List.all_eq_true.1 h x hx; simpa using this)
theorem del28 {w t : Int} {rs : List Bo} {ps : List Pa} {vs : List Vis} {r : Int} (r0 : 0 ≤ r) (r1 : r < rs.length) (hq : ∀ s ∈ (gd rs r).q, InP ps s) (hl : (gd rs r).q.length ≤ 50000) {a b c : Int} {gone : List (Int × Int)} (hg : gone.length ≤ 50000) :
  ∃ junk, g28022 ((a, b, c, r, ()), (gone, N w rs ps t vs, ()), ()) = some ((a, b, c, (r, (gd rs r).q.filter fun s => !out ps t s), ()), (gone ++ (gd rs r).q.filter (out ps t), N w (upd rs r fun x => qas x junk) ps t vs, ()), ()) := by
 show ∃ junk, F28022 qi a b c r gone (N w rs ps t vs) = _
 unfold F28022
 have hr : ∀ {R : Type} (k : Option Bo → Option R), qc (N w rs ps t vs).2.1 r k = k (some (gd rs r)) := fun k => qaH (l := rs) r0 r1 k
 have hi : g28022010 ((r, r, a, b, c, r, ()), (gone, N w rs ps t vs, ()), ()) = F28022010 qi r r a b c r gone (N w rs ps t vs) := rfl
 rw [hi]
 unfold F28022010
 rw [hr, qb]
 have hr2 : ∀ {R : Type} (s : List (Int × Int)) (k : Option Bo → Option R), qc (N w (upd rs r fun x => qas x s) ps t vs).2.1 r k = k (some (qas (gd rs r) s)) := fun s k => by
  show qc ((upd rs r fun x => qas x s).map some) r k = _
  rw [qaH r0 (by rw [qaI]; exact r1), qdk r0 r1]
 rcases qjM (w := w) (t := t) (vs := vs) r0 r1 hq (by omega) (e := r) (f := r) (a := a) (b := b) (c := c) (d := r) (gone := gone) (by omega) (gd rs r).q [] qi rfl (qbw (by omega)) with ⟨h1, h2⟩ | ⟨p, x, q, h1, h2, h3, h4⟩
 ·have h2' : L28022010_2 qi ((r, ((gd rs r).2.2.2.2.1.length : Int), 0, r, r, a, b, c, r, ()), (gone, N w rs ps t vs, ()), ()) = _ := h2
  rw [h2', qb, sumK_inr, qb]
  refine ⟨(gd rs r).q, ?_⟩
  rw [show ((-1 : Int) == -1) = true from rfl, cond_true]
  simp only []
  rw [hr, qb, qho h1, qf0 h1, List.append_nil, qje r0 r1 rfl]
 ·have h4' : L28022010_2 qi ((r, ((gd rs r).2.2.2.2.1.length : Int), 0, r, r, a, b, c, r, ()), (gone, N w rs ps t vs, ()), ()) = _ := h4
  rw [h4', qb, sumK_inl, qb, List.nil_append]
  simp only []
  have hne : ((p.length : Int) == -1) = false := by simp
  have hQ : (gd rs r).q.length = p.length + q.length + 1 := by rw [h1]; simp; omega
  rw [hne, cond_false, jE (by omega)]
  obtain ⟨junk', h⟩ := qhu r0 r1 (w := w) (t := t) (vs := vs) (ps := ps) (a := a) (b := b) (c := c) (d := r) q p [x] (gone ++ [x]) qi (fun s hs => hq s (by rw [h1]; simp [hs])) (by simp; omega) (by simp; omega) (qbw (by omega)) (fun _ => .inr trivial)
  have e1 : (upd rs r fun y => qas y (p ++ [x] ++ q)) = rs := qje r0 r1 (by rw [show p ++ [x] ++ q = (gd rs r).q by rw [h1]; simp]; rfl)
  rw [e1] at h
  have h' : L28022_5 qi ((r, (p.length : Int), ((p.length + 1 : Nat) : Int), a, b, c, r, ()), (gone ++ [x], N w rs ps t vs, ()), ()) = _ := h
  rw [h', qb]
  obtain ⟨K, hK⟩ : ∃ K, (p ++ q.filter fun s => !out ps t s) = K := ⟨_, rfl⟩
  rw [hK]
  have hKf : (gd rs r).q.filter (fun s => !out ps t s) = K := by
   rw [h1, List.filter_append, List.filter_cons_of_neg (by simp [h3]), qho h2, hK]
  have hGf : (gd rs r).q.filter (out ps t) = x :: q.filter (out ps t) := by
   rw [h1, List.filter_append, List.filter_cons_of_pos (by simp [h3]), qf0 h2]; rfl
  rw [hKf, hGf]
  simp only [hr2, qb]
  have hq' : ∀ s, (qas (gd rs r) s).2.2.2.2.1 = s := fun _ => rfl
  simp only [hq']
  rw [qaz (by omega), qaz (by rw [List.length_append]; omega), qY]
  have htn : ((K.length : Int)).toNat = K.length := by omega
  have hset : ∀ (z : Bo), ((N w (upd rs r fun x => qas x (K ++ junk')) ps t vs).2.1.set r.toNat (some z)) = (upd rs r fun _ => z).map some := fun z => by
   show ((upd rs r fun x => qas x (K ++ junk')).map some).set r.toNat (some z) = _
   rw [qc7]
   unfold upd
   rw [List.set_set]
  rw [hset, htn, List.take_left]
  obtain ⟨J, hJ⟩ : ∃ J, K ++ List.replicate ((K ++ junk').length - K.length) ((0 : Int), (0 : Int)) = J := ⟨_, rfl⟩
  refine ⟨J, ?_⟩
  have hN : ((N w (upd rs r fun x => qas x (K ++ junk')) ps t vs).1, ((upd rs r fun _ => ((qas (gd rs r) (K ++ junk')).1, ((qas (gd rs r) (K ++ junk')).2.1, ((qas (gd rs r) (K ++ junk')).2.2.1, ((qas (gd rs r) (K ++ junk')).2.2.2.1, ((K ++ List.replicate ((K ++ junk').length - K.length) ((0 : Int), (0 : Int))), (qas (gd rs r) (K ++ junk')).2.2.2.2.2)))))).map some), (N w (upd rs r fun x => qas x (K ++ junk')) ps t vs).2.2) = N w (upd rs r fun x => qas x J) ps t vs := by
   rw [hJ]; rfl
  rw [hN, hr2, qb]
  simp only [hq']
  rw [qaz (by omega), qaz (by rw [← hJ, List.length_append]; omega), ← hJ, List.take_left]
  simp
end
end Go.Proofs.Tryz.V.Bd
