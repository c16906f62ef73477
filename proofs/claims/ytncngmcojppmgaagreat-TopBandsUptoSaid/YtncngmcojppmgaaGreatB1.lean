/- An evening's queues, plain: what a call of each small part makes of the night. No condition beyond those typed in each theorem. -/
import Derived.Test.YtncngmcojppmgaaGreatS01
namespace Go.Proofs.Tryz.V.Bd
open Go.Vi
open L01 (j9 qK)
set_option maxRecDepth 100000
abbrev Rd := Int × (Int × (Int × (Int × Bool)))
abbrev Gp := Int × (Int × (Int × ((List Int) × Int)))
abbrev Bo := Rd × ((List Int) × (Int × (Int × ((List (Int × Int)) × (Int × Int)))))
abbrev Pa := Gp × (Int × (Int × (Int × Int)))
abbrev Vis := Int × (Int × (Int × (Bool × (Int × Int))))
abbrev Nt := Int × ((List (Option Bo)) × ((List (Option Pa)) × (Int × (List Vis))))
def N (w : Int) (rs : List Bo) (ps : List Pa) (t : Int) (vs : List Vis) : Nt := (w, rs.map some, ps.map some, t, vs)
theorem qaH {α R : Type} [Inhabited α] {l : List α} {i : Int} (h0 : 0 ≤ i) (h : i < l.length) (k : Option α → Option R) : qc (l.map some) i k = k (some (gd l i)) := by
 have hx : (l.map some)[i.toNat]? = some (some (gd l i)) := by
  rw [List.getElem?_map, qcw h0 h]
  rfl
 exact qlh h0 hx k
theorem qc7 {α : Type} (l : List α) (i : Nat) (x : α) : (l.map some).set i (some x) = (l.set i x).map some := by rw [List.map_set]
theorem qeC {α : Type} [Inhabited α] {l : List α} {i : Int} (h0 : 0 ≤ i) (h : i < l.length) (x : α) : gd (l.set i.toNat x) i = x := by
 unfold gd
 rw [List.getD_eq_getElem?_getD, List.getElem?_set_self (by omega)]
 rfl
theorem qaO {α : Type} [Inhabited α] {l : List α} {i j : Int} (hi : 0 ≤ i) (hj : 0 ≤ j) (h : i ≠ j) (x : α) : gd (l.set i.toNat x) j = gd l j := by
 unfold gd
 rw [List.getD_eq_getElem?_getD, List.getElem?_set_ne (by omega), List.getD_eq_getElem?_getD]
theorem qcr {R : Type} (x : Int) (k : Option R) : eqK x x k = k := by
 unfold eqK
 simp
def qas (b : Bo) (q : List (Int × Int)) : Bo := (b.1, (b.2.1, (b.2.2.1, (b.2.2.2.1, (q, b.2.2.2.2.2)))))
def qh4 (b : Bo) (l : List Int) : Bo := (b.1, (l, b.2.2))
def qgE (p : Pa) (c : Int) : Pa := (p.1, (p.2.1, (p.2.2.1, (c, p.2.2.2.2))))
def qk1 (p : Pa) (c : Int) : Pa := (p.1, (p.2.1, (p.2.2.1, (p.2.2.2.1, c))))
def qeN (p : Pa) (c : Int) : Pa := (p.1, (c, p.2.2))
def qgC (p : Pa) (c : Int) : Pa := (p.1, (p.2.1, (c, p.2.2.2)))
abbrev Bo.q (b : Bo) : List (Int × Int) := b.2.2.2.2.1
abbrev Bo.on (b : Bo) : List Int := b.2.1
abbrev Pa.wants (p : Pa) : List Int := p.1.2.2.2.1
abbrev Pa.wish (p : Pa) : Int := p.2.1
abbrev Pa.comes (p : Pa) : Int := p.2.2.2.1
abbrev Pa.at (p : Pa) : Int := p.1.1
def upd {α : Type} [Inhabited α] (l : List α) (i : Int) (f : α → α) : List α := l.set i.toNat (f (gd l i))
theorem qaI {α : Type} [Inhabited α] (l : List α) (i : Int) (f : α → α) : (upd l i f).length = l.length := List.length_set
theorem qdk {α : Type} [Inhabited α] {l : List α} {i : Int} (h0 : 0 ≤ i) (h : i < l.length) (f : α → α) : gd (upd l i f) i = f (gd l i) := qeC h0 h _
theorem qd4 {α : Type} [Inhabited α] {l : List α} {i j : Int} (hi : 0 ≤ i) (hj : 0 ≤ j) (h : i ≠ j) (f : α → α) : gd (upd l i f) j = gd l j := qaO hi hj h _
structure Arr (rs : List Bo) (ps : List Pa) (g : Int) : Prop where
 g0 : 0 ≤ g
 g1 : g < ps.length
 w0 : 0 ≤ (gd ps g).wish
 w1 : (gd ps g).wish < (gd ps g).wants.length
 r0 : 0 ≤ gd (gd ps g).wants (gd ps g).wish
 r1 : gd (gd ps g).wants (gd ps g).wish < rs.length
 q : (gd rs (gd (gd ps g).wants (gd ps g).wish)).q.length ≤ 1000000
def qc8 (ps : List Pa) (g : Int) : Int := gd (gd ps g).wants (gd ps g).wish
def qgi (rs : List Bo) (ps : List Pa) (g t : Int) : List Bo := upd rs (qc8 ps g) fun b => qas b (b.q ++ [(g, t)])
def qfK (ps : List Pa) (g : Int) : List Pa := upd ps g fun p => qgE p (-1)
theorem arr46 {w : Int} {rs : List Bo} {ps : List Pa} {t : Int} {vs : List Vis} {g : Int} (h : Arr rs ps g) : g46051 ((g, ()), (N w rs ps t vs, ()), ()) = some ((()), (N w (qgi rs ps g t) (qfK ps g) t vs, ()), ()) := by
 obtain ⟨g0, g1, w0, w1, r0, r1, hq⟩ := h
 show F46051 qi g (N w rs ps t vs) = _
 unfold F46051 N
 rw [qE g0 (by simp only [List.length_map]; exact g1)]
 have hp := fun {R : Type} (k : Option Pa → Option R) => qaH (l := ps) g0 g1 k
 have hp2 : ∀ {R : Type} (x : Pa) (k : Option Pa → Option R), qc ((ps.set g.toNat x).map some) g k = k (some x) := fun x k => by
  rw [qaH g0 (by rw [List.length_set]; exact g1), qeC g0 g1]
 have hr := fun {R : Type} (k : Option Bo → Option R) => qaH (l := rs) r0 r1 k
 simp only [hp, hp2, qb, qY, qc7]
 have hw := fun {R : Type} (k : Int → Option R) => qp (l := (gd ps g).wants) w0 w1 k
 simp only [hw]
 rw [qE r0 (by simp only [List.length_map]; exact r1)]
 have hl : ∀ {R : Type} (k : Option R), qB (((gd rs (gd (gd ps g).wants (gd ps g).wish)).q.length : Int) + [(g, t)].length) k = k := fun k => jR (by simp only [List.length_singleton]; omega) (by simp only [List.length_singleton]; omega) k
 simp only [qa8, hr, qb, qcr, hl, qag, qaf]
 rfl
theorem arr27 {w : Int} {rs : List Bo} {ps : List Pa} {t : Int} {vs : List Vis} {g : Int} {a b : Int} (h : Arr rs ps g) : g27051 ((a, b, g, ()), (N w rs ps t vs, ()), ()) = some ((a, b, ()), (N w (qgi rs ps g t) (qfK ps g) t vs, ()), ()) := by
 obtain ⟨g0, g1, w0, w1, r0, r1, hq⟩ := h
 show F27051 qi a b g (N w rs ps t vs) = _
 unfold F27051 N
 rw [qE g0 (by simp only [List.length_map]; exact g1)]
 have hp := fun {R : Type} (k : Option Pa → Option R) => qaH (l := ps) g0 g1 k
 have hp2 : ∀ {R : Type} (x : Pa) (k : Option Pa → Option R), qc ((ps.set g.toNat x).map some) g k = k (some x) := fun x k => by
  rw [qaH g0 (by rw [List.length_set]; exact g1), qeC g0 g1]
 have hr := fun {R : Type} (k : Option Bo → Option R) => qaH (l := rs) r0 r1 k
 simp only [hp, hp2, qb, qY, qc7]
 have hw := fun {R : Type} (k : Int → Option R) => qp (l := (gd ps g).wants) w0 w1 k
 simp only [hw]
 rw [qE r0 (by simp only [List.length_map]; exact r1)]
 have hl : ∀ {R : Type} (k : Option R), qB (((gd rs (gd (gd ps g).wants (gd ps g).wish)).q.length : Int) + [(g, t)].length) k = k := fun k => jR (by simp only [List.length_singleton]; omega) (by simp only [List.length_singleton]; omega) k
 simp only [qa8, hr, qb, qcr, hl, qag, qaf]
 rfl
theorem arr27n {w : Int} {rs : List Bo} {ps : List Pa} {t : Int} {vs : List Vis} {g : Int} {a b c : Int} (h : Arr rs ps g) : g27028051 ((g, a, b, c, ()), (N w rs ps t vs, ()), ()) = some ((a, b, c, ()), (N w (qgi rs ps g t) (qfK ps g) t vs, ()), ()) := by
 obtain ⟨g0, g1, w0, w1, r0, r1, hq⟩ := h
 show F27028051 qi g a b c (N w rs ps t vs) = _
 unfold F27028051 N
 rw [qE g0 (by simp only [List.length_map]; exact g1)]
 have hp := fun {R : Type} (k : Option Pa → Option R) => qaH (l := ps) g0 g1 k
 have hp2 : ∀ {R : Type} (x : Pa) (k : Option Pa → Option R), qc ((ps.set g.toNat x).map some) g k = k (some x) := fun x k => by
  rw [qaH g0 (by rw [List.length_set]; exact g1), qeC g0 g1]
 have hr := fun {R : Type} (k : Option Bo → Option R) => qaH (l := rs) r0 r1 k
 simp only [hp, hp2, qb, qY, qc7]
 have hw := fun {R : Type} (k : Int → Option R) => qp (l := (gd ps g).wants) w0 w1 k
 simp only [hw]
 rw [qE r0 (by simp only [List.length_map]; exact r1)]
 have hl : ∀ {R : Type} (k : Option R), qB (((gd rs (gd (gd ps g).wants (gd ps g).wish)).q.length : Int) + [(g, t)].length) k = k := fun k => jR (by simp only [List.length_singleton]; omega) (by simp only [List.length_singleton]; omega) k
 simp only [qa8, hr, qb, qcr, hl, qag, qaf]
 rfl
theorem arr29 {w : Int} {rs : List Bo} {ps : List Pa} {t : Int} {vs : List Vis} {g : Int} {a b c d : Int} {o7 : List Int} (h : Arr rs ps g) : g29209051 ((g, a, b, c, d, ()), (o7, N w rs ps t vs, ()), ()) = some ((a, b, c, d, ()), (o7, N w (qgi rs ps g t) (qfK ps g) t vs, ()), ()) := by
 obtain ⟨g0, g1, w0, w1, r0, r1, hq⟩ := h
 show F29209051 qi g a b c d o7 (N w rs ps t vs) = _
 unfold F29209051 N
 rw [qE g0 (by simp only [List.length_map]; exact g1)]
 have hp := fun {R : Type} (k : Option Pa → Option R) => qaH (l := ps) g0 g1 k
 have hp2 : ∀ {R : Type} (x : Pa) (k : Option Pa → Option R), qc ((ps.set g.toNat x).map some) g k = k (some x) := fun x k => by
  rw [qaH g0 (by rw [List.length_set]; exact g1), qeC g0 g1]
 have hr := fun {R : Type} (k : Option Bo → Option R) => qaH (l := rs) r0 r1 k
 simp only [hp, hp2, qb, qY, qc7]
 have hw := fun {R : Type} (k : Int → Option R) => qp (l := (gd ps g).wants) w0 w1 k
 simp only [hw]
 rw [qE r0 (by simp only [List.length_map]; exact r1)]
 have hl : ∀ {R : Type} (k : Option R), qB (((gd rs (gd (gd ps g).wants (gd ps g).wish)).q.length : Int) + [(g, t)].length) k = k := fun k => jR (by simp only [List.length_singleton]; omega) (by simp only [List.length_singleton]; omega) k
 simp only [qa8, hr, qb, qcr, hl, qag, qaf]
 rfl
def nxtR (w : Int) (rs : List Bo) (ps : List Pa) (t g : Int) : List Bo := if (gd ps g).wish = ((gd ps g).wants.length : Int) then rs else if w = 0 then qgi rs ps g t else rs
def qge (w : Int) (ps : List Pa) (t g : Int) : List Pa := if (gd ps g).wish = ((gd ps g).wants.length : Int) then upd ps g fun p => qk1 p t else if w = 0 then qfK ps g else upd ps g fun p => qgE p (IntKind.wrap .i64 (t + w))
theorem next46 {w : Int} {rs : List Bo} {ps : List Pa} {t : Int} {vs : List Vis} {g : Int} (g0 : 0 ≤ g) (g1 : g < ps.length) (h : (gd ps g).wish ≠ ((gd ps g).wants.length : Int) → Arr rs ps g) : g46 (N w rs ps t vs, g, ()) = some ((), (N w (nxtR w rs ps t g) (qge w ps t g) t vs, ())) := by
 show F46 qi (N w rs ps t vs) g = _
 unfold F46 N
 rw [qE g0 (by simp only [List.length_map]; exact g1)]
 have hp := fun {R : Type} (k : Option Pa → Option R) => qaH (l := ps) g0 g1 k
 simp only [hp, qb, qY, qc7]
 unfold nxtR qge
 by_cases hw : (gd ps g).wish = ((gd ps g).wants.length : Int)
 ·have e : ((gd ps g).2.1 == ((gd ps g).1.2.2.2.1.length : Int)) = true := by simpa using hw
  rw [e, cond_true, if_pos hw, if_pos hw]
  rfl
 ·have e : ((gd ps g).2.1 == ((gd ps g).1.2.2.2.1.length : Int)) = false := by simpa using hw
  rw [e, cond_false, if_neg hw, if_neg hw]
  by_cases h0 : w = 0
  ·have e0 : (w == 0) = true := by simpa using h0
   rw [e0, cond_true, if_pos h0, if_pos h0]
   have := arr46 (w := w) (t := t) (vs := vs) (h hw)
   unfold N at this
   rw [this]
   rfl
  ·have e0 : (w == 0) = false := by simpa using h0
   rw [e0, cond_false, if_neg h0, if_neg h0]
   rfl
theorem next27 {w : Int} {rs : List Bo} {ps : List Pa} {t : Int} {vs : List Vis} {g : Int} {a b : Int} (g0 : 0 ≤ g) (g1 : g < ps.length) (h : (gd ps g).wish ≠ ((gd ps g).wants.length : Int) → Arr rs ps g) : g27028 ((a, b, g, ()), (N w rs ps t vs, ()), ()) = some ((a, b, ()), (N w (nxtR w rs ps t g) (qge w ps t g) t vs, ()), ()) := by
 show F27028 qi a b g (N w rs ps t vs) = _
 unfold F27028 N
 rw [qE g0 (by simp only [List.length_map]; exact g1)]
 have hp := fun {R : Type} (k : Option Pa → Option R) => qaH (l := ps) g0 g1 k
 simp only [hp, qb, qY, qc7]
 unfold nxtR qge
 by_cases hw : (gd ps g).wish = ((gd ps g).wants.length : Int)
 ·have e : ((gd ps g).2.1 == ((gd ps g).1.2.2.2.1.length : Int)) = true := by simpa using hw
  rw [e, cond_true, if_pos hw, if_pos hw]
  rfl
 ·have e : ((gd ps g).2.1 == ((gd ps g).1.2.2.2.1.length : Int)) = false := by simpa using hw
  rw [e, cond_false, if_neg hw, if_neg hw]
  by_cases h0 : w = 0
  ·have e0 : (w == 0) = true := by simpa using h0
   rw [e0, cond_true, if_pos h0, if_pos h0]
   have := arr27n (a := a) (b := b) (c := g) (w := w) (t := t) (vs := vs) (h hw)
   unfold N at this
   rw [this]
   rfl
  ·have e0 : (w == 0) = false := by simpa using h0
   rw [e0, cond_false, if_neg h0, if_neg h0]
   rfl
theorem next29 {w : Int} {rs : List Bo} {ps : List Pa} {t : Int} {vs : List Vis} {g : Int} {a b c : Int} {o7 : List Int} (g0 : 0 ≤ g) (g1 : g < ps.length) (h : (gd ps g).wish ≠ ((gd ps g).wants.length : Int) → Arr rs ps g) : g29209 ((a, b, c, g, ()), (o7, N w rs ps t vs, ()), ()) = some ((a, b, c, ()), (o7, N w (nxtR w rs ps t g) (qge w ps t g) t vs, ()), ()) := by
 show F29209 qi a b c g o7 (N w rs ps t vs) = _
 unfold F29209 N
 rw [qE g0 (by simp only [List.length_map]; exact g1)]
 have hp := fun {R : Type} (k : Option Pa → Option R) => qaH (l := ps) g0 g1 k
 simp only [hp, qb, qY, qc7]
 unfold nxtR qge
 by_cases hw : (gd ps g).wish = ((gd ps g).wants.length : Int)
 ·have e : ((gd ps g).2.1 == ((gd ps g).1.2.2.2.1.length : Int)) = true := by simpa using hw
  rw [e, cond_true, if_pos hw, if_pos hw]
  rfl
 ·have e : ((gd ps g).2.1 == ((gd ps g).1.2.2.2.1.length : Int)) = false := by simpa using hw
  rw [e, cond_false, if_neg hw, if_neg hw]
  by_cases h0 : w = 0
  ·have e0 : (w == 0) = true := by simpa using h0
   rw [e0, cond_true, if_pos h0, if_pos h0]
   have := arr29 (a := a) (b := b) (c := c) (d := g) (o7 := o7) (w := w) (t := t) (vs := vs) (h hw)
   unfold N at this
   rw [this]
   rfl
  ·have e0 : (w == 0) = false := by simpa using h0
   rw [e0, cond_false, if_neg h0, if_neg h0]
   rfl
structure Don (ps : List Pa) (vs : List Vis) (g : Int) : Prop where
 g0 : 0 ≤ g
 g1 : g < ps.length
 w0 : 0 ≤ (gd ps g).wish
 w1 : (gd ps g).wish < (gd ps g).wants.length
 v : vs.length ≤ 1000000
def qeb (ps : List Pa) (g : Int) : List Pa := upd ps g fun p => qeN p (IntKind.wrap .i64 (p.wish + 1))
def donV (ps : List Pa) (vs : List Vis) (s : Int × Int) (on : Bool) (t : Int) : List Vis := vs ++ [(s.1, (gd ps s.1).wish, qc8 ps s.1, on, s.2, t)]
theorem done52 {w : Int} {rs : List Bo} {ps : List Pa} {t : Int} {vs : List Vis} {s : Int × Int} {on : Bool} (h : Don ps vs s.1) : g52 (N w rs ps t vs, s, on, ()) = some ((), (N w rs (qeb ps s.1) t (donV ps vs s on t), ())) := by
 obtain ⟨g0, g1, w0, w1, hv⟩ := h
 show F52 qi (N w rs ps t vs) s on = _
 unfold F52 N
 rw [qE g0 (by simp only [List.length_map]; exact g1)]
 have hp := fun {R : Type} (k : Option Pa → Option R) => qaH (l := ps) g0 g1 k
 have hw := fun {R : Type} (k : Int → Option R) => qp (l := (gd ps s.1).wants) w0 w1 k
 have hl : ∀ {R : Type} (v : Vis) (k : Option R), qB ((vs.length : Int) + [v].length) k = k := fun v k => jR (by simp only [List.length_singleton]; omega) (by simp only [List.length_singleton]; omega) k
 simp only [qa8, hp, qb, hw, hl, qag, qaf, qY, qc7]
 rfl
theorem qlm {w : Int} {rs : List Bo} {ps : List Pa} {t : Int} {vs : List Vis} {s : Int × Int} {a c e f : Int} {b d o6 : List (Int × Int)} {o7 : List Int} {o10 : Int × Int} (h : Don ps vs s.1) : g29157 ((a, b, c, d, e, f, s, ()), (o6, o7, o10, N w rs ps t vs, ()), ()) = some ((a, b, c, d, e, f, ()), (o6, o7, o10, N w rs (qeb ps s.1) t (donV ps vs s false t), ()), ()) := by
 obtain ⟨g0, g1, w0, w1, hv⟩ := h
 show F29157 qi a b c d e f s o6 o7 o10 (N w rs ps t vs) = _
 unfold F29157 N
 rw [qE g0 (by simp only [List.length_map]; exact g1)]
 have hp := fun {R : Type} (k : Option Pa → Option R) => qaH (l := ps) g0 g1 k
 have hw := fun {R : Type} (k : Int → Option R) => qp (l := (gd ps s.1).wants) w0 w1 k
 have hl : ∀ {R : Type} (v : Vis) (k : Option R), qB ((vs.length : Int) + [v].length) k = k := fun v k => jR (by simp only [List.length_singleton]; omega) (by simp only [List.length_singleton]; omega) k
 simp only [qa8, hp, qb, hw, hl, qag, qaf, qY, qc7]
 rfl
theorem done134 {w : Int} {rs : List Bo} {ps : List Pa} {t : Int} {vs : List Vis} {s : Int × Int} {a c e f : Int} {b d o6 : List (Int × Int)} {o7 : List Int} (h : Don ps vs s.1) : g29134 ((a, b, c, d, e, f, s, ()), (o6, o7, N w rs ps t vs, ()), ()) = some ((a, b, c, d, e, f, ()), (o6, o7, N w rs (qeb ps s.1) t (donV ps vs s true t), ()), ()) := by
 obtain ⟨g0, g1, w0, w1, hv⟩ := h
 show F29134 qi a b c d e f s o6 o7 (N w rs ps t vs) = _
 unfold F29134 N
 rw [qE g0 (by simp only [List.length_map]; exact g1)]
 have hp := fun {R : Type} (k : Option Pa → Option R) => qaH (l := ps) g0 g1 k
 have hw := fun {R : Type} (k : Int → Option R) => qp (l := (gd ps s.1).wants) w0 w1 k
 have hl : ∀ {R : Type} (v : Vis) (k : Option R), qB ((vs.length : Int) + [v].length) k = k := fun v k => jR (by simp only [List.length_singleton]; omega) (by simp only [List.length_singleton]; omega) k
 simp only [qa8, hp, qb, hw, hl, qag, qaf, qY, qc7]
 rfl
end Go.Proofs.Tryz.V.Bd
