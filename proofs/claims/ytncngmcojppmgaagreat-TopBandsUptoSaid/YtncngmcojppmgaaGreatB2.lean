/- An evening's queues, plain: each group is in one place at most; what the small parts keep. No condition beyond those typed in each theorem. -/
import Derived.Test.YtncngmcojppmgaaGreatB1
namespace Go.Proofs.Tryz.V.Bd
open Go.Vi
set_option maxRecDepth 100000
theorem qdS {α : Type} (f : α → Nat) : ∀ (l : List α) (n : Nat) (h : n < l.length) (x : α), ((l.set n x).map f).sum + f l[n] = (l.map f).sum + f x
 | a :: l, 0, _, x => by simp only [List.set_cons_zero, List.map_cons, List.sum_cons, List.getElem_cons_zero]; omega
 | a :: l, n + 1, h, x => by
  have := qdS f l n (by simpa using h) x
  simp only [List.set_cons_succ, List.map_cons, List.sum_cons, List.getElem_cons_succ]
  omega
theorem qjh {α : Type} (f : α → Int) : ∀ (l : List α) (n : Nat) (h : n < l.length) (x : α), ((l.set n x).map f).sum + f l[n] = (l.map f).sum + f x
 | a :: l, 0, _, x => by simp only [List.set_cons_zero, List.map_cons, List.sum_cons, List.getElem_cons_zero]; omega
 | a :: l, n + 1, h, x => by
  have := qjh f l n (by simpa using h) x
  simp only [List.set_cons_succ, List.map_cons, List.sum_cons, List.getElem_cons_succ]
  omega
theorem qd5 {α : Type} [Inhabited α] {l : List α} {i : Int} (h0 : 0 ≤ i) (h : i < l.length) : ∃ hn : i.toNat < l.length, l[i.toNat] = gd l i := by
 have hn : i.toNat < l.length := by omega
 refine ⟨hn, ?_⟩
 have := qcw h0 h
 rw [List.getElem?_eq_getElem hn] at this
 exact Option.some.inj this
theorem qdR {α : Type} [Inhabited α] (f : α → Nat) {l : List α} {i : Int} (h0 : 0 ≤ i) (h : i < l.length) (u : α → α) : ((upd l i u).map f).sum + f (gd l i) = (l.map f).sum + f (u (gd l i)) := by
 obtain ⟨hn, e⟩ := qd5 h0 h
 have := qdS f l i.toNat hn (u (gd l i))
 rw [e] at this
 exact this
theorem sum_updI {α : Type} [Inhabited α] (f : α → Int) {l : List α} {i : Int} (h0 : 0 ≤ i) (h : i < l.length) (u : α → α) : ((upd l i u).map f).sum + f (gd l i) = (l.map f).sum + f (u (gd l i)) := by
 obtain ⟨hn, e⟩ := qd5 h0 h
 have := qjh f l i.toNat hn (u (gd l i))
 rw [e] at this
 exact this
theorem qiA {α β : Type} [Inhabited α] (f : α → β) {l : List α} {i : Int} (h0 : 0 ≤ i) (h : i < l.length) {u : α → α} (hu : f (u (gd l i)) = f (gd l i)) : (upd l i u).map f = l.map f := by
 obtain ⟨hn, e⟩ := qd5 h0 h
 unfold upd
 rw [List.map_set, hu, ← e]
 rw [← List.getElem_map f (h := by simpa using hn), List.set_getElem_self]
theorem qdW : ∀ (n : Nat) (l : List Int), (∀ g, l.count g ≤ 1) → (∀ g ∈ l, 0 ≤ g ∧ g < n) → l.length ≤ n
 | 0, l, _, h => by
  cases l with
  | nil => exact Nat.le_refl _
  | cons a l => have := h a (by simp); omega
 | n + 1, l, hc, h => by
  have h1 := qdW n (l.filter fun x => x != (n : Int)) (fun g => by
   rcases Nat.lt_or_ge ((l.filter fun x => x != (n : Int)).count g) 2 with h2 | h2
   ·omega
   ·have := List.Sublist.count_le g (List.filter_sublist (l := l) (p := fun x => x != (n : Int)))
    have := hc g
    omega) (fun g hg => by
   obtain ⟨h1, h2⟩ := List.mem_filter.1 hg
   have h3 := h g h1
   have h2 : g ≠ (n : Int) := by simpa using h2
   omega)
  have h2 : l.length = (l.filter fun x => x != (n : Int)).length + l.count (n : Int) := by
   rw [← List.countP_eq_length_filter, List.length_eq_countP_add_countP (fun x => x != (n : Int)), List.count]
   congr 1
   apply List.countP_congr
   intro x _
   simp
  have := hc (n : Int)
  omega
def qf (g : Int) (b : Bo) : Nat := (b.q.map (·.1)).count g
def cq (rs : List Bo) (g : Int) : Nat := (rs.map (qf g)).sum
def co (rs : List Bo) (g : Int) : Nat := (rs.map fun b => b.on.count g).sum
def cw (ps : List Pa) (g : Int) : Nat := if 0 ≤ g ∧ g < ps.length ∧ (gd ps g).comes ≠ -1 then 1 else 0
structure Gd (G : List Gp) (n : Nat) : Prop where
 len : G.length ≤ 60
 rides : n ≤ 8
 at_ : ∀ x ∈ G, 0 ≤ x.1 ∧ x.1 ≤ 2000
 wants : ∀ x ∈ G, x.2.2.2.1.length ≤ 10 ∧ ∀ r ∈ x.2.2.2.1, 0 ≤ r ∧ r < n
structure Inv (G : List Gp) (n : Nat) (rs : List Bo) (ps : List Pa) (vs : List Vis) (t : Int) (A : List Int) (F : Int → Nat) : Prop where
 rl : rs.length = n
 pl : ps.map (·.1) = G
 one : ∀ g : Int, cq rs g + co rs g + cw ps g + A.count g + F g ≤ 1
 dom : ∀ g : Int, 0 < cq rs g + co rs g + A.count g + F g → 0 ≤ g ∧ g < G.length
 wish : ∀ g : Int, 0 ≤ g → g < G.length → 0 ≤ (gd ps g).wish ∧ (gd ps g).wish ≤ (gd ps g).wants.length
 inq : ∀ g : Int, 0 < cq rs g + cw ps g → (gd ps g).wish < (gd ps g).wants.length
 len : (vs.length : Int) = (ps.map (·.wish)).sum
 vis : ∀ v ∈ vs, 0 ≤ v.1 ∧ v.1 < G.length ∧ 0 ≤ v.2.1 ∧ v.2.1 < (gd ps v.1).wish ∧ 0 ≤ v.2.2.1 ∧ v.2.2.1 < n ∧ 0 ≤ v.2.2.2.2.2 ∧ v.2.2.2.2.2 ≤ t
 dist : vs.Pairwise fun a b => ¬ (a.1 = b.1 ∧ a.2.1 = b.2.1)
section
variable {G : List Gp} {n : Nat} {rs : List Bo} {ps : List Pa} {vs : List Vis} {t : Int} {A : List Int} {F : Int → Nat}
theorem Inv.plen (h : Inv G n rs ps vs t A F) : ps.length = G.length := by rw [← h.pl, List.length_map]
theorem Inv.group (h : Inv G n rs ps vs t A F) {g : Int} (h0 : 0 ≤ g) (h1 : g < G.length) : (gd ps g).1 = gd G g := by
 have h1' : g < ps.length := by rw [h.plen]; exact h1
 have e := qcw h0 h1'
 have : (ps.map (·.1))[g.toNat]? = some (gd ps g).1 := by rw [List.getElem?_map, e]; rfl
 rw [h.pl, qcw h0 h1] at this
 exact (Option.some.inj this).symm
theorem jF {α : Type} [Inhabited α] {l : List α} {i : Int} (h0 : 0 ≤ i) (h : i < l.length) : gd l i ∈ l := by
 obtain ⟨hn, e⟩ := qd5 h0 h
 rw [← e]
 exact List.getElem_mem hn
theorem qhy {α : Type} [Inhabited α] (f : α → Nat) {l : List α} {i : Int} (h0 : 0 ≤ i) (h : i < l.length) : f (gd l i) ≤ (l.map f).sum := by
 have hm := jF h0 h
 generalize gd l i = x at hm
 induction l with
 | nil => cases hm
 | cons a l ih =>
  rw [List.map_cons, List.sum_cons]
  rcases List.mem_cons.1 hm with rfl | hm
  ·omega
  ·by_cases hl : i < l.length
   ·have := ih hl hm; omega
   ·clear ih h
    have : ∀ l : List α, x ∈ l → f x ≤ (l.map f).sum := fun l hx => by
     induction l with
     | nil => cases hx
     | cons b l ih2 =>
      rw [List.map_cons, List.sum_cons]
      rcases List.mem_cons.1 hx with rfl | hx
      ·omega
      ·have := ih2 hx; omega
    have := this l hm
    omega
theorem Inv.qlen (hG : Gd G n) (h : Inv G n rs ps vs t A F) {r : Int} (h0 : 0 ≤ r) (h1 : r < n) : (gd rs r).q.length ≤ 60 := by
 have h1' : r < rs.length := by rw [h.rl]; exact h1
 have hc : ∀ g, ((gd rs r).q.map (·.1)).count g ≤ cq rs g := fun g => qhy (qf g) h0 h1'
 have := qdW G.length ((gd rs r).q.map (·.1)) (fun g => by have := h.one g; have := hc g; omega) (fun g hg => h.dom g (by
  have := List.count_pos_iff.2 hg
  have := hc g
  omega))
 rw [List.length_map] at this
 have := hG.len
 omega
theorem Inv.onlen (hG : Gd G n) (h : Inv G n rs ps vs t A F) {r : Int} (h0 : 0 ≤ r) (h1 : r < n) : (gd rs r).on.length ≤ 60 := by
 have h1' : r < rs.length := by rw [h.rl]; exact h1
 have hc : ∀ g, (gd rs r).on.count g ≤ co rs g := fun g => qhy (fun b : Bo => b.on.count g) h0 h1'
 have := qdW G.length (gd rs r).on (fun g => by have := h.one g; have := hc g; omega) (fun g hg => h.dom g (by
  have := List.count_pos_iff.2 hg
  have := hc g
  omega))
 have := hG.len
 omega
theorem Inv.hand (hG : Gd G n) (h : Inv G n rs ps vs t A F) : A.length ≤ 60 := by
 have := qdW G.length A (fun g => by have := h.one g; omega) (fun g hg => h.dom g (by have := List.count_pos_iff.2 hg; omega))
 have := hG.len
 omega
theorem Inv.ride (hG : Gd G n) (h : Inv G n rs ps vs t A F) {g : Int} (h0 : 0 ≤ g) (h1 : g < G.length) (hw : (gd ps g).wish < (gd ps g).wants.length) : 0 ≤ qc8 ps g ∧ qc8 ps g < n := by
 have hm := jF (l := (gd ps g).wants) (h.wish g h0 h1).1 hw
 have e : (gd ps g).wants = (gd G g).2.2.2.1 := by show (gd ps g).1.2.2.2.1 = _; rw [h.group h0 h1]
 rw [e] at hm
 have := (hG.wants _ (jF h0 h1)).2 _ hm
 rw [← e] at this
 exact this
theorem Inv.wlen (hG : Gd G n) (h : Inv G n rs ps vs t A F) {g : Int} (h0 : 0 ≤ g) (h1 : g < G.length) : (gd ps g).wants.length ≤ 10 := by
 have e : (gd ps g).wants = (gd G g).2.2.2.1 := by show (gd ps g).1.2.2.2.1 = _; rw [h.group h0 h1]
 rw [e]
 exact (hG.wants _ (jF h0 h1)).1
theorem Inv.arr (hG : Gd G n) (h : Inv G n rs ps vs t A F) {g : Int} (h0 : 0 ≤ g) (h1 : g < G.length) (hw : (gd ps g).wish < (gd ps g).wants.length) : Arr rs ps g := by
 obtain ⟨r0, r1⟩ := h.ride hG h0 h1 hw
 exact ⟨h0, by rw [h.plen]; exact h1, (h.wish g h0 h1).1, hw, r0, by rw [h.rl]; exact r1, Nat.le_trans (h.qlen hG r0 r1) (by decide)⟩
theorem qeI (f : Pa → Int) (c : Int) : ∀ l : List Pa, (∀ x ∈ l, f x ≤ c) → (l.map f).sum ≤ l.length * c
 | [], _ => by simp
 | a :: l, h => by
  have := qeI f c l (fun x hx => h x (by simp [hx]))
  have := h a (by simp)
  rw [List.map_cons, List.sum_cons, List.length_cons, Int.natCast_add, Int.add_mul]
  omega
theorem mem_gd {α : Type} [Inhabited α] {l : List α} {x : α} (h : x ∈ l) : ∃ i : Int, 0 ≤ i ∧ i < l.length ∧ x = gd l i := by
 obtain ⟨k, hk, e⟩ := List.mem_iff_getElem.1 h
 refine ⟨k, by omega, by omega, ?_⟩
 rw [← e]
 exact (qco (List.getElem?_eq_getElem hk)).symm
theorem Inv.vlen (hG : Gd G n) (h : Inv G n rs ps vs t A F) : vs.length ≤ 600 := by
 have h1 := qeI (fun p : Pa => p.wish) 10 ps (fun x hx => by
  obtain ⟨i, i0, i1, rfl⟩ := mem_gd hx
  rw [h.plen] at i1
  have := (h.wish i i0 i1).2
  have := h.wlen hG i0 i1
  show (gd ps i).wish ≤ 10
  omega)
 have h2 := h.len
 have h3 := h.plen
 have := hG.len
 have e : (ps.map fun p : Pa => p.wish).sum = (ps.map (·.wish)).sum := rfl
 rw [e, ← h2, h3] at h1
 omega
theorem Inv.don (hG : Gd G n) (h : Inv G n rs ps vs t A F) {g : Int} (h0 : 0 ≤ g) (h1 : g < G.length) (hw : (gd ps g).wish < (gd ps g).wants.length) : Don ps vs g :=
 ⟨h0, by rw [h.plen]; exact h1, (h.wish g h0 h1).1, hw, Nat.le_trans (h.vlen hG) (by decide)⟩
theorem qfG {r : Int} (h0 : 0 ≤ r) (h1 : r < rs.length) (q : List (Int × Int)) (g : Int) : cq (upd rs r fun b => qas b q) g + ((gd rs r).q.map (·.1)).count g = cq rs g + (q.map (·.1)).count g :=
 qdR (qf g) h0 h1 _
theorem qdo {r : Int} (h0 : 0 ≤ r) (h1 : r < rs.length) {u : Bo → Bo} (hu : (u (gd rs r)).q = (gd rs r).q) (g : Int) : cq (upd rs r u) g = cq rs g := by
 have := qdR (qf g) h0 h1 u
 have e : qf g (u (gd rs r)) = qf g (gd rs r) := by unfold qf; rw [hu]
 rw [e] at this
 unfold cq
 omega
theorem qd7 {r : Int} (h0 : 0 ≤ r) (h1 : r < rs.length) {u : Bo → Bo} (hu : (u (gd rs r)).on = (gd rs r).on) (g : Int) : co (upd rs r u) g = co rs g := by
 have := qdR (fun b : Bo => b.on.count g) h0 h1 u
 rw [hu] at this
 unfold co
 omega
theorem cw_of {ps ps' : List Pa} (hl : ps'.length = ps.length) {g : Int} (hc : 0 ≤ g → g < ps.length → (gd ps' g).comes = (gd ps g).comes) : cw ps' g = cw ps g := by
 unfold cw
 rw [hl]
 by_cases h : 0 ≤ g ∧ g < ps.length
 ·rw [hc h.1 h.2]
 ·rw [if_neg (fun hh => h ⟨hh.1, hh.2.1⟩), if_neg (fun hh => h ⟨hh.1, hh.2.1⟩)]
theorem qi1 {g g' : Int} (h0 : 0 ≤ g) (h1 : g < ps.length) (h0' : 0 ≤ g') (u : Pa → Pa) : gd (upd ps g u) g' = if g' = g then u (gd ps g) else gd ps g' := by
 by_cases e : g' = g
 ·rw [if_pos e, e, qdk h0 h1]
 ·rw [if_neg e, qd4 h0 h0' (fun h => e h.symm)]
theorem qhx {g : Int} (h0 : 0 ≤ g) (h1 : g < ps.length) (u : Pa → Pa) (g' : Int) : cw (upd ps g u) g' = if g' = g then (if (u (gd ps g)).comes ≠ -1 then 1 else 0) else cw ps g' := by
 by_cases e : g' = g
 ·rw [if_pos e, e]
  unfold cw
  rw [qaI, qdk h0 h1]
  simp only [h0, h1, true_and]
 ·rw [if_neg e]
  refine cw_of (qaI _ _ _) fun k0 _ => ?_
  rw [qd4 h0 k0 (fun h => e h.symm)]
theorem Inv.rides {rs' : List Bo} {A' : List Int} (h : Inv G n rs ps vs t A F) (hl : rs'.length = rs.length) (hc : ∀ g, cq rs' g + co rs' g + A'.count g ≤ cq rs g + co rs g + A.count g) (hq : ∀ g, cq rs g < cq rs' g → (gd ps g).wish < (gd ps g).wants.length) : Inv G n rs' ps vs t A' F where
 rl := hl.trans h.rl
 pl := h.pl
 one g := by have := h.one g; have := hc g; omega
 dom g hg := h.dom g (by have := hc g; omega)
 wish := h.wish
 inq g hg := by
  by_cases e : cq rs g < cq rs' g
  ·exact hq g e
  ·exact h.inq g (by omega)
 len := h.len
 vis := h.vis
 dist := h.dist
theorem Inv.party {u : Pa → Pa} {rs' : List Bo} {A' : List Int} {F' : Int → Nat} (h : Inv G n rs ps vs t A F) {g : Int} (h0 : 0 ≤ g) (h1 : g < G.length) (hu1 : (u (gd ps g)).1 = (gd ps g).1) (hu2 : (u (gd ps g)).wish = (gd ps g).wish) (hl : rs'.length = rs.length)
  (hc : ∀ g', cq rs' g' + co rs' g' + cw (upd ps g u) g' + A'.count g' + F' g' ≤ 1) (hdom : ∀ g', 0 < cq rs' g' + co rs' g' + A'.count g' + F' g' → 0 ≤ g' ∧ g' < G.length)
  (hin : ∀ g', 0 < cq rs' g' + cw (upd ps g u) g' → (gd ps g').wish < (gd ps g').wants.length) : Inv G n rs' (upd ps g u) vs t A' F' := by
 have h1' : g < ps.length := by rw [h.plen]; exact h1
 have hw : ∀ g' : Int, 0 ≤ g' → (gd (upd ps g u) g').wish = (gd ps g').wish ∧ (gd (upd ps g u) g').wants = (gd ps g').wants := fun g' k0 => by
  rw [qi1 h0 h1' k0]
  split
  ·rename_i e
   subst e
   exact ⟨hu2, congrArg (fun x : Gp => x.2.2.2.1) hu1⟩
  ·exact ⟨rfl, rfl⟩
 refine ⟨hl.trans h.rl, ?_, hc, hdom, fun g' k0 k1 => ?_, fun g' hg' => ?_, ?_, fun v hv => ?_, h.dist⟩
 ·rw [qiA (·.1) h0 h1' hu1]; exact h.pl
 ·rw [(hw g' k0).1, (hw g' k0).2]; exact h.wish g' k0 k1
 ·have k0 : 0 ≤ g' := by
   by_cases e : 0 < cq rs' g'
   ·exact (hdom g' (by omega)).1
   ·have : 0 < cw (upd ps g u) g' := by omega
    unfold cw at this
    split at this
    ·rename_i hh; exact hh.1
    ·omega
  rw [(hw g' k0).1, (hw g' k0).2]
  exact hin g' hg'
 ·rw [qiA (·.wish) h0 h1' hu2]; exact h.len
 ·obtain ⟨v1, v2, v3, v4, v5⟩ := h.vis v hv
  exact ⟨v1, v2, v3, by rw [(hw v.1 v1).1]; exact v4, v5⟩
end
end Go.Proofs.Tryz.V.Bd
