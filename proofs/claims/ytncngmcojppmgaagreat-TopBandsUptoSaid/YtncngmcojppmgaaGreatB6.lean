/- An evening's queues, plain: who leaves, the whole step; the sorts. No condition beyond those typed in each theorem. -/
import Derived.Test.YtncngmcojppmgaaGreatB5
namespace Go.Proofs.Tryz.V.Bd
open Go.Vi Go.Proofs Go.Shelf Go.Sort
set_option maxRecDepth 100000
theorem qgy {α : Type} {ok : α → Prop} {cf : α → α → Int} (htr : ∀ a b c, (!ltOf cf b a) = true → (!ltOf cf c b) = true → (!ltOf cf c a) = true) (hto : ∀ a b, ((!ltOf cf b a) || (!ltOf cf a b)) = true) {l : List α} (hl : l.length ≤ 1000000) (hok : ∀ x ∈ l, ok x)
  (hanti : ∀ a b, a ∈ l → b ∈ l → ltOf cf b a = false → ltOf cf a b = false → a = b) : ∃ l', qfP ok (ltOf cf) l = some l' ∧ l'.Perm l ∧ l'.Pairwise (fun x y => ltOf cf y x = false) := by
 have hp := List.mergeSort_perm l (fun a b => !ltOf cf b a)
 have hs : (l.mergeSort (fun a b => !ltOf cf b a)).Pairwise (fun x y => ltOf cf y x = false) := (List.pairwise_mergeSort (le := fun a b => !ltOf cf b a) htr hto l).imp (fun h => by simpa using h)
 refine ⟨l.mergeSort (fun a b => !ltOf cf b a), ?_, hp, hs⟩
 unfold qfP
 rw [if_pos ⟨hl, hok⟩]
 refine qkM _ ⟨hp, hs⟩ fun l2 hl2 => ?_
 congr 1
 exact List.Perm.eq_of_pairwise (le := fun x y => ltOf cf y x = false) (fun a b ha hb h1 h2 => hanti a b (hl2.1.mem_iff.1 ha) (hp.mem_iff.1 hb) h1 h2) hl2.2 hs (hl2.1.trans hp.symm)
theorem qgY {α β : Type} (f : α → β) : ∀ {l : List α}, l.Pairwise (fun a b => f a ≠ f b) → ∀ a b, a ∈ l → b ∈ l → f a = f b → a = b
 | [], _, a, _, ha, _, _ => by cases ha
 | x :: l, h, a, b, ha, hb, e => by
  rw [List.pairwise_cons] at h
  rcases List.mem_cons.1 ha with rfl | ha'
  ·rcases List.mem_cons.1 hb with rfl | hb'
   ·rfl
   ·exact absurd e (h.1 b hb')
  ·rcases List.mem_cons.1 hb with rfl | hb'
   ·exact absurd e.symm (h.1 a ha')
   ·exact qgY f h.2 a b ha' hb' e
theorem qei : ∀ {l : List (Int × Int)}, (∀ g, (l.map (·.1)).count g ≤ 1) → l.Pairwise (fun a b => a.1 ≠ b.1)
 | [], _ => List.Pairwise.nil
 | x :: l, h => by
  refine List.pairwise_cons.2 ⟨fun y hy e => ?_, qei fun g => ?_⟩
  ·have := h x.1
   rw [List.map_cons, qF, if_pos rfl] at this
   have h2 : 0 < (l.map (·.1)).count x.1 := List.count_pos_iff.2 (List.mem_map.2 ⟨y, hy, e.symm⟩)
   omega
  ·have := h g
   rw [List.map_cons, qF] at this
   omega
theorem qgm (a b : Int × Int) : ltOf Q.cfS a b = false ↔ b.1 ≤ a.1 := by
 rw [Q.ltOf_iff]
 unfold Q.cfS
 rw [decide_eq_false_iff_not]
 omega
theorem qj6 {l : List (Int × Int)} (hl : l.length ≤ 1000) (hb : ∀ s ∈ l, 0 ≤ s.1 ∧ s.1 ≤ 1000) (hc : ∀ g, (l.map (·.1)).count g ≤ 1) : ∃ l', g50 (l, (), ()) = some ((), (l', ())) ∧ l'.Perm l := by
 obtain ⟨l', h1, h2, _⟩ := qgy (α := Int × Int) (ok := Q.okS) (cf := Q.cfS) (l := l) (fun a b c h1 h2 => by
   rw [Bool.not_eq_true', qgm] at *; omega) (fun a b => by
   rw [Bool.or_eq_true, Bool.not_eq_true', Bool.not_eq_true', qgm, qgm]; omega) (by omega) (fun x hx => by have := hb x hx; exact ⟨by omega, by omega⟩) (fun a b ha hb' h1 h2 => by
   rw [qgm] at h1 h2
   exact qgY (·.1) (qei hc) a b ha hb' (by omega))
 refine ⟨l', ?_, h2⟩
 show (qfP Q.okS (ltOf Q.cfS) l).map _ = _
 rw [h1]
 rfl
theorem qj5 {l : List Vis} (hl : l.length ≤ 1000) (hb : ∀ v ∈ l, 0 ≤ v.1 ∧ v.1 ≤ 1000 ∧ 0 ≤ v.2.1 ∧ v.2.1 ≤ 1000 ∧ 0 ≤ v.2.2.2.2.2 ∧ v.2.2.2.2.2 ≤ 1000000) (hd : l.Pairwise fun a b => ¬ (a.1 = b.1 ∧ a.2.1 = b.2.1)) :
  ∃ l', g30 (l, (), ()) = some ((), (l', ())) ∧ l'.Perm l ∧ l'.Pairwise (fun x y => x.2.2.2.2.2 ≤ y.2.2.2.2.2) := by
 obtain ⟨l', h1, h2, h3⟩ := qgy (ok := Q.okV) (cf := Q.cfV) (l := l) (fun a b c h1 h2 => by
   simp only [Q.ltOf_iff, Q.cfV, Bool.not_eq_true', decide_eq_false_iff_not, Q.or3_neg] at *; omega) (fun a b => by
   simp only [Q.ltOf_iff, Q.cfV, Bool.or_eq_true, Bool.not_eq_true', decide_eq_false_iff_not, Q.or3_neg]; omega) (by omega) (fun x hx => by
   have := hb x hx
   exact ⟨⟨by omega, by omega⟩, ⟨by omega, by omega⟩, ⟨by omega, by omega⟩⟩) (fun a b ha hb' h1 h2 => by
   simp only [Q.ltOf_iff, Q.cfV, decide_eq_false_iff_not, Q.or3_neg] at h1 h2
   refine qgY (fun v : Vis => (v.1, v.2.1)) (hd.imp fun h e => h (by simpa using e)) a b ha hb' ?_
   show (a.1, a.2.1) = (b.1, b.2.1)
   rw [show a.1 = b.1 by omega, show a.2.1 = b.2.1 by omega])
 refine ⟨l', ?_, h2, h3.imp fun h => ?_⟩
 ·show (qfP Q.okV (ltOf Q.cfV) l).map _ = _
  rw [h1]
  rfl
 ·simp only [Q.ltOf_iff, Q.cfV, decide_eq_false_iff_not, Q.or3_neg] at h
  omega
section
variable {G : List Gp} {n : Nat} {F : Int → Nat}
theorem qdJ (p : (Int × Int) → Bool) (g : Int) : ∀ q : List (Int × Int), ((q.filter fun s => !p s).map (·.1)).count g + ((q.filter p).map (·.1)).count g = (q.map (·.1)).count g
 | [] => rfl
 | x :: q => by
  have := qdJ p g q
  cases hp : p x with
  | true => rw [List.filter_cons_of_neg (by simp [hp]), List.filter_cons_of_pos (by simp [hp]), List.map_cons, List.map_cons, qF, qF]; omega
  | false => rw [List.filter_cons_of_pos (by simp [hp]), List.filter_cons_of_neg (by simp [hp]), List.map_cons, List.map_cons, qF, qF]; omega
def Wsh (ps : List Pa) (l : List (Int × Int)) : Prop := ∀ s ∈ l, (gd ps s.1).wish < (gd ps s.1).wants.length
theorem qk8 (hG : Gd G n) {w t : Int} {ps : List Pa} {vs : List Vis} : ∀ (m k : Nat) (N0 : Nat) {rs : List Bo} {gone : List (Int × Int)}, n = k + m → m < N0 → Inv G n rs ps vs t (gone.map (·.1)) F → Wsh ps gone →
  ∃ rs' gone', L28_3 N0 (((n : Int), (k : Int), ()), (gone, N w rs ps t vs, ()), ()) = some ((), (gone', N w rs' ps t vs, ()), ()) ∧ Inv G n rs' ps vs t (gone'.map (·.1)) F ∧ Wsh ps gone'
 | 0, k, N0, rs, gone, hk, hN, h, hw => by
  obtain ⟨q, rfl⟩ : ∃ q, N0 = q + 1 := ⟨N0 - 1, by omega⟩
  refine ⟨rs, gone, ?_, h, hw⟩
  simp only [L28_3, B28_3]
  rw [jC (by omega), cond_false]
 | m + 1, k, N0, rs, gone, hk, hN, h, hw => by
  obtain ⟨q, rfl⟩ : ∃ q, N0 = q + 1 := ⟨N0 - 1, by omega⟩
  have hr0 : (0 : Int) ≤ (k : Int) := by omega
  have hr1 : (k : Int) < rs.length := by rw [h.rl]; omega
  have hn8 := hG.rides
  have hgl := h.hand hG
  rw [List.length_map] at hgl
  have hql := h.qlen hG (r := (k : Int)) hr0 (by omega)
  have hcq : ∀ s ∈ (gd rs (k : Int)).q, 0 < cq rs s.1 := fun s hs => by
   have h1 : ((gd rs (k : Int)).q.map (·.1)).count s.1 ≤ cq rs s.1 := qhy (qf s.1) hr0 hr1
   have h2 : 0 < ((gd rs (k : Int)).q.map (·.1)).count s.1 := List.count_pos_iff.2 (List.mem_map.2 ⟨s, hs, rfl⟩)
   omega
  have hin : ∀ s ∈ (gd rs (k : Int)).q, InP ps s := fun s hs => by
   have := hcq s hs
   have := h.dom s.1 (by omega)
   exact ⟨this.1, by rw [h.plen]; exact this.2⟩
  obtain ⟨junk, hd⟩ := del28 (w := w) (t := t) (vs := vs) hr0 hr1 hin (by omega) (a := (n : Int)) (b := (k : Int)) (c := (k : Int)) (gone := gone) (by omega)
  have hr := fun {R : Type} (k' : Option Bo → Option R) => qaH (l := rs) hr0 hr1 k'
  have h1 : Inv G n (upd rs (k : Int) fun x => qas x ((gd rs (k : Int)).q.filter fun s => !out ps t s)) ps vs t ((gone ++ (gd rs (k : Int)).q.filter (out ps t)).map (·.1)) F := by
   refine h.rides (qaI _ _ _) (fun g => ?_) (fun g hg => ?_)
   ·have h2 := qfG hr0 hr1 ((gd rs (k : Int)).q.filter fun s => !out ps t s) g
    have h3 := qdJ (out ps t) g (gd rs (k : Int)).q
    rw [qd7 hr0 hr1 rfl, List.map_append, List.count_append]
    omega
   ·have h2 := qfG hr0 hr1 ((gd rs (k : Int)).q.filter fun s => !out ps t s) g
    have h3 := qdJ (out ps t) g (gd rs (k : Int)).q
    omega
  have hw1 : Wsh ps (gone ++ (gd rs (k : Int)).q.filter (out ps t)) := fun s hs => by
   rcases List.mem_append.1 hs with hs | hs
   ·exact hw s hs
   ·exact h.inq s.1 (by have := hcq s (List.mem_filter.1 hs).1; omega)
  obtain ⟨rs', gone', h2, h3, h4⟩ := qk8 hG (w := w) m (k + 1) q (by omega) (by omega) h1 hw1
  refine ⟨rs', gone', ?_, h3, h4⟩
  rw [← h2]
  simp only [L28_3, B28_3]
  rw [qX (by omega), cond_true, qE hr0 (by show (k : Int) < ((rs.map some).length : Nat); rw [List.length_map]; exact hr1)]
  have hr' : ∀ {R : Type} (k' : Option Bo → Option R), qc (N w rs ps t vs).2.1 (k : Int) k' = k' (some (gd rs (k : Int))) := hr
  rw [hr', qb, hd, qb]
  have hr2 : ∀ {R : Type} (k' : Option Bo → Option R), qc (N w (upd rs (k : Int) fun x => qas x junk) ps t vs).2.1 (k : Int) k' = k' (some (qas (gd rs (k : Int)) junk)) := fun k' => by
   show qc ((upd rs (k : Int) fun x => qas x junk).map some) (k : Int) k' = _
   rw [qaH hr0 (by rw [qaI]; exact hr1), qdk hr0 hr1]
  simp only [hr2, qb, qcr]
  rw [qY, jE (by omega)]
  have hset : ∀ (z : Bo), ((N w (upd rs (k : Int) fun x => qas x junk) ps t vs).2.1.set (k : Int).toNat (some z)) = (upd rs (k : Int) fun _ => z).map some := fun z => by
   show ((upd rs (k : Int) fun x => qas x junk).map some).set (k : Int).toNat (some z) = _
   rw [qc7]
   unfold upd
   rw [List.set_set]
  rw [hset]
  rfl
theorem nxt_wish {w t g g' : Int} {ps : List Pa} (g0 : 0 ≤ g) (g1 : g < ps.length) (g0' : 0 ≤ g') : (gd (qge w ps t g) g').wish = (gd ps g').wish ∧ (gd (qge w ps t g) g').wants = (gd ps g').wants := by
 have key : ∀ u : Pa → Pa, (∀ p, (u p).wish = p.wish ∧ (u p).wants = p.wants) → (gd (upd ps g u) g').wish = (gd ps g').wish ∧ (gd (upd ps g u) g').wants = (gd ps g').wants := fun u hu => by
  rw [qi1 g0 g1 g0']
  by_cases e : g' = g
  ·rw [if_pos e, e]; exact hu _
  ·rw [if_neg e]; exact ⟨rfl, rfl⟩
 unfold qge qfK
 split
 ·exact key _ fun p => ⟨rfl, rfl⟩
 ·split
  ·exact key _ fun p => ⟨rfl, rfl⟩
  ·exact key _ fun p => ⟨rfl, rfl⟩
theorem qfF {g g' : Int} {ps : List Pa} (g0 : 0 ≤ g) (g0' : 0 ≤ g') (h : g' ≠ g) : gd (qeb ps g) g' = gd ps g' := qd4 g0 g0' (fun e => h e.symm) _
theorem qk7 (hG : Gd G n) {w t : Int} (hw0 : 0 ≤ w) (hw1 : w ≤ 100) (ht0 : 0 ≤ t) (ht1 : t ≤ 5000) : ∀ (suf pre : List (Int × Int)) (N0 : Nat) {rs : List Bo} {ps : List Pa} {vs : List Vis}, suf.length < N0 → pre.length + suf.length ≤ 1000 → Inv G n rs ps vs t (suf.map (·.1)) F → Wsh ps suf →
  ∃ rs' ps' vs', L28_9 N0 ((((pre ++ suf).length : Int), (pre.length : Int), ()), (pre ++ suf, N w rs ps t vs, ()), ()) = some ((), (N w rs' ps' t vs', ()), ()) ∧ Inv G n rs' ps' vs' t [] F
 | [], pre, N0, rs, ps, vs, hN, _, h, _ => by
  obtain ⟨m, rfl⟩ : ∃ m, N0 = m + 1 := ⟨N0 - 1, by omega⟩
  refine ⟨rs, ps, vs, ?_, h⟩
  simp only [L28_9, B28_9]
  rw [jC (by simp), cond_false]
 | s :: suf, pre, N0, rs, ps, vs, hN, hl, h, hws => by
  obtain ⟨m, rfl⟩ : ∃ m, N0 = m + 1 := ⟨N0 - 1, by omega⟩
  simp only [List.length_cons] at hN hl
  have hc := h.one s.1
  rw [List.map_cons, qF, if_pos rfl] at hc
  obtain ⟨hdon, hinv⟩ := h.done hG (s := s) (on := false) ht0 (.inl (by simp)) (hws s (by simp))
  rw [List.map_cons] at hinv
  obtain ⟨g0, g1, harr, hinv2⟩ := hinv.next hG hw0 hw1 ht0 ht1
  have hws2 : Wsh (qge w (qeb ps s.1) t s.1) suf := fun s' hs' => by
   have hne : s'.1 ≠ s.1 := fun e => by
    have : 0 < (suf.map (·.1)).count s.1 := List.count_pos_iff.2 (List.mem_map.2 ⟨s', hs', e⟩)
    omega
   have hd' := h.dom s'.1 (by
    have : 0 < ((s :: suf).map (·.1)).count s'.1 := List.count_pos_iff.2 (List.mem_map.2 ⟨s', by simp [hs'], rfl⟩)
    omega)
   obtain ⟨e1, e2⟩ := nxt_wish (w := w) (t := t) g0 g1 (g' := s'.1) hd'.1
   rw [e1, e2, qfF g0 hd'.1 hne]
   exact hws s' (by simp [hs'])
  obtain ⟨rs', ps', vs', h1, h2⟩ := qk7 hG hw0 hw1 ht0 ht1 suf (pre ++ [s]) m (by omega) (by simp; omega) hinv2 hws2
  refine ⟨rs', ps', vs', ?_, h2⟩
  have hlen : ((pre ++ s :: suf).length : Int) = pre.length + suf.length + 1 := by simp; omega
  simp only [L28_9, B28_9]
  rw [qX (by rw [hlen]; omega), cond_true, qE (by omega) (by rw [hlen]; omega), qp (by omega) (by rw [hlen]; omega), qco (x := s) (by rw [List.getElem?_append_right (Nat.le_refl _), Nat.sub_self]; rfl), done52 hdon, qb]
  simp only []
  rw [next46 g0 g1 harr, qb, jE (by omega)]
  rw [show pre ++ [s] ++ suf = pre ++ s :: suf by simp] at h1
  rw [show ((pre.length + 1 : Nat) : Int) = ((pre ++ [s]).length : Int) by simp]
  exact h1
theorem qlO (hG : Gd G n) {w t : Int} (hw0 : 0 ≤ w) (hw1 : w ≤ 100) (ht0 : 0 ≤ t) (ht1 : t ≤ 5000) {rs : List Bo} {ps : List Pa} {vs : List Vis} (h : Inv G n rs ps vs t [] F) :
  ∃ rs' ps' vs', g28 (N w rs ps t vs, ()) = some ((), (N w rs' ps' t vs', ())) ∧ Inv G n rs' ps' vs' t [] F := by
 show ∃ rs' ps' vs', F28 qi (N w rs ps t vs) = _ ∧ _
 unfold F28
 have hn8 := hG.rides
 have hg60 := hG.len
 obtain ⟨rs1, gone, h1, h2, h3⟩ := qk8 hG (w := w) (t := t) n 0 qi (by omega) (qbw (by omega)) (gone := []) h (fun s hs => by cases hs)
 have e : (((N w rs ps t vs).2.1.length : Int)) = (n : Int) := by
  show (((rs.map some).length : Nat) : Int) = _
  rw [List.length_map, h.rl]
 rw [e]
 have h1' : L28_3 qi (((n : Int), 0, ()), (([] : List (Int × Int)), N w rs ps t vs, ()), ()) = some ((), (gone, N w rs1 ps t vs, ()), ()) := h1
 rw [h1', qb]
 have hgl := h2.hand hG
 rw [List.length_map] at hgl
 obtain ⟨l', hs1, hs2⟩ := qj6 (l := gone) (by omega) (fun s hs => by
  have := h2.dom s.1 (by
   have : 0 < (gone.map (·.1)).count s.1 := List.count_pos_iff.2 (List.mem_map.2 ⟨s, hs, rfl⟩)
   omega)
  omega) (fun g => by have := h2.one g; omega)
 simp only [hs1, qb]
 obtain ⟨rs2, ps2, vs2, h4, h5⟩ := qk7 hG (w := w) hw0 hw1 ht0 ht1 l' [] qi (qbw (by rw [hs2.length_eq]; omega)) (by rw [hs2.length_eq]; simp; omega) (h2.perm (hs2.map _)) (fun s hs => h3 s (hs2.mem_iff.1 hs))
 rw [List.nil_append] at h4
 have h4' : L28_9 qi (((l'.length : Int), 0, ()), (l', N w rs1 ps t vs, ()), ()) = some ((), (N w rs2 ps2 t vs2, ()), ()) := h4
 refine ⟨rs2, ps2, vs2, ?_, h5⟩
 rw [h4', qb]
end
end Go.Proofs.Tryz.V.Bd
