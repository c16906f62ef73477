/- An evening's queues, plain: what ends and who comes. No condition beyond those typed in each theorem. -/
import Derived.Test.YtncngmcojppmgaaGreatB3
namespace Go.Proofs.Tryz.V.Bd
open Go.Vi
set_option maxRecDepth 100000
section
variable {G : List Gp} {n : Nat} {F : Int → Nat}
theorem qbw {k : Nat} (h : k ≤ 100000) : k < qi := Nat.lt_of_le_of_lt h (by decide)
theorem jE {k : Nat} (h : k ≤ 100000) : IntKind.wrap .i64 ((k : Int) + 1) = ((k + 1 : Nat) : Int) := by rw [wI (by omega) (by omega)]; omega
theorem loop26 (hG : Gd G n) {w t : Int} (hw0 : 0 ≤ w) (hw1 : w ≤ 100) (ht0 : 0 ≤ t) (ht1 : t ≤ 5000) : ∀ (suf pre : List Int) (N0 : Nat) {rs : List Bo} {ps : List Pa} {vs : List Vis}, suf.length < N0 → pre.length + suf.length ≤ 1000 → Inv G n rs ps vs t suf F →
  ∃ rs' ps', L26_10 N0 ((((pre ++ suf).length : Int), (pre.length : Int), ()), (pre ++ suf, N w rs ps t vs, ()), ()) = some ((), (N w rs' ps' t vs, ()), ()) ∧ Inv G n rs' ps' vs t [] F
 | [], pre, N0, rs, ps, vs, hN, _, h => by
  obtain ⟨m, rfl⟩ : ∃ m, N0 = m + 1 := ⟨N0 - 1, by omega⟩
  refine ⟨rs, ps, ?_, h⟩
  simp only [L26_10, B26_10]
  rw [jC (by simp), cond_false]
 | g :: suf, pre, N0, rs, ps, vs, hN, hl, h => by
  obtain ⟨m, rfl⟩ : ∃ m, N0 = m + 1 := ⟨N0 - 1, by omega⟩
  simp only [List.length_cons] at hN hl
  obtain ⟨g0, g1, harr, hinv⟩ := h.next hG hw0 hw1 ht0 ht1
  obtain ⟨rs', ps', h1, h2⟩ := loop26 hG hw0 hw1 ht0 ht1 suf (pre ++ [g]) m (by omega) (by simp; omega) hinv
  refine ⟨rs', ps', ?_, h2⟩
  have hlen : ((pre ++ g :: suf).length : Int) = pre.length + suf.length + 1 := by simp; omega
  simp only [L26_10, B26_10]
  rw [qX (by rw [hlen]; omega), cond_true, qE (by omega) (by rw [hlen]; omega), qp (by omega) (by rw [hlen]; omega), qco (x := g) (by rw [List.getElem?_append_right (Nat.le_refl _), Nat.sub_self]; rfl), next46 g0 g1 harr, qb, jE (by omega)]
  rw [show pre ++ [g] ++ suf = pre ++ g :: suf by simp] at h1
  rw [show ((pre.length + 1 : Nat) : Int) = ((pre ++ [g]).length : Int) by simp]
  exact h1
theorem qk6 (hG : Gd G n) {w t : Int} (hw0 : 0 ≤ w) (hw1 : w ≤ 100) (ht0 : 0 ≤ t) (ht1 : t ≤ 5000) (r : Int) : ∀ (suf pre : List Int) (N0 : Nat) {rs : List Bo} {ps : List Pa} {vs : List Vis}, suf.length < N0 → pre.length + suf.length ≤ 1000 → Inv G n rs ps vs t suf F →
  ∃ rs' ps', L29_27 N0 ((r, ((pre ++ suf).length : Int), (pre.length : Int), ()), (pre ++ suf, N w rs ps t vs, ()), ()) = some ((r, ()), (N w rs' ps' t vs, ()), ()) ∧ Inv G n rs' ps' vs t [] F
 | [], pre, N0, rs, ps, vs, hN, _, h => by
  obtain ⟨m, rfl⟩ : ∃ m, N0 = m + 1 := ⟨N0 - 1, by omega⟩
  refine ⟨rs, ps, ?_, h⟩
  simp only [L29_27, B29_27]
  rw [jC (by simp), cond_false]
 | g :: suf, pre, N0, rs, ps, vs, hN, hl, h => by
  obtain ⟨m, rfl⟩ : ∃ m, N0 = m + 1 := ⟨N0 - 1, by omega⟩
  simp only [List.length_cons] at hN hl
  obtain ⟨g0, g1, harr, hinv⟩ := h.next hG hw0 hw1 ht0 ht1
  obtain ⟨rs', ps', h1, h2⟩ := qk6 hG hw0 hw1 ht0 ht1 r suf (pre ++ [g]) m (by omega) (by simp; omega) hinv
  refine ⟨rs', ps', ?_, h2⟩
  have hlen : ((pre ++ g :: suf).length : Int) = pre.length + suf.length + 1 := by simp; omega
  simp only [L29_27, B29_27]
  rw [qX (by rw [hlen]; omega), cond_true, qE (by omega) (by rw [hlen]; omega), qp (by omega) (by rw [hlen]; omega), qco (x := g) (by rw [List.getElem?_append_right (Nat.le_refl _), Nat.sub_self]; rfl), next29 g0 g1 harr, qb]
  simp only []
  rw [jE (by omega)]
  rw [show pre ++ [g] ++ suf = pre ++ g :: suf by simp] at h1
  rw [show ((pre.length + 1 : Nat) : Int) = ((pre ++ [g]).length : Int) by simp]
  exact h1
def qgD (b : Bo) (t : Int) : Bo := (b.1, (b.2.1, (b.2.2.1, (t, b.2.2.2.2))))
theorem qgn (hG : Gd G n) {w t : Int} {ps : List Pa} {vs : List Vis} : ∀ (m k : Nat) (N0 : Nat) {rs : List Bo} {off : List Int}, n = k + m → m < N0 → Inv G n rs ps vs t off F →
  ∃ rs' off', L26_2 N0 (((n : Int), (k : Int), ()), (off, N w rs ps t vs, ()), ()) = some ((), (off', N w rs' ps t vs, ()), ()) ∧ Inv G n rs' ps vs t off' F
 | 0, k, N0, rs, off, hk, hN, h => by
  obtain ⟨q, rfl⟩ : ∃ q, N0 = q + 1 := ⟨N0 - 1, by omega⟩
  refine ⟨rs, off, ?_, h⟩
  simp only [L26_2, B26_2]
  rw [jC (by omega), cond_false]
 | m + 1, k, N0, rs, off, hk, hN, h => by
  obtain ⟨q, rfl⟩ : ∃ q, N0 = q + 1 := ⟨N0 - 1, by omega⟩
  have hr0 : (0 : Int) ≤ (k : Int) := by omega
  have hr1 : (k : Int) < rs.length := by rw [h.rl]; omega
  have hn8 := hG.rides
  have hr := fun {R : Type} (k' : Option Bo → Option R) => qaH (l := rs) hr0 hr1 k'
  have hoff := h.hand hG
  have hon := h.onlen hG (r := (k : Int)) hr0 (by omega)
  have hl : ∀ {R : Type} (k' : Option R), qB ((off.length : Int) + (gd rs (k : Int)).on.length) k' = k' := fun k' => jR (by omega) (by omega) k'
  simp only [L26_2, B26_2, N]
  rw [qX (by omega), cond_true, qE hr0 (by simp only [List.length_map]; exact hr1)]
  simp only [hr, qb, jE (show k ≤ 100000 by omega)]
  by_cases c1 : ((gd rs (k : Int)).2.1.length : Int) > 0
  ·rw [qX c1, cond_true]
   cases c2 : (IntKind.wrap .i64 ((gd rs (k : Int)).2.2.1 + (gd rs (k : Int)).1.2.2.1)) == t with
   | true =>
    rw [cond_true]
    have hl' : ∀ {R : Type} (k' : Option R), qB ((off.length : Int) + (gd rs (k : Int)).2.1.length) k' = k' := hl
    have hr2 : ∀ {R : Type} (x : Bo) (k' : Option Bo → Option R), qc ((rs.set (k : Int).toNat x).map some) (k : Int) k' = k' (some x) := fun x k' => by
     rw [qaH hr0 (by rw [List.length_set]; exact hr1), qeC hr0 hr1]
    simp only [hl', qY, qc7, hr2, qb, List.set_set]
    have h1 : Inv G n (upd rs (k : Int) fun b => qgD (qh4 b []) t) ps vs t (off ++ (gd rs (k : Int)).on) F := by
     refine h.rides (qaI _ _ _) (fun g => ?_) (fun g hg => ?_)
     ·rw [qdo hr0 hr1 rfl, List.count_append]
      have := qdR (fun b : Bo => b.on.count g) hr0 hr1 (fun b => qgD (qh4 b []) t)
      have e : ((qgD (qh4 (gd rs (k : Int)) []) t).on).count g = 0 := List.count_nil
      unfold co
      simp only [e] at this
      omega
     ·rw [qdo hr0 hr1 rfl] at hg; omega
    obtain ⟨rs', off', h2, h3⟩ := qgn hG (w := w) m (k + 1) q (by omega) (by omega) h1
    exact ⟨rs', off', h2, h3⟩
   | false =>
    rw [cond_false]
    exact qgn hG (w := w) m (k + 1) q (by omega) (by omega) h
  ·rw [jC c1, cond_false]
   exact qgn hG (w := w) m (k + 1) q (by omega) (by omega) h
theorem qgg (l : List Int) : (l.mergeSort fun x y => decide (x ≤ y)).Perm l := List.mergeSort_perm l _
theorem end_inv (hG : Gd G n) {w t : Int} (hw0 : 0 ≤ w) (hw1 : w ≤ 100) (ht0 : 0 ≤ t) (ht1 : t ≤ 5000) {rs : List Bo} {ps : List Pa} {vs : List Vis} (h : Inv G n rs ps vs t [] F) :
  ∃ rs' ps', g26 (N w rs ps t vs, ()) = some ((), (N w rs' ps' t vs, ())) ∧ Inv G n rs' ps' vs t [] F := by
 show ∃ rs' ps', F26 qi (N w rs ps t vs) = _ ∧ _
 unfold F26
 have hn8 := hG.rides
 obtain ⟨rs1, off, h1, h2⟩ := qgn hG (w := w) (t := t) n 0 qi (by omega) (qbw (by omega)) h
 have e : (((N w rs ps t vs).2.1.length : Int)) = (n : Int) := by
  show (((rs.map some).length : Nat) : Int) = _
  rw [List.length_map, h.rl]
 rw [e]
 have h1' : L26_2 qi (((n : Int), 0, ()), (([] : List Int), N w rs ps t vs, ()), ()) = some ((), (off, N w rs1 ps t vs, ()), ()) := h1
 rw [h1', qb]
 have hoff := h2.hand hG
 have hs : g45 (off, ()) = some ((), (off.mergeSort (fun x y => decide (x ≤ y)), ())) := by
  show (if off.length ≤ 1000000 then _ else _) = _
  rw [if_pos (by omega)]
 simp only [hs, qb]
 have hp := qgg off
 obtain ⟨rs2, ps2, h3, h4⟩ := loop26 hG (w := w) hw0 hw1 ht0 ht1 (off.mergeSort fun x y => decide (x ≤ y)) [] qi (qbw (by rw [hp.length_eq]; omega)) (by rw [hp.length_eq]; simp; omega) (h2.perm hp)
 rw [List.nil_append] at h3
 have h3' : L26_10 qi ((((off.mergeSort fun x y => decide (x ≤ y)).length : Int), 0, ()), (off.mergeSort (fun x y => decide (x ≤ y)), N w rs1 ps t vs, ()), ()) = some ((), (N w rs2 ps2 t vs, ()), ()) := h3
 refine ⟨rs2, ps2, ?_, h4⟩
 rw [h3', qb]
def fut (G : List Gp) (t : Int) (k : Nat) (g : Int) : Nat := if 0 ≤ g ∧ g < G.length ∧ (t < (gd G g).1 ∨ ((gd G g).1 = t ∧ (k : Int) ≤ g)) then 1 else 0
theorem qiV (hG : Gd G n) {w t : Int} (hw0 : 0 ≤ w) (hw1 : w ≤ 100) (ht0 : 0 ≤ t) (ht1 : t ≤ 5000) {vs : List Vis} : ∀ (m k : Nat) (N0 : Nat) {rs : List Bo} {ps : List Pa}, G.length = k + m → m < N0 → Inv G n rs ps vs t [] (fut G t k) →
  ∃ rs' ps', L27_1 N0 (((G.length : Int), (k : Int), ()), (N w rs ps t vs, ()), ()) = some ((), (N w rs' ps' t vs, ()), ()) ∧ Inv G n rs' ps' vs t [] (fut G t G.length)
 | 0, k, N0, rs, ps, hk, hN, h => by
  obtain ⟨q, rfl⟩ : ∃ q, N0 = q + 1 := ⟨N0 - 1, by omega⟩
  refine ⟨rs, ps, ?_, by rw [hk]; exact h⟩
  simp only [L27_1, B27_1]
  rw [jC (by omega), cond_false]
 | m + 1, k, N0, rs, ps, hk, hN, h => by
  obtain ⟨q, rfl⟩ : ∃ q, N0 = q + 1 := ⟨N0 - 1, by omega⟩
  have k0 : (0 : Int) ≤ (k : Int) := by omega
  have k1 : (k : Int) < G.length := by omega
  have k1' : (k : Int) < ps.length := by rw [h.plen]; exact k1
  have hg := hG.len
  have hp := fun {R : Type} (k' : Option Pa → Option R) => qaH (l := ps) k0 k1' k'
  have hat : (gd ps (k : Int)).1.1 = (gd G (k : Int)).1 := by rw [h.group k0 k1]
  simp only [L27_1, B27_1]
  rw [qX (by omega), cond_true]
  rw [qE k0 (by show (k : Int) < ((ps.map some).length : Nat); rw [List.length_map]; exact k1')]
  have hp' : ∀ {R : Type} (k' : Option Pa → Option R), qc (N w rs ps t vs).2.2.1 (k : Int) k' = k' (some (gd ps (k : Int))) := hp
  simp only [hp', qb]
  by_cases c : (gd G (k : Int)).1 = t
  ·have e : ((gd ps (k : Int)).1.1 == (N w rs ps t vs).2.2.2.1) = true := by
    show ((gd ps (k : Int)).1.1 == t) = true
    rw [hat, c]; simp
   rw [e, cond_true]
   have h1 : Inv G n rs ps vs t [(k : Int)] (fut G t (k + 1)) := h.first (g := (k : Int)) (by unfold fut; rw [if_pos ⟨k0, k1, .inr ⟨c, Int.le_refl _⟩⟩]) (fun g' => by
    unfold fut
    by_cases e : g' = (k : Int)
    ·rw [if_pos e, if_neg]
     rintro ⟨_, _, h3⟩
     rw [e] at h3
     omega
    ·rw [if_neg e]
     by_cases h3 : 0 ≤ g' ∧ g' < (G.length : Int) ∧ (t < (gd G g').1 ∨ ((gd G g').1 = t ∧ (k : Int) ≤ g'))
     ·rw [if_pos h3, if_pos ⟨h3.1, h3.2.1, h3.2.2.imp_right fun hh => ⟨hh.1, by omega⟩⟩]
     ·rw [if_neg h3, if_neg (fun hh => h3 ⟨hh.1, hh.2.1, hh.2.2.imp_right fun hh => ⟨hh.1, by omega⟩⟩)])
   obtain ⟨g0, g1, harr, hinv⟩ := h1.next hG hw0 hw1 ht0 ht1
   rw [next27 g0 g1 harr, qb]
   obtain ⟨rs', ps', h2, h3⟩ := qiV hG hw0 hw1 ht0 ht1 m (k + 1) q (by omega) (by omega) hinv
   refine ⟨rs', ps', ?_, h3⟩
   simp only []
   rw [jE (by omega)]
   exact h2
  ·have e : ((gd ps (k : Int)).1.1 == (N w rs ps t vs).2.2.2.1) = false := by
    show ((gd ps (k : Int)).1.1 == t) = false
    rw [hat]; simpa using c
   rw [e, cond_false, jE (by omega)]
   have hf : fut G t (k + 1) = fut G t k := by
    funext g'
    unfold fut
    by_cases h3 : 0 ≤ g' ∧ g' < (G.length : Int) ∧ (t < (gd G g').1 ∨ ((gd G g').1 = t ∧ (k : Int) ≤ g'))
    ·rw [if_pos h3, if_pos]
     refine ⟨h3.1, h3.2.1, h3.2.2.imp_right fun hh => ⟨hh.1, ?_⟩⟩
     by_cases e2 : g' = (k : Int)
     ·rw [e2] at hh; exact absurd hh.1 c
     ·omega
    ·rw [if_neg h3, if_neg (fun hh => h3 ⟨hh.1, hh.2.1, hh.2.2.imp_right fun hh => ⟨hh.1, by omega⟩⟩)]
   exact qiV hG hw0 hw1 ht0 ht1 m (k + 1) q (by omega) (by omega) (by rw [hf]; exact h)
theorem qiU (hG : Gd G n) {w t : Int} (ht0 : 0 ≤ t) {vs : List Vis} : ∀ (m k : Nat) (N0 : Nat) {rs : List Bo} {ps : List Pa}, G.length = k + m → m < N0 → Inv G n rs ps vs t [] F →
  ∃ rs' ps', L27_7 N0 (((G.length : Int), (k : Int), ()), (N w rs ps t vs, ()), ()) = some ((), (N w rs' ps' t vs, ()), ()) ∧ Inv G n rs' ps' vs t [] F
 | 0, k, N0, rs, ps, hk, hN, h => by
  obtain ⟨q, rfl⟩ : ∃ q, N0 = q + 1 := ⟨N0 - 1, by omega⟩
  refine ⟨rs, ps, ?_, h⟩
  simp only [L27_7, B27_7]
  rw [jC (by omega), cond_false]
 | m + 1, k, N0, rs, ps, hk, hN, h => by
  obtain ⟨q, rfl⟩ : ∃ q, N0 = q + 1 := ⟨N0 - 1, by omega⟩
  have k0 : (0 : Int) ≤ (k : Int) := by omega
  have k1 : (k : Int) < G.length := by omega
  have k1' : (k : Int) < ps.length := by rw [h.plen]; exact k1
  have hg := hG.len
  simp only [L27_7, B27_7]
  rw [qX (by omega), cond_true]
  rw [qE k0 (by show (k : Int) < ((ps.map some).length : Nat); rw [List.length_map]; exact k1')]
  have hp' : ∀ {R : Type} (k' : Option Pa → Option R), qc (N w rs ps t vs).2.2.1 (k : Int) k' = k' (some (gd ps (k : Int))) := fun k' => qaH (l := ps) k0 k1' k'
  simp only [hp', qb]
  by_cases c : (gd ps (k : Int)).comes = t
  ·have e : ((gd ps (k : Int)).2.2.2.1 == (N w rs ps t vs).2.2.2.1) = true := by
    show ((gd ps (k : Int)).2.2.2.1 == t) = true
    have : (gd ps (k : Int)).2.2.2.1 = t := c
    rw [this]; simp
   rw [e, cond_true]
   have hcw : cw ps (k : Int) = 1 := by unfold cw; rw [if_pos ⟨k0, k1', by rw [c]; omega⟩]
   have harr := h.arr hG k0 k1 (h.inq (k : Int) (by omega))
   rw [arr27 harr, qb]
   obtain ⟨rs', ps', h2, h3⟩ := qiU hG ht0 m (k + 1) q (by omega) (by omega) (h.arrive hG (t' := t) k0 k1 hcw)
   refine ⟨rs', ps', ?_, h3⟩
   simp only []
   rw [jE (by omega)]
   exact h2
  ·have e : ((gd ps (k : Int)).2.2.2.1 == (N w rs ps t vs).2.2.2.1) = false := by
    show ((gd ps (k : Int)).2.2.2.1 == t) = false
    simpa using c
   rw [e, cond_false, jE (by omega)]
   exact qiU hG ht0 m (k + 1) q (by omega) (by omega) h
theorem fut_next (G : List Gp) (t : Int) : fut G t G.length = fut G (t + 1) 0 := by
 funext g
 unfold fut
 by_cases h : 0 ≤ g ∧ g < (G.length : Int) ∧ t < (gd G g).1
 ·rw [if_pos ⟨h.1, h.2.1, .inl h.2.2⟩, if_pos ⟨h.1, h.2.1, by omega⟩]
 ·rw [if_neg (fun hh => h ⟨hh.1, hh.2.1, by omega⟩), if_neg (fun hh => h ⟨hh.1, hh.2.1, by omega⟩)]
theorem come_inv (hG : Gd G n) {w t : Int} (hw0 : 0 ≤ w) (hw1 : w ≤ 100) (ht0 : 0 ≤ t) (ht1 : t ≤ 5000) {rs : List Bo} {ps : List Pa} {vs : List Vis} (h : Inv G n rs ps vs t [] (fut G t 0)) :
  ∃ rs' ps', g27 (N w rs ps t vs, ()) = some ((), (N w rs' ps' t vs, ())) ∧ Inv G n rs' ps' vs t [] (fut G (t + 1) 0) := by
 show ∃ rs' ps', F27 qi (N w rs ps t vs) = _ ∧ _
 unfold F27
 have hg := hG.len
 obtain ⟨rs1, ps1, h1, h2⟩ := qiV hG (w := w) hw0 hw1 ht0 ht1 G.length 0 qi (by omega) (qbw (by omega)) h
 have e : (((N w rs ps t vs).2.2.1.length : Int)) = (G.length : Int) := by
  show (((ps.map some).length : Nat) : Int) = _
  rw [List.length_map, h.plen]
 have e1 : (((N w rs1 ps1 t vs).2.2.1.length : Int)) = (G.length : Int) := by
  show (((ps1.map some).length : Nat) : Int) = _
  rw [List.length_map, h2.plen]
 rw [e]
 have h1' : L27_1 qi (((G.length : Int), 0, ()), (N w rs ps t vs, ()), ()) = some ((), (N w rs1 ps1 t vs, ()), ()) := h1
 rw [h1', qb]
 rw [fut_next] at h2
 obtain ⟨rs2, ps2, h3, h4⟩ := qiU hG (w := w) ht0 G.length 0 qi (by omega) (qbw (by omega)) h2
 have h3' : L27_7 qi (((G.length : Int), 0, ()), (N w rs1 ps1 t vs, ()), ()) = some ((), (N w rs2 ps2 t vs, ()), ()) := h3
 refine ⟨rs2, ps2, ?_, h4⟩
 simp only []
 rw [e1, h3', qb]
end
end Go.Proofs.Tryz.V.Bd
