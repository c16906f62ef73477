/- An evening's queues, plain: the deals of an evening, played. No condition beyond those typed in each theorem. -/
import Derived.Test.YtncngmcojppmgaaGreatS01
namespace Go.Proofs.Tryz.V.Bd
open Go.Vi
open L01 (j9 qK)
set_option maxRecDepth 100000
abbrev Dl := Int × (Int × (Int × (Int × Int)))
def Fr (G n : Nat) (p : Int) : L01.Fair := ((G : Int), ((n : Int), ([7], ([0], ([], (0, (p, 1440)))))))
def qem (i : Nat) : Dl := (0, 3, 0, (i : Int), 0)
def Ct (G n : Nat) (p : Int) (k : Nat) : L01.Cnt := ([7], [(k : Int) * p], List.replicate k (0, 1440) ++ List.replicate (G - k) (0, 0), List.replicate n 0, 0)
structure RdD (G n : Nat) (r : Dl) : Prop where
 t0 : 0 ≤ r.1
 t1 : r.1 < 1440
 k : r.2.1 = 2
 g0 : 0 ≤ r.2.2.1
 g1 : r.2.2.1 < G
 b0 : 0 ≤ r.2.2.2.1
 b1 : r.2.2.2.1 < n
 s : j9 r.2.2.2.2 0 1000 = true
theorem Ct_len (G n : Nat) (p : Int) {k : Nat} (h : k ≤ G) : (Ct G n p k).2.2.1.length = G := by
 show (List.replicate k _ ++ List.replicate (G - k) _).length = G
 rw [List.length_append, List.length_replicate, List.length_replicate]; omega
theorem qlw {G n : Nat} {p : Int} {k : Nat} (h : k < G) : L01.stepD (Fr G n p) (Ct G n p k) (qem k) = Ct G n p (k + 1) := by
 obtain ⟨m, hm⟩ : ∃ m, G - k = m + 1 := ⟨G - k - 1, by omega⟩
 have hg : gd (Ct G n p k).2.2.1 (k : Int) = (0, 0) := qco (by
  show (List.replicate k _ ++ List.replicate (G - k) _)[k]? = _
  rw [List.getElem?_append_right (by simp), List.length_replicate, Nat.sub_self, hm, List.replicate_succ]
  rfl)
 show (([7] : List Int), L01.ad [(k : Int) * p] 0 p, (Ct G n p k).2.2.1.set ((k : Int)).toNat ((gd (Ct G n p k).2.2.1 (k : Int)).1, max (gd (Ct G n p k).2.2.1 (k : Int)).2 (IntKind.wrap .i64 (0 + 1440))), List.replicate n (0 : Int), (0 : Int)) = _
 rw [hg]
 have e1 : L01.ad [(k : Int) * p] 0 p = [((k + 1 : Nat) : Int) * p] := by
  show [(k : Int) * p + p] = _
  rw [show ((k + 1 : Nat) : Int) = (k : Int) + 1 by omega, Int.add_mul, Int.one_mul]
 have e2 : (Ct G n p k).2.2.1.set ((k : Int)).toNat ((0 : Int), max (0 : Int) (IntKind.wrap .i64 (0 + 1440))) = List.replicate (k + 1) (0, 1440) ++ List.replicate (G - (k + 1)) (0, 0) := by
  rw [show max (0 : Int) (IntKind.wrap .i64 (0 + 1440)) = 1440 by decide, show ((k : Int)).toNat = k by omega]
  show (List.replicate k _ ++ List.replicate (G - k) _).set k _ = _
  rw [List.set_append_right _ _ (by simp), List.length_replicate, Nat.sub_self, hm, show G - (k + 1) = m by omega, List.replicate_succ, List.set_cons_zero, List.replicate_succ', List.append_assoc]
  rfl
 rw [e1, e2]
 rfl
theorem gd_rep {α : Type} [Inhabited α] {n : Nat} {x : α} {i : Int} (h0 : 0 ≤ i) (h : i < n) : gd (List.replicate n x) i = x := by
 have := qco (l := List.replicate n x) (i := i.toNat) (x := x) (by rw [List.getElem?_replicate, if_pos (by omega)])
 rwa [show (i.toNat : Int) = i by omega] at this
theorem qlt {G n : Nat} {p : Int} {i : Int} (h0 : 0 ≤ i) (h : i < G) : gd (Ct G n p G).2.2.1 i = (0, 1440) := by
 show gd (List.replicate G _ ++ List.replicate (G - G) _) i = _
 rw [Nat.sub_self, List.replicate_zero, List.append_nil, gd_rep h0 h]
theorem qlv {G n : Nat} {p : Int} {r : Dl} (h : RdD G n r) : L01.stepD (Fr G n p) (Ct G n p G) r = Ct G n p G := by
 unfold L01.stepD
 rw [h.k, show ((2 : Int) == 1) = false from rfl, show ((2 : Int) == 2) = true from rfl, cond_false, cond_true, qlt h.g0 h.g1, qX h.t1, cond_true]
structure DOK (G n : Nat) (l : List Dl) : Prop where
 len : G ≤ l.length
 band : ∀ j, j < G → gd l (j : Int) = qem j
 ride : ∀ j, G ≤ j → j < l.length → RdD G n (gd l (j : Int))
 up : ∀ j, G ≤ j → j + 1 < l.length → (gd l (j : Int)).1 ≤ (gd l ((j + 1 : Nat) : Int)).1
theorem qj4 {G n : Nat} {p : Int} {l : List Dl} (h : DOK G n l) : ∀ j, j ≤ l.length → L01.stC (Fr G n p) l j = Ct G n p (min j G)
 | 0, _ => by
  rw [Nat.zero_min]
  show (([7] : List Int), ([0] : List Int), List.replicate ((G : Int)).toNat ((0 : Int), (0 : Int)), List.replicate ((n : Int)).toNat (0 : Int), (0 : Int)) = ([7], [((0 : Nat) : Int) * p], List.replicate 0 _ ++ List.replicate (G - 0) _, _, _)
  rw [show ((G : Int)).toNat = G by omega, show ((n : Int)).toNat = n by omega, List.replicate_zero, List.nil_append, Nat.sub_zero, show ((0 : Nat) : Int) * p = 0 by simp]
 | j + 1, hj => by
  show L01.stepD (Fr G n p) (L01.stC (Fr G n p) l j) (gd l (j : Int)) = _
  rw [qj4 h j (by omega)]
  by_cases hG : j < G
  ·rw [h.band j hG, Nat.min_eq_left (by omega), Nat.min_eq_left (by omega), qlw hG]
  ·rw [Nat.min_eq_right (by omega), Nat.min_eq_right (by omega), qlv (h.ride j (by omega) (by omega))]
theorem bad_none {G n : Nat} {p : Int} {l : List Dl} (h : DOK G n l) (j : Nat) (hj : j < l.length) : L01.bad (Fr G n p) l j = false := by
 unfold L01.bad
 rw [qj4 h j (by omega), Bool.not_eq_false', Bool.and_eq_true]
 by_cases hG : j < G
 ·rw [h.band j hG, Nat.min_eq_left (by omega)]
  constructor
  ·have : L01.lastT l j = 0 := by
    cases j with
    | zero => rfl
    | succ i =>
     show (gd l (i : Int)).1 = 0
     rw [h.band i (by omega)]; rfl
   rw [this]; rfl
  ·show (j9 0 0 (((1 : Nat) : Int) - 1) && (j9 (j : Int) 0 (((Ct G n p j).2.2.1.length : Int) - 1) && ((0 : Int) == 0))) = true
   have e1 : j9 (j : Int) 0 ((G : Int) - 1) = true := qK.2 ⟨by omega, by omega⟩
   rw [Ct_len G n p (by omega), e1]
   rfl
 ·have r := h.ride j (by omega) hj
  rw [Nat.min_eq_right (by omega)]
  constructor
  ·refine qK.2 ⟨?_, by have := r.t1; omega⟩
   cases j with
   | zero => exact r.t0
   | succ i =>
    show (gd l (i : Int)).1 ≤ _
    by_cases hi : i < G
    ·rw [h.band i hi]; exact r.t0
    ·exact h.up i (by omega) hj
  ·unfold L01.okD
   simp only
   have hl : (Ct G n p G).2.2.2.1.length = n := List.length_replicate
   rw [r.k, show ((2 : Int) == 1) = false from rfl, show ((2 : Int) == 2) = true from rfl, cond_false, cond_true, qlt r.g0 r.g1, qX r.t1, Bool.true_or, Ct_len G n p (Nat.le_refl _), hl, r.s, Bool.true_and, Bool.and_true,
    qK.2 ⟨r.g0, by have := r.g1; omega⟩, qK.2 ⟨r.b0, by have := r.b1; omega⟩]
   rfl
theorem qlS {G n : Nat} {p : Int} (hG : G ≤ 12) (hn : n ≤ 8) (h0 : 0 ≤ p) (h1 : p ≤ 1000000) : L01.fairOK (Fr G n p) = true := by
 show (j9 ((1 : Nat) : Int) 1 8 && ((((1 : Nat) : Int) == ((1 : Nat) : Int)) && (j9 (G : Int) 0 20 && (j9 (n : Int) 0 12 && (decide (((0 : Nat) : Int) ≤ 6) && ((([7] : List Int).all (j9 · 0 100000) && ([0] : List Int).all (j9 · 0 1000000)) && (j9 0 0 1000 && (j9 p 0 1000000 && (j9 1440 1 1440 && true))))))))) = true
 have e1 : j9 (G : Int) 0 20 = true := qK.2 ⟨by omega, by omega⟩
 have e2 : j9 (n : Int) 0 12 = true := qK.2 ⟨by omega, by omega⟩
 have e3 : j9 p 0 1000000 = true := qK.2 ⟨h0, h1⟩
 rw [e1, e2, e3]
 rfl
theorem tok_ok {G n : Nat} {p : Int} {l : List Dl} (hG : G ≤ 12) (hn : n ≤ 8) (h0 : 0 ≤ p) (h1 : p ≤ 1000000) (h : DOK G n l) (hl : l.length ≤ 200) : g9 (Fr G n p, l, ()) = some ((Ct G n p G, 0, ()), ()) := by
 have hw : L01.wrong (Fr G n p) l = none := L01.rootWrong (qlS hG hn h0 h1) hl (fun j hj => bad_none h j hj)
 have hs : L01.Sized (Fr G n p) := by unfold L01.Sized Fr; simp
 have e := L01.root10052 (Fr G n p) hs l
 rw [hw] at e
 have hc : L01.stC (Fr G n p) l l.length = Ct G n p G := by rw [qj4 h _ (Nat.le_refl _), Nat.min_eq_right h.len]
 show F9 qi (Fr G n p) l = _
 unfold F9
 rw [e, ← hc]
 rfl
end Go.Proofs.Tryz.V.Bd
