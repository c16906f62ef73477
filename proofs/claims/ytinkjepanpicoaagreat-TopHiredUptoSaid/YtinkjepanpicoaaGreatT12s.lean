/- Plain laws of the night: loops that set each element; what opens if all fits. No condition beyond those typed in each theorem. -/
import Derived.Test.YtinkjepanpicoaaGreatT12o
namespace Go.Proofs.Tryz.V.Top
open Go.Vi
set_option maxRecDepth 100000
def withP (g : qb7) : qb7 := (g.1, (g.2.1, (g.2.2.1, (g.2.2.2.1, ((g.2.2.2.2.1.1, (g.2.2.2.2.1.2.1, (1000, g.2.2.2.2.1.2.2.2))), g.2.2.2.2.2)))))
def withL (g : qb7) (l : List L05.Ld) : qb7 := (g.1, (g.2.1, (g.2.2.1, (g.2.2.2.1, ((g.2.2.2.2.1.1, (l, g.2.2.2.2.1.2.2)), g.2.2.2.2.2)))))
def withB (g : qb7) (l : List L05.Brd) : qb7 := (g.1, (g.2.1, (g.2.2.1, (g.2.2.2.1, ((l, g.2.2.2.2.1.2), g.2.2.2.2.2)))))
theorem set_loop {α D R : Type} [Inhabited α] (l : List α) (f : α → α) {L : Nat → D → Option R} (mk : Nat → List α → D) (res : List α → R) (hl : l.length ≤ 1000)
    (hend : ∀ N s, s.length = l.length → L (N + 1) (mk l.length s) = some (res s))
    (hstep : ∀ N i s, i < l.length → s.length = l.length → L (N + 1) (mk i s) = L N (mk (i + 1) (s.set ((i : Int).toNat) (f (gd s (i : Int)))))) : L fuel (mk 0 l) = some (res (l.map f)) := by
  have e := qea (L := L) (fun i => mk i ((l.take i).map f ++ l.drop i)) (res (l.map f)) 0 l.length (N := fuel) (by have := qY; omega)
    (fun N => by
      rw [hend N _ (by simp), List.take_length, List.drop_length, List.append_nil])
    (fun N i _ hi => by
      have hlen : ((l.take i).map f).length = i := by simp; omega
      have hd : l.drop i = gd l (i : Int) :: l.drop (i + 1) := qbC hi
      have hg : gd ((l.take i).map f ++ l.drop i) (i : Int) = gd l (i : Int) := by
        refine qgM ?_
        rw [List.getElem?_append_right (by omega), hlen, hd, Nat.sub_self]
        rfl
      rw [hstep N i _ hi (by simp; omega), hg, Int.toNat_natCast, List.set_append_right _ _ (by omega), hlen, Nat.sub_self, hd, List.set_cons_zero, qbR hi, List.map_append, List.append_assoc]
      rfl)
  simpa using e
theorem opn_all {g : qb7} (h : ∀ S, L05.fo g.2.2.2.2.1 S = none) : opn g = rel g := by
  unfold opn
  have key : ∀ i, i ≤ (rel g).length → (opS g.2.2.2.2.1 (rel g) i).2 = (rel g).take i := by
    intro i
    induction i with
    | zero => intro _; rfl
    | succ i ih =>
      intro hi
      unfold opS
      rw [h, if_pos (by rfl), qbR (by omega)]
      dsimp only
      rw [ih (by omega)]
  rw [key _ (Nat.le_refl _), List.take_length]
end Go.Proofs.Tryz.V.Top
