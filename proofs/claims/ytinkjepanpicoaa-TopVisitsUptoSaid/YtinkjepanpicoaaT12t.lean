/- Plain laws of the night: a ride that is tested on a day, with power enough for all. No condition beyond those typed in each theorem. -/
import Derived.Test.YtinkjepanpicoaaT12o
namespace Go.Proofs.Try.V.Top
open Go.Vi
open L10 (rng rng_iff)
set_option maxRecDepth 100000

def withP (g : Gala) : Gala := (g.1, (g.2.1, (g.2.2.1, (g.2.2.2.1, ((g.2.2.2.2.1.1, (g.2.2.2.2.1.2.1, (1000, g.2.2.2.2.1.2.2.2))), g.2.2.2.2.2)))))
def withL (g : Gala) (l : List L05.Ld) : Gala := (g.1, (g.2.1, (g.2.2.1, (g.2.2.2.1, ((g.2.2.2.2.1.1, (l, g.2.2.2.2.1.2.2)), g.2.2.2.2.2)))))
def withB (g : Gala) (l : List L05.Brd) : Gala := (g.1, (g.2.1, (g.2.2.1, (g.2.2.2.1, ((l, g.2.2.2.2.1.2), g.2.2.2.2.2)))))
/-- A loop that sets each element of a list to its image. -/
theorem set_loop {α D R : Type} [Inhabited α] (l : List α) (f : α → α) {L : Nat → D → Option R} (mk : Nat → List α → D) (res : List α → R) (hl : l.length ≤ 1000)
    (hend : ∀ N s, s.length = l.length → L (N + 1) (mk l.length s) = some (res s))
    (hstep : ∀ N i s, i < l.length → s.length = l.length → L (N + 1) (mk i s) = L N (mk (i + 1) (s.set ((i : Int).toNat) (f (gd s (i : Int)))))) : L fuel (mk 0 l) = some (res (l.map f)) := by
  have e := loopF (L := L) (fun i => mk i ((l.take i).map f ++ l.drop i)) (res (l.map f)) 0 l.length (N := fuel) (by have := fuel_ge; omega)
    (fun N => by
      rw [hend N _ (by simp), List.take_length, List.drop_length, List.append_nil])
    (fun N i _ hi => by
      have hlen : ((l.take i).map f).length = i := by simp; omega
      have hd : l.drop i = gd l (i : Int) :: l.drop (i + 1) := drop_nat hi
      have hg : gd ((l.take i).map f ++ l.drop i) (i : Int) = gd l (i : Int) := by
        refine gd_of ?_
        rw [List.getElem?_append_right (by omega), hlen, hd, Nat.sub_self]
        rfl
      rw [hstep N i _ hi (by simp; omega), hg, Int.toNat_natCast, List.set_append_right _ _ (by omega), hlen, Nat.sub_self, hd, List.set_cons_zero, take_nat hi, List.map_append, List.append_assoc]
      rfl)
  simpa using e
def ones (g : Gala) : Gala := withB (withL (withP g) (g.2.2.2.2.1.2.1.map L05.oneL)) (g.2.2.2.2.1.1.map L05.oneB)
def testG (g : Gala) (l : List L10.Ent) (ride d : Int) : Gala := (g.1, (g.2.1, (l ++ [L10.testE d ride], (d, (L05.one g.2.2.2.2.1, g.2.2.2.2.2)))))
theorem Valid.test {g : Gala} (h : Valid g) {l : List L10.Ent} {ride d : Int} (hd : 0 ≤ d ∧ d ≤ 10000) (hc : (L10.checkR g.2.1 (l ++ [L10.testE d ride])).2 = 0) : Valid (testG g l ride d) :=
  ⟨h.eve, hc, L05.okS_one h.sup, h.ins, by have := h.loads; show (g.2.2.2.2.1.2.1.map L05.oneL).length = _; rw [List.length_map]; exact this, h.lims, h.emps, rng_iff.2 hd, h.lim, h.emp⟩
theorem opn_one {g : Gala} {s : L05.Sup} (hs : L05.okS s = true) (h : g.2.2.2.2.1 = L05.one s) : opn g = rel g := by
  unfold opn
  have key : ∀ i, i ≤ (rel g).length → (opS g.2.2.2.2.1 (rel g) i).2 = (rel g).take i := by
    intro i
    induction i with
    | zero => intro _; rfl
    | succ i ih =>
      intro hi
      unfold opS
      rw [h, L05.fo_one hs, ← h, if_pos (by rfl), take_nat (by omega)]
      dsimp only
      rw [ih (by omega)]
  rw [key _ (Nat.le_refl _), List.take_length]
theorem tested_eq {g : Gala} (h : Valid g) {l : List L10.Ent} {ride d : Int} (hd : 0 ≤ d ∧ d ≤ 10000) (hl : l.length ≤ 1000) (hc : (L10.checkR g.2.1 (l ++ [L10.testE d ride])).2 = 0) :
    g10 (ones g, l, ride, d, ()) = some ((decide (ride ∈ L10.relL g.2.1 (L10.upto (l ++ [L10.testE d ride]) d) d), ()), ()) := by
  have hF : g10 (ones g, l, ride, d, ()) = F10 fuel (ones g) l ride d := rfl
  have hV := h.test (l := l) (ride := ride) hd hc
  rw [hF]
  unfold F10
  rw [lenK_in (by simp <;> omega) (by simp <;> omega), lenK_in (by simp <;> omega) (by simp <;> omega), bindV_eq]
  refine (derefK_of hV.opens' _).trans ?_
  dsimp only
  rw [show ((0 : Int) != 0) = false from rfl, cond_false, opn_one h.sup rfl]
  have hlen : (rel (testG g l ride d)).length ≤ 8 := by
    have := opn_len hV
    rwa [opn_one h.sup rfl] at this
  have e := L10.loopAll (L := L10_7) (fun i => ((ride, (i : Int), ()), (rel (testG g l ride d), ()), ())) (rel (testG g l ride d)) (fun x => !(x == ride)) (.inl ((true, ()), (), ())) (.inr ((), (), ())) 0 (N := fuel) (by have := fuel_ge; omega)
    (fun N => by simp [L10_7, B10_7])
    (fun N i _ hi => by
      simp only [L10_7, B10_7]
      rw [dec_t (by omega), cond_true, inR_in (by omega) (by omega), getI_gd (by omega) (by omega), wI (by omega) (by omega)]
      cases gd (rel (testG g l ride d)) (i : Int) == ride <;> rfl)
  have hr : L10.relL g.2.1 (L10.upto (l ++ [L10.testE d ride]) d) d = rel (testG g l ride d) := rfl
  refine (derefK_of e _).trans ?_
  rw [hr]
  by_cases hm : ride ∈ rel (testG g l ride d)
  · rw [dec_t hm, show (rel (testG g l ride d)).all (fun x => !(x == ride)) = false by
      rw [← Bool.not_eq_true, List.all_eq_true]
      intro hh
      have := hh ride hm
      simp at this]
    rfl
  · rw [dec_f hm, show (rel (testG g l ride d)).all (fun x => !(x == ride)) = true by
      rw [List.all_eq_true]
      intro x hx
      cases e : x == ride with
      | false => rfl
      | true => exact absurd (eq_of_beq e ▸ hx) hm]
    rfl
end Go.Proofs.Try.V.Top
