/- An evening's queues, plain: a ride begins. No condition beyond those typed in each theorem. -/
import Derived.Test.YtncngmcojppmgaaGreatB6
namespace Go.Proofs.Tryz.V.Bd
open Go.Vi
set_option maxRecDepth 100000
def qgB (b : Bo) (c : Int) : Bo := (b.1, (b.2.1, (b.2.2.1, (b.2.2.2.1, (b.2.2.2.2.1, (c, b.2.2.2.2.2.2))))))
def setBegun (b : Bo) (c : Int) : Bo := (b.1, (b.2.1, (c, b.2.2.2)))
section
variable {G : List Gp} {n : Nat} {F : Int → Nat}
def brdR (rs : List Bo) (r g c : Int) : List Bo := upd rs r fun b => qh4 (qgB b c) (b.on ++ [g])
def qfJ (ps : List Pa) (g c : Int) : List Pa := upd ps g fun p => qgC p c
theorem step29 {w t r seats : Int} {rs : List Bo} {ps : List Pa} {vs : List Vis} {Q stay : List (Int × Int)} {away : List Int} {x : Int × Int} {k m : Nat} (r0 : 0 ≤ r) (r1 : r < rs.length) (hd : Don ps vs x.1) (hk : k < Q.length) (hx : gd Q (k : Int) = x) (hQ : Q.length ≤ 1000) (hs : stay.length ≤ 1000) (ha : away.length ≤ 1000) (ho : (gd rs r).on.length ≤ 1000) :
  L29_8 (m + 1) ((r, Q, seats, Q, (Q.length : Int), (k : Int), ()), (stay, away, N w rs ps t vs, ()), ()) = L29_8 m ((r, Q, seats, Q, (Q.length : Int), ((k + 1 : Nat) : Int), ()), (stay, away ++ [x.1], N w rs (qeb ps x.1) t (donV ps vs x false t), ()), ()) ∨
  L29_8 (m + 1) ((r, Q, seats, Q, (Q.length : Int), (k : Int), ()), (stay, away, N w rs ps t vs, ()), ()) = L29_8 m ((r, Q, seats, Q, (Q.length : Int), ((k + 1 : Nat) : Int), ()), (stay ++ [x], away, N w rs ps t vs, ()), ()) ∨
  L29_8 (m + 1) ((r, Q, seats, Q, (Q.length : Int), (k : Int), ()), (stay, away, N w rs ps t vs, ()), ()) = some ((r, ()), (stay ++ Q.drop k, away, N w rs ps t vs, ()), ()) ∨
  ∃ seats' c1 c2, L29_8 (m + 1) ((r, Q, seats, Q, (Q.length : Int), (k : Int), ()), (stay, away, N w rs ps t vs, ()), ()) = L29_8 m ((r, Q, seats', Q, (Q.length : Int), ((k + 1 : Nat) : Int), ()), (stay, away, N w (brdR rs r x.1 c2) (qeb (qfJ ps x.1 c1) x.1) t (donV (qfJ ps x.1 c1) vs x true t), ()), ()) := by
 have g0 := hd.g0
 have g1 := hd.g1
 have hr : ∀ {R : Type} (k' : Option Bo → Option R), qc (N w rs ps t vs).2.1 r k' = k' (some (gd rs r)) := fun k' => qaH (l := rs) r0 r1 k'
 have hp : ∀ {R : Type} (k' : Option Pa → Option R), qc (N w rs ps t vs).2.2.1 x.1 k' = k' (some (gd ps x.1)) := fun k' => qaH (l := ps) g0 g1 k'
 have hla : ∀ {R : Type} (k' : Option R), qB ((away.length : Int) + [x.1].length) k' = k' := fun k' => jR (by simp only [List.length_singleton]; omega) (by simp only [List.length_singleton]; omega) k'
 have hls : ∀ {R : Type} (k' : Option R), qB ((stay.length : Int) + [x].length) k' = k' := fun k' => jR (by simp only [List.length_singleton]; omega) (by simp only [List.length_singleton]; omega) k'
 have hdl : (Q.drop (k : Int).toNat).length ≤ 1000 := by rw [List.length_drop]; omega
 have hlq : ∀ {R : Type} (k' : Option R), qB ((stay.length : Int) + (Q.drop (k : Int).toNat).length) k' = k' := fun k' => jR (by omega) (by omega) k'
 have htn : ((k : Int)).toNat = k := by omega
 have hd1 : ∀ c1, Don (qfJ ps x.1 c1) vs x.1 := fun c1 => by
  obtain ⟨a0, a1, a2, a3, a4⟩ := hd
  have e : gd (qfJ ps x.1 c1) x.1 = qgC (gd ps x.1) c1 := qdk a0 a1 _
  refine ⟨a0, by unfold qfJ; rw [qaI]; exact a1, by rw [e]; exact a2, by rw [e]; exact a3, a4⟩
 have hrs : ∀ {R : Type} (z : Bo) (k' : Option Bo → Option R), qc ((rs.set r.toNat z).map some) r k' = k' (some z) := fun z k' => by
  rw [qaH r0 (by rw [List.length_set]; exact r1), qeC r0 r1]
 have hlo : ∀ {R : Type} (k' : Option R), qB (((gd rs r).2.1.length : Int) + [x.1].length) k' = k' := fun k' => jR (by simp only [List.length_singleton]; omega) (by
  have : (gd rs r).2.1 = (gd rs r).on := rfl
  rw [this, List.length_singleton]; omega) k'
 simp only [L29_8, B29_8]
 rw [qX (by omega), cond_true, qp (by omega) (by omega), hx, qE g0 (by show x.1 < ((ps.map some).length : Nat); rw [List.length_map]; exact g1)]
 simp only [hp, hr, qb]
 by_cases c1 : (gd ps x.1).1.2.1 > (gd rs r).1.1
 ·rw [qX c1, cond_true, qlm hd, qb]
  simp only [hla]
  rw [jE (by omega)]
  exact .inl rfl
 ·rw [jC c1, cond_false]
  by_cases c2 : IntKind.wrap .i64 ((gd ps x.1).1.2.1 * (gd rs r).1.2.1) > (gd ps x.1).2.2.1
  ·rw [qX c2, cond_true, qlm hd, qb]
   simp only [hla]
   rw [jE (by omega)]
   exact .inl rfl
  ·rw [jC c2, cond_false]
   by_cases c3 : (gd ps x.1).1.2.1 > seats
   ·rw [qX c3, cond_true]
    cases c4 : (gd rs r).1.2.2.2.2 with
    | false =>
     rw [Bool.not_false, cond_true, qaz (by omega), qaz (by omega), hlq, htn]
     exact .inr (.inr (.inl rfl))
    | true =>
     rw [Bool.not_true, cond_false, cond_true]
     simp only [hls]
     rw [jE (by omega)]
     exact .inr (.inl rfl)
   ·rw [jC c3, cond_false, cond_false]
    refine .inr (.inr (.inr ⟨IntKind.wrap .i64 (seats - (gd ps x.1).1.2.1), IntKind.wrap .i64 ((gd ps x.1).2.2.1 - IntKind.wrap .i64 ((gd ps x.1).1.2.1 * (gd rs r).1.2.1)), IntKind.wrap .i64 ((gd rs r).2.2.2.2.2.1 + IntKind.wrap .i64 ((gd ps x.1).1.2.1 * (gd rs r).1.2.1)), ?_⟩))
    simp only [qY, N, qc7]
    have hr' : ∀ {R : Type} (k' : Option Bo → Option R), qc (rs.map some) r k' = k' (some (gd rs r)) := fun k' => qaH (l := rs) r0 r1 k'
    simp only [hr', hrs, qb, qa8, qcr, hlo, qag, qaf, List.set_set]
    obtain ⟨C, hC⟩ : ∃ C, IntKind.wrap .i64 ((gd ps x.1).1.2.1 * (gd rs r).1.2.1) = C := ⟨_, rfl⟩
    simp only [hC]
    show qa (g29134 ((r, Q, IntKind.wrap .i64 (seats - (gd ps x.1).1.2.1), Q, (Q.length : Int), (k : Int), x, ()), (stay, away, N w (brdR rs r x.1 (IntKind.wrap .i64 ((gd rs r).2.2.2.2.2.1 + C))) (qfJ ps x.1 (IntKind.wrap .i64 ((gd ps x.1).2.2.1 - C))) t vs, ()), ())) _ = _
    rw [done134 (hd1 _), qb]
    simp only []
    rw [jE (by omega)]
    rfl
end
end Go.Proofs.Tryz.V.Bd
