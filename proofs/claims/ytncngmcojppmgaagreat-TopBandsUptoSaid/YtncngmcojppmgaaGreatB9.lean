/- An evening's queues, plain: a play, and what it says. No condition beyond those typed in each theorem. -/
import Derived.Test.YtncngmcojppmgaaGreatB8
namespace Go.Proofs.Tryz.V.Bd
open Go.Vi
open L01 (j9 qK qbQ qfq qdi qdr)
set_option maxRecDepth 100000
section
variable {G : List Gp} {n : Nat} {F : Int → Nat} {rs : List Bo} {ps : List Pa} {vs : List Vis} {t : Int}
def setLine (b : Bo) (c : Int) : Bo := (b.1, (b.2.1, (b.2.2.1, (b.2.2.2.1, (b.2.2.2.2.1, (b.2.2.2.2.2.1, c))))))
theorem qla {w r c d e : Int} (r0 : 0 ≤ r) (r1 : r < rs.length) (hq : ∀ s ∈ (gd rs r).q, InP ps s) (hl : (gd rs r).q.length ≤ 1000) : ∀ (m k : Nat) (N0 : Nat) (gs : Int), (gd rs r).q.length = k + m → m < N0 →
  ∃ gs', L14_28 N0 ((e, gs, c, d, r, ((gd rs r).q.length : Int), (k : Int), ()), (N w rs ps t vs, ()), ()) = some ((e, gs', c, d, ()), (N w rs ps t vs, ()), ())
 | 0, k, N0, gs, hk, hN => by
  obtain ⟨q, rfl⟩ : ∃ q, N0 = q + 1 := ⟨N0 - 1, by omega⟩
  refine ⟨gs, ?_⟩
  simp only [L14_28, B14_28]
  rw [jC (by omega), cond_false]
 | m + 1, k, N0, gs, hk, hN => by
  obtain ⟨q, rfl⟩ : ∃ q, N0 = q + 1 := ⟨N0 - 1, by omega⟩
  have hr : ∀ {R : Type} (k' : Option Bo → Option R), qc (N w rs ps t vs).2.1 r k' = k' (some (gd rs r)) := fun k' => qaH (l := rs) r0 r1 k'
  obtain ⟨x, hx⟩ : ∃ x, gd (gd rs r).q (k : Int) = x := ⟨_, rfl⟩
  have hxm : x ∈ (gd rs r).q := by rw [← hx]; exact jF (by omega) (by omega)
  obtain ⟨g0, g1⟩ := hq x hxm
  have hp : ∀ {R : Type} (k' : Option Pa → Option R), qc (N w rs ps t vs).2.2.1 x.1 k' = k' (some (gd ps x.1)) := fun k' => qaH (l := ps) g0 g1 k'
  obtain ⟨gs', h⟩ := qla r0 r1 hq hl (w := w) (c := c) (d := d) (e := e) m (k + 1) q (IntKind.wrap .i64 (gs + (gd ps x.1).1.2.1)) (by omega) (by omega)
  refine ⟨gs', ?_⟩
  rw [← h]
  simp only [L14_28, B14_28]
  rw [qX (by omega), cond_true]
  simp only [hr, qb]
  rw [qE (by omega) (by show (k : Int) < ((gd rs r).q.length : Nat); omega), qp (l := (gd rs r).2.2.2.2.1) (by omega) (by show (k : Int) < ((gd rs r).q.length : Nat); omega)]
  rw [show gd (gd rs r).2.2.2.2.1 (k : Int) = x from hx, qE g0 (by show x.1 < ((ps.map some).length : Nat); rw [List.length_map]; exact g1)]
  simp only [hp, qb]
  rw [jE (by omega)]
theorem Inv.inP {A : List Int} (h : Inv G n rs ps vs t A F) {r : Int} (r0 : 0 ≤ r) (r1 : r < rs.length) : ∀ s ∈ (gd rs r).q, InP ps s := fun s hs => by
 have h1 : ((gd rs r).q.map (·.1)).count s.1 ≤ cq rs s.1 := qhy (qf s.1) r0 r1
 have h2 : 0 < ((gd rs r).q.map (·.1)).count s.1 := List.count_pos_iff.2 (List.mem_map.2 ⟨s, hs, rfl⟩)
 have := h.dom s.1 (by omega)
 exact ⟨this.1, by rw [h.plen]; exact this.2⟩
theorem qlb (hG : Gd G n) {w : Int} : ∀ (m k : Nat) (N0 : Nat) {rs : List Bo}, n = k + m → m + 2000 < N0 → Inv G n rs ps vs t [] F →
  ∃ rs', L14_24 N0 (((n : Int), (k : Int), ()), (N w rs ps t vs, ()), ()) = some ((), (N w rs' ps t vs, ()), ()) ∧ Inv G n rs' ps vs t [] F
 | 0, k, N0, rs, hk, hN, h => by
  obtain ⟨q, rfl⟩ : ∃ q, N0 = q + 1 := ⟨N0 - 1, by omega⟩
  refine ⟨rs, ?_, h⟩
  simp only [L14_24, B14_24]
  rw [jC (by omega), cond_false]
 | m + 1, k, N0, rs, hk, hN, h => by
  obtain ⟨q, rfl⟩ : ∃ q, N0 = q + 1 := ⟨N0 - 1, by omega⟩
  have r0 : (0 : Int) ≤ (k : Int) := by omega
  have r1 : (k : Int) < rs.length := by rw [h.rl]; omega
  have hn8 := hG.rides
  have hql := h.qlen hG (r := (k : Int)) r0 (by omega)
  have hr : ∀ {R : Type} (k' : Option Bo → Option R), qc (N w rs ps t vs).2.1 (k : Int) k' = k' (some (gd rs (k : Int))) := fun k' => qaH (l := rs) r0 r1 k'
  obtain ⟨gs, h1⟩ := qla (w := w) (vs := vs) (t := t) (c := (n : Int)) (d := (k : Int)) (e := (k : Int)) r0 r1 (h.inP r0 r1) (by omega) (gd rs (k : Int)).q.length 0 q 0 (by omega) (by omega)
  have h1' : L14_28 q (((k : Int), 0, (n : Int), (k : Int), (k : Int), ((gd rs (k : Int)).2.2.2.2.1.length : Int), 0, ()), (N w rs ps t vs, ()), ()) = _ := h1
  have h2 : Inv G n (upd rs (k : Int) fun b => setLine b (max b.2.2.2.2.2.2 gs)) ps vs t [] F := h.rides (qaI _ _ _) (fun g => by rw [qdo r0 r1 rfl, qd7 r0 r1 rfl]; exact Nat.le_refl _) (fun g hg => by rw [qdo r0 r1 rfl] at hg; omega)
  obtain ⟨rs', h3, h4⟩ := qlb hG (w := w) m (k + 1) q (by omega) (by omega) h2
  refine ⟨rs', ?_, h4⟩
  rw [← h3]
  simp only [L14_24, B14_24]
  rw [qX (by omega), cond_true, qE r0 (by show (k : Int) < ((rs.map some).length : Nat); rw [List.length_map]; exact r1)]
  simp only [hr, qb]
  rw [h1', qb]
  simp only [hr, qb, qY]
  rw [jE (by omega)]
  have hset : ∀ (z : Bo), ((N w rs ps t vs).2.1.set (k : Int).toNat (some z)) = (upd rs (k : Int) fun _ => z).map some := fun z => by
   show ((rs.map some).set (k : Int).toNat (some z)) = _
   rw [qc7]
   rfl
  rw [hset]
  rfl
theorem qlc (hG : Gd G n) {w : Int} (hw0 : 0 ≤ w) (hw1 : w ≤ 100) (ht0 : 0 ≤ t) (ht1 : t ≤ 5000) : ∀ (m k : Nat) (N0 : Nat) {rs : List Bo} {ps : List Pa} {vs : List Vis}, n = k + m → m < N0 → Inv G n rs ps vs t [] F →
  ∃ rs' ps' vs', L14_19 N0 (((n : Int), (k : Int), ()), (N w rs ps t vs, ()), ()) = some ((), (N w rs' ps' t vs', ()), ()) ∧ Inv G n rs' ps' vs' t [] F
 | 0, k, N0, rs, ps, vs, hk, hN, h => by
  obtain ⟨q, rfl⟩ : ∃ q, N0 = q + 1 := ⟨N0 - 1, by omega⟩
  refine ⟨rs, ps, vs, ?_, h⟩
  simp only [L14_19, B14_19]
  rw [jC (by omega), cond_false]
 | m + 1, k, N0, rs, ps, vs, hk, hN, h => by
  obtain ⟨q, rfl⟩ : ∃ q, N0 = q + 1 := ⟨N0 - 1, by omega⟩
  have hn8 := hG.rides
  obtain ⟨rs1, ps1, vs1, h1, h2⟩ := ql1 hG (w := w) (i := (k : Int)) hw0 hw1 ht0 ht1 (by omega) (by omega) h
  obtain ⟨rs', ps', vs', h3, h4⟩ := qlc hG hw0 hw1 ht0 ht1 m (k + 1) q (by omega) (by omega) h2
  refine ⟨rs', ps', vs', ?_, h4⟩
  rw [← h3]
  simp only [L14_19, B14_19]
  rw [qX (by omega), cond_true, h1, qb, jE (by omega)]
theorem Nlen {A : List Int} (h : Inv G n rs ps vs t A F) {w : Int} : (((N w rs ps t vs).2.1.length : Int)) = (n : Int) := by
 show (((rs.map some).length : Nat) : Int) = _
 rw [List.length_map, h.rl]
theorem qk9 (hG : Gd G n) {w : Int} (hw0 : 0 ≤ w) (hw1 : w ≤ 100) : ∀ (m k : Nat) (N0 : Nat) {rs : List Bo} {ps : List Pa} {vs : List Vis}, 4001 = k + m → m + 10000 < N0 → Inv G n rs ps vs (k : Int) [] (fut G (k : Int) 0) →
  ∃ rs' ps' vs', L14_13 N0 ((), (N w rs ps (k : Int) vs, ()), ()) = some ((), (N w rs' ps' 4001 vs', ()), ()) ∧ Inv G n rs' ps' vs' 4001 [] (fut G 4001 0)
 | 0, k, N0, rs, ps, vs, hk, hN, h => by
  obtain ⟨q, rfl⟩ : ∃ q, N0 = q + 1 := ⟨N0 - 1, by omega⟩
  obtain rfl : k = 4001 := by omega
  refine ⟨rs, ps, vs, ?_, h⟩
  simp only [L14_13, B14_13]
  rw [jC (by show ¬ ((4001 : Nat) : Int) ≤ 4000; omega), cond_false]
  rfl
 | m + 1, k, N0, rs, ps, vs, hk, hN, h => by
  obtain ⟨q, rfl⟩ : ∃ q, N0 = q + 1 := ⟨N0 - 1, by omega⟩
  have hn8 := hG.rides
  obtain ⟨rs1, ps1, a1, h1⟩ := end_inv hG (w := w) hw0 hw1 (by omega) (by omega) h
  obtain ⟨rs2, ps2, a2, h2⟩ := come_inv hG (w := w) hw0 hw1 (by omega) (by omega) h1
  obtain ⟨rs3, ps3, vs3, a3, h3⟩ := qlO hG (w := w) hw0 hw1 (by omega) (by omega) h2
  obtain ⟨rs4, ps4, vs4, a4, h4⟩ := qlc hG (w := w) hw0 hw1 (by omega) (by omega) n 0 q (by omega) (by omega) h3
  obtain ⟨rs5, a5, h5⟩ := qlb hG (w := w) n 0 q (by omega) (by omega) h4
  have h6 : Inv G n rs5 ps4 vs4 ((k + 1 : Nat) : Int) [] (fut G ((k + 1 : Nat) : Int) 0) := by
   have := h5.tick (t' := ((k + 1 : Nat) : Int)) (by omega)
   rw [show ((k + 1 : Nat) : Int) = (k : Int) + 1 by omega] at this ⊢
   exact this
  obtain ⟨rs', ps', vs', a6, h7⟩ := qk9 hG hw0 hw1 m (k + 1) q (by omega) (by omega) h6
  refine ⟨rs', ps', vs', ?_, h7⟩
  rw [← a6]
  simp only [L14_13, B14_13]
  rw [qX (by show ((k : Nat) : Int) ≤ 4000; omega), cond_true, a1, qb]
  simp only []
  rw [a2, qb]
  simp only []
  rw [a3, qb]
  simp only []
  rw [Nlen h3]
  have a4' : L14_19 q (((n : Int), 0, ()), (N w rs3 ps3 (k : Int) vs3, ()), ()) = _ := a4
  rw [a4', qb]
  simp only []
  rw [Nlen h4]
  have a5' : L14_24 q (((n : Int), 0, ()), (N w rs4 ps4 (k : Int) vs4, ()), ()) = _ := a5
  rw [a5', qb, qY]
  have e : IntKind.wrap .i64 ((N w rs5 ps4 (k : Int) vs4).2.2.2.1 + 1) = ((k + 1 : Nat) : Int) := jE (by omega)
  simp only []
  rw [e]
  rfl
end
end Go.Proofs.Tryz.V.Bd
