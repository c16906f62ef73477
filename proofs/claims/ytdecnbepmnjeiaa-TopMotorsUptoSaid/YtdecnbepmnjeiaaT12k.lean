/- Plain laws of a circuit that is played: its switches, presses and brakes; a step; when it stops. No condition beyond those typed in each theorem. -/
import Derived.Test.YtdecnbepmnjeiaaT12q
namespace Go.Proofs.Try.V.Top
open Go.Vi
open L10 (rng jL)
set_option maxRecDepth 100000
theorem qd3 {α R : Type} {Q : R → Prop} {x : α} {k : α → Option R} (h : Okq Q (k x)) : Okq Q (jK x k) := h
theorem qb4 {α R : Type} {Q : R → Prop} {x : α} {k : α → Option R} (S : α → Prop) (hx : S x) (hk : ∀ z, S z → Okq Q (k z)) : Okq Q (jK x k) := hk x hx
theorem Inv.rest {c : qaY} {f : List Flt} {t : Trk} (h : Inv c f t) {a : Int} {r : Bool × (Int × Int)} : Inv c f (t.1, (t.2.1, (t.2.2.1, (t.2.2.2.1, (a, (t.2.2.2.2.2.1, r)))))) := ⟨h.cir, h.fls, h.num, h.blk, h.gos, h.stp⟩
def Eqv (f : List Flt) (s : List Int) : Prop := s.length = 2 ∧ (f = [] → gd s 0 = gd s 1)
def qfK (f : List Flt) (r : List (List (List Int))) : Prop := ∀ row ∈ r, ∀ s ∈ row, Eqv f s
theorem chanR {c : qaY} {t : Trk} {f : List Flt} (h : Inv c f t) (hf : ∀ x ∈ f, 1 ≤ x.2.1 ∧ x.2.1 ≤ 3 ∧ 0 ≤ x.2.2.1 ∧ x.2.2.1 ≤ 1) (hl : f.length ≤ 5) {N : Nat} (hN : 10 < N) (k b u v : Int) (o : List (List (List Int))) (x : Int) :
  Okq (fun r : (Int × Int × Int × Unit) × ((List (List (List Int))) × (List Int) × Trk × Unit) × Unit => ∃ s, Eqv f s ∧ r = ((k, u, v, ()), (o, s, t, ()), ())) (L30_12 N ((k, b, u, v, t.2.1, (t.2.1.length : Int), 0, ()), (o, [x, x], t, ()), ())) := by
 have hfl := h.fls
 rw [hfl]
 refine qaj (L := L30_12) (fun i (s : List Int) => ((k, b, u, v, f, (f.length : Int), (i : Int), ()), (o, s, t, ()), ())) (fun i s => s.length = 2 ∧ (i = 0 → gd s 0 = gd s 1)) 0 f.length (s := [x, x]) ⟨rfl, fun _ => rfl⟩ (by omega) ?_ ?_
 ·rintro N s - ⟨h1, h2⟩
  simp only [L30_12, B30_12]
  rw [qL (by omega)]
  exact qx ⟨s, ⟨h1, fun e => h2 (by rw [e]; rfl)⟩, rfl⟩
 ·rintro N i s - hi ⟨h1, h2⟩ ih
  have hx := hf _ (j6 (l := f) (i := (i : Int)) (by omega) (by omega))
  simp only [L30_12, B30_12]
  rw [qM (by omega), cond_true]
  refine qz (by omega) (by omega) ?_
  rw [wI (by omega) (by omega)]
  have same := ih s ⟨h1, fun e => by omega⟩
  refine qw (fun _ => qw (fun _ => qw (fun _ => j3 (by omega) (by omega) (qz (by omega) (by omega) ?_)) fun _ => same) fun _ => same) fun _ => same
  exact ih _ ⟨by rw [List.length_set]; exact h1, fun e => by omega⟩
def qdN (n : Nat) (k i j : Int) : Nat := if 1 ≤ j ∧ j < k then n else if j = k then i.toNat else 0
theorem kindR {c : qaY} {t : Trk} {f : List Flt} (hc : OkC c) (h : Inv c f t) (hf : ∀ x ∈ f, 1 ≤ x.2.1 ∧ x.2.1 ≤ 3 ∧ 0 ≤ x.2.2.1 ∧ x.2.2.1 ≤ 1) (hl : f.length ≤ 5) {N : Nat} (hN : 40 < N) (k : Int) (hk : 1 ≤ k ∧ k ≤ 3) (o : List (List (List Int)))
  (h4 : o.length = 4) (hs : qfK f o) (hr : ∀ j : Int, 0 ≤ j → j ≤ 3 → (gd o j).length = qdN c.1.length k 0 j) :
  Okq (fun r : (Int × Unit) × ((List (List (List Int))) × Trk × Unit) × Unit => ∃ o', o'.length = 4 ∧ qfK f o' ∧ (∀ j : Int, 0 ≤ j → j ≤ 3 → (gd o' j).length = qdN c.1.length k c.1.length j) ∧ r = ((k, ()), (o', t, ()), ())) (L30_5 N ((k, (t.1.1.length : Int), 0, ()), (o, t, ()), ())) := by
 have hm := hc.most
 rw [h.cir]
 refine qaj (L := L30_5) (fun i (o : List (List (List Int))) => ((k, (c.1.length : Int), (i : Int), ()), (o, t, ()), ())) (fun i o => o.length = 4 ∧ qfK f o ∧ ∀ j : Int, 0 ≤ j → j ≤ 3 → (gd o j).length = qdN c.1.length k (i : Int) j) 11 c.1.length (s := o) ⟨h4, hs, hr⟩ (by omega) ?_ ?_
 ·rintro N o - ⟨h1, h2, h3⟩
  simp only [L30_5, B30_5]
  rw [qL (by omega)]
  exact qx ⟨o, h1, h2, h3, rfl⟩
 ·rintro N i o hN hi ⟨h1, h2, h3⟩ ih
  simp only [L30_5, B30_5]
  rw [qM (by omega), cond_true]
  simp only [qa8, qaJ, qaK]
  have hrow := h3 k (by omega) hk.2
  unfold qdN at hrow
  rw [if_neg (by omega), if_pos rfl] at hrow
  have go : ∀ x : Int, Okq (fun r : (Int × Unit) × ((List (List (List Int))) × Trk × Unit) × Unit => ∃ o', o'.length = 4 ∧ qfK f o' ∧ (∀ j : Int, 0 ≤ j → j ≤ 3 → (gd o' j).length = qdN c.1.length k c.1.length j) ∧ r = ((k, ()), (o', t, ()), ()))
    (qa (L30_12 N ((k, (i : Int), (c.1.length : Int), (i : Int), t.2.1, (t.2.1.length : Int), 0, ()), (o, [x, x], t, ()), ())) fun o4 => qZ o4.1.1 4 (qe o4.2.1.1 o4.1.1 fun e5 => qN ((e5.length : Int) + [o4.2.1.2.1].length) (qZ o4.1.1 4 (eqK o4.1.1 o4.1.1 (qe o4.2.1.1 o4.1.1 fun _ => L30_5 N ((o4.1.1, o4.1.2.1, (IntKind.wrap .i64 (o4.1.2.2.1 + 1)), ()), ((o4.2.1.1.set o4.1.1.toNat (e5 ++ [o4.2.1.2.1])), o4.2.1.2.2.1, ()), ())))))) := by
   intro x
   refine qQ (chanR h hf hl (by omega) _ _ _ _ _ _) ?_
   rintro o4 ⟨s, hs', rfl⟩
   dsimp only
   rw [wI (by omega) (by omega)]
   refine j3 (by omega) (by omega) (qz (by omega) (by omega) (qcC (by omega) (by simp only [List.length_singleton]; omega) (j3 (by omega) (by omega) (ok_eqK (qz (by omega) (by omega) ?_)))))
   refine ih _ ⟨by rw [List.length_set]; exact h1, ?_, fun j hj hj' => ?_⟩
   ·intro row hrow' s2 hs2
    rcases List.mem_or_eq_of_mem_set hrow' with hq | rfl
    ·exact h2 row hq s2 hs2
    ·rcases List.mem_append.1 hs2 with hs2 | hs2
     ·exact h2 _ (j6 (by omega) (by omega)) s2 hs2
     ·rw [List.mem_singleton.1 hs2]
      exact hs'
   ·by_cases hjk : j = k
    ·subst hjk
     rw [qao (by omega) (by omega), List.length_append, List.length_singleton, hrow]
     unfold qdN
     rw [if_neg (by omega), if_pos rfl]
     omega
    ·rw [qba (by omega) (by omega) hjk, h3 j hj hj']
     unfold qdN
     by_cases hq : 1 ≤ j ∧ j < k
     ·rw [if_pos hq, if_pos hq]
     ·rw [if_neg hq, if_neg hq, if_neg hjk, if_neg hjk]
  exact qQ (isR h k (i : Int)) fun y _ => qw (fun _ => go 1) fun _ => go 0
theorem readR {c : qaY} {t : Trk} {f : List Flt} (hc : OkC c) (h : Inv c f t) (hf : ∀ x ∈ f, 1 ≤ x.2.1 ∧ x.2.1 ≤ 3 ∧ 0 ≤ x.2.2.1 ∧ x.2.2.1 ≤ 1) (hl : f.length ≤ 5) :
  Okq (fun r : ((List (List (List Int))) × Unit) × (Trk × Unit) => ∃ o, Rd c.1.length o ∧ qfK f o ∧ r = ((o, ()), (t, ()))) (g30 (t, ())) := by
 show Okq _ (F30 qj t)
 unfold F30
 refine qQ (S := fun r : Unit × ((List (List (List Int))) × Trk × Unit) × Unit => ∃ o, Rd c.1.length o ∧ qfK f o ∧ r = ((), (o, t, ()), ())) (qaj (L := L30_2) (fun i (o : List (List (List Int))) => (((i : Int) + 1, ()), (o, t, ()), ())) (fun i o => o.length = 4 ∧ qfK f o ∧ ∀ j : Int, 0 ≤ j → j ≤ 3 → (gd o j).length = qdN c.1.length ((i : Int) + 1) 0 j) 50 3 (s := List.replicate 4 []) ⟨rfl, ?_, ?_⟩ (by have := jP; omega) ?_ ?_) ?_
 ·intro row hrow s hs
  rw [List.eq_of_mem_replicate hrow] at hs
  cases hs
 ·intro j hj hj'
  rw [qaB hj (by omega)]
  unfold qdN
  rw [if_neg (by omega)]
  split <;> rfl
 ·rintro N o - ⟨h1, h2, h3⟩
  simp only [L30_2, B30_2]
  rw [qL (by omega)]
  refine qx ⟨o, ⟨h1, h3 0 (by omega) (by omega), fun k hk hk' => ?_⟩, h2, rfl⟩
  rw [h3 k (by omega) hk']
  unfold qdN
  rw [if_pos (by omega)]
 ·rintro N i o hN hi ⟨h1, h2, h3⟩ ih
  simp only [L30_2, B30_2]
  rw [qM (by omega), cond_true]
  refine qQ (kindR hc h hf hl (by omega) ((i : Int) + 1) (by omega) o h1 h2 h3) ?_
  rintro r ⟨o', h1', h2', h3', rfl⟩
  dsimp only
  rw [wI (by omega) (by omega)]
  refine ih o' ⟨h1', h2', fun j hj hj' => ?_⟩
  rw [h3' j hj hj']
  unfold qdN
  by_cases hq : 1 ≤ j ∧ j < (i : Int) + 1
  ·rw [if_pos hq, if_pos (by omega)]
  ·rw [if_neg hq]
   by_cases hk : j = (i : Int) + 1
   ·rw [if_pos hk, if_pos (by omega)]
    omega
   ·rw [if_neg hk, if_neg (by omega)]
    split <;> rfl
 ·rintro r ⟨o, h1, h2, rfl⟩
  exact qx ⟨o, h1, h2, rfl⟩
theorem idx_said (l : List (List Int)) (hl : l.length ≤ 1099511627776) (f : List Int → Option Bool) (q : List Int → Bool) (hf : ∀ x ∈ l, f x = some (q x)) : g62 (l, f, ()) = some ((L10.idxI l q, ()), ()) := qfX (L := L62_2) (fun _ _ _ _ _ => rfl) l hl f q hf
theorem idx_row (l : List (List (List Int))) (hl : l.length ≤ 1099511627776) (f : List (List Int) → Option Bool) (q : List (List Int) → Bool) (hf : ∀ x ∈ l, f x = some (q x)) : g61 (l, f, ()) = some ((L10.idxI l q, ()), ()) := qfX (L := L61_2) (fun _ _ _ _ _ => rfl) l hl f q hf
def qek (s : List Int) : Bool := gd s 0 != gd s 1
theorem splitR {f : List Flt} {n : Nat} (hn : n ≤ 12) {o : List (List (List Int))} (hr : Rd n o) (hs : qfK f o) :
  Okq (fun r : (Bool × Unit) × Unit => f = [] → r.1.1 = false) (g32 (o, (fun v424 => qa (g33 (v424, (fun v4 => qa (g31 (v4, ())) fun y5 => some y5.1.1), ())) fun y425 => some y425.1.1), ())) := by
 have h4 := hr.four
 have e1 : ∀ s, Eqv f s → (qa (g31 (s, ())) fun y5 => some y5.1.1) = some (qek s) := by
  intro s hs
  have h2 := hs.1
  show qa (F31 qj s) _ = _
  unfold F31
  rw [jU (by omega) (by omega), qv (by omega) (by omega), jU (by omega) (by omega), qv (by omega) (by omega)]
  rfl
 have hlen : ∀ row ∈ o, row.length ≤ 12 := by
  intro row hrow
  obtain ⟨i, hi, rfl⟩ := List.mem_iff_getElem.1 hrow
  rw [← gd_of (List.getElem?_eq_getElem hi)]
  by_cases hz : i = 0
  ·subst hz
   exact Nat.le_trans (Nat.le_of_eq hr.none0) (Nat.zero_le _)
  ·rw [hr.rows (i : Int) (by omega) (by omega)]
   exact hn
 have e2 : ∀ row ∈ o, (qa (g33 (row, (fun v4 => qa (g31 (v4, ())) fun y5 => some y5.1.1), ())) fun y425 => some y425.1.1) = some (row.any qek) := by
  intro row hrow
  have := hlen row hrow
  show qa (F33 qj row _) _ = _
  unfold F33
  have e3 : g34 (row, (fun v4 => qa (g31 (v4, ())) fun y5 => some y5.1.1), ()) = some ((row.any qek, ()), ()) := by
   show F34 qj _ _ = _
   unfold F34
   rw [idx_said row (by omega) _ qek (fun s hs' => e1 s (hs row hrow s hs')), qd]
   dsimp only
   rw [L10.idxI_nn]
  rw [e3]
  rfl
 show Okq _ (F32 qj _ _)
 unfold F32
 rw [idx_row o (by omega) _ (fun row => row.any qek) e2, qd]
 dsimp only
 rw [L10.idxI_nn]
 refine qx fun hf => ?_
 show o.any (fun row => row.any qek) = false
 rw [List.any_eq_false]
 intro row hrow
 rw [Bool.not_eq_true, List.any_eq_false]
 intro s hs'
 unfold qek
 rw [(hs row hrow s hs').2 hf]
 simp
end Go.Proofs.Try.V.Top
