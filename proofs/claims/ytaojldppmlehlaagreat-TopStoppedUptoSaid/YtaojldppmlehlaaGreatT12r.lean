/- Plain laws of a circuit that is played: no step fails, and without faults nothing stops it. No condition beyond those typed in each theorem. -/
import Derived.Test.YtaojldppmlehlaaGreatT12x
namespace Go.Proofs.Tryz.V.Top
open Go.Vi
open L10 (jG qP)
set_option maxRecDepth 100000
def Okq {R : Type} (Q : R → Prop) (o : Option R) : Prop := ∃ r, o = some r ∧ Q r
section
variable {R : Type} {Q : R → Prop}
theorem qG {r : R} (h : Q r) : Okq Q (some r) := ⟨r, rfl, h⟩
theorem qJ {α : Type} [Inhabited α] {l : List α} {i : Int} {k : α → Option R} (h0 : 0 ≤ i) (h1 : i < l.length) (h : Okq Q (k (gd l i))) : Okq Q (qg l i k) := by rw [qq h0 h1]; exact h
theorem qaj {i : Int} {n : Nat} {k : Option R} (h0 : 0 ≤ i) (h1 : i < n) (h : Okq Q k) : Okq Q (jH i n k) := by rw [jV h0 h1]; exact h
theorem qdl {n : Int} {k : Option R} (h0 : 0 ≤ n) (h1 : n ≤ 274877906944) (h : Okq Q k) : Okq Q (qY n k) := by rw [j1 h0 h1]; exact h
theorem qdT {a b : Int} {k : Option R} (h0 : a ≤ b) (h : Okq Q k) : Okq Q (leK a b k) := by rw [qa2 h0]; exact h
theorem ok_eqK {a : Int} {k : Option R} (h : Okq Q k) : Okq Q (eqK a a k) := by unfold eqK; rw [if_pos rfl]; exact h
theorem ok_nzK {a : Int} {k : Option R} (h0 : a ≠ 0) (h : Okq Q k) : Okq Q (nzK a k) := by unfold nzK; rw [if_neg h0]; exact h
theorem qB {b : Bool} {x y : Option R} (h1 : b = true → Okq Q x) (h2 : b = false → Okq Q y) : Okq Q (cond b x y) := by
 cases b with
 | true => exact h1 rfl
 | false => exact h2 rfl
theorem qW {α : Type} {o : Option α} {k : α → Option R} {S : α → Prop} (h : Okq S o) (hk : ∀ x, S x → Okq Q (k x)) : Okq Q (qa o k) := by
 obtain ⟨x, rfl, hx⟩ := h
 exact hk x hx
theorem qgJ {α : Type} {o : Option α} {x : α} {k : α → Option R} (h : o = some x) (hk : Okq Q (k x)) : Okq Q (qa o k) := by rw [h]; exact hk
theorem qkx {D S : Type} {L : Nat → D → Option R} (mk : Nat → S → D) (P : Nat → S → Prop) (c n : Nat) (hend : ∀ N s, c ≤ N → P n s → Okq Q (L (N + 1) (mk n s)))
  (hstep : ∀ N i s, c ≤ N → i < n → P i s → (∀ s', P (i + 1) s' → Okq Q (L N (mk (i + 1) s'))) → Okq Q (L (N + 1) (mk i s))) : ∀ (d i N : Nat) (s : S), i + d = n → d + c < N → P i s → Okq Q (L N (mk i s))
 | 0, i, N, s, hi, hN, hp => by
  obtain ⟨m, rfl⟩ : ∃ m, N = m + 1 := ⟨N - 1, by omega⟩
  obtain rfl : i = n := by omega
  exact hend m s (by omega) hp
 | d + 1, i, N, s, hi, hN, hp => by
  obtain ⟨m, rfl⟩ : ∃ m, N = m + 1 := ⟨N - 1, by omega⟩
  exact hstep m i s (by omega) (by omega) hp fun s' h' => qkx mk P c n hend hstep d (i + 1) m s' (by omega) (by omega) h'
theorem qap {D S : Type} {L : Nat → D → Option R} (mk : Nat → S → D) (P : Nat → S → Prop) (c n : Nat) {N : Nat} {s : S} (h0 : P 0 s) (hN : n + c < N) (hend : ∀ N s, c ≤ N → P n s → Okq Q (L (N + 1) (mk n s)))
  (hstep : ∀ N i s, c ≤ N → i < n → P i s → (∀ s', P (i + 1) s' → Okq Q (L N (mk (i + 1) s'))) → Okq Q (L (N + 1) (mk i s))) : Okq Q (L N (mk 0 s)) := qkx mk P c n hend hstep n 0 N s (by omega) hN h0
end
abbrev Blk := Int × (Bool × (Int × Bool))
abbrev qbC := (List Blk) × (List Int)
abbrev Flt := Int × (Int × (Int × (Int × Int)))
abbrev Prs := Int × (Int × Int)
abbrev Spt := Int × (Int × Bool)
abbrev Car := Spt × Int
abbrev Trk := qbC × ((List Flt) × ((List Car) × ((List Bool) × (Int × (Int × (Bool × (Int × Int)))))))
theorem qdb (x lo hi : Int) : g35 (x, lo, hi, ()) = some ((jG x lo hi, ()), ()) := qea x lo hi
theorem qkm (c : qbC) (hc : c.1.length ≤ 1000) (n : Int) : g36 (c, n, ()) = some ((jG n 0 ((c.1.length : Int) - 1), ()), ()) := by
 show F36 qe c n = _
 unfold F36
 rw [wI (by omega) (by omega), qdb]
 rfl
structure OkC (c : qbC) : Prop where
 two : 2 ≤ c.1.length
 most : c.1.length ≤ 12
 cars : c.2.length ≤ 10
 at_ : ∀ j : Nat, j < c.2.length → 0 ≤ gd c.2 (j : Int) ∧ gd c.2 (j : Int) < c.1.length
theorem indexR (l : List Int) (hl : l.length ≤ 1000) (n : Int) : Okq (fun _ => True) (g91 (l, n, ())) := by
 show Okq _ (F91 qe l n)
 unfold F91
 refine qW (S := fun _ => True) (qap (L := L91_2) (fun i (_ : Unit) => ((l, n, (l.length : Int), (i : Int), ()), (), ())) (fun _ _ => True) 0 l.length (s := ()) trivial (by have := qQ; omega) ?_ ?_) ?_
 ·intro N s _ _
  simp only [L91_2, B91_2]
  rw [qE (by omega)]
  exact qG trivial
 ·intro N i s _ hi _ ih
  simp only [L91_2, B91_2]
  rw [qw (by omega), cond_true]
  refine qJ (by omega) (by omega) ?_
  rw [wI (by omega) (by omega)]
  exact qB (fun _ => qG trivial) fun _ => ih () trivial
 ·rintro o -
  cases o <;> exact qG trivial
theorem qlg (l : List Int) (hl : l.length ≤ 1000) (n : Int) : Okq (fun _ => True) (g71 (l, n, ())) := by
 show Okq _ (F71 qe l n)
 unfold F71
 exact qW (indexR l hl n) fun _ _ => qG trivial
theorem circR (c : qbC) (h1 : c.1.length ≤ 1000) (h2 : c.2.length ≤ 1000) : Okq (fun r : (Int × Unit) × Unit => r.1.1 = 0 → OkC c) (g38 (c, ())) := by
 have bad : Okq (fun r : (Int × Unit) × Unit => r.1.1 = 0 → OkC c) (some ((20, ()), ())) := qG fun h => absurd h (by decide)
 show Okq _ (F38 qe c)
 unfold F38
 rw [qdb, qb]
 dsimp only
 cases hr : jG (c.1.length : Int) 2 12 with
 | false => exact bad
 | true =>
 have hr' := qP.1 hr
 rw [Bool.not_true, cond_false]
 refine qB (fun _ => bad) fun hc => ?_
 have hc' := of_decide_eq_false hc
 refine qW (S := fun o => o = .inl ((20, ()), (), ()) ∨ o = .inr ((), (c, ()), ())) (qap (L := L38_4) (fun i (_ : Unit) => ((c.1, (c.1.length : Int), (i : Int), ()), (c, ()), ())) (fun _ _ => True) 0 c.1.length (s := ()) trivial (by have := qQ; omega) ?_ ?_) ?_
 ·intro N s _ _
  simp only [L38_4, B38_4]
  rw [qE (by omega)]
  exact qG (.inr rfl)
 ·intro N i s _ hi _ ih
  simp only [L38_4, B38_4]
  rw [qw (by omega), cond_true]
  refine qJ (by omega) (by omega) ?_
  rw [qdb, qb]
  refine qB (fun _ => qG (.inl rfl)) fun _ => ?_
  rw [qdb, qb]
  refine qB (fun _ => qG (.inl rfl)) fun _ => ?_
  rw [wI (by omega) (by omega)]
  exact qB (fun _ => qB (fun _ => qG (.inl rfl)) fun _ => ih () trivial) fun _ => ih () trivial
 ·rintro o (rfl | rfl)
  ·exact bad
  ·rw [qdK]
   refine qW (S := fun o => o = .inl ((20, ()), (), ()) ∨ (o = .inr ((), (), ()) ∧ ∀ j : Nat, j < c.2.length → 0 ≤ gd c.2 (j : Int) ∧ gd c.2 (j : Int) < c.1.length)) (qap (L := L38_10) (fun i (_ : Unit) => ((c.2, (c.2.length : Int), (i : Int), ()), (c, ()), ())) (fun i _ => ∀ j : Nat, j < i → 0 ≤ gd c.2 (j : Int) ∧ gd c.2 (j : Int) < c.1.length) 0 c.2.length (s := ()) (fun j hj => by omega) (by have := qQ; omega) ?_ ?_) ?_
   ·intro N s _ hp
    simp only [L38_10, B38_10]
    rw [qE (by omega)]
    exact qG (.inr ⟨rfl, hp⟩)
   ·intro N i s _ hi hp ih
    simp only [L38_10, B38_10]
    rw [qw (by omega), cond_true]
    refine qJ (by omega) (by omega) ?_
    rw [qkm c h1, qb]
    refine qB (fun _ => qG (.inl rfl)) fun hb => ?_
    rw [Bool.not_eq_false'] at hb
    have hb' := qP.1 hb
    refine qdT (by omega) (qdT (by omega) ?_)
    refine qW (qlg _ (by have := List.length_take_le (i : Int).toNat c.2; omega) _) fun y _ => ?_
    rw [wI (by omega) (by omega)]
    refine qB (fun _ => qG (.inl rfl)) fun _ => ih () fun j hj => ?_
    by_cases h : j < i
    ·exact hp j h
    ·obtain rfl : j = i := by omega
     exact ⟨hb'.1, by omega⟩
   ·rintro o (rfl | ⟨rfl, hp⟩)
    ·exact bad
    ·exact qG fun _ => ⟨by omega, by omega, by omega, hp⟩
theorem qgd {α : Type} [Inhabited α] {L : Nat → (List α × (α → Option Bool) × Int × Int × Unit) × Unit × Unit → Option (((Int × Unit) × Unit × Unit) ⊕ (Unit × Unit × Unit))} (hL : ∀ N s f n i, L (N + 1) ((s, f, n, i, ()), (), ()) = cond (decide (i < n)) (qg s i fun e => qa (f e) fun y => cond y (some (.inl ((i, ()), (), ()))) (L N ((s, f, n, IntKind.wrap .i64 (i + 1), ()), (), ()))) (some (.inr ((), (), ()))))
  (l : List α) (hl : l.length ≤ 1099511627776) (f : α → Option Bool) (q : α → Bool) (hf : ∀ x ∈ l, f x = some (q x)) : (qa (L qe ((l, f, (l.length : Int), 0, ()), (), ())) fun o => qbb o (fun d => some ((d.1.1, ()), ())) fun _ => some ((-1, ()), ())) = some ((L10.idxI l q, ()), ()) := by
 have e := L10.loopIdx (L := L) (fun i => ((l, f, (l.length : Int), (i : Int), ()), (), ())) l q (fun i => .inl (((i : Int), ()), (), ())) (.inr ((), (), ())) 0 (N := qe) (by have := qQ; omega)
  (fun N => by rw [hL, qE (by omega)]; rfl)
  (fun N i _ hi => by
   rw [hL, qw (by omega), cond_true, qq (by omega) (by omega), hf _ (qag (by omega) (by omega)), qb, wI (by omega) (by omega)]
   cases q (gd l (i : Int)) <;> rfl)
 have e' : L qe ((l, f, (l.length : Int), 0, ()), (), ()) = _ := e
 rw [e', qb]
 unfold L10.idxI
 cases l.findIdx? q <;> rfl
theorem idx_prs (l : List Prs) (hl : l.length ≤ 1099511627776) (f : Prs → Option Bool) (q : Prs → Bool) (hf : ∀ x ∈ l, f x = some (q x)) : g72 (l, f, ()) = some ((L10.idxI l q, ()), ()) := qgd (L := L72_2) (fun _ _ _ _ _ => rfl) l hl f q hf
theorem idx_flt (l : List Flt) (hl : l.length ≤ 1099511627776) (f : Flt → Option Bool) (q : Flt → Bool) (hf : ∀ x ∈ l, f x = some (q x)) : g73 (l, f, ()) = some ((L10.idxI l q, ()), ()) := qgd (L := L73_2) (fun _ _ _ _ _ => rfl) l hl f q hf
def badP (c : qbC) (t : Int) (p : Prs) : Bool := bif !jG p.1 0 (IntKind.wrap .i64 (t - 1)) then true else bif !jG p.2.1 1 3 then true else !jG p.2.2 0 ((c.1.length : Int) - 1)
def badF (c : qbC) (x : Flt) : Bool := bif !jG x.1 0 500 then true else bif !jG x.2.1 1 3 then true else bif !jG x.2.2.1 0 1 then true else bif !jG x.2.2.2.1 0 ((c.1.length : Int) - 1) then true else !jG x.2.2.2.2 0 1
structure OkS (c : qbC) (t : Int) (l : List Prs) (f : List Flt) : Prop where
 cir : OkC c
 t0 : 0 ≤ t
 t1 : t ≤ 500
 nl : l.length ≤ 200
 nf : f.length ≤ 5
 prs : ∀ p ∈ l, 0 ≤ p.2.2 ∧ p.2.2 < c.1.length
 flt : ∀ x ∈ f, 1 ≤ x.2.1 ∧ x.2.1 ≤ 3 ∧ 0 ≤ x.2.2.1 ∧ x.2.2.1 ≤ 1
theorem scriptR (c : qbC) (t : Int) (l : List Prs) (f : List Flt) (h1 : c.1.length ≤ 1000) (h2 : c.2.length ≤ 1000) (h3 : l.length ≤ 1000) (h4 : f.length ≤ 1000) : Okq (fun r : (Int × Unit) × Unit => r.1.1 = 0 → OkS c t l f) (g14 (c, t, l, f, ())) := by
 show Okq _ (F14 qe c t l f)
 unfold F14
 refine qW (circR c h1 h2) fun y hy => ?_
 refine qB (fun hb => qG fun h => ?_) fun hb => ?_
 ·exact absurd hb (by rw [show y.1.1 = 0 from h]; decide)
 have hC := hy (by simpa using hb)
 rw [qdb, qb]
 dsimp only
 cases hr : jG t 0 500 with
 | false => exact qG fun h => absurd h (by decide)
 | true =>
 have hr' := qP.1 hr
 rw [Bool.not_true, cond_false]
 refine qB (fun _ => qG fun h => absurd h (by decide)) fun hl => ?_
 have hl' := of_decide_eq_false hl
 have e1 : g39 (l, (fun v3 => qa (g34 (v3, t, c, ())) fun y4 => some y4.1.1), ()) = some ((l.any (badP c t), ()), ()) := by
  show F39 qe _ _ = _
  unfold F39
  rw [idx_prs l (by omega) _ (badP c t) (fun p _ => by
   show qa (F34 qe p t c) _ = _
   unfold F34 badP
   simp only [qdb, qkm c h1, qb]
   cases jG p.1 0 (IntKind.wrap .i64 (t - 1)) with
   | false => rfl
   | true => cases jG p.2.1 1 3 <;> rfl), qb]
  dsimp only
  rw [L10.idxI_nn]
 refine qgJ e1 ?_
 dsimp only
 refine qB (fun _ => qG fun h => absurd h (by decide)) fun hp => ?_
 refine qB (fun _ => qG fun h => absurd h (by decide)) fun hf => ?_
 have hf' := of_decide_eq_false hf
 have e2 : g40 (f, (fun v6 => qa (g37 (v6, c, ())) fun y7 => some y7.1.1), ()) = some ((f.any (badF c), ()), ()) := by
  show F40 qe _ _ = _
  unfold F40
  rw [idx_flt f (by omega) _ (badF c) (fun x _ => by
   show qa (F37 qe x c) _ = _
   unfold F37 badF
   simp only [qdb, qkm c h1, qb]
   cases jG x.1 0 500 with
   | false => rfl
   | true =>
    cases jG x.2.1 1 3 with
    | false => rfl
    | true =>
     cases jG x.2.2.1 0 1 with
     | false => rfl
     | true => cases jG x.2.2.2.1 0 ((c.1.length : Int) - 1) <;> rfl), qb]
  dsimp only
  rw [L10.idxI_nn]
 refine qgJ e2 ?_
 dsimp only
 refine qB (fun _ => qG fun h => absurd h (by decide)) fun hq => qG fun _ => ⟨hC, hr'.1, hr'.2, by omega, by omega, fun p hpl => ?_, fun x hx => ?_⟩
 ·have := List.any_eq_false.1 hp p hpl
  unfold badP at this
  cases h1 : jG p.1 0 (IntKind.wrap .i64 (t - 1)) with
  | false => rw [h1] at this; exact absurd rfl this
  | true =>
   rw [h1] at this
   cases h2 : jG p.2.1 1 3 with
   | false => rw [h2] at this; exact absurd rfl this
   | true =>
    rw [h2] at this
    cases h3 : jG p.2.2 0 ((c.1.length : Int) - 1) with
    | false => rw [h3] at this; exact absurd rfl this
    | true => have := qP.1 h3; exact ⟨this.1, by omega⟩
 ·have := List.any_eq_false.1 hq x hx
  unfold badF at this
  cases h1 : jG x.1 0 500 with
  | false => rw [h1] at this; exact absurd rfl this
  | true =>
   rw [h1] at this
   cases h2 : jG x.2.1 1 3 with
   | false => rw [h2] at this; exact absurd rfl this
   | true =>
    rw [h2] at this
    cases h3 : jG x.2.2.1 0 1 with
    | false => rw [h3] at this; exact absurd rfl this
    | true =>
     have h2' := qP.1 h2
     have h3' := qP.1 h3
     exact ⟨h2'.1, h2'.2, h3'.1, h3'.2⟩
end Go.Proofs.Tryz.V.Top
