/- Plain laws of a circuit that is played: no step fails, and without faults nothing stops it. No condition beyond those typed in each theorem. -/
import Derived.Test.YtdecnbepmnjeiaaT05g
namespace Go.Proofs.Try.V.Top
open Go.Vi
open L10 (rng jL)
set_option maxRecDepth 100000
def Okq {R : Type} (Q : R → Prop) (o : Option R) : Prop := ∃ r, o = some r ∧ Q r
section
variable {R : Type} {Q : R → Prop}
theorem qx {r : R} (h : Q r) : Okq Q (some r) := ⟨r, rfl, h⟩
theorem qz {α : Type} [Inhabited α] {l : List α} {i : Int} {k : α → Option R} (h0 : 0 ≤ i) (h1 : i < l.length) (h : Okq Q (k (gd l i))) : Okq Q (qe l i k) := by rw [qv h0 h1]; exact h
theorem j3 {i : Int} {n : Nat} {k : Option R} (h0 : 0 ≤ i) (h1 : i < n) (h : Okq Q k) : Okq Q (qZ i n k) := by rw [jU h0 h1]; exact h
theorem qcC {n : Int} {k : Option R} (h0 : 0 ≤ n) (h1 : n ≤ 274877906944) (h : Okq Q k) : Okq Q (qN n k) := by rw [qaq h0 h1]; exact h
theorem qdJ {a b : Int} {k : Option R} (h0 : a ≤ b) (h : Okq Q k) : Okq Q (leK a b k) := by rw [qaV h0]; exact h
theorem ok_eqK {a : Int} {k : Option R} (h : Okq Q k) : Okq Q (eqK a a k) := by unfold eqK; rw [if_pos rfl]; exact h
theorem ok_nzK {a : Int} {k : Option R} (h0 : a ≠ 0) (h : Okq Q k) : Okq Q (nzK a k) := by unfold nzK; rw [if_neg h0]; exact h
theorem qw {b : Bool} {x y : Option R} (h1 : b = true → Okq Q x) (h2 : b = false → Okq Q y) : Okq Q (cond b x y) := by
 cases b with
 | true => exact h1 rfl
 | false => exact h2 rfl
theorem qQ {α : Type} {o : Option α} {k : α → Option R} {S : α → Prop} (h : Okq S o) (hk : ∀ x, S x → Okq Q (k x)) : Okq Q (qa o k) := by
 obtain ⟨x, rfl, hx⟩ := h
 exact hk x hx
theorem qgt {α : Type} {o : Option α} {x : α} {k : α → Option R} (h : o = some x) (hk : Okq Q (k x)) : Okq Q (qa o k) := by rw [h]; exact hk
theorem qid {D S : Type} {L : Nat → D → Option R} (mk : Nat → S → D) (P : Nat → S → Prop) (c n : Nat) (hend : ∀ N s, c ≤ N → P n s → Okq Q (L (N + 1) (mk n s)))
  (hstep : ∀ N i s, c ≤ N → i < n → P i s → (∀ s', P (i + 1) s' → Okq Q (L N (mk (i + 1) s'))) → Okq Q (L (N + 1) (mk i s))) : ∀ (d i N : Nat) (s : S), i + d = n → d + c < N → P i s → Okq Q (L N (mk i s))
 | 0, i, N, s, hi, hN, hp => by
  obtain ⟨m, rfl⟩ : ∃ m, N = m + 1 := ⟨N - 1, by omega⟩
  obtain rfl : i = n := by omega
  exact hend m s (by omega) hp
 | d + 1, i, N, s, hi, hN, hp => by
  obtain ⟨m, rfl⟩ : ∃ m, N = m + 1 := ⟨N - 1, by omega⟩
  exact hstep m i s (by omega) (by omega) hp fun s' h' => qid mk P c n hend hstep d (i + 1) m s' (by omega) (by omega) h'
theorem qaj {D S : Type} {L : Nat → D → Option R} (mk : Nat → S → D) (P : Nat → S → Prop) (c n : Nat) {N : Nat} {s : S} (h0 : P 0 s) (hN : n + c < N) (hend : ∀ N s, c ≤ N → P n s → Okq Q (L (N + 1) (mk n s)))
  (hstep : ∀ N i s, c ≤ N → i < n → P i s → (∀ s', P (i + 1) s' → Okq Q (L N (mk (i + 1) s'))) → Okq Q (L (N + 1) (mk i s))) : Okq Q (L N (mk 0 s)) := qid mk P c n hend hstep n 0 N s (by omega) hN h0
end
abbrev Blk := Int × (Bool × (Int × Bool))
abbrev qaY := (List Blk) × (List Int)
abbrev Flt := Int × (Int × (Int × (Int × Int)))
abbrev Prs := Int × (Int × Int)
abbrev Spt := Int × (Int × Bool)
abbrev Car := Spt × Int
abbrev Trk := qaY × ((List Flt) × ((List Car) × ((List Bool) × (Int × (Int × (Bool × (Int × Int)))))))
theorem qc7 (x lo hi : Int) : g22 (x, lo, hi, ()) = some ((rng x lo hi, ()), ()) := within7 x lo hi
theorem qj7 (c : qaY) (hc : c.1.length ≤ 1000) (n : Int) : g23 (c, n, ()) = some ((rng n 0 ((c.1.length : Int) - 1), ()), ()) := by
 show F23 qj c n = _
 unfold F23
 rw [wI (by omega) (by omega), qc7]
 rfl
structure OkC (c : qaY) : Prop where
 two : 2 ≤ c.1.length
 most : c.1.length ≤ 12
 cars : c.2.length ≤ 10
 at_ : ∀ j : Nat, j < c.2.length → 0 ≤ gd c.2 (j : Int) ∧ gd c.2 (j : Int) < c.1.length
theorem indexR (l : List Int) (hl : l.length ≤ 1000) (n : Int) : Okq (fun _ => True) (g72 (l, n, ())) := by
 show Okq _ (F72 qj l n)
 unfold F72
 refine qQ (S := fun _ => True) (qaj (L := L72_2) (fun i (_ : Unit) => ((l, n, (l.length : Int), (i : Int), ()), (), ())) (fun _ _ => True) 0 l.length (s := ()) trivial (by have := jP; omega) ?_ ?_) ?_
 ·intro N s _ _
  simp only [L72_2, B72_2]
  rw [qL (by omega)]
  exact qx trivial
 ·intro N i s _ hi _ ih
  simp only [L72_2, B72_2]
  rw [qM (by omega), cond_true]
  refine qz (by omega) (by omega) ?_
  rw [wI (by omega) (by omega)]
  exact qw (fun _ => qx trivial) fun _ => ih () trivial
 ·rintro o -
  cases o <;> exact qx trivial
theorem qkT (l : List Int) (hl : l.length ≤ 1000) (n : Int) : Okq (fun _ => True) (g56 (l, n, ())) := by
 show Okq _ (F56 qj l n)
 unfold F56
 exact qQ (indexR l hl n) fun _ _ => qx trivial
theorem circR (c : qaY) (h1 : c.1.length ≤ 1000) (h2 : c.2.length ≤ 1000) : Okq (fun r : (Int × Unit) × Unit => r.1.1 = 0 → OkC c) (g25 (c, ())) := by
 have bad : Okq (fun r : (Int × Unit) × Unit => r.1.1 = 0 → OkC c) (some ((20, ()), ())) := qx fun h => absurd h (by decide)
 show Okq _ (F25 qj c)
 unfold F25
 rw [qc7, qd]
 dsimp only
 cases hr : rng (c.1.length : Int) 2 12 with
 | false => exact bad
 | true =>
 have hr' := jL.1 hr
 rw [Bool.not_true, cond_false]
 refine qw (fun _ => bad) fun hc => ?_
 have hc' := of_decide_eq_false hc
 refine qQ (S := fun o => o = .inl ((20, ()), (), ()) ∨ o = .inr ((), (c, ()), ())) (qaj (L := L25_4) (fun i (_ : Unit) => ((c.1, (c.1.length : Int), (i : Int), ()), (c, ()), ())) (fun _ _ => True) 0 c.1.length (s := ()) trivial (by have := jP; omega) ?_ ?_) ?_
 ·intro N s _ _
  simp only [L25_4, B25_4]
  rw [qL (by omega)]
  exact qx (.inr rfl)
 ·intro N i s _ hi _ ih
  simp only [L25_4, B25_4]
  rw [qM (by omega), cond_true]
  refine qz (by omega) (by omega) ?_
  rw [qc7, qd]
  refine qw (fun _ => qx (.inl rfl)) fun _ => ?_
  rw [qc7, qd]
  refine qw (fun _ => qx (.inl rfl)) fun _ => ?_
  rw [wI (by omega) (by omega)]
  exact qw (fun _ => qw (fun _ => qx (.inl rfl)) fun _ => ih () trivial) fun _ => ih () trivial
 ·rintro o (rfl | rfl)
  ·exact bad
  ·rw [qex]
   refine qQ (S := fun o => o = .inl ((20, ()), (), ()) ∨ (o = .inr ((), (), ()) ∧ ∀ j : Nat, j < c.2.length → 0 ≤ gd c.2 (j : Int) ∧ gd c.2 (j : Int) < c.1.length)) (qaj (L := L25_10) (fun i (_ : Unit) => ((c.2, (c.2.length : Int), (i : Int), ()), (c, ()), ())) (fun i _ => ∀ j : Nat, j < i → 0 ≤ gd c.2 (j : Int) ∧ gd c.2 (j : Int) < c.1.length) 0 c.2.length (s := ()) (fun j hj => by omega) (by have := jP; omega) ?_ ?_) ?_
   ·intro N s _ hp
    simp only [L25_10, B25_10]
    rw [qL (by omega)]
    exact qx (.inr ⟨rfl, hp⟩)
   ·intro N i s _ hi hp ih
    simp only [L25_10, B25_10]
    rw [qM (by omega), cond_true]
    refine qz (by omega) (by omega) ?_
    rw [qj7 c h1, qd]
    refine qw (fun _ => qx (.inl rfl)) fun hb => ?_
    rw [Bool.not_eq_false'] at hb
    have hb' := jL.1 hb
    refine qdJ (by omega) (qdJ (by omega) ?_)
    refine qQ (qkT _ (by have := List.length_take_le (i : Int).toNat c.2; omega) _) fun y _ => ?_
    rw [wI (by omega) (by omega)]
    refine qw (fun _ => qx (.inl rfl)) fun _ => ih () fun j hj => ?_
    by_cases h : j < i
    ·exact hp j h
    ·obtain rfl : j = i := by omega
     exact ⟨hb'.1, by omega⟩
   ·rintro o (rfl | ⟨rfl, hp⟩)
    ·exact bad
    ·exact qx fun _ => ⟨by omega, by omega, by omega, hp⟩
theorem qfX {α : Type} [Inhabited α] {L : Nat → (List α × (α → Option Bool) × Int × Int × Unit) × Unit × Unit → Option (((Int × Unit) × Unit × Unit) ⊕ (Unit × Unit × Unit))} (hL : ∀ N s f n i, L (N + 1) ((s, f, n, i, ()), (), ()) = cond (decide (i < n)) (qe s i fun e => qa (f e) fun y => cond y (some (.inl ((i, ()), (), ()))) (L N ((s, f, n, IntKind.wrap .i64 (i + 1), ()), (), ()))) (some (.inr ((), (), ()))))
  (l : List α) (hl : l.length ≤ 1099511627776) (f : α → Option Bool) (q : α → Bool) (hf : ∀ x ∈ l, f x = some (q x)) : (qa (L qj ((l, f, (l.length : Int), 0, ()), (), ())) fun o => qcR o (fun d => some ((d.1.1, ()), ())) fun _ => some ((-1, ()), ())) = some ((L10.idxI l q, ()), ()) := by
 have e := L10.loopIdx (L := L) (fun i => ((l, f, (l.length : Int), (i : Int), ()), (), ())) l q (fun i => .inl (((i : Int), ()), (), ())) (.inr ((), (), ())) 0 (N := qj) (by have := jP; omega)
  (fun N => by rw [hL, qL (by omega)]; rfl)
  (fun N i _ hi => by
   rw [hL, qM (by omega), cond_true, qv (by omega) (by omega), hf _ (j6 (by omega) (by omega)), qd, wI (by omega) (by omega)]
   cases q (gd l (i : Int)) <;> rfl)
 have e' : L qj ((l, f, (l.length : Int), 0, ()), (), ()) = _ := e
 rw [e', qd]
 unfold L10.idxI
 cases l.findIdx? q <;> rfl
theorem idx_prs (l : List Prs) (hl : l.length ≤ 1099511627776) (f : Prs → Option Bool) (q : Prs → Bool) (hf : ∀ x ∈ l, f x = some (q x)) : g57 (l, f, ()) = some ((L10.idxI l q, ()), ()) := qfX (L := L57_2) (fun _ _ _ _ _ => rfl) l hl f q hf
theorem idx_flt (l : List Flt) (hl : l.length ≤ 1099511627776) (f : Flt → Option Bool) (q : Flt → Bool) (hf : ∀ x ∈ l, f x = some (q x)) : g58 (l, f, ()) = some ((L10.idxI l q, ()), ()) := qfX (L := L58_2) (fun _ _ _ _ _ => rfl) l hl f q hf
def badP (c : qaY) (t : Int) (p : Prs) : Bool := bif !rng p.1 0 (IntKind.wrap .i64 (t - 1)) then true else bif !rng p.2.1 1 3 then true else !rng p.2.2 0 ((c.1.length : Int) - 1)
def badF (c : qaY) (x : Flt) : Bool := bif !rng x.1 0 500 then true else bif !rng x.2.1 1 3 then true else bif !rng x.2.2.1 0 1 then true else bif !rng x.2.2.2.1 0 ((c.1.length : Int) - 1) then true else !rng x.2.2.2.2 0 1
structure OkS (c : qaY) (t : Int) (l : List Prs) (f : List Flt) : Prop where
 cir : OkC c
 t0 : 0 ≤ t
 t1 : t ≤ 500
 nl : l.length ≤ 200
 nf : f.length ≤ 5
 prs : ∀ p ∈ l, 0 ≤ p.2.2 ∧ p.2.2 < c.1.length
 flt : ∀ x ∈ f, 1 ≤ x.2.1 ∧ x.2.1 ≤ 3 ∧ 0 ≤ x.2.2.1 ∧ x.2.2.1 ≤ 1
theorem scriptR (c : qaY) (t : Int) (l : List Prs) (f : List Flt) (h1 : c.1.length ≤ 1000) (h2 : c.2.length ≤ 1000) (h3 : l.length ≤ 1000) (h4 : f.length ≤ 1000) : Okq (fun r : (Int × Unit) × Unit => r.1.1 = 0 → OkS c t l f) (g12 (c, t, l, f, ())) := by
 show Okq _ (F12 qj c t l f)
 unfold F12
 refine qQ (circR c h1 h2) fun y hy => ?_
 refine qw (fun hb => qx fun h => ?_) fun hb => ?_
 ·exact absurd hb (by rw [show y.1.1 = 0 from h]; decide)
 have hC := hy (by simpa using hb)
 rw [qc7, qd]
 dsimp only
 cases hr : rng t 0 500 with
 | false => exact qx fun h => absurd h (by decide)
 | true =>
 have hr' := jL.1 hr
 rw [Bool.not_true, cond_false]
 refine qw (fun _ => qx fun h => absurd h (by decide)) fun hl => ?_
 have hl' := of_decide_eq_false hl
 have e1 : g26 (l, (fun v3 => qa (g21 (v3, t, c, ())) fun y4 => some y4.1.1), ()) = some ((l.any (badP c t), ()), ()) := by
  show F26 qj _ _ = _
  unfold F26
  rw [idx_prs l (by omega) _ (badP c t) (fun p _ => by
   show qa (F21 qj p t c) _ = _
   unfold F21 badP
   simp only [qc7, qj7 c h1, qd]
   cases rng p.1 0 (IntKind.wrap .i64 (t - 1)) with
   | false => rfl
   | true => cases rng p.2.1 1 3 <;> rfl), qd]
  dsimp only
  rw [L10.idxI_nn]
 refine qgt e1 ?_
 dsimp only
 refine qw (fun _ => qx fun h => absurd h (by decide)) fun hp => ?_
 refine qw (fun _ => qx fun h => absurd h (by decide)) fun hf => ?_
 have hf' := of_decide_eq_false hf
 have e2 : g27 (f, (fun v6 => qa (g24 (v6, c, ())) fun y7 => some y7.1.1), ()) = some ((f.any (badF c), ()), ()) := by
  show F27 qj _ _ = _
  unfold F27
  rw [idx_flt f (by omega) _ (badF c) (fun x _ => by
   show qa (F24 qj x c) _ = _
   unfold F24 badF
   simp only [qc7, qj7 c h1, qd]
   cases rng x.1 0 500 with
   | false => rfl
   | true =>
    cases rng x.2.1 1 3 with
    | false => rfl
    | true =>
     cases rng x.2.2.1 0 1 with
     | false => rfl
     | true => cases rng x.2.2.2.1 0 ((c.1.length : Int) - 1) <;> rfl), qd]
  dsimp only
  rw [L10.idxI_nn]
 refine qgt e2 ?_
 dsimp only
 refine qw (fun _ => qx fun h => absurd h (by decide)) fun hq => qx fun _ => ⟨hC, hr'.1, hr'.2, by omega, by omega, fun p hpl => ?_, fun x hx => ?_⟩
 ·have := List.any_eq_false.1 hp p hpl
  unfold badP at this
  cases h1 : rng p.1 0 (IntKind.wrap .i64 (t - 1)) with
  | false => rw [h1] at this; exact absurd rfl this
  | true =>
   rw [h1] at this
   cases h2 : rng p.2.1 1 3 with
   | false => rw [h2] at this; exact absurd rfl this
   | true =>
    rw [h2] at this
    cases h3 : rng p.2.2 0 ((c.1.length : Int) - 1) with
    | false => rw [h3] at this; exact absurd rfl this
    | true => have := jL.1 h3; exact ⟨this.1, by omega⟩
 ·have := List.any_eq_false.1 hq x hx
  unfold badF at this
  cases h1 : rng x.1 0 500 with
  | false => rw [h1] at this; exact absurd rfl this
  | true =>
   rw [h1] at this
   cases h2 : rng x.2.1 1 3 with
   | false => rw [h2] at this; exact absurd rfl this
   | true =>
    rw [h2] at this
    cases h3 : rng x.2.2.1 0 1 with
    | false => rw [h3] at this; exact absurd rfl this
    | true =>
     have h2' := jL.1 h2
     have h3' := jL.1 h3
     exact ⟨h2'.1, h2'.2, h3'.1, h3'.2⟩
end Go.Proofs.Try.V.Top
