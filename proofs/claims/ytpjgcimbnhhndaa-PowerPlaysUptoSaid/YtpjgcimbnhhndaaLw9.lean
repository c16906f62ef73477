/- Plain laws of layer 5, ninth part: what Shed chooses, by the program and by the document. No condition beyond those typed in each theorem. -/
import Derived.Test.YtpjgcimbnhhndaaLw8
namespace Go.Proofs.Try.V
open Go.Vi
set_option maxRecDepth 100000

theorem dif_half (S T : Nat) : (dif S T) / 2 = dif (S / 2) (T / 2) := by
  refine Nat.eq_of_testBit_eq fun i => ?_
  rw [Nat.testBit_div_two, dif_bit, dif_bit, Nat.testBit_div_two, Nat.testBit_div_two]
theorem dif_mod2 (S T : Nat) : (dif S T) % 2 = if S % 2 = 1 ∧ T % 2 = 0 then 1 else 0 := by
  have h := dif_bit S T 0
  rw [Nat.testBit_zero, Nat.testBit_zero, Nat.testBit_zero] at h
  rcases mod2 (dif S T) with h1 | h1 <;> rcases mod2 S with h2 | h2 <;> rcases mod2 T with h3 | h3 <;> rw [h1, h2, h3] at h <;> rw [h1, h2, h3] <;> first | rfl | (exfalso; revert h; decide)
theorem sub_dif : ∀ (S x : Nat), x &&& S = x → dif S x + x = S := by
  intro S
  induction S using Nat.strongRecOn with
  | ind S ih =>
    intro x hx
    by_cases h0 : S = 0
    · subst h0
      rw [Nat.and_zero] at hx
      subst hx
      rfl
    · have h1 := ih (S / 2) (by omega) (x / 2) (by rw [← and_half, hx])
      have h2 := dif_half S x
      have h3 := dif_mod2 S x
      have h4 := and_mod2 x S
      rw [hx] at h4
      rw [← h2] at h1
      rcases mod2 S with h5 | h5 <;> rcases mod2 x with h6 | h6 <;> rw [h5, h6] at h4 <;> simp only [h5, h6] at h3 <;> simp at h3 h4 <;> omega
theorem dif_0 {x S : Nat} : dif x S = 0 ↔ x &&& S = x := by
  constructor
  · intro h
    refine Nat.eq_of_testBit_eq fun i => ?_
    have := dif_bit x S i
    rw [h, Nat.zero_testBit] at this
    rw [Nat.testBit_and]
    cases hx : x.testBit i <;> cases hS : S.testBit i <;> rw [hx, hS] at this <;> first | rfl | cases this
  · intro h
    refine Nat.eq_of_testBit_eq fun i => ?_
    rw [dif_bit, Nat.zero_testBit]
    have := congrArg (fun z => z.testBit i) h
    simp only [Nat.testBit_and] at this
    cases hx : x.testBit i <;> cases hS : S.testBit i <;> rw [hx, hS] at this <;> simp_all
theorem sub_le {x S : Nat} (h : x &&& S = x) : x ≤ S := by rw [← h]; exact Nat.and_le_right
/-- Loads whose rest fits. -/
def feas (s : Sup) (S x : Nat) : Prop := x &&& S = x ∧ fo s (dif S x) = none
/-- Which loads are shed rather. -/
def le3 (s : Sup) (x y : Nat) : Prop := rk s x < rk s y ∨ (rk s x = rk s y ∧ (ct x < ct y ∨ (ct x = ct y ∧ x ≤ y)))
theorem le3_refl (s : Sup) (x : Nat) : le3 s x x := .inr ⟨rfl, .inr ⟨rfl, Nat.le_refl _⟩⟩
theorem le3_anti {s : Sup} {x y : Nat} (h1 : le3 s x y) (h2 : le3 s y x) : x = y := by
  unfold le3 at h1 h2
  omega
structure ShOK (s : Sup) (S m : Nat) : Prop where
  fe : feas s S m
  min : ∀ x, feas s S x → le3 s m x
theorem ShOK.uniq {s : Sup} {S m r : Nat} (h1 : ShOK s S m) (h2 : ShOK s S r) : m = r := le3_anti (h1.min r h2.fe) (h2.min m h1.fe)
theorem cur_0 (s : Sup) (b ph : Int) : ∀ k, curK s 0 b ph k = 0
  | 0 => rfl
  | k + 1 => by
    unfold curK
    rw [cur_0 s b ph k, Nat.zero_testBit]
    rfl
theorem okS_pw {s : Sup} (h : okS s = true) : 1 ≤ s.2.2.1 ∧ s.2.2.1 ≤ 1000 := by
  unfold okS at h
  simp only [Bool.and_eq_true, decide_eq_true_iff] at h
  exact rng_iff.1 h.2.2.1
theorem okS_bd {s : Sup} (h : okS s = true) {b : Int} (h0 : 0 ≤ b) (h1 : b < s.1.length) : (-1 ≤ (gd s.1 b).1 ∧ (gd s.1 b).1 < b) ∧ (1 ≤ (gd s.1 b).2.1 ∧ (gd s.1 b).2.1 ≤ 1000) ∧ (0 ≤ (gd s.1 b).2.2.1 ∧ (gd s.1 b).2.2.1 ≤ 20) ∧ (1 ≤ (gd s.1 b).2.2.2 ∧ (gd s.1 b).2.2.2 ≤ 10000) := by
  unfold okS at h
  simp only [Bool.and_eq_true, decide_eq_true_iff, List.all_eq_true, List.mem_range] at h
  have := h.2.2.2.2.2.1 b.toNat (by omega)
  rw [show ((b.toNat : Nat) : Int) = b by omega] at this
  unfold okB at this
  simp only [Bool.and_eq_true, rng_iff] at this
  omega
theorem brs_pos {s : Sup} (h : okS s = true) {b : Int} (h1 : b < s.1.length) : 1 ≤ brs s b ∧ brs s b ≤ 1000 := by
  unfold brs
  have := okS_pw h
  split
  · exact this
  · exact (okS_bd h (b := b) (by omega) h1).2.1
theorem fo_none {s : Sup} {S : Nat} : fo s S = none ↔ ∀ i : Nat, i ≤ s.1.length → ovr s S ((i : Int) - 1) = false := by
  unfold fo
  rw [List.find?_eq_none]
  constructor
  · intro h i hi
    have := h i (List.mem_range.2 (by omega))
    rwa [Bool.not_eq_true] at this
  · intro h i hi
    rw [h i (by have := List.mem_range.1 hi; omega)]
    decide
theorem fo_empty {s : Sup} (h : okS s = true) : fo s 0 = none := by
  refine fo_none.2 fun i hi => ?_
  have := brs_pos h (b := (i : Int) - 1) (by omega)
  unfold ovr mx3 cur
  rw [cur_0, cur_0, cur_0, dec_f]
  omega
theorem feas_all {s : Sup} (h : okS s = true) (S : Nat) : feas s S S := by
  have e : dif S S = 0 := dif_0.2 (Nat.and_self S)
  exact ⟨Nat.and_self S, by rw [e]; exact fo_empty h⟩
theorem foR_1 (s : Sup) (S : Nat) : (foR s S).2.1 = (fo s S).isSome := by
  unfold foR
  cases fo s S <;> rfl

/-! ## The program's Shed -/
def offI : Option Nat → Int
  | none => -1
  | some m => (m : Int)
def rkI (s : Sup) : Option Nat → Int
  | none => 0
  | some m => rk s m
theorem L19_13_eq' {s : Sup} (h : okS s = true) {x : Nat} (hx : x < 65536) (a b c d e : Int) {N : Nat} (hN : 2000 ≤ N) :
    L19_13 N ((a, b, c, (x : Int), 0, d, e, s.2.1, (s.2.1.length : Int), 0, ()), (s, ()), ()) = some ((a, b, c, (x : Int), rk s x, d, e, ()), (s, ()), ()) := by
  have hl := okS_le h
  exact loopF (L := L19_13) (fun i => ((a, b, c, (x : Int), rkK s x i, d, e, s.2.1, (s.2.1.length : Int), (i : Int), ()), (s, ()), ())) ((a, b, c, (x : Int), rk s x, d, e, ()), (s, ()), ()) 0 s.2.1.length (N := N) (by omega)
    (fun N => by
      simp only [L19_13, B19_13]
      rw [dec_f (by omega)]
      rfl)
    (fun N i _ hi => by
      have hx := okL_1 (okS_ld h hi)
      have hr := rkK_bd h x i (by omega)
      simp only [L19_13, B19_13]
      rw [dec_t (by omega), cond_true, getI_gd (by omega) (by omega), negK_in (by omega), bit_n (by omega) (by omega), bindV_eq, wI (x := (i : Int) + 1) (by omega) (by omega), show ((i : Int) + 1) = ((i + 1 : Nat) : Int) by omega]
      conv => rhs; unfold rkK
      cases x.testBit i with
      | false =>
        simp only [Bool.false_eq_true, if_false, Int.mul_zero, Int.add_zero]
        rw [wI (x := (0 : Int)) (by omega) (by omega), Int.add_zero, wI (by omega) (by omega)]
      | true =>
        simp only [if_true, Int.mul_one]
        rw [wI (x := (gd s.2.1 (i : Int)).2.2.2) (by omega) (by omega), wI (by omega) (by omega)])
/-- What the program keeps. -/
def PInv (s : Sup) (S i : Nat) : Option Nat → Prop
  | none => ∀ x, x < i → ¬ feas s S x
  | some m => m < i ∧ feas s S m ∧ ∀ x, x < i → feas s S x → le3 s m x
theorem rk_nn {s : Sup} (h : okS s = true) (x : Nat) : 0 ≤ rk s x := (rkK_bd h x _ (Nat.le_refl _)).1
theorem PInv.skip {s : Sup} {S i : Nat} {o : Option Nat} (h : PInv s S i o) (hf : ¬ feas s S i) : PInv s S (i + 1) o := by
  cases o with
  | none =>
    intro x hx
    by_cases e : x = i
    · rw [e]; exact hf
    · exact h x (by omega)
  | some m =>
    refine ⟨by have := h.1; omega, h.2.1, fun x hx hfx => ?_⟩
    by_cases e : x = i
    · exact absurd (e ▸ hfx) hf
    · exact h.2.2 x (by omega) hfx
theorem PInv.keep {s : Sup} {S i m : Nat} (h : PInv s S i (some m)) (hle : le3 s m i) : PInv s S (i + 1) (some m) :=
  ⟨by have := h.1; omega, h.2.1, fun x hx hfx => by
    by_cases e : x = i
    · rw [e]; exact hle
    · exact h.2.2 x (by omega) hfx⟩
theorem le3_trans {s : Sup} {x y z : Nat} (h1 : le3 s x y) (h2 : le3 s y z) : le3 s x z := by
  unfold le3 at *
  omega
theorem PInv.new {s : Sup} {S i : Nat} {o : Option Nat} (h : PInv s S i o) (hf : feas s S i) (hlt : ∀ m, o = some m → le3 s i m) : PInv s S (i + 1) (some i) := by
  refine ⟨by omega, hf, fun x hx hfx => ?_⟩
  by_cases e : x = i
  · rw [e]; exact le3_refl s i
  · cases o with
    | none => exact absurd hfx (h x (by omega))
    | some m => exact le3_trans (hlt m rfl) (h.2.2 x (by omega) hfx)
theorem L19_8_step {s : Sup} (h : okS s = true) {S : Nat} (hS : S < 65536) {N : Nat} (hN : 2000 ≤ N) {i : Nat} (hi : i < S + 1) {o : Option Nat} (ho : PInv s S i o) :
    ∃ o', PInv s S (i + 1) o' ∧ L19_8 (N + 1) (((S : Int), offI o, rkI s o, ((S + 1 : Nat) : Int), (i : Int), ()), (s, ()), ()) = L19_8 N (((S : Int), offI o', rkI s o', ((S + 1 : Nat) : Int), ((i + 1 : Nat) : Int), ()), (s, ()), ()) := by
  have hw : IntKind.wrap .i64 ((i : Int) + 1) = ((i + 1 : Nat) : Int) := by rw [wI (by omega) (by omega)]; omega
  have hd : bitsI .andNot .i64 (i : Int) (S : Int) = ((dif i S : Nat) : Int) := andNot_n (by omega) (by omega)
  have hd2 : bitsI .andNot .i64 (S : Int) (i : Int) = ((dif S i : Nat) : Int) := andNot_n (by omega) (by omega)
  have hds : dif S i ≤ S := dif_le S i
  have h13 := L19_13_eq' h (x := i) (by omega) (S : Int) (offI o) (rkI s o) ((S + 1 : Nat) : Int) (i : Int) hN
  simp only [L19_8, B19_8]
  rw [dec_t (by omega), cond_true, hd]
  by_cases hsub : i &&& S = i
  case neg =>
    have : (((dif i S : Nat) : Int) != 0) = true := by
      rw [bne_iff_ne]
      intro e
      exact hsub (dif_0.1 (by omega))
    rw [this, cond_true, hw]
    exact ⟨o, ho.skip fun hf => hsub hf.1, rfl⟩
  have hz : dif i S = 0 := dif_0.2 hsub
  have e0 : (((dif i S : Nat) : Int) != 0) = false := by rw [hz]; rfl
  rw [e0, cond_false, h13, derefK_some]
  simp only []
  rw [hd2, g55_eq h (by omega), hw]
  have hfe : feas s S i ↔ fo s (dif S i) = none := ⟨fun hh => hh.2, fun hh => ⟨hsub, hh⟩⟩
  have hover : ∀ {R : Type} (A B : Option R), (derefK (some (foR s (dif S i), ())) fun y6 => bif !y6.1.2.1 then A else B) = if fo s (dif S i) = none then A else B := fun A B => by
    rw [derefK_some]
    show (bif !(foR s (dif S i)).2.1 then A else B) = _
    rw [foR_1]
    cases fo s (dif S i) with
    | none => rfl
    | some _ => rfl
  cases o with
  | none =>
    have : decide (offI none < 0) = true := rfl
    rw [this, cond_true]
    refine (show _ = _ from hover _ _) ▸ ?_
    by_cases hf : fo s (dif S i) = none
    · exact ⟨some i, ho.new (hfe.2 hf) (fun m e => by cases e), by rw [if_pos hf]; rfl⟩
    · exact ⟨none, ho.skip fun hh => hf hh.2, by rw [if_neg hf]⟩
  | some m =>
    have hm : offI (some m) = (m : Int) := rfl
    have hr : rkI s (some m) = rk s m := rfl
    rw [hm, hr, dec_f (p := (m : Int) < 0) (by omega), cond_false]
    have hml : m < i := ho.1
    have hnew : le3 s i m → ∃ o', PInv s S (i + 1) o' ∧ (if fo s (dif S i) = none then L19_8 N (((S : Int), (i : Int), rk s i, ((S + 1 : Nat) : Int), ((i + 1 : Nat) : Int), ()), (s, ()), ()) else L19_8 N (((S : Int), (m : Int), rk s m, ((S + 1 : Nat) : Int), ((i + 1 : Nat) : Int), ()), (s, ()), ())) =
        L19_8 N (((S : Int), offI o', rkI s o', ((S + 1 : Nat) : Int), ((i + 1 : Nat) : Int), ()), (s, ()), ()) := fun hle => by
      by_cases hf : fo s (dif S i) = none
      · exact ⟨some i, ho.new (hfe.2 hf) (fun m' e => by cases e; exact hle), by rw [if_pos hf]; rfl⟩
      · exact ⟨some m, ho.skip fun hh => hf hh.2, by rw [if_neg hf]; rfl⟩
    by_cases h1 : rk s i < rk s m
    · rw [dec_t h1, cond_true]
      refine (show _ = _ from hover _ _) ▸ ?_
      exact hnew (.inl h1)
    · rw [dec_f h1, cond_false]
      by_cases h2 : rk s i = rk s m
      · have e2 : (rk s i == rk s m) = true := by simp [h2]
        rw [e2, cond_true, g54_eq (by omega), derefK_some, g54_eq (by omega), derefK_some]
        simp only []
        by_cases h3 : ct i < ct m
        · rw [dec_t (p := (ct i : Int) < (ct m : Int)) (by omega)]
          refine (show _ = _ from hover _ _) ▸ ?_
          exact hnew (.inr ⟨h2, .inl h3⟩)
        · rw [dec_f (p := (ct i : Int) < (ct m : Int)) (by omega)]
          exact ⟨some m, ho.keep (.inr ⟨h2.symm, by omega⟩), rfl⟩
      · have e2 : (rk s i == rk s m) = false := beq_eq_false_iff_ne.2 h2
        rw [e2, cond_false]
        exact ⟨some m, ho.keep (.inl (by omega)), rfl⟩
theorem g19_eq (s : Sup) (set : Int) : (okC s set ≠ 0 ∧ g19 (s, set, ()) = some ((0, 0, okC s set, ()), ())) ∨
    ∃ S : Nat, set = (S : Int) ∧ okC s set = 0 ∧ okS s = true ∧ S < 2 ^ s.2.1.length ∧ ((12 < ct S ∧ g19 (s, set, ()) = some ((0, 0, 2, ()), ())) ∨ (ct S ≤ 12 ∧ ∃ m : Nat, ShOK s S m ∧ g19 (s, set, ()) = some (((m : Int), rk s m, 0, ()), ()))) := by
  by_cases hc : okC s set = 0
  case neg =>
    left
    refine ⟨hc, ?_⟩
    show F19 fuel s set = _
    unfold F19
    have : (okC s set != 0) = true := bne_iff_ne.2 hc
    rw [g53_eq, derefK_some]
    show (bif okC s set != 0 then _ else _) = _
    rw [this]
    rfl
  right
  obtain ⟨h, S, rfl, hS⟩ := okC_0 hc
  have hl := okS_le h
  have hp := pow16 hl.2
  have hf := fuel_ge
  refine ⟨S, rfl, hc, h, hS, ?_⟩
  have e0 : (okC s (S : Int) != 0) = false := by rw [hc]; rfl
  by_cases h12 : 12 < ct S
  · left
    refine ⟨h12, ?_⟩
    show F19 fuel s (S : Int) = _
    unfold F19
    rw [g53_eq, derefK_some]
    show (bif okC s (S : Int) != 0 then _ else _) = _
    rw [e0, cond_false, g54_eq (by omega), derefK_some]
    show (bif decide ((ct S : Int) > 12) then _ else _) = _
    rw [dec_t (by omega)]
    rfl
  · right
    refine ⟨by omega, ?_⟩
    obtain ⟨r, e, m, hm, rfl⟩ := loop0 (L := L19_8) (fun i (o : Option Nat) => (((S : Int), offI o, rkI s o, ((S + 1 : Nat) : Int), (i : Int), ()), (s, ()), ())) (fun i o => PInv s S i o) (fun r => ∃ m, ShOK s S m ∧ r = (((m : Int), rk s m, ()), (), ())) 2000 (S + 1) (N := fuel) (s := none) (fun x hx => by omega) (by omega)
      (fun N o ho => by
        have hfs := feas_all h S
        cases o with
        | none => exact absurd hfs (ho S (by omega))
        | some m =>
          refine ⟨(((m : Int), rk s m, ()), (), ()), ?_, m, ⟨ho.2.1, fun x hx => ho.2.2 x (by have := sub_le hx.1; omega) hx⟩, rfl⟩
          simp only [L19_8, B19_8]
          rw [dec_f (by omega)]
          rfl)
      (fun N i o hN hi ho => .inl (L19_8_step h (by omega) hN hi ho))
    refine ⟨m, hm, ?_⟩
    show F19 fuel s (S : Int) = _
    unfold F19
    rw [g53_eq, derefK_some]
    show (bif okC s (S : Int) != 0 then _ else _) = _
    rw [e0, cond_false, g54_eq (by omega), derefK_some]
    show (bif decide ((ct S : Int) > 12) then _ else _) = _
    rw [dec_f (by omega), cond_false, wI (by omega) (by omega)]
    have e' : L19_8 fuel (((S : Int), -1, 0, (S : Int) + 1, 0, ()), (s, ()), ()) = _ := e
    rw [e', derefK_some]
end Go.Proofs.Try.V
