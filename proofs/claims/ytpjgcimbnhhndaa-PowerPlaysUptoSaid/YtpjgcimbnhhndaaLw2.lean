/- Plain laws of layer 5, second part: what a board is below; the currents, by the program and by the document. No condition beyond those typed in each theorem. -/
import Derived.Test.YtpjgcimbnhhndaaLw1
namespace Go.Proofs.Try.V
open Go.Vi
set_option maxRecDepth 100000

/-! ## What a board is below -/
/-- Parents come before. -/
def UpOK (l : List Brd) : Prop := ∀ j : Nat, j < l.length → -1 ≤ (gd l (j : Int)).1 ∧ (gd l (j : Int)).1 < j
theorem okS_up {s : Sup} (h : okS s = true) : UpOK s.1 := by
  unfold okS at h
  simp only [Bool.and_eq_true, decide_eq_true_iff, List.all_eq_true, List.mem_range] at h
  intro j hj
  have := h.2.2.2.2.2.1 j hj
  unfold okB at this
  simp only [Bool.and_eq_true, rng_iff] at this
  omega
theorem UpOK.at {l : List Brd} (h : UpOK l) {b : Int} (h0 : 0 ≤ b) (h1 : b < l.length) : -1 ≤ (gd l b).1 ∧ (gd l b).1 < b := by
  have := h b.toNat (by omega)
  rwa [show ((b.toNat : Nat) : Int) = b by omega] at this
/-- A board and all that it is below. -/
def chF (l : List Brd) : Nat → Int → List Int
  | 0, _ => []
  | n + 1, b => if b < 0 then [] else b :: chF l n (gd l b).1
theorem chF_eq {l : List Brd} (hu : UpOK l) : ∀ (n m : Nat) (b : Int), b < n → b < m → b < l.length → chF l n b = chF l m b
  | 0, 0, _, _, _, _ => rfl
  | 0, m + 1, b, h, _, _ => by
    unfold chF
    rw [if_pos (by omega)]
  | n + 1, 0, b, _, h, _ => by
    unfold chF
    rw [if_pos (by omega)]
  | n + 1, m + 1, b, h1, h2, h3 => by
    unfold chF
    by_cases hb : b < 0
    · rw [if_pos hb, if_pos hb]
    · rw [if_neg hb, if_neg hb]
      have := hu.at (b := b) (by omega) h3
      rw [chF_eq hu n m _ (by omega) (by omega) (by omega)]
def chn (l : List Brd) (b : Int) : List Int := chF l (l.length + 1) b
theorem chn_neg {l : List Brd} {b : Int} (hb : b < 0) : chn l b = [] := by
  unfold chn chF
  rw [if_pos hb]
theorem chn_pos {l : List Brd} (hu : UpOK l) {b : Int} (h0 : 0 ≤ b) (h1 : b < l.length) : chn l b = b :: chn l (gd l b).1 := by
  have := hu.at h0 h1
  unfold chn
  rw [chF, if_neg (by omega), chF_eq hu l.length (l.length + 1) _ (by omega) (by omega) (by omega)]
theorem chn_ind {l : List Brd} (hu : UpOK l) {p : Int → Prop} (hneg : p (-1)) (hpos : ∀ b : Int, 0 ≤ b → b < l.length → p (gd l b).1 → p b) : ∀ b : Int, -1 ≤ b → b < l.length → p b := by
  have key : ∀ (n : Nat) (b : Int), b < n → -1 ≤ b → b < l.length → p b := by
    intro n
    induction n with
    | zero =>
      intro b h1 h2 h3
      obtain rfl : b = -1 := by omega
      exact hneg
    | succ n ih =>
      intro b h1 h2 h3
      by_cases hb : b < 0
      · obtain rfl : b = -1 := by omega
        exact hneg
      · have := hu.at (b := b) (by omega) h3
        exact hpos b (by omega) h3 (ih _ (by omega) (by omega) (by omega))
  intro b h1 h2
  exact key (b + 1).toNat b (by omega) h1 h2
theorem chn_mem {l : List Brd} (hu : UpOK l) : ∀ b : Int, -1 ≤ b → b < l.length → ∀ x ∈ chn l b, 0 ≤ x ∧ x ≤ b := by
  refine chn_ind hu ?_ ?_
  · rw [chn_neg (by omega)]
    intro x h
    cases h
  · intro b h0 h1 ih x hx
    rw [chn_pos hu h0 h1] at hx
    have := hu.at h0 h1
    rcases List.mem_cons.1 hx with rfl | h
    · omega
    · have := ih x h
      omega
theorem chn_nodup {l : List Brd} (hu : UpOK l) : ∀ b : Int, -1 ≤ b → b < l.length → (chn l b).Nodup := by
  refine chn_ind hu ?_ ?_
  · rw [chn_neg (by omega)]
    exact List.nodup_nil
  · intro b h0 h1 ih
    have := hu.at h0 h1
    rw [chn_pos hu h0 h1, List.nodup_cons]
    refine ⟨fun h => ?_, ih⟩
    have := chn_mem hu (gd l b).1 (by omega) (by omega) b h
    omega
theorem chn_len {l : List Brd} (hu : UpOK l) : ∀ b : Int, -1 ≤ b → b < l.length → ((chn l b).length : Int) ≤ b + 1 := by
  refine chn_ind hu ?_ ?_
  · rw [chn_neg (by omega)]
    decide
  · intro b h0 h1 ih
    have := hu.at h0 h1
    rw [chn_pos hu h0 h1, List.length_cons]
    omega
theorem upL_eq {l : List Brd} (hu : UpOK l) : ∀ (n : Nat) (b : Int), -1 ≤ b → b < n → b < l.length → It.upL (n + 1) l b = some (chn l b ++ [-1])
  | n, b, h0, h1, h2 => by
    unfold It.upL
    by_cases hb : b < 0
    · rw [dec_t hb, cond_true, chn_neg hb]
      rfl
    · have hp := hu.at (b := b) (by omega) h2
      rw [dec_f hb, cond_false, getI_gd (by omega) h2, dec_t hp.2, cond_true]
      match n with
      | 0 => omega
      | n + 1 =>
        rw [upL_eq hu n (gd l b).1 hp.1 (by omega) (by omega), derefK_some, chn_pos hu (by omega) h2]
        rfl
theorem it95_eq {s : Sup} (hu : UpOK s.1) (hl : s.1.length ≤ 1000) {b : Int} (h0 : -1 ≤ b) (h1 : b < s.1.length) : It.it95.g (b, s, ()) = some (chn s.1 b ++ [-1]) := by
  show lenK (s.1.length : Int) (It.upL (s.1.length + 1) s.1 b) = _
  rw [lenK_in (by omega) (by omega), upL_eq hu s.1.length b h0 (by omega) h1]; rfl
theorem up_k {R : Type} {s : Sup} (hu : UpOK s.1) (hl : s.1.length ≤ 1000) {b : Int} (h0 : -1 ≤ b) (h1 : b < s.1.length) (K : List Int → Option R) :
    (derefK (It.m65.p.g (s, b, ())) fun y3 => derefK y3.1.2.1 fun q4 => derefK (It.it95.g (y3.1.1, q4, ())) fun l6 => K l6) = K (chn s.1 b ++ [-1]) := by
  show derefK (It.it95.g (b, s, ())) _ = _
  rw [it95_eq hu hl h0 h1]
  rfl
/-- Whether a board is another one or below it. -/
def und (l : List Brd) (b top : Int) : Bool := (chn l b).contains top
theorem g92_eq {s : Sup} (hu : UpOK s.1) (hl : s.1.length ≤ 1000) {b top : Int} (h0 : -1 ≤ b) (h1 : b < s.1.length) (ht : 0 ≤ top) : g92 (s, b, top, ()) = some ((und s.1 b top, ()), ()) := by
  have key : ∀ b : Int, -1 ≤ b → b < s.1.length → ∀ N : Nat, b + 1 < N → ∃ b', L92_1 N ((b, top, ()), (s, ()), ()) = some ((b', top, ()), (), ()) ∧ (b' == top) = und s.1 b top := by
    refine chn_ind hu ?_ ?_
    · intro N hN
      obtain ⟨m, rfl⟩ : ∃ m, N = m + 1 := ⟨N - 1, by omega⟩
      refine ⟨-1, ?_, ?_⟩
      · simp only [L92_1, B92_1]
        rw [dec_f (by omega), cond_false]
      · unfold und
        rw [chn_neg (by omega)]
        show ((-1 : Int) == top) = false
        simp
        omega
    · intro b h0 h1 ih N hN
      have hp := hu.at h0 h1
      obtain ⟨m, rfl⟩ : ∃ m, N = m + 1 := ⟨N - 1, by omega⟩
      simp only [L92_1, B92_1]
      have hu2 : und s.1 b top = (b == top || und s.1 (gd s.1 b).1 top) := by
        unfold und
        rw [chn_pos hu h0 h1, List.contains_cons]
        by_cases h : b = top
        · simp [h]
        · have : (top == b) = false := by simp; omega
          have h2 : (b == top) = false := by simp; omega
          rw [this, h2]
      by_cases hb : b > top
      · rw [dec_t hb, cond_true, getI_gd h0 h1]
        obtain ⟨b', e1, e2⟩ := ih m (by omega)
        refine ⟨b', e1, ?_⟩
        have h2 : (b == top) = false := by simp; omega
        rw [hu2, h2, Bool.false_or, e2]
      · refine ⟨b, by rw [dec_f hb, cond_false], ?_⟩
        have : und s.1 (gd s.1 b).1 top = false := by
          unfold und
          rw [List.contains_eq_mem, decide_eq_false_iff_not]
          intro h
          have := chn_mem hu _ hp.1 (by omega) _ h
          omega
        rw [hu2, this, Bool.or_false]
  show F92 fuel s b top = _
  unfold F92
  obtain ⟨b', e1, e2⟩ := key b h0 h1 fuel (by have := fuel_ge; omega)
  rw [e1, derefK_some, e2]

/-! ## Currents -/
/-- What the first k loads of a set draw at a board (-1: the generator) in a phase. -/
def curK (s : Sup) (S : Nat) (b ph : Int) : Nat → Int
  | 0 => 0
  | k + 1 => curK s S b ph k + (if S.testBit k && ((gd s.2.1 (k : Int)).2.1 == ph && (decide (b < 0) || und s.1 (gd s.2.1 (k : Int)).1 b)) then (gd s.2.1 (k : Int)).2.2.1 else 0)
def cur (s : Sup) (S : Nat) (b ph : Int) : Int := curK s S b ph s.2.1.length
theorem okS_ld {s : Sup} (h : okS s = true) {k : Nat} (hk : k < s.2.1.length) : okL s.1.length (gd s.2.1 (k : Int)) = true := by
  unfold okS at h
  simp only [Bool.and_eq_true, decide_eq_true_iff, List.all_eq_true] at h
  exact h.2.2.2.2.2.2 _ (gd_mem (by omega) (by omega))
theorem okL_1 {n : Nat} {x : Ld} (h : okL n x = true) : (0 ≤ x.1 ∧ x.1 < n) ∧ (0 ≤ x.2.1 ∧ x.2.1 ≤ 2) ∧ (1 ≤ x.2.2.1 ∧ x.2.2.1 ≤ 1000) ∧ (0 ≤ x.2.2.2 ∧ x.2.2.2 ≤ 1000) := by
  unfold okL at h
  simp only [Bool.and_eq_true, rng_iff] at h
  omega
theorem curK_bd {s : Sup} (h : okS s = true) (S : Nat) (b ph : Int) : ∀ k, k ≤ s.2.1.length → 0 ≤ curK s S b ph k ∧ curK s S b ph k ≤ 1000 * k
  | 0, _ => ⟨Int.le_refl _, by simp [curK]⟩
  | k + 1, hk => by
    have ih := curK_bd h S b ph k (by omega)
    have := okL_1 (okS_ld h (k := k) (by omega))
    unfold curK
    split <;> omega
theorem cur_bd {s : Sup} (h : okS s = true) (S : Nat) (b ph : Int) : 0 ≤ cur s S b ph ∧ cur s S b ph ≤ 16000 := by
  have := curK_bd h S b ph s.2.1.length (Nat.le_refl _)
  have := okS_le h
  unfold cur
  omega
theorem g60_eq {s : Sup} (h : okS s = true) {S : Nat} (hS : S < 4611686018427387904) {b : Int} (ph : Int) : g60 (s, (S : Int), b, ph, ()) = some ((cur s S b ph, ()), ()) := by
  show F60 fuel s (S : Int) b ph = _
  unfold F60
  have hl := okS_le h
  have hf := fuel_ge
  have hu := okS_up h
  have e := loopF (L := L60_3) (fun i => (((S : Int), b, ph, curK s S b ph i, (i : Int), ()), (s, ()), ())) ((cur s S b ph, ()), (), ()) 0 s.2.1.length (N := fuel) (by omega)
    (fun N => by
      simp only [L60_3, B60_3]
      rw [dec_f (by omega)]
      rfl)
    (fun N i _ hi => by
      have hx := okL_1 (okS_ld h hi)
      have hc := curK_bd h S b ph i (by omega)
      simp only [L60_3, B60_3]
      rw [dec_t (by omega), cond_true, getI_gd (by omega) (by omega), g51_eq hS (by omega), derefK_some, wI (x := (i : Int) + 1) (by omega) (by omega), wI (x := curK s S b ph i + _) (by omega) (by omega)]
      have h1 : ((i : Int) + 1) = ((i + 1 : Nat) : Int) := by omega
      rw [h1]
      conv => rhs; unfold curK
      cases S.testBit i with
      | false => simp
      | true =>
      simp only [cond_true, Bool.true_and]
      cases (gd s.2.1 (i : Int)).2.1 == ph with
      | false => simp
      | true =>
      simp only [cond_true, Bool.true_and]
      by_cases hb0 : b < 0
      · rw [dec_t hb0]
        rfl
      · rw [dec_f hb0, cond_false, Bool.false_or, g92_eq hu (by omega) (by omega) (by omega) (by omega), derefK_some]
        cases und s.1 (gd s.2.1 (i : Int)).1 b with
        | false => simp
        | true => rfl)
  have e' : L60_3 fuel (((S : Int), b, ph, 0, 0, ()), (s, ()), ()) = _ := e
  rw [e', derefK_some]
end Go.Proofs.Try.V
