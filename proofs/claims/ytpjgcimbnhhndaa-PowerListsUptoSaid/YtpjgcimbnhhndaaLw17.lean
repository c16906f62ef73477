/- Plain laws of layer 5, seventeenth part: Amps by the program; the law of the sums. No condition beyond those typed in each theorem. -/
import Derived.Test.YtpjgcimbnhhndaaLw15
namespace Go.Proofs.Try.V
open Go.Vi
set_option maxRecDepth 100000

theorem okC_1 {s : Sup} {set : Int} (h : okC s set = 0) {R : Type} (x y : R) : (bif okC s set != 0 then x else y) = y := by rw [h]; rfl
theorem okC_2 {s : Sup} {set : Int} (h : okC s set ≠ 0) {R : Type} (x y : R) : (bif okC s set != 0 then x else y) = x := by
  rw [show (okC s set != 0) = true from bne_iff_ne.2 h]; rfl
theorem g36_bad {s : Sup} {set : Int} (h : okC s set ≠ 0) : g36 (s, set, ()) = some (([], okC s set, ()), ()) := by
  show F36 fuel s set = _
  unfold F36
  rw [g53_eq, derefK_some]
  exact okC_2 h _ _
theorem g36_ok {s : Sup} (hs : okS s = true) {S : Nat} (hS : S < 2 ^ s.2.1.length) : g36 (s, (S : Int), ()) = some ((curs s S s.2.1.length, 0, ()), ()) := by
  show F36 fuel s (S : Int) = _
  unfold F36
  have hl := okS_le hs
  have hp := pow16 hl.2
  have hf := fuel_ge
  rw [g53_eq, derefK_some]
  refine (okC_1 (okC_in hs hS) _ _).trans ?_
  rw [g64_eq hs (by omega), derefK_some]
  have hcl := curs_len s S s.2.1.length
  have e := loopF (L := L36_5) (fun (i : Nat) => ((((curs s S s.2.1.length).length : Int), (i : Int), ()), ((curs s S s.2.1.length).take i, curs s S s.2.1.length, ()), ())) ((), (curs s S s.2.1.length, ()), ()) 0 (curs s S s.2.1.length).length (N := fuel) (by omega)
    (fun N => by
      simp only [L36_5, B36_5]
      rw [dec_f (by omega), List.take_length]
      rfl)
    (fun N i _ hi => by
      simp only [L36_5, B36_5]
      rw [dec_t (by omega), cond_true, inR_in (by omega) (by omega), getI_gd (by omega) (by omega), lenK_in (by omega) (by simp; omega), wI (x := (i : Int) + 1) (by omega) (by omega), show ((i : Int) + 1) = ((i + 1 : Nat) : Int) by omega, take_nat hi])
  have e' : L36_5 fuel ((((curs s S s.2.1.length).length : Int), 0, ()), ([], curs s S s.2.1.length, ()), ()) = _ := e
  show derefK (L36_5 fuel ((((curs s S s.2.1.length).length : Int), 0, ()), ([], curs s S s.2.1.length, ()), ())) _ = _
  rw [e', derefK_some]

/-! ## Who feeds whom -/
theorem und_self {l : List Brd} (hu : UpOK l) {b : Int} (h0 : 0 ≤ b) (h1 : b < l.length) : und l b b = true := by
  unfold und
  rw [chn_pos hu h0 h1, List.contains_cons]
  simp
theorem und_pos {l : List Brd} (hu : UpOK l) {x : Int} (h0 : 0 ≤ x) (h1 : x < l.length) (b : Int) : und l x b = (b == x || und l (gd l x).1 b) := by
  unfold und
  rw [chn_pos hu h0 h1, List.contains_cons]
theorem und_up {l : List Brd} (hu : UpOK l) {b : Int} (h0 : 0 ≤ b) (h1 : b < l.length) (hp : 0 ≤ (gd l b).1) : ∀ x : Int, -1 ≤ x → x < l.length → und l x b = true → und l x (gd l b).1 = true := by
  refine chn_ind hu ?_ ?_
  · intro h
    unfold und at h
    rw [chn_neg (by omega)] at h
    cases h
  · intro x hx0 hx1 ih h
    have hpb := hu.at h0 h1
    rw [und_pos hu hx0 hx1, Bool.or_eq_true] at h
    rw [und_pos hu hx0 hx1, Bool.or_eq_true]
    right
    rcases h with h | h
    · have e : b = x := by simpa using h
      rw [← e]
      exact und_self hu hp (by omega)
    · exact ih h
theorem cur_up {s : Sup} (hs : okS s = true) (S : Nat) {b : Int} (h0 : 0 ≤ b) (h1 : b < s.1.length) (hp : 0 ≤ (gd s.1 b).1) (ph : Int) : ∀ k, k ≤ s.2.1.length → curK s S b ph k ≤ curK s S (gd s.1 b).1 ph k
  | 0, _ => Int.le_refl _
  | k + 1, hk => by
    have ih := cur_up hs S h0 h1 hp ph k (by omega)
    have ha := okL_1 (okS_ld hs (k := k) (by omega))
    have hu := und_up (okS_up hs) h0 h1 hp (gd s.2.1 (k : Int)).1 (by omega) ha.1.2
    unfold curK
    rw [dec_f (p := b < 0) (by omega), dec_f (p := (gd s.1 b).1 < 0) (by omega), Bool.false_or, Bool.false_or]
    cases h : und s.1 (gd s.2.1 (k : Int)).1 b with
    | true =>
      rw [hu h]
      exact Int.add_le_add_right ih _
    | false =>
      rw [Bool.and_false, Bool.and_false, if_neg (by simp)]
      split <;> omega
/-- The sum over all boards that the generator feeds. -/
def rootS (l : List Brd) (f : Nat → Int) : Nat → Int
  | 0 => 0
  | k + 1 => rootS l f k + (if (gd l (k : Int)).1 < 0 then f k else 0)
theorem rootS_add (l : List Brd) (f g : Nat → Int) : ∀ k, rootS l (fun i => f i + g i) k = rootS l f k + rootS l g k
  | 0 => rfl
  | k + 1 => by
    unfold rootS
    rw [rootS_add l f g k]
    split <;> omega
theorem rootS_zero (l : List Brd) : ∀ k, rootS l (fun _ => 0) k = 0
  | 0 => rfl
  | k + 1 => by
    unfold rootS
    rw [rootS_zero l k]
    split <;> rfl
theorem rootS_one {l : List Brd} (x a : Int) : ∀ k : Nat, rootS l (fun i => if (i : Int) = x then a else 0) k = if 0 ≤ x ∧ x < k ∧ (gd l x).1 < 0 then a else 0
  | 0 => by rw [if_neg (by omega)]; rfl
  | k + 1 => by
    unfold rootS
    rw [rootS_one x a k]
    by_cases e : (k : Int) = x
    · rw [if_neg (by omega), if_pos e, e]
      by_cases h : (gd l x).1 < 0
      · rw [if_pos h, if_pos (by omega)]; omega
      · rw [if_neg h, if_neg (by omega)]; omega
    · rw [if_neg e]
      by_cases h : 0 ≤ x ∧ x < k ∧ (gd l x).1 < 0
      · rw [if_pos h, if_pos (show 0 ≤ x ∧ x < ((k + 1 : Nat) : Int) ∧ (gd l x).1 < 0 from ⟨h.1, by omega, h.2.2⟩)]; split <;> omega
      · rw [if_neg h, if_neg (show ¬ (0 ≤ x ∧ x < ((k + 1 : Nat) : Int) ∧ (gd l x).1 < 0) from fun hh => h ⟨hh.1, by omega, hh.2.2⟩)]; split <;> omega
theorem rootS_und {l : List Brd} (hu : UpOK l) (a : Int) : ∀ x : Int, -1 ≤ x → x < l.length → rootS l (fun i => if und l x (i : Int) = true then a else 0) l.length = if 0 ≤ x then a else 0 := by
  refine chn_ind hu ?_ ?_
  · rw [if_neg (by omega)]
    have : (fun i : Nat => if und l (-1) (i : Int) = true then a else 0) = fun _ => 0 := by
      funext i
      unfold und
      rw [chn_neg (by omega)]
      rfl
    rw [this, rootS_zero]
  · intro x h0 h1 ih
    have hp := hu.at h0 h1
    rw [if_pos h0]
    have hstep : ∀ (m : Nat), m ≤ l.length → rootS l (fun i => if und l x (i : Int) = true then a else 0) m = rootS l (fun i => (if (i : Int) = x then a else 0) + (if und l (gd l x).1 (i : Int) = true then a else 0)) m := by
      intro m hm
      induction m with
      | zero => rfl
      | succ m ihm =>
        unfold rootS
        rw [ihm (by omega)]
        congr 1
        by_cases hr : (gd l (m : Int)).1 < 0
        · rw [if_pos hr, if_pos hr, und_pos hu h0 h1]
          by_cases e : (m : Int) = x
          · have hn : und l (gd l x).1 (m : Int) = false := by
              rw [e] at hr ⊢
              unfold und
              rw [chn_neg hr]
              rfl
            have e1 : ((m : Int) == x) = true := by simp [e]
            rw [hn, e1, if_pos e]
            simp
          · have e1 : ((m : Int) == x) = false := beq_eq_false_iff_ne.2 e
            rw [e1, Bool.false_or, if_neg e, Int.zero_add]
        · rw [if_neg hr, if_neg hr]
    rw [hstep _ (Nat.le_refl _), rootS_add, rootS_one, ih]
    by_cases h : (gd l x).1 < 0
    · rw [if_pos ⟨h0, h1, h⟩, if_neg (by omega)]; omega
    · rw [if_neg (by omega), if_pos (by omega)]; omega
theorem cur_roots {s : Sup} (hs : okS s = true) (S : Nat) (ph : Int) : ∀ k, k ≤ s.2.1.length → rootS s.1 (fun b => curK s S (b : Int) ph k) s.1.length = curK s S (-1) ph k
  | 0, _ => rootS_zero _ _
  | k + 1, hk => by
    have ih := cur_roots hs S ph k (by omega)
    have ha := okL_1 (okS_ld hs (k := k) (by omega))
    have hu := rootS_und (okS_up hs) (if S.testBit k && (gd s.2.1 (k : Int)).2.1 == ph then (gd s.2.1 (k : Int)).2.2.1 else 0) (gd s.2.1 (k : Int)).1 (by omega) ha.1.2
    rw [if_pos ha.1.1] at hu
    have e1 : (fun b : Nat => curK s S (b : Int) ph (k + 1)) = fun b : Nat => curK s S (b : Int) ph k + (if und s.1 (gd s.2.1 (k : Int)).1 (b : Int) = true then (if S.testBit k && (gd s.2.1 (k : Int)).2.1 == ph then (gd s.2.1 (k : Int)).2.2.1 else 0) else 0) := by
      funext b
      show curK s S (b : Int) ph k + _ = _
      rw [dec_f (p := (b : Int) < 0) (by omega), Bool.false_or]
      cases S.testBit k <;> cases (gd s.2.1 (k : Int)).2.1 == ph <;> cases und s.1 (gd s.2.1 (k : Int)).1 (b : Int) <;> rfl
    rw [e1, rootS_add, ih, hu]
    show _ = curK s S (-1) ph k + _
    rw [dec_t (p := (-1 : Int) < 0) (by omega), Bool.true_or, Bool.and_true]
end Go.Proofs.Try.V
