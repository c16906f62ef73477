/- Plain laws of layer 5, twenty-second part: the law of Selective and Earths. No condition beyond those typed in each theorem. -/
import Derived.Test.YtpjgcimbnhhndaaLw10
namespace Go.Proofs.Try.V
open Go.Vi
set_option maxRecDepth 100000

/-- The numbers of which something is so. -/
def fil (q : Nat → Bool) (n : Nat) : List Int := ((List.range n).filter q).map fun (k : Nat) => (k : Int)
theorem fil_step (q : Nat → Bool) (n : Nat) : fil q (n + 1) = if q n = true then fil q n ++ [(n : Int)] else fil q n := by
  unfold fil
  rw [List.range_succ, List.filter_append, List.map_append]
  cases h : q n with
  | true => simp [h]
  | false => simp [h]
theorem fil_len (q : Nat → Bool) : ∀ n, (fil q n).length ≤ n
  | 0 => Nat.le_refl _
  | n + 1 => by
    have := fil_len q n
    rw [fil_step]
    split
    · simp; omega
    · omega
theorem g73_eq {s : Sup} (hl : s.1.length ≤ 1000) {f : Int → Option Bool} {q : Nat → Bool} (hf : ∀ k : Nat, k < s.1.length → f (k : Int) = some (q k)) : g73 (s, f, ()) = some ((fil q s.1.length, ()), ()) := by
  show F73 fuel s f = _
  unfold F73
  have hfu := fuel_ge
  have e := loopF (L := L73_2) (fun (i : Nat) => ((f, (s.1.length : Int), (i : Int), ()), (fil q i, ()), ())) ((), (fil q s.1.length, ()), ()) 0 s.1.length (N := fuel) (by omega)
    (fun N => by
      simp only [L73_2, B73_2]
      rw [dec_f (by omega)]
      rfl)
    (fun N i _ hi => by
      have := fil_len q i
      simp only [L73_2, B73_2]
      rw [dec_t (by omega), cond_true, hf i hi, derefK_some, lenK_in (by omega) (by simp; omega), wI (x := (i : Int) + 1) (by omega) (by omega), show (i : Int) + 1 = ((i + 1 : Nat) : Int) by omega, fil_step]
      cases q i <;> rfl)
  have e' : L73_2 fuel ((f, (s.1.length : Int), 0, ()), ([], ()), ()) = _ := e
  rw [e', derefK_some]
/-- Whether a board is not selective. -/
def selB (s : Sup) (k : Nat) : Bool := decide ((gd s.1 (k : Int)).2.2.1 ≥ dly s (gd s.1 (k : Int)).1)
theorem g75_eq (s : Sup) {b : Int} (hb : b < s.1.length) : g75 (s, b, ()) = some ((dly s b, ()), ()) := by
  show F75 fuel s b = _
  unfold F75 dly
  by_cases h : b < 0
  · rw [dec_t h, if_pos h]; rfl
  · rw [dec_f h, if_neg h, cond_false, getI_gd (by omega) hb]
theorem g74_eq {s : Sup} (hu : UpOK s.1) {k : Nat} (hk : k < s.1.length) : g74 ((k : Int), s, ()) = some ((selB s k, ()), ()) := by
  show F74 fuel (k : Int) s = _
  unfold F74 selB dly
  have hp := hu k hk
  simp only [getI_gd (l := s.1) (i := (k : Int)) (by omega) (by omega)]
  by_cases h : (gd s.1 (k : Int)).1 < 0
  · rw [dec_f (p := (gd s.1 (k : Int)).1 ≥ 0) (by omega), if_pos h]
    rfl
  · rw [dec_t (p := (gd s.1 (k : Int)).1 ≥ 0) (by omega), if_neg h, cond_true, getI_gd (by omega) (by omega)]
theorem g44_eq (s : Sup) : g44 (s, ()) = some ((if okS s then fil (selB s) s.1.length else [], if okS s then 0 else 50, ()), ()) := by
  show F44 fuel s = _
  unfold F44
  rw [g27_eq, derefK_some]
  by_cases h : okS s = true
  case neg => rw [if_neg h, if_neg h]; rfl
  rw [if_pos h, if_pos h]
  have hl := okS_le h
  show derefK (g73 (s, _, ())) _ = _
  rw [g73_eq (by omega) (q := selB s) (fun k hk => by rw [g74_eq (okS_up h) hk]; rfl), derefK_some]
theorem g45_eq (s : Sup) : g45 (s, ()) = some ((if okS s then fil (selB s) s.1.length else [], if okS s then 0 else 50, ()), ()) := by
  show F45 fuel s = _
  unfold F45
  rw [g28_eq, derefK_some]
  by_cases h : okS s = true
  case neg => rw [if_neg h, if_neg h]; rfl
  rw [if_pos h, if_pos h]
  have hl := okS_le h
  have hu := okS_up h
  have hfu := fuel_ge
  have e := loopF (L := L45_6) (fun (i : Nat) => (((i : Int), ()), (s, fil (selB s) i, ()), ())) ((), (fil (selB s) s.1.length, ()), ()) 0 s.1.length (N := fuel) (by omega)
    (fun N => by
      simp only [L45_6, B45_6]
      rw [dec_f (by omega)]
      rfl)
    (fun N i _ hi => by
      have := fil_len (selB s) i
      have hp := hu i hi
      simp only [L45_6, B45_6]
      rw [dec_t (by omega), cond_true]
      simp only [getI_gd (l := s.1) (i := (i : Int)) (by omega) (by omega)]
      rw [g75_eq s (by omega), derefK_some, lenK_in (by omega) (by simp; omega), wI (x := (i : Int) + 1) (by omega) (by omega), show (i : Int) + 1 = ((i + 1 : Nat) : Int) by omega, fil_step]
      show (bif selB s i then _ else _) = _
      cases selB s i <;> rfl)
  have e' : L45_6 fuel ((0, ()), (s, [], ()), ()) = _ := e
  show derefK (L45_6 fuel ((0, ()), (s, [], ()), ())) _ = _
  rw [e', derefK_some]

/-! ## Loops of wire -/
def lpL (l : List Brd) : List Int → Int → Int
  | [], a => a
  | x :: r, a => lpL l r (if x = -1 then a else a + (gd l x).2.2.2)
theorem lpL_app (l : List Brd) : ∀ (a b : List Int) (m : Int), lpL l (a ++ b) m = lpL l b (lpL l a m)
  | [], _, _ => rfl
  | _ :: a, b, _ => lpL_app l a b _
/-- The whole loop of a board. -/
def lps (l : List Brd) (b : Int) : Int := lpL l (chn l b) 0
theorem R76_eq {s : Sup} (hs : okS s = true) (N : Nat) : ∀ (xs : List Int), (∀ x ∈ xs, x = -1 ∨ (0 ≤ x ∧ x < s.1.length)) → ∀ a : Int, 0 ≤ a → a + 10000 * xs.length ≤ 1000000000 → R76_3 N xs (s, a, ()) = some (.norm, (lpL s.1 xs a, ()))
  | [], _, _, _, _ => rfl
  | x :: xs, hx, a, h0, h1 => by
    have ih := R76_eq hs N xs fun y hy => hx y (List.mem_cons_of_mem _ hy)
    have hx0 := hx x List.mem_cons_self
    rw [List.length_cons] at h1
    show Q76_3 N (R76_3 N xs) x s a = some (.norm, (lpL s.1 xs (if x = -1 then a else a + (gd s.1 x).2.2.2), ()))
    unfold Q76_3
    by_cases hx1 : x = -1
    · have hb : (x != -1) = false := by rw [hx1]; rfl
      rw [hb, cond_false, if_pos hx1]
      exact ih a h0 (by omega)
    · have hb : (x != -1) = true := bne_iff_ne.2 hx1
      have hbd := okS_bd hs (b := x) (by omega) (by omega)
      rw [hb, cond_true, if_neg hx1]
      simp only [enumK_eq, getI_gd (l := s.1) (i := x) (by omega) (by omega), agreeK_two, agreeK_one]
      rw [wI (by omega) (by omega)]
      exact ih _ (by omega) (by omega)
theorem lps_pos {s : Sup} (hs : okS s = true) {b : Int} (h0 : 0 ≤ b) (h1 : b < s.1.length) : 1 ≤ lps s.1 b ∧ lps s.1 b ≤ 110000 := by
  have hu := okS_up hs
  have hl := okS_le hs
  have hm := chn_mem hu b (by omega) h1
  have hlen := chn_len hu b (by omega) h1
  have key : ∀ (xs : List Int), (∀ x ∈ xs, 0 ≤ x ∧ x < s.1.length) → ∀ a : Int, a + xs.length ≤ lpL s.1 xs a ∧ lpL s.1 xs a ≤ a + 10000 * xs.length := by
    intro xs
    induction xs with
    | nil => intro _ a; simp [lpL]
    | cons x xs ih =>
      intro hx a
      have hx0 := hx x List.mem_cons_self
      have hbd := okS_bd hs hx0.1 hx0.2
      have := ih (fun y hy => hx y (List.mem_cons_of_mem _ hy)) (a + (gd s.1 x).2.2.2)
      show a + ((x :: xs).length : Nat) ≤ lpL s.1 xs (if x = -1 then a else a + (gd s.1 x).2.2.2) ∧ lpL s.1 xs (if x = -1 then a else a + (gd s.1 x).2.2.2) ≤ a + 10000 * ((x :: xs).length : Nat)
      rw [if_neg (by omega), List.length_cons]
      omega
  have := key (chn s.1 b) (fun x hx => by have := hm x hx; omega) 0
  have hne : 1 ≤ (chn s.1 b).length := by rw [chn_pos hu h0 h1]; simp
  unfold lps
  omega
/-- Whether a short circuit does not open a board's breaker at once. -/
def earB (s : Sup) (k : Nat) : Bool := decide ((s.2.2.2.2 * 1000).tdiv (lps s.1 (k : Int)) < 5 * (gd s.1 (k : Int)).2.1)
theorem okS_vo {s : Sup} (h : okS s = true) : 1 ≤ s.2.2.2.2 ∧ s.2.2.2.2 ≤ 1000 := by
  unfold okS at h
  simp only [Bool.and_eq_true, decide_eq_true_iff] at h
  exact rng_iff.1 h.2.2.2.2.1
theorem ear_c {s : Sup} (hs : okS s = true) {k : Nat} (hk : k < s.1.length) : decide (IntKind.wrap .i64 (Int.tdiv (IntKind.wrap .i64 (s.2.2.2.2 * 1000)) (lps s.1 (k : Int))) < IntKind.wrap .i64 (5 * (gd s.1 (k : Int)).2.1)) = earB s k := by
  have hv := okS_vo hs
  have hb := okS_bd hs (b := (k : Int)) (by omega) (by omega)
  have hp := lps_pos hs (b := (k : Int)) (by omega) (by omega)
  unfold earB
  rw [wI (x := s.2.2.2.2 * 1000) (by omega) (by omega), wI (x := 5 * (gd s.1 (k : Int)).2.1) (by omega) (by omega)]
  have h1 : 0 ≤ (s.2.2.2.2 * 1000).tdiv (lps s.1 (k : Int)) := Int.tdiv_nonneg (by omega) (by omega)
  have h2 : (s.2.2.2.2 * 1000).tdiv (lps s.1 (k : Int)) ≤ s.2.2.2.2 * 1000 := by
    rw [Int.tdiv_eq_ediv_of_nonneg (by omega)]
    exact Int.ediv_le_self _ (by omega)
  rw [wI (by omega) (by omega)]
theorem g76_eq {s : Sup} (hs : okS s = true) {k : Nat} (hk : k < s.1.length) : g76 ((k : Int), s, ()) = some ((earB s k, ()), ()) := by
  show F76 fuel (k : Int) s = _
  unfold F76
  have hu := okS_up hs
  have hl := okS_le hs
  have hp := lps_pos hs (b := (k : Int)) (by omega) (by omega)
  refine (up_k hu (by omega) (by omega) (by omega) (fun l6 => derefK (R76_3 fuel l6 (s, 0, ())) fun o5 => cond (X.same .norm o5.1) (nzK o5.2.1 (getI s.1 (k : Int) fun e7 => bindV (decide ((IntKind.wrap .i64 (Int.tdiv (IntKind.wrap .i64 (s.2.2.2.2 * 1000)) o5.2.1)) < (IntKind.wrap .i64 (5 * e7.2.1)))) fun z8 => some ((z8, ()), ()))) none)).trans ?_
  have hlen := chn_len hu (k : Int) (by omega) (by omega)
  rw [R76_eq hs fuel _ (fun x hm => by
    rcases List.mem_append.1 hm with h | h
    · have := chn_mem hu _ (by omega) (by omega) x h
      right; omega
    · left; simpa using h) 0 (by omega) (by rw [List.length_append]; simp; omega), derefK_some]
  have hlp : lpL s.1 (chn s.1 (k : Int) ++ [-1]) 0 = lps s.1 (k : Int) := by
    rw [lpL_app]
    rfl
  rw [hlp]
  show nzK (lps s.1 (k : Int)) _ = _
  rw [nzK_in (by omega), getI_gd (by omega) (by omega), bindV_eq, ear_c hs hk]
theorem g46_eq (s : Sup) : g46 (s, ()) = some ((if okS s then fil (earB s) s.1.length else [], if okS s then 0 else 50, ()), ()) := by
  show F46 fuel s = _
  unfold F46
  rw [g27_eq, derefK_some]
  by_cases h : okS s = true
  case neg => rw [if_neg h, if_neg h]; rfl
  rw [if_pos h, if_pos h]
  have hl := okS_le h
  show derefK (g73 (s, _, ())) _ = _
  rw [g73_eq (by omega) (q := earB s) (fun k hk => by rw [g76_eq h hk]; rfl), derefK_some]
theorem g47_eq (s : Sup) : g47 (s, ()) = some ((if okS s then fil (earB s) s.1.length else [], if okS s then 0 else 50, ()), ()) := by
  show F47 fuel s = _
  unfold F47
  rw [g28_eq, derefK_some]
  by_cases h : okS s = true
  case neg => rw [if_neg h, if_neg h]; rfl
  rw [if_pos h, if_pos h]
  have hl := okS_le h
  have hu := okS_up h
  have hfu := fuel_ge
  have key : ∀ b : Int, -1 ≤ b → b < s.1.length → ∀ (b0 : Int) (o : List Int) (a : Int) (N : Nat), b + 1 < N → 0 ≤ a → a ≤ 1000000 - 20000 * b → L47_10 N ((b0, a, b, ()), (s, o, ()), ()) = some ((b0, lpL s.1 (chn s.1 b) a, ()), (s, o, ()), ()) := by
    refine chn_ind hu ?_ ?_
    · intro b0 o a N hN _ _
      obtain ⟨N, rfl⟩ : ∃ k, N = k + 1 := ⟨N - 1, by omega⟩
      simp only [L47_10, B47_10]
      rw [dec_f (by omega), chn_neg (by omega)]
      rfl
    · intro b h0 h1 ih b0 o a N hN ha0 ha1
      obtain ⟨N, rfl⟩ : ∃ k, N = k + 1 := ⟨N - 1, by omega⟩
      have hb := okS_bd h h0 h1
      simp only [L47_10, B47_10]
      rw [dec_t (by omega), cond_true]
      simp only [getI_gd (l := s.1) (i := b) h0 h1]
      rw [wI (by omega) (by omega), ih b0 o _ N (by omega) (by omega) (by omega), chn_pos hu h0 h1]
      show some ((b0, lpL s.1 (chn s.1 (gd s.1 b).1) (a + (gd s.1 b).2.2.2), ()), (s, o, ()), ()) = some ((b0, lpL s.1 (chn s.1 (gd s.1 b).1) (if b = -1 then a else a + (gd s.1 b).2.2.2), ()), (s, o, ()), ())
      rw [if_neg (by omega)]
  have e := loopF (L := L47_6) (fun (i : Nat) => (((i : Int), ()), (s, fil (earB s) i, ()), ())) ((), (fil (earB s) s.1.length, ()), ()) 2000 s.1.length (N := fuel) (by omega)
    (fun N => by
      simp only [L47_6, B47_6]
      rw [dec_f (by omega)]
      rfl)
    (fun N i hN hi => by
      have := fil_len (earB s) i
      have hp := lps_pos h (b := (i : Int)) (by omega) (by omega)
      simp only [L47_6, B47_6]
      rw [dec_t (by omega), cond_true, key (i : Int) (by omega) (by omega) (i : Int) _ 0 N (by omega) (by omega) (by omega), derefK_some]
      show nzK (lps s.1 (i : Int)) (getI s.1 (i : Int) _) = _
      rw [nzK_in (by omega), getI_gd (by omega) (by omega)]
      show (bif decide (IntKind.wrap .i64 (Int.tdiv (IntKind.wrap .i64 (s.2.2.2.2 * 1000)) (lps s.1 (i : Int))) < IntKind.wrap .i64 (5 * (gd s.1 (i : Int)).2.1)) then lenK (((fil (earB s) i).length : Int) + ([(i : Int)].length : Nat)) (L47_6 N ((IntKind.wrap .i64 ((i : Int) + 1), ()), (s, fil (earB s) i ++ [(i : Int)], ()), ())) else L47_6 N ((IntKind.wrap .i64 ((i : Int) + 1), ()), (s, fil (earB s) i, ()), ())) = _
      rw [ear_c h hi, lenK_in (by omega) (by simp; omega), wI (x := (i : Int) + 1) (by omega) (by omega), show (i : Int) + 1 = ((i + 1 : Nat) : Int) by omega, fil_step]
      cases earB s i <;> rfl)
  have e' : L47_6 fuel ((0, ()), (s, [], ()), ()) = _ := e
  show derefK (L47_6 fuel ((0, ()), (s, [], ()), ())) _ = _
  rw [e', derefK_some]
theorem lists_law (s : Sup) : g14 (s, ()) = some ((true, ()), ()) := by
  show F14 fuel s = _
  unfold F14
  have hlen : ∀ q : Nat → Bool, (if okS s then fil q s.1.length else []).length ≤ 1000000000 := fun q => by
    by_cases h : okS s = true
    · rw [if_pos h]
      have := fil_len q s.1.length
      have := okS_le h
      omega
    · rw [if_neg h]; simp
  rw [g44_eq, g45_eq, derefK_some, derefK_some, bne_self_eq_false, cond_false]
  show derefK (g30 ((if okS s then fil (selB s) s.1.length else []), (if okS s then fil (selB s) s.1.length else []), ())) _ = _
  rw [g30_eq _ _ (hlen _), derefK_some, dec_t rfl]
  show derefK (g46 (s, ())) _ = _
  rw [g46_eq, g47_eq, derefK_some, derefK_some, beq_self_eq_true, cond_true]
  show derefK (g30 ((if okS s then fil (earB s) s.1.length else []), (if okS s then fil (earB s) s.1.length else []), ())) _ = _
  rw [g30_eq _ _ (hlen _), derefK_some, dec_t rfl]
  exact works_k
end Go.Proofs.Try.V
