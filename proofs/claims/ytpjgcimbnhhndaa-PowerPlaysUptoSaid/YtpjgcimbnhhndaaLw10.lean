/- Plain laws of layer 5, tenth part: the look at the examples; Shed by the document; the laws of Shed. No condition beyond those typed in each theorem. -/
import Derived.Test.YtpjgcimbnhhndaaLw9
namespace Go.Proofs.Try.V
open Go.Vi
set_option maxRecDepth 100000

theorem g30_eq (a b : List Int) (ha : a.length ≤ 1000000000) : g30 (a, b, ()) = some ((decide (a = b), ()), ()) := by
  show F30 fuel a b = _
  unfold F30
  have hf := fuel_ge
  by_cases hl : a.length = b.length
  case neg =>
    have : ((a.length : Int) != (b.length : Int)) = true := bne_iff_ne.2 (by omega)
    rw [this, cond_true, dec_f (fun e => hl (by rw [e]))]
  have : ((a.length : Int) != (b.length : Int)) = false := by rw [hl]; simp
  rw [this, cond_false]
  have e := loopNum (L := L30_4) (fun i => ((a, b, (i : Int), ()), (), ())) a.length (fun i => gd a (i : Int) == gd b (i : Int)) (.inl ((false, ()), (), ())) (.inr ((), (), ())) 0 (N := fuel) (by omega)
    (fun N => by simp [L30_4, B30_4])
    (fun N i _ hi => by
      simp only [L30_4, B30_4]
      rw [dec_t (by omega), cond_true, getI_gd (by omega) (by omega), getI_gd (by omega) (by omega), wI (by omega) (by omega)]
      by_cases h : gd a (i : Int) = gd b (i : Int)
      · have h1 : (gd a (i : Int) != gd b (i : Int)) = false := by rw [h]; simp
        have h2 : (gd a (i : Int) == gd b (i : Int)) = true := by rw [h]; simp
        rw [h1, h2]
        rfl
      · have h1 : (gd a (i : Int) != gd b (i : Int)) = true := bne_iff_ne.2 h
        have h2 : (gd a (i : Int) == gd b (i : Int)) = false := beq_eq_false_iff_ne.2 h
        rw [h1, h2]
        rfl)
  have e' : L30_4 fuel ((a, b, 0, ()), (), ()) = _ := e
  rw [e', derefK_some]
  have hb : ((List.range a.length).all fun i => gd a (i : Int) == gd b (i : Int)) = decide (a = b) := by
    by_cases h : a = b
    · subst h
      rw [dec_t rfl, List.all_eq_true]
      intro i _
      simp
    · rw [dec_f h, Bool.eq_false_iff]
      intro hh
      rw [List.all_eq_true] at hh
      exact h (ext_gd hl fun i hi => by simpa using hh i (List.mem_range.2 hi))
  rw [hb]
  cases decide (a = b) <;> rfl
def exS : Sup := ([(-1, 32, 4, 100), (0, 16, 1, 400)], [(1, 0, 10, 3), (1, 0, 8, 5), (0, 1, 30, 1)], 63, 6, 230)
def exW : List Swi := [(0, 1, 0), (1, 1, 1)]
theorem ex_ck : ckW exS 5 exW = 0 := by decide
theorem ex_rows : (ply exS exW 5).rows = [1, 3, 3, 0, 0] := by decide
theorem ex_okC : okC exS 3 = 0 := by decide
theorem ex_m {m : Nat} (h : ShOK exS 3 m) : m = 1 ∧ rk exS m = 3 := by
  have f1 : feas exS 3 1 := ⟨by decide, by decide⟩
  have h1 : le3 exS m 1 := h.min 1 f1
  have hle : m ≤ 3 := sub_le h.fe.1
  have f0 : m ≠ 0 := fun e => by
    have := h.fe.2
    rw [e] at this
    revert this
    decide
  have hr : ∀ n : Nat, n < 4 → n ≠ 0 → n ≠ 1 → ¬ (rk exS n < rk exS 1 ∨ (rk exS n = rk exS 1 ∧ (ct n < ct 1 ∨ (ct n = ct 1 ∧ n ≤ 1)))) := by decide
  have : m = 1 := by
    by_cases e : m = 1
    · exact e
    · exact absurd h1 (hr m (by omega) f0 e)
  exact ⟨this, by rw [this]; decide⟩
theorem works_eq : g18 () = some ((true, ()), ()) := by
  show F18 fuel = _
  unfold F18
  have e52 : g52 () = some ((exS, ()), ()) := rfl
  rw [e52, derefK_some]
  have e23 := g23_eq exS 5 exW
  rw [ex_ck, if_pos rfl] at e23
  have hr : (ply exS exW (5 : Int).toNat).rows = [1, 3, 3, 0, 0] := ex_rows
  rw [hr] at e23
  refine (derefK_of e23 _).trans ?_
  show (derefK (some ((exS, ()), ())) _) = _
  rw [derefK_some]
  rcases g19_eq exS 3 with ⟨h, _⟩ | ⟨S, hS, _, _, _, ⟨h, _⟩ | ⟨_, m, hm, e19⟩⟩
  · exact absurd ex_okC h
  · obtain rfl : S = 3 := by omega
    exact absurd h (by decide)
  · obtain rfl : S = 3 := by omega
    obtain ⟨rfl, hk⟩ := ex_m hm
    rw [hk] at e19
    refine (derefK_of e19 _).trans ?_
    have e30 := g30_eq [1, 3, 3, 0, 0] [1, 3, 3, 0, 0] (by simp)
    rw [dec_t rfl] at e30
    show (derefK (g30 ([1, 3, 3, 0, 0], [1, 3, 3, 0, 0], ())) _) = _
    rw [e30]
    rfl
theorem works_k : (derefK (g18 ()) fun y => some ((y.1.1, ()), ())) = some ((true, ()), ()) := by
  rw [works_eq]
  rfl

/-! ## Shed by the document -/
theorem g20_eq (s : Sup) (set : Int) : (okC s set ≠ 0 ∧ g20 (s, set, ()) = some ((0, 0, okC s set, ()), ())) ∨
    ∃ S : Nat, set = (S : Int) ∧ okC s set = 0 ∧ okS s = true ∧ S < 2 ^ s.2.1.length ∧ ((12 < ct S ∧ g20 (s, set, ()) = some ((0, 0, 2, ()), ())) ∨ (ct S ≤ 12 ∧ ∃ m : Nat, ShOK s S m ∧ g20 (s, set, ()) = some (((m : Int), rk s m, 0, ()), ()))) := by
  by_cases hc : okC s set = 0
  case neg =>
    left
    refine ⟨hc, ?_⟩
    show F20 fuel s set = _
    unfold F20
    have : (okC s set != 0) = true := bne_iff_ne.2 hc
    rw [g56_eq, derefK_some]
    show (bif okC s set != 0 then _ else _) = _
    rw [this]
    rfl
  right
  obtain ⟨h, S, rfl, hS⟩ := okC_0 hc
  have hl := okS_le h
  have hp := pow16 hl.2
  have hf := fuel_ge
  refine ⟨S, rfl, hc, h, hS, ?_⟩
  have e0 : (okC s (S : Int) != 0) = false := by rw [hc]; rfl
  have hlt : ∀ {x : Nat}, x ≤ S → x < 2 ^ s.2.1.length := fun hx => by omega
  by_cases h12 : 12 < ct S
  · left
    refine ⟨h12, ?_⟩
    show F20 fuel s (S : Int) = _
    unfold F20
    rw [g56_eq, derefK_some]
    show (bif okC s (S : Int) != 0 then _ else _) = _
    rw [e0, cond_false, g35_eq h hS, derefK_some]
    show (bif decide ((ct S : Int) > 12) then _ else _) = _
    rw [dec_t (by omega)]
    rfl
  · right
    refine ⟨by omega, ?_⟩
    obtain ⟨r, e, m, hm, rfl⟩ := loop0 (L := L20_9) (fun i (b : Nat) => (((S : Int), (b : Int), (i : Int), ()), (s, ()), ())) (fun i b => feas s S b ∧ b ≤ S ∧ (∀ x, x < i → feas s S x → le3 s b x)) (fun r => ∃ m : Nat, (ShOK s S m ∧ m ≤ S) ∧ r = (((m : Int), ()), (s, ()), ())) 2000 (S + 1) (N := fuel) (s := S) ⟨feas_all h S, Nat.le_refl _, fun x hx => by omega⟩ (by omega)
      (fun N b hb => by
        refine ⟨(((b : Int), ()), (s, ()), ()), ?_, b, ⟨⟨hb.1, fun x hx => hb.2.2 x (by have := sub_le hx.1; omega) hx⟩, hb.2.1⟩, rfl⟩
        simp only [L20_9, B20_9]
        rw [dec_f (by omega)]
        rfl)
      (fun N i b hN hi hb => by
        left
        have hskip : ¬ feas s S i → ∃ s', (feas s S s' ∧ s' ≤ S ∧ (∀ x, x < i + 1 → feas s S x → le3 s s' x)) ∧ L20_9 N (((S : Int), (b : Int), ((i + 1 : Nat) : Int), ()), (s, ()), ()) = L20_9 N (((S : Int), (s' : Int), ((i + 1 : Nat) : Int), ()), (s, ()), ()) := fun hn =>
          ⟨b, ⟨hb.1, hb.2.1, fun x hx hfx => by
            by_cases e : x = i
            · exact absurd (e ▸ hfx) hn
            · exact hb.2.2 x (by omega) hfx⟩, rfl⟩
        have hkeep : le3 s b i → ∃ s', (feas s S s' ∧ s' ≤ S ∧ (∀ x, x < i + 1 → feas s S x → le3 s s' x)) ∧ L20_9 N (((S : Int), (b : Int), ((i + 1 : Nat) : Int), ()), (s, ()), ()) = L20_9 N (((S : Int), (s' : Int), ((i + 1 : Nat) : Int), ()), (s, ()), ()) := fun hn =>
          ⟨b, ⟨hb.1, hb.2.1, fun x hx hfx => by
            by_cases e : x = i
            · rw [e]; exact hn
            · exact hb.2.2 x (by omega) hfx⟩, rfl⟩
        have hw : IntKind.wrap .i64 ((i : Int) + 1) = ((i + 1 : Nat) : Int) := by rw [wI (by omega) (by omega)]; omega
        simp only [L20_9, B20_9]
        rw [dec_t (by omega), cond_true, and_n (by omega) (by omega), hw]
        by_cases hsub : i &&& S = i
        case neg =>
          have : (((i &&& S : Nat) : Int) != (i : Int)) = true := bne_iff_ne.2 fun e => hsub (by omega)
          rw [this, cond_true]
          exact hskip fun hh => hsub hh.1
        have e1 : (((i &&& S : Nat) : Int) != (i : Int)) = false := by rw [hsub]; simp
        have hd := sub_dif S i hsub
        rw [e1, cond_false, wI (x := (S : Int) - (i : Int)) (by omega) (by omega), show (S : Int) - (i : Int) = ((dif S i : Nat) : Int) by omega, g57_eq h (by omega), derefK_some]
        show ∃ s', _ ∧ (bif (foR s (dif S i)).2.1 then _ else _) = _
        rw [foR_1]
        cases hfo : fo s (dif S i) with
        | some z =>
          exact hskip fun hh => by rw [hh.2] at hfo; cases hfo
        | none =>
          have hfe : feas s S i := ⟨hsub, hfo⟩
          have hnew : le3 s i b → ∃ s', (feas s S s' ∧ s' ≤ S ∧ (∀ x, x < i + 1 → feas s S x → le3 s s' x)) ∧ L20_9 N (((S : Int), (i : Int), ((i + 1 : Nat) : Int), ()), (s, ()), ()) = L20_9 N (((S : Int), (s' : Int), ((i + 1 : Nat) : Int), ()), (s, ()), ()) := fun hn =>
            ⟨i, ⟨hfe, by omega, fun x hx hfx => by
              by_cases e : x = i
              · rw [e]; exact le3_refl s i
              · exact le3_trans hn (hb.2.2 x (by omega) hfx)⟩, rfl⟩
          rw [Option.isSome_none, cond_false, g35_eq h (hlt (by omega)), derefK_some, g35_eq h (hlt hb.2.1), derefK_some]
          simp only []
          by_cases h1 : rk s i < rk s b
          · rw [dec_t h1, cond_true]
            exact hnew (.inl h1)
          · rw [dec_f h1, cond_false]
            by_cases h2 : rk s i = rk s b
            · have e2 : (rk s i == rk s b) = true := by simp [h2]
              rw [e2, cond_true]
              by_cases h3 : ct i < ct b
              · rw [dec_t (p := (ct i : Int) < (ct b : Int)) (by omega), cond_true]
                exact hnew (.inr ⟨h2, .inl h3⟩)
              · rw [dec_f (p := (ct i : Int) < (ct b : Int)) (by omega), cond_false]
                by_cases h4 : ct i = ct b
                · have e4 : ((ct i : Int) == (ct b : Int)) = true := by simp [h4]
                  rw [e4, cond_true]
                  by_cases h5 : i < b
                  · rw [dec_t (p := (i : Int) < (b : Int)) (by omega), cond_true]
                    exact hnew (.inr ⟨h2, .inr ⟨h4, by omega⟩⟩)
                  · rw [dec_f (p := (i : Int) < (b : Int)) (by omega), cond_false]
                    exact hkeep (.inr ⟨h2.symm, .inr ⟨h4.symm, by omega⟩⟩)
                · have e4 : ((ct i : Int) == (ct b : Int)) = false := beq_eq_false_iff_ne.2 (by omega)
                  rw [e4, cond_false]
                  exact hkeep (.inr ⟨h2.symm, .inl (by omega)⟩)
            · have e2 : (rk s i == rk s b) = false := beq_eq_false_iff_ne.2 h2
              rw [e2, cond_false]
              exact hkeep (.inl (by omega)))
    refine ⟨m, hm.1, ?_⟩
    show F20 fuel s (S : Int) = _
    unfold F20
    rw [g56_eq, derefK_some]
    show (bif okC s (S : Int) != 0 then _ else _) = _
    rw [e0, cond_false, g35_eq h hS, derefK_some]
    show (bif decide ((ct S : Int) > 12) then _ else _) = _
    rw [dec_f (by omega), cond_false]
    have e' : L20_9 fuel (((S : Int), (S : Int), 0, ()), (s, ()), ()) = _ := e
    rw [e', derefK_some]
    refine (derefK_of (g35_eq h (hlt hm.2)) _).trans ?_
    rfl

/-! ## The laws of Shed -/
theorem sheds_law (s : Sup) (set : Int) : g3 (s, set, ()) = some ((true, ()), ()) := by
  show F3 fuel s set = _
  unfold F3
  obtain ⟨b, hb⟩ := g17_eq set
  rw [hb, derefK_some]
  have hgo : ∀ x n e : Int, g19 (s, set, ()) = some ((x, n, e, ()), ()) → g20 (s, set, ()) = some ((x, n, e, ()), ()) → (derefK (g19 (s, set, ())) fun y3 => derefK (g20 (s, set, ())) fun y4 => bif y3.1.1 == y4.1.1 then bif y3.1.2.1 == y4.1.2.1 then bif y3.1.2.2.1 == y4.1.2.2.1 then derefK (g18 ()) fun y5 => some ((y5.1.1, ()), ()) else some ((false, ()), ()) else some ((false, ()), ()) else some ((false, ()), ())) = some ((true, ()), ()) := fun x n e h1 h2 => by
    rw [h1, h2, derefK_some, derefK_some, beq_self_eq_true, beq_self_eq_true, beq_self_eq_true]
    exact works_k
  cases b with
  | true => exact works_k
  | false =>
    rw [cond_false]
    rcases g19_eq s set with ⟨h, e⟩ | ⟨S, rfl, hc, h, hS, h19⟩
    · rcases g20_eq s set with ⟨_, e2⟩ | ⟨_, _, hc, _⟩
      · exact hgo _ _ _ e e2
      · exact absurd hc h
    · rcases g20_eq s (S : Int) with ⟨h2, _⟩ | ⟨S', e, _, _, _, h20⟩
      · exact absurd hc h2
      · obtain rfl : S = S' := by omega
        rcases h19 with ⟨h1, e1⟩ | ⟨h1, m, hm, e1⟩
        · rcases h20 with ⟨h2, e2⟩ | ⟨h2, m', hm', e2⟩
          · exact hgo _ _ _ e1 e2
          · omega
        · rcases h20 with ⟨h2, e2⟩ | ⟨h2, m', hm', e2⟩
          · omega
          · obtain rfl := hm.uniq hm'
            exact hgo _ _ _ e1 e2
end Go.Proofs.Try.V
