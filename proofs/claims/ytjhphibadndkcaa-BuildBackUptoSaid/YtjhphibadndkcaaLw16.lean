/- Plain laws of layer 8 (for buildFirst). No condition beyond those typed in each theorem. -/
import Derived.Test.YtjhphibadndkcaaLw15
namespace Go.Proofs.Try.V
open Go.Vi
set_option maxRecDepth 100000

/-! ## A list of parts, one after the other -/
def folGo (b : List Bool → Int → Bool) (n : Nat) : Nat → List Int → List Bool → Option Nat × List Bool
  | _, [], s => (none, s)
  | i, p :: r, s => bif rng p 0 ((n : Int) - 1) && b s p then folGo b n (i + 1) r (s.set p.toNat (!has s p)) else (some i, s)
def outF (x : Option Nat × List Bool) : ((Int × Int × Unit) × ((List Bool) × Unit) × Unit) ⊕ ((Unit) × ((List Bool) × Unit) × Unit) := match x.1 with
  | some j => .inl (((j : Int), 81, ()), (x.2, ()), ())
  | none => .inr ((), (x.2, ()), ())
theorem L60_2_eq' {n : Nat} (hn : n ≤ 1048576) {f : List Bool → Int → Option Bool} {b : List Bool → Int → Bool} (hf : ∀ (s : List Bool) (p : Int), s.length = n → 0 ≤ p → p < n → f s p = some (b s p)) (l : List Int) (hl : l.length ≤ 1048576) {s : List Bool} (hs : s.length = n) {N : Nat} (hN : l.length + 0 < N) :
    L60_2 N ((f, l, (l.length : Int), 0, ()), (s, ()), ()) = some (outF (folGo b n 0 l s)) := by
  obtain ⟨_, h, rfl⟩ := loop0 (L := L60_2) (fun i (s : List Bool) => ((f, l, (l.length : Int), (i : Int), ()), (s, ()), ())) (fun i s' => s'.length = n ∧ folGo b n i (l.drop i) s' = folGo b n 0 l s) (fun r => r = outF (folGo b n 0 l s)) 0 l.length (s := s) ⟨hs, rfl⟩ hN
    (by
      rintro N s' ⟨hs', e⟩
      simp only [L60_2, B60_2]
      rw [dec_f (by omega)]
      refine ⟨_, rfl, ?_⟩
      rw [← e, List.drop_length]
      rfl)
    (by
      rintro N i s' - hi ⟨hs', e⟩
      rw [drop_nat hi] at e
      simp only [L60_2, B60_2]
      rw [dec_t (by omega), cond_true, getI_nat (gd_nat hi)]
      generalize gd l (i : Int) = p at e
      rw [folGo] at e
      rw [g54_eq, derefK_some, w64 (x := (s'.length : Int) - 1) (by omega) (by omega), w64 (x := (i : Int) + 1) (by omega) (by omega), hs']
      simp only
      cases h1 : rng p 0 ((n : Int) - 1) with
      | false =>
        rw [h1] at e
        exact .inr ⟨_, rfl, by rw [← e]; rfl⟩
      | true =>
      have h1' := h1
      simp only [rng, Bool.and_eq_true, decide_eq_true_eq] at h1'
      rw [h1, Bool.true_and] at e
      rw [Bool.not_true, cond_false, hf s' p hs' h1'.1 (by omega), derefK_some]
      cases h2 : b s' p with
      | false =>
        rw [h2] at e
        exact .inr ⟨_, rfl, by rw [← e]; rfl⟩
      | true =>
        rw [h2, cond_true] at e
        refine .inl ⟨s'.set p.toNat (!has s' p), ⟨by simp [hs'], e⟩, ?_⟩
        rw [Bool.not_true, cond_false, inR_in h1'.1 (by omega), getI_has h1'.1 (by omega), inR_in h1'.1 (by omega), getI_has h1'.1 (by omega)]
        rfl)
  exact h
def folE (x : Option Nat × List Bool) : Int × Int := match x.1 with
  | some j => ((j : Int), 81)
  | none => (0, 0)
theorem g60_eq {n : Nat} (hn : n ≤ 1048576) {f : List Bool → Int → Option Bool} {b : List Bool → Int → Bool} (hf : ∀ (s : List Bool) (p : Int), s.length = n → 0 ≤ p → p < n → f s p = some (b s p)) (y : Yard) (l : List Int) (hl : l.length ≤ 1048576) {s : List Bool} (hs : s.length = n) :
    g60 (y, l, s, f, ()) = some (((folE (folGo b n 0 l s)).1, (folE (folGo b n 0 l s)).2, ()), ((folGo b n 0 l s).2, ())) := by
  have hF : g60 (y, l, s, f, ()) = F60 fuel y l s f := rfl
  rw [hF]
  unfold F60
  rw [L60_2_eq' hn hf l hl hs (by have := fuel_big; omega), derefK_some]
  unfold outF folE
  cases (folGo b n 0 l s).1 <;> rfl

abbrev none0 (k : Kit) : List Bool := List.replicate k.1.length false
def goS : List Int → List Bool → List Bool
  | [], s => s
  | p :: r, s => goS r (s.set p.toNat true)
def ordB (k : Kit) : List Bool → List Int → Bool
  | _, [] => true
  | s, p :: r => rng p 0 ((k.1.length : Int) - 1) && canB k s p && ordB k (s.set p.toNat true) r
theorem folGo_ord (k : Kit) : ∀ (l : List Int) (i : Nat) (s : List Bool), ((folGo (canB k) k.1.length i l s).1 = none ↔ ordB k s l = true) ∧ (ordB k s l = true → (folGo (canB k) k.1.length i l s).2 = goS l s)
  | [], i, s => ⟨by simp [folGo, ordB], fun _ => rfl⟩
  | p :: r, i, s => by
    unfold folGo ordB goS
    cases h : rng p 0 ((k.1.length : Int) - 1) && canB k s p with
    | false => simp
    | true =>
      rw [cond_true, Bool.true_and, canB_has (Bool.and_eq_true _ _ ▸ h).2, Bool.not_false]
      exact folGo_ord k r (i + 1) _
def chkR (k : Kit) (l : List Int) : Int × Int := bif valid k then folE (folGo (canB k) k.1.length 0 l (none0 k)) else (0, 80)
theorem g26_eq (k : Kit) (hk : Small k) (l : List Int) (hl : l.length ≤ 1048576) : g26 (k, l, ()) = some (((chkR k l).1, (chkR k l).2, ()), ()) := by
  have hF : g26 (k, l, ()) = F26 fuel k l := rfl
  rw [hF]
  unfold F26 chkR
  rcases g48_eq k hk with ⟨hv, q, h⟩ | ⟨hv, y, hy, h⟩
  · rw [h, hv]; rfl
  · have hf := fine_of k hv
    have h16 := hf.parts
    rw [h, hv, derefK_some]
    simp only [Bool.not_true, cond_false, cond_true]
    rw [leK_in (by omega), leK_in (by omega), lenK_in (by omega) (by omega), derefK_some, Int.toNat_natCast]
    rw [g60_eq (n := k.1.length) (b := canB k) (by omega) (fun s p hs h0 hp => by rw [derefK_some, g56_eq hk hf hy hs h0 hp, derefK_some]) y l hl (by simp), derefK_some]
theorem chkR_ok {k : Kit} {l : List Int} : ((chkR k l).2 != 0) = false ↔ valid k = true ∧ ordB k (none0 k) l = true := by
  unfold chkR
  cases valid k with
  | false => simp
  | true =>
    rw [cond_true, ← (folGo_ord k l 0 (none0 k)).1]
    unfold folE
    cases (folGo (canB k) k.1.length 0 l (none0 k)).1 <;> simp

theorem L27_2_eq' (l : List Int) (n : Int) (hl : l.length ≤ 1048576) {N : Nat} (hN : l.length + 0 < N) :
    L27_2 N ((l, n, 0, ()), (), ()) = some (bif decide (n ∈ l) then .inl ((true, ()), (), ()) else .inr ((), (), ())) := by
  obtain ⟨_, h, rfl⟩ := loop0 (L := L27_2) (fun i (_ : Unit) => ((l, n, (i : Int), ()), (), ())) (fun i _ => n ∉ l.take i) (fun r => r = bif decide (n ∈ l) then .inl ((true, ()), (), ()) else .inr ((), (), ())) 0 l.length (s := ()) (by simp) hN
    (by
      rintro N s h
      simp only [L27_2, B27_2]
      rw [List.take_length] at h
      rw [dec_f (by omega), dec_f h]
      exact ⟨_, rfl, rfl⟩)
    (by
      rintro N i s - hi h
      simp only [L27_2, B27_2]
      rw [dec_t (by omega), cond_true, getI_nat (gd_nat hi), w64 (by omega) (by omega), take_nat hi]
      cases e : gd l (i : Int) == n with
      | true =>
        obtain rfl : gd l (i : Int) = n := by simpa using e
        rw [dec_t (gd_mem (by omega) (by omega))]
        exact .inr ⟨_, rfl, rfl⟩
      | false =>
        refine .inl ⟨(), ?_, rfl⟩
        simp only [List.mem_append, List.mem_singleton, not_or]
        exact ⟨h, fun h => by rw [h] at e; simp at e⟩)
  exact h
theorem g27_eq (l : List Int) (n : Int) (hl : l.length ≤ 1048576) : g27 (l, n, ()) = some ((decide (n ∈ l), ()), ()) := by
  have hF : g27 (l, n, ()) = F27 fuel l n := rfl
  rw [hF]
  unfold F27
  rw [L27_2_eq' l n hl (by have := fuel_big; omega), derefK_some]
  cases decide (n ∈ l) <;> rfl

/-! ## Orders -/
theorem rng_in {n : Nat} {p : Int} : rng p 0 ((n : Int) - 1) = true ↔ 0 ≤ p ∧ p < n := by
  simp only [rng, Bool.and_eq_true, decide_eq_true_eq]
  omega
theorem goS_len : ∀ (l : List Int) (s : List Bool), (goS l s).length = s.length
  | [], _ => rfl
  | p :: r, s => by rw [goS, goS_len r, List.length_set]
theorem goS_app : ∀ (a b : List Int) (s : List Bool), goS (a ++ b) s = goS b (goS a s)
  | [], _, _ => rfl
  | p :: a, b, s => by rw [List.cons_append, goS, goS, goS_app a b]
theorem ordB_app (k : Kit) : ∀ (a b : List Int) (s : List Bool), ordB k s (a ++ b) = (ordB k s a && ordB k (goS a s) b)
  | [], _, _ => by simp [ordB, goS]
  | p :: a, b, s => by rw [List.cons_append, ordB, ordB, goS, ordB_app k a b, Bool.and_assoc, Bool.and_assoc, Bool.and_assoc]
theorem has_set_self {s : List Bool} {p : Int} (h0 : 0 ≤ p) (h : p < s.length) : has (s.set p.toNat true) p = true := gd_set_self h0 h
theorem has_set_up {s : List Bool} {p q : Int} (h0 : 0 ≤ p) (hq : 0 ≤ q) (hp : p < s.length) : has (s.set p.toNat true) q = (has s q || decide (q = p)) := by
  by_cases e : q = p
  · subst e; rw [has_set_self h0 hp, dec_t rfl, Bool.or_true]
  · rw [dec_f e, Bool.or_false]; exact gd_set_ne h0 hq e
theorem goS_has {n : Nat} : ∀ (l : List Int) (s : List Bool), s.length = n → (∀ p ∈ l, 0 ≤ p ∧ p < n) → ∀ q : Int, 0 ≤ q → has (goS l s) q = (has s q || decide (q ∈ l))
  | [], s, _, _, q, _ => by simp [goS]
  | p :: r, s, hs, hl, q, hq => by
    have hp := hl p List.mem_cons_self
    rw [goS, goS_has r _ (by simpa using hs) (fun x hx => hl x (List.mem_cons_of_mem _ hx)) q hq, has_set_up hp.1 hq (by omega), Bool.or_assoc]
    simp [List.mem_cons]
theorem ordB_rng {k : Kit} : ∀ {l : List Int} {s : List Bool}, ordB k s l = true → ∀ p ∈ l, 0 ≤ p ∧ p < k.1.length
  | [], _, _, p, h => by cases h
  | x :: r, s, h, p, hp => by
    simp only [ordB, Bool.and_eq_true] at h
    rcases List.mem_cons.1 hp with rfl | hp
    · exact rng_in.1 h.1.1
    · exact ordB_rng h.2 p hp
theorem ordB_count {k : Kit} : ∀ {l : List Int} {s : List Bool}, s.length = k.1.length → ordB k s l = true → (goS l s).count false + l.length = s.count false
  | [], s, _, _ => by simp [goS]
  | p :: r, s, hs, h => by
    simp only [ordB, Bool.and_eq_true] at h
    have hp := rng_in.1 h.1.1
    have h1 := ordB_count (s := s.set p.toNat true) (by simpa using hs) h.2
    have h2 := count_set_false (s := s) (p := p.toNat) (by omega) (by rw [show ((p.toNat : Nat) : Int) = p by omega]; exact canB_has h.1.2)
    rw [goS, List.length_cons]
    omega
/-- Nothing can be put up any more. -/
def Stuck (k : Kit) (s : List Bool) : Prop := ∀ p : Int, 0 ≤ p → p < k.1.length → canB k s p = false
theorem firstP_none' {f : Nat → Bool} : ∀ {m p : Nat}, firstP f m p = none → ∀ q, p ≤ q → q < p + m → f q = false
  | 0, p, _, q, h1, h2 => by omega
  | m + 1, p, h, q, h1, h2 => by
    rw [firstP] at h
    cases hp : f p with
    | true => rw [hp] at h; cases h
    | false =>
      rw [hp] at h
      rcases Nat.lt_or_ge p q with h3 | h3
      · exact firstP_none' h q (by omega) (by omega)
      · rw [show q = p by omega]; exact hp
theorem count_zero_has {s : List Bool} (h : s.count false = 0) {q : Int} (h0 : 0 ≤ q) (hq : q < s.length) : has s q = true := by
  rcases hb : has s q with _ | _
  · have : false ∈ s := has_mem.2 ⟨q.toNat, by omega, by rw [show ((q.toNat : Nat) : Int) = q by omega]; exact hb⟩
    have := List.count_pos_iff.2 this
    omega
  · rfl
theorem runO_final {k : Kit} : ∀ (m : Nat) (x : OSt), x.2.length = k.1.length → x.2.count false ≤ m → Stuck k (runO k m x).2
  | 0, x, hx, hc, p, h0, hp => by
    cases h : canB k x.2 p with
    | false => exact h
    | true =>
      have h1 := canB_has h
      rw [count_zero_has (by omega) h0 (by omega)] at h1
      cases h1
  | m + 1, x, hx, hc, p, h0, hp => by
    cases e : firstP (fun p => canB k x.2 (p : Int)) k.1.length 0 with
    | none =>
      rw [runO_stuck k e]
      have := firstP_none' e p.toNat (by omega) (by omega)
      rwa [show ((p.toNat : Nat) : Int) = p by omega] at this
    | some q =>
      have hq := firstP_some e
      have h2 := count_set_false (s := x.2) (p := q) (by omega) (canB_has hq.2.2)
      have hst : stepO k x = putO x q := by unfold stepO; rw [e]
      rw [runO, hst]
      exact runO_final m (putO x q) (by simp [putO, hx]) (by simp only [putO]; omega) p h0 hp
theorem finO_stuck (k : Kit) : Stuck k (finO k).2 := runO_final k.1.length (startO k) (by simp [startO]) (by simp [startO])
theorem none0_has (k : Kit) (q : Int) : has (none0 k) q = false := by
  unfold has none0
  rw [List.getD_eq_getElem?_getD, List.getElem?_replicate]
  split <;> rfl
theorem ordB_sub {k : Kit} {f : List Bool} (hf : Stuck k f) (hfl : f.length = k.1.length) : ∀ {l : List Int} {s : List Bool}, s.length = k.1.length → (∀ q : Int, 0 ≤ q → q < k.1.length → has s q = true → has f q = true) → ordB k s l = true → (∀ p ∈ l, has f p = true) ∧ ∀ q : Int, 0 ≤ q → q < k.1.length → has (goS l s) q = true → has f q = true
  | [], s, _, hs, _ => ⟨fun p hp => (List.not_mem_nil hp).elim, hs⟩
  | p :: r, s, hsl, hs, h => by
    simp only [ordB, Bool.and_eq_true] at h
    have hp := rng_in.1 h.1.1
    have hfp : has f p = true := by
      cases e : has f p with
      | true => rfl
      | false =>
        have := canB_mono (s := f) (s' := s) (fun q hq => by
          by_cases h2 : 0 ≤ q ∧ q < k.1.length
          · exact hs q h2.1 h2.2 hq
          · by_cases h3 : 0 ≤ q
            · have h4 : has s q = false := gd_out (l := s) h3 (by omega)
              rw [h4] at hq; cases hq
            · have e0 : ∀ s : List Bool, has s q = has s 0 := fun s => by unfold has; rw [show q.toNat = 0 by omega]; rfl
              rw [e0] at hq ⊢
              exact hs 0 (by omega) (by omega) hq) e h.1.2
        rw [hf p hp.1 hp.2] at this
        cases this
    obtain ⟨h1, h2⟩ := ordB_sub hf hfl (s := s.set p.toNat true) (by simpa using hsl) (fun q h0 hq hh => by
      rw [has_set_up hp.1 h0 (by omega)] at hh
      simp only [Bool.or_eq_true, decide_eq_true_eq] at hh
      rcases hh with hh | rfl
      · exact hs q h0 hq hh
      · exact hfp) h.2
    refine ⟨fun x hx => ?_, h2⟩
    rcases List.mem_cons.1 hx with rfl | hx
    · exact hfp
    · exact h1 x hx

/-- The first order: it is one, and each of its parts is the lowest that can be put up. -/
structure First (k : Kit) (x : OSt) : Prop where
  ord : ordB k (none0 k) x.1 = true
  set : goS x.1 (none0 k) = x.2
  low : ∀ pre p post, x.1 = pre ++ p :: post → ∀ q : Int, 0 ≤ q → q < p → canB k (goS pre (none0 k)) q = false
theorem First.step {k : Kit} {x : OSt} (h : First k x) : First k (stepO k x) := by
  unfold stepO
  cases e : firstP (fun p => canB k x.2 (p : Int)) k.1.length 0 with
  | none => exact h
  | some q =>
    have hq := firstP_some e
    refine ⟨?_, ?_, ?_⟩
    · show ordB k (none0 k) (x.1 ++ [(q : Int)]) = true
      rw [ordB_app, h.ord, h.set]
      simp only [ordB, hq.2.2, Bool.and_true, Bool.true_and]
      exact rng_in.2 ⟨by omega, by omega⟩
    · show goS (x.1 ++ [(q : Int)]) (none0 k) = x.2.set q true
      rw [goS_app, h.set, goS, goS, Int.toNat_natCast]
    · intro pre p post hpp j h0 hj
      rcases List.eq_nil_or_concat post with rfl | ⟨post', z, rfl⟩
      · obtain ⟨rfl, h2⟩ := List.append_inj' (t₁ := [(q : Int)]) (t₂ := [p]) hpp rfl
        obtain rfl : (q : Int) = p := by simpa using h2
        rw [h.set]
        obtain ⟨m, hm⟩ : ∃ m, firstP (fun p => canB k x.2 (p : Int)) k.1.length 0 = some m := ⟨q, e⟩
        cases hc : canB k x.2 j with
        | false => rfl
        | true =>
          exfalso
          have key : ∀ (d p0 : Nat), firstP (fun p => canB k x.2 (p : Int)) d p0 = some q → p0 ≤ j.toNat → False := by
            intro d
            induction d with
            | zero => intro p0 h _; cases h
            | succ d ih =>
              intro p0 h hle
              rw [firstP] at h
              cases hb : canB k x.2 (p0 : Int) with
              | true => rw [hb] at h; cases h; omega
              | false =>
                rw [hb] at h
                refine ih (p0 + 1) h ?_
                rcases Nat.lt_or_ge p0 j.toNat with h3 | h3
                · omega
                · rw [show (p0 : Int) = j by omega, hc] at hb; cases hb
          exact key _ _ e (by omega)
      · have hpp' : x.1 ++ [(q : Int)] = (pre ++ p :: post') ++ [z] := by simpa [putO] using hpp
        obtain ⟨h1, _⟩ := List.append_inj' hpp' rfl
        exact h.low pre p post' h1 j h0 hj
theorem First.run {k : Kit} : ∀ (m : Nat) {x : OSt}, First k x → First k (runO k m x)
  | 0, _, h => h
  | m + 1, _, h => First.run m h.step
theorem finO_first (k : Kit) : First k (finO k) := First.run _ ⟨rfl, rfl, fun pre p post h => by simp [startO] at h⟩
theorem finO_count (k : Kit) : (finO k).1.length + (finO k).2.count false = k.1.length := by
  have := runO_count (k := k) k.1.length (startO k) (by simp [startO])
  simpa [startO, finO] using this

theorem L6_15_eq' (k : Kit) (l best never : List Int) (e : Int) (hl : l.length ≤ 1048576) (hn : never.length ≤ 1048576) (hno : ∀ x ∈ l, x ∉ never) {N : Nat} (hN : l.length + 0 < N) :
    L6_15 N ((l, e, 0, ()), (k, best, never, ()), ()) = some (.inr ((l, e, ()), (k, best, ()), ())) := by
  exact loopF (L := L6_15) (fun i => ((l, e, (i : Int), ()), (k, best, never, ()), ())) (.inr ((l, e, ()), (k, best, ()), ())) 0 l.length hN
    (fun N => by
      simp only [L6_15, B6_15]
      rw [dec_f (by omega)]
      rfl)
    (fun N i _ hi => by
      simp only [L6_15, B6_15]
      rw [dec_t (by omega), cond_true, getI_nat (gd_nat hi), w64 (by omega) (by omega), g27_eq _ _ hn, derefK_some, dec_f (hno _ (gd_mem (by omega) (by omega)))]
      rfl)
theorem L6_24_eq' (l best : List Int) (hl : l.length ≤ 1048576) (hb : best.length = l.length) (hlow : ∀ pre p q post post', l = pre ++ p :: post → best = pre ++ q :: post' → q ≤ p) {N : Nat} (hN : l.length + 0 < N) :
    ∃ r, L6_24 N ((l, 0, ()), (best, ()), ()) = some r ∧ (r = .inl ((true, ()), (), ()) ∨ r = .inr ((), (), ())) :=
  loop0 (L := L6_24) (fun i (_ : Unit) => ((l, (i : Int), ()), (best, ()), ())) (fun i _ => l.take i = best.take i) (fun r => r = .inl ((true, ()), (), ()) ∨ r = .inr ((), (), ())) 0 l.length (s := ()) rfl hN
    (by
      rintro N s -
      simp only [L6_24, B6_24]
      rw [dec_f (by omega)]
      exact ⟨_, rfl, .inr rfl⟩)
    (by
      rintro N i s - hi h
      simp only [L6_24, B6_24]
      rw [dec_t (by omega), cond_true, getI_nat (gd_nat hi), inR_in (by omega) (by omega), getI_nat (gd_nat (by omega))]
      cases e : gd l (i : Int) != gd best (i : Int) with
      | true =>
        have e' : gd l (i : Int) ≠ gd best (i : Int) := by simpa using e
        have := hlow (l.take i) (gd l (i : Int)) (gd best (i : Int)) (l.drop (i + 1)) (best.drop (i + 1)) (by rw [← drop_nat hi, List.take_append_drop]) (by rw [h, ← drop_nat (by omega), List.take_append_drop])
        rw [cond_true, getI_nat (gd_nat hi), inR_in (by omega) (by omega), getI_nat (gd_nat (by omega)), dec_t (by omega), cond_true, works_eq]
        exact .inr ⟨_, rfl, .inl rfl⟩
      | false =>
        have e' : gd l (i : Int) = gd best (i : Int) := by simpa using e
        refine .inl ⟨(), ?_, ?_⟩
        · show l.take (i + 1) = best.take (i + 1)
          rw [take_nat hi, take_nat (by omega), h, e']
        · rw [cond_false, w64 (by omega) (by omega)]
          rfl)

theorem never_nil {k : Kit} : (rangeI k.1.length).filter (fun p => !has (finO k).2 p) = [] ↔ (finO k).1.length = k.1.length := by
  have hc := finO_count k
  have hl := (finO_len k).1
  rw [List.filter_eq_nil_iff]
  constructor
  · intro h
    rcases Nat.eq_zero_or_pos ((finO k).2.count false) with h0 | h0
    · omega
    · obtain ⟨i, hi, e⟩ := has_mem.1 (List.count_pos_iff.1 h0)
      exact absurd (by rw [e]; rfl) (h (i : Int) (rangeI_mem.2 ⟨by omega, by omega⟩))
  · intro h p hp
    have hp' := rangeI_mem.1 hp
    rw [count_zero_has (by omega) hp'.1 (by omega)]
    simp
theorem law6 (k : Kit) (hk : Small k) (l : List Int) (hl : l.length ≤ 1048576) : g6 (k, l, ()) = some ((true, ()), ()) := by
  have hF : g6 (k, l, ()) = F6 fuel k l := rfl
  have hfu := fuel_big
  have hkp := hk.parts
  rw [hF]
  unfold F6
  have hnl := neverR_len k hk
  rw [g16_eq k hk, g19_eq k hk, derefK_some, derefK_some]
  have fin : ∀ b : Bool, (ordB k (none0 k) l = true) → valid k = true → (∀ x ∈ l, x ∉ (neverR k).1) ∧ ((goS l (none0 k)).count false = 0 → (finO k).1.length = k.1.length) := by
    intro b ho hv
    have hfl := (finO_len k).1
    obtain ⟨h1, h2⟩ := ordB_sub (finO_stuck k) hfl (s := none0 k) (by simp) (fun q _ _ h => by rw [none0_has] at h; cases h) ho
    refine ⟨fun x hx hn => ?_, fun hc => ?_⟩
    · unfold neverR at hn
      rw [hv, cond_true] at hn
      have := (List.mem_filter.1 hn).2
      rw [h1 x hx] at this
      cases this
    · have := finO_count k
      rcases Nat.eq_zero_or_pos ((finO k).2.count false) with h0 | h0
      · omega
      · obtain ⟨i, hi, e⟩ := has_mem.1 (List.count_pos_iff.1 h0)
        have h3 := h2 (i : Int) (by omega) (by omega) (count_zero_has hc (by omega) (by rw [goS_len]; simp; omega))
        rw [e] at h3; cases h3
  rcases orderR_cases k with ⟨hv, ho⟩ | ⟨hv, hlt, ho⟩ | ⟨hv, hfull, ho⟩
  · have hn : (neverR k).2 = 80 := by unfold neverR; rw [hv]; rfl
    rw [ho, hn]
    simp only [show ((80 : Int) != 0) = true from rfl, cond_true, beq_self_eq_true]
    rw [works_eq]
    rfl
  · have hn : (neverR k).2 = 0 := by unfold neverR; rw [hv]; rfl
    have hn1 : ((((neverR k).1.length : Nat) : Int) == 0) = false := by
      have : (neverR k).1 ≠ [] := by
        unfold neverR
        rw [hv, cond_true]
        exact fun h => by have := never_nil.1 h; omega
      have := List.length_pos_iff.2 this
      simp only [beq_eq_false_iff_ne, ne_eq]
      omega
    rw [ho, hn]
    simp only [hn1, show ((3 : Int) == 0) = false from rfl, bne_self_eq_false, cond_false, beq_self_eq_true, Bool.not_true, show ((3 : Int) != 0) = true from rfl, cond_true]
    rw [g26_eq k hk l hl, derefK_some]
    simp only
    cases hc : (chkR k l).2 != 0 with
    | true => rw [cond_true, works_eq]; rfl
    | false =>
      obtain ⟨_, hob⟩ := chkR_ok.1 hc
      obtain ⟨f1, f2⟩ := fin true hob hv
      have hcnt := ordB_count (k := k) (by simp) hob
      rw [cond_false, L6_15_eq' k l [] (neverR k).1 3 hl hnl f1 (by omega), derefK_some, sumK_inr]
      simp only
      have : l.length < k.1.length := by
        rcases Nat.lt_or_ge l.length k.1.length with h | h
        · exact h
        · simp only [none0, List.count_replicate_self] at hcnt
          have := f2 (by simp only [none0]; omega)
          omega
      rw [dec_t (by omega), cond_true, works_eq]
      rfl
  · have hn : (neverR k).2 = 0 := by unfold neverR; rw [hv]; rfl
    have hn1 : (neverR k).1 = [] := by
      unfold neverR
      rw [hv, cond_true]
      exact never_nil.2 hfull
    have hfo := finO_first k
    have hbest : ((chkR k (finO k).1).2 != 0) = false := chkR_ok.2 ⟨hv, hfo.ord⟩
    rw [ho, hn, hn1]
    simp only [List.length_nil, bne_self_eq_false, cond_false, beq_self_eq_true, Bool.not_true, cond_true, Int.ofNat_zero]
    rw [g26_eq k hk _ (by omega), derefK_some]
    simp only
    rw [hbest, cond_false, hfull, bne_self_eq_false, cond_false, g26_eq k hk l hl, derefK_some]
    simp only
    cases hc : (chkR k l).2 != 0 with
    | true => rw [cond_true, works_eq]; rfl
    | false =>
      obtain ⟨_, hob⟩ := chkR_ok.1 hc
      obtain ⟨f1, f2⟩ := fin true hob hv
      have hcnt := ordB_count (k := k) (by simp) hob
      simp only [none0, List.count_replicate_self] at hcnt
      rw [hn1] at f1
      rw [cond_false, L6_15_eq' k l _ [] 0 hl (by simp) f1 (by omega), derefK_some, sumK_inr]
      simp only
      by_cases hlt : l.length < k.1.length
      · rw [dec_t (by omega), cond_true, works_eq]; rfl
      · rw [dec_f (by omega), cond_false]
        simp only [bne_self_eq_false, cond_false]
        rw [dec_f (by omega), cond_false]
        obtain ⟨r, hr, hq⟩ := L6_24_eq' l (finO k).1 hl (by omega) (fun pre p q post post' e1 e2 => by
          have h1 := hfo.low pre q post' e2 p
          rw [e1, ordB_app] at hob
          simp only [ordB, Bool.and_eq_true] at hob
          have hp := rng_in.1 hob.2.1.1
          rcases Int.lt_or_le p q with h | h
          · have := h1 hp.1 h
            rw [hob.2.1.2] at this
            cases this
          · exact h) (N := fuel) (by omega)
        rw [hr, derefK_some]
        rcases hq with rfl | rfl
        · rfl
        · rw [sumK_inr, works_eq]; rfl
end Go.Proofs.Try.V
