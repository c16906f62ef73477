/- Plain laws of layer 8 (for buildLoads): orders. These lines are also in the text that buildFirst uses. No condition beyond those typed in each theorem. -/
import Derived.Test.YtjhphibadndkcaaLw11
namespace Go.Proofs.Try.V
open Go.Vi
set_option maxRecDepth 100000

theorem has_mem {s : List Bool} : false ∈ s ↔ ∃ i : Nat, i < s.length ∧ has s (i : Int) = false := by
  constructor
  · intro h
    obtain ⟨i, hi, e⟩ := List.mem_iff_getElem.1 h
    refine ⟨i, hi, ?_⟩
    unfold has
    rw [List.getD_eq_getElem?_getD, show ((i : Int)).toNat = i by omega, List.getElem?_eq_getElem hi, e]
    rfl
  · rintro ⟨i, hi, e⟩
    unfold has at e
    rw [List.getD_eq_getElem?_getD, show ((i : Int)).toNat = i by omega, List.getElem?_eq_getElem hi] at e
    have e : s[i] = false := e
    rw [← e]
    exact List.getElem_mem hi
abbrev none0 (k : Kit) : List Bool := List.replicate k.1.length false
def goS : List Int → List Bool → List Bool
  | [], s => s
  | p :: r, s => goS r (s.set p.toNat true)
def ordB (k : Kit) : List Bool → List Int → Bool
  | _, [] => true
  | s, p :: r => rng p 0 ((k.1.length : Int) - 1) && canB k s p && ordB k (s.set p.toNat true) r
theorem rng_in {n : Nat} {p : Int} : rng p 0 ((n : Int) - 1) = true ↔ 0 ≤ p ∧ p < n := by
  simp only [rng, Bool.and_eq_true, decide_eq_true_eq]
  omega
theorem goS_len : ∀ (l : List Int) (s : List Bool), (goS l s).length = s.length
  | [], _ => rfl
  | p :: r, s => by rw [goS, goS_len r, List.length_set]
theorem goS_app : ∀ (a b : List Int) (s : List Bool), goS (a ++ b) s = goS b (goS a s)
  | [], _, _ => rfl
  | p :: a, b, s => by rw [List.cons_append, goS, goS, goS_app a b]
theorem ordB_app (k : Kit) : ∀ (a b : List Int) (s : List Bool), ordB k s (a ++ b) = (ordB k s a && ordB k (goS a s) b)
  | [], _, _ => by simp [ordB, goS]
  | p :: a, b, s => by rw [List.cons_append, ordB, ordB, goS, ordB_app k a b, Bool.and_assoc, Bool.and_assoc, Bool.and_assoc]
theorem has_set_self {s : List Bool} {p : Int} (h0 : 0 ≤ p) (h : p < s.length) : has (s.set p.toNat true) p = true := gd_set_self h0 h
theorem has_set_up {s : List Bool} {p q : Int} (h0 : 0 ≤ p) (hq : 0 ≤ q) (hp : p < s.length) : has (s.set p.toNat true) q = (has s q || decide (q = p)) := by
  by_cases e : q = p
  · subst e; rw [has_set_self h0 hp, dec_t rfl, Bool.or_true]
  · rw [dec_f e, Bool.or_false]; exact gd_set_ne h0 hq e
theorem goS_has {n : Nat} : ∀ (l : List Int) (s : List Bool), s.length = n → (∀ p ∈ l, 0 ≤ p ∧ p < n) → ∀ q : Int, 0 ≤ q → has (goS l s) q = (has s q || decide (q ∈ l))
  | [], s, _, _, q, _ => by simp [goS]
  | p :: r, s, hs, hl, q, hq => by
    have hp := hl p List.mem_cons_self
    rw [goS, goS_has r _ (by simpa using hs) (fun x hx => hl x (List.mem_cons_of_mem _ hx)) q hq, has_set_up hp.1 hq (by omega), Bool.or_assoc]
    simp [List.mem_cons]
theorem ordB_rng {k : Kit} : ∀ {l : List Int} {s : List Bool}, ordB k s l = true → ∀ p ∈ l, 0 ≤ p ∧ p < k.1.length
  | [], _, _, p, h => by cases h
  | x :: r, s, h, p, hp => by
    simp only [ordB, Bool.and_eq_true] at h
    rcases List.mem_cons.1 hp with rfl | hp
    · exact rng_in.1 h.1.1
    · exact ordB_rng h.2 p hp
theorem ordB_count {k : Kit} : ∀ {l : List Int} {s : List Bool}, s.length = k.1.length → ordB k s l = true → (goS l s).count false + l.length = s.count false
  | [], s, _, _ => by simp [goS]
  | p :: r, s, hs, h => by
    simp only [ordB, Bool.and_eq_true] at h
    have hp := rng_in.1 h.1.1
    have h1 := ordB_count (s := s.set p.toNat true) (by simpa using hs) h.2
    have h2 := count_set_false (s := s) (p := p.toNat) (by omega) (by rw [show ((p.toNat : Nat) : Int) = p by omega]; exact canB_has h.1.2)
    rw [goS, List.length_cons]
    omega
def Stuck (k : Kit) (s : List Bool) : Prop := ∀ p : Int, 0 ≤ p → p < k.1.length → canB k s p = false
theorem firstP_none' {f : Nat → Bool} : ∀ {m p : Nat}, firstP f m p = none → ∀ q, p ≤ q → q < p + m → f q = false
  | 0, p, _, q, h1, h2 => by omega
  | m + 1, p, h, q, h1, h2 => by
    rw [firstP] at h
    cases hp : f p with
    | true => rw [hp] at h; cases h
    | false =>
      rw [hp] at h
      rcases Nat.lt_or_ge p q with h3 | h3
      · exact firstP_none' h q (by omega) (by omega)
      · rw [show q = p by omega]; exact hp
theorem count_zero_has {s : List Bool} (h : s.count false = 0) {q : Int} (h0 : 0 ≤ q) (hq : q < s.length) : has s q = true := by
  rcases hb : has s q with _ | _
  · have : false ∈ s := has_mem.2 ⟨q.toNat, by omega, by rw [show ((q.toNat : Nat) : Int) = q by omega]; exact hb⟩
    have := List.count_pos_iff.2 this
    omega
  · rfl
theorem runO_final {k : Kit} : ∀ (m : Nat) (x : OSt), x.2.length = k.1.length → x.2.count false ≤ m → Stuck k (runO k m x).2
  | 0, x, hx, hc, p, h0, hp => by
    cases h : canB k x.2 p with
    | false => exact h
    | true =>
      have h1 := canB_has h
      rw [count_zero_has (by omega) h0 (by omega)] at h1
      cases h1
  | m + 1, x, hx, hc, p, h0, hp => by
    cases e : firstP (fun p => canB k x.2 (p : Int)) k.1.length 0 with
    | none =>
      rw [runO_stuck k e]
      have := firstP_none' e p.toNat (by omega) (by omega)
      rwa [show ((p.toNat : Nat) : Int) = p by omega] at this
    | some q =>
      have hq := firstP_some e
      have h2 := count_set_false (s := x.2) (p := q) (by omega) (canB_has hq.2.2)
      have hst : stepO k x = putO x q := by unfold stepO; rw [e]
      rw [runO, hst]
      exact runO_final m (putO x q) (by simp [putO, hx]) (by simp only [putO]; omega) p h0 hp
theorem finO_stuck (k : Kit) : Stuck k (finO k).2 := runO_final k.1.length (startO k) (by simp [startO]) (by simp [startO])
theorem none0_has (k : Kit) (q : Int) : has (none0 k) q = false := by
  unfold has none0
  rw [List.getD_eq_getElem?_getD, List.getElem?_replicate]
  split <;> rfl
theorem ordB_sub {k : Kit} {f : List Bool} (hf : Stuck k f) (hfl : f.length = k.1.length) : ∀ {l : List Int} {s : List Bool}, s.length = k.1.length → (∀ q : Int, 0 ≤ q → q < k.1.length → has s q = true → has f q = true) → ordB k s l = true → (∀ p ∈ l, has f p = true) ∧ ∀ q : Int, 0 ≤ q → q < k.1.length → has (goS l s) q = true → has f q = true
  | [], s, _, hs, _ => ⟨fun p hp => (List.not_mem_nil hp).elim, hs⟩
  | p :: r, s, hsl, hs, h => by
    simp only [ordB, Bool.and_eq_true] at h
    have hp := rng_in.1 h.1.1
    have hfp : has f p = true := by
      cases e : has f p with
      | true => rfl
      | false =>
        have := canB_mono (s := f) (s' := s) (fun q hq => by
          by_cases h2 : 0 ≤ q ∧ q < k.1.length
          · exact hs q h2.1 h2.2 hq
          · by_cases h3 : 0 ≤ q
            · have h4 : has s q = false := gd_out (l := s) h3 (by omega)
              rw [h4] at hq; cases hq
            · have e0 : ∀ s : List Bool, has s q = has s 0 := fun s => by unfold has; rw [show q.toNat = 0 by omega]; rfl
              rw [e0] at hq ⊢
              exact hs 0 (by omega) (by omega) hq) e h.1.2
        rw [hf p hp.1 hp.2] at this
        cases this
    obtain ⟨h1, h2⟩ := ordB_sub hf hfl (s := s.set p.toNat true) (by simpa using hsl) (fun q h0 hq hh => by
      rw [has_set_up hp.1 h0 (by omega)] at hh
      simp only [Bool.or_eq_true, decide_eq_true_eq] at hh
      rcases hh with hh | rfl
      · exact hs q h0 hq hh
      · exact hfp) h.2
    refine ⟨fun x hx => ?_, h2⟩
    rcases List.mem_cons.1 hx with rfl | hx
    · exact hfp
    · exact h1 x hx

structure First (k : Kit) (x : OSt) : Prop where
  ord : ordB k (none0 k) x.1 = true
  set : goS x.1 (none0 k) = x.2
  low : ∀ pre p post, x.1 = pre ++ p :: post → ∀ q : Int, 0 ≤ q → q < p → canB k (goS pre (none0 k)) q = false
theorem First.step {k : Kit} {x : OSt} (h : First k x) : First k (stepO k x) := by
  unfold stepO
  cases e : firstP (fun p => canB k x.2 (p : Int)) k.1.length 0 with
  | none => exact h
  | some q =>
    have hq := firstP_some e
    refine ⟨?_, ?_, ?_⟩
    · show ordB k (none0 k) (x.1 ++ [(q : Int)]) = true
      rw [ordB_app, h.ord, h.set]
      simp only [ordB, hq.2.2, Bool.and_true, Bool.true_and]
      exact rng_in.2 ⟨by omega, by omega⟩
    · show goS (x.1 ++ [(q : Int)]) (none0 k) = x.2.set q true
      rw [goS_app, h.set, goS, goS, Int.toNat_natCast]
    · intro pre p post hpp j h0 hj
      rcases List.eq_nil_or_concat post with rfl | ⟨post', z, rfl⟩
      · obtain ⟨rfl, h2⟩ := List.append_inj' (t₁ := [(q : Int)]) (t₂ := [p]) hpp rfl
        obtain rfl : (q : Int) = p := by simpa using h2
        rw [h.set]
        obtain ⟨m, hm⟩ : ∃ m, firstP (fun p => canB k x.2 (p : Int)) k.1.length 0 = some m := ⟨q, e⟩
        cases hc : canB k x.2 j with
        | false => rfl
        | true =>
          exfalso
          have key : ∀ (d p0 : Nat), firstP (fun p => canB k x.2 (p : Int)) d p0 = some q → p0 ≤ j.toNat → False := by
            intro d
            induction d with
            | zero => intro p0 h _; cases h
            | succ d ih =>
              intro p0 h hle
              rw [firstP] at h
              cases hb : canB k x.2 (p0 : Int) with
              | true => rw [hb] at h; cases h; omega
              | false =>
                rw [hb] at h
                refine ih (p0 + 1) h ?_
                rcases Nat.lt_or_ge p0 j.toNat with h3 | h3
                · omega
                · rw [show (p0 : Int) = j by omega, hc] at hb; cases hb
          exact key _ _ e (by omega)
      · have hpp' : x.1 ++ [(q : Int)] = (pre ++ p :: post') ++ [z] := by simpa [putO] using hpp
        obtain ⟨h1, _⟩ := List.append_inj' hpp' rfl
        exact h.low pre p post' h1 j h0 hj
theorem First.run {k : Kit} : ∀ (m : Nat) {x : OSt}, First k x → First k (runO k m x)
  | 0, _, h => h
  | m + 1, _, h => First.run m h.step
theorem finO_first (k : Kit) : First k (finO k) := First.run _ ⟨rfl, rfl, fun pre p post h => by simp [startO] at h⟩
theorem finO_count (k : Kit) : (finO k).1.length + (finO k).2.count false = k.1.length := by
  have := runO_count (k := k) k.1.length (startO k) (by simp [startO])
  simpa [startO, finO] using this
end Go.Proofs.Try.V
