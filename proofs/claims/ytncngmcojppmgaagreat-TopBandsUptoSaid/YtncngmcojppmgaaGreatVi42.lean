/- The abstract interpreter 'Vi', forty-second part: functions that call themselves through a variable that they have captured. No condition beyond those typed in each theorem. -/
import Derived.Test.YtncngmcojppmgaaGreatViC
namespace Go.Vi
section
variable {P : Program} {cfg : jM} {w : World} {H : FH}
theorem args_m : ∀ {ps : List jZ} {d : PDens ps} {vs : List Value} {Φs : List qC} (i : Nat), jU P w H ps d vs Φs → ∀ (j : Nat) (τ : Ty) (u : Value), ps[j]? = some (.m τ) → vs[j]? = some u → ∃ φ, (pid (i + j), φ) ∈ qay ps Φs i ∧ u = .pointer (some ⟨φ.b, 0, none⟩)
 | [], _, _, _, _, _, _, _, _, hp, _ => by simp at hp
 | p :: ps, d, vs, Φs, i, h, j, τ, u, hp, hv => by
  have key : ∀ {d' : PDens ps} {v : Value} {vs' : List Value} {Φs' : List qC}, jU P w H ps d' vs' Φs' → vs = v :: vs' → ∀ j', j = j' + 1 → ∃ φ, (pid (i + j), φ) ∈ qay ps Φs' (i + 1) ∧ u = .pointer (some ⟨φ.b, 0, none⟩) := by
   rintro d' v vs' Φs' ht rfl j' rfl
   obtain ⟨φ', h1, h2⟩ := args_m (i + 1) ht j' τ u (by simpa using hp) (by simpa using hv)
   exact ⟨φ', by rw [show i + (j' + 1) = i + 1 + j' by omega]; exact h1, h2⟩
  cases p with
  | v σ =>
   obtain ⟨v, vs', φ, Φs', e1, rfl, _, _, _, ht⟩ := h
   cases j with
   | zero => simp at hp
   | succ j => exact key ht e1 j rfl
  | r σ =>
   obtain ⟨v, vs', φ, Φs', e1, rfl, _, _, _, ht⟩ := h
   cases j with
   | zero => simp at hp
   | succ j => exact key ht e1 j rfl
  | c f =>
   obtain ⟨v, vs', φ, Φs', e1, rfl, _, _, _, ht⟩ := h
   cases j with
   | zero => simp at hp
   | succ j => exact key ht e1 j rfl
  | m σ =>
   obtain ⟨v, vs', φ, Φs', e1, rfl, e, _, ht⟩ := h
   cases j with
   | zero =>
    subst e1
    obtain rfl : v = u := by simpa using hv
    exact ⟨φ, List.mem_cons_self, e⟩
   | succ j =>
    obtain ⟨φ', h1, h2⟩ := key ht e1 j rfl
    exact ⟨φ', List.mem_cons_of_mem _ h1, h2⟩
  | mr t e =>
   obtain ⟨v, vs', φ, Φs', e1, rfl, _, _, ht⟩ := h
   cases j with
   | zero => simp at hp
   | succ j =>
    obtain ⟨φ', h1, h2⟩ := key ht e1 j rfl
    exact ⟨φ', List.mem_cons_of_mem _ h1, h2⟩
  | t t e =>
   obtain ⟨v, vs', φ, Φs', e1, rfl, _, _, ht⟩ := h
   cases j with
   | zero => simp at hp
   | succ j =>
    obtain ⟨φ', h1, h2⟩ := key ht e1 j rfl
    exact ⟨φ', List.mem_cons_of_mem _ h1, h2⟩
  | gm σ =>
   obtain ⟨v, vs', φ, Φs', e1, rfl, _, _, ht⟩ := h
   cases j with
   | zero => simp at hp
   | succ j =>
    obtain ⟨φ', h1, h2⟩ := key ht e1 j rfl
    exact ⟨φ', List.mem_cons_of_mem _ h1, h2⟩
  | cm f σ =>
   obtain ⟨v, vs', φ, Φs', e1, rfl, _, _, ht⟩ := h
   cases j with
   | zero => simp at hp
   | succ j =>
    obtain ⟨φ', h1, h2⟩ := key ht e1 j rfl
    exact ⟨φ', List.mem_cons_of_mem _ h1, h2⟩
end
end Go.Vi
