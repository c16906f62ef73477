/- The abstract interpreter 'Vi', forty-second part: functions that call themselves through a variable that they have captured. No condition beyond those typed in each theorem. -/
import Derived.Test.YtdecnbepmnjeiaaViC
namespace Go.Vi
noncomputable def absFnL (cfg : jN) (k : Nat) (fn : Func) (c : Code) (sp : SelfP) (d : PDens sp.p.ps) : Option (RDens sp.p.rs × MDens sp.p.ps) :=
 run cfg k c ((qbs sp.p.ps d).set (sp.n + sp.m) (.cv 0 sp.f (1000 * sp.m + sp.n))) (qc5 cfg fn sp.p.ps sp.p.rs)
section
variable {P : Program} {cfg : jN} {w : World} {H : FH}
theorem args_m : ∀ {ps : List jR} {d : PDens ps} {vs : List Value} {Φs : List qA} (i : Nat), jS P w H ps d vs Φs → ∀ (j : Nat) (τ : Ty) (u : Value), ps[j]? = some (.m τ) → vs[j]? = some u → ∃ φ, (pid (i + j), φ) ∈ jX ps Φs i ∧ u = .pointer (some ⟨φ.b, 0, none⟩)
 | [], _, _, _, _, _, _, _, _, hp, _ => by simp at hp
 | p :: ps, d, vs, Φs, i, h, j, τ, u, hp, hv => by
  have key : ∀ {d' : PDens ps} {v : Value} {vs' : List Value} {Φs' : List qA}, jS P w H ps d' vs' Φs' → vs = v :: vs' → ∀ j', j = j' + 1 → ∃ φ, (pid (i + j), φ) ∈ jX ps Φs' (i + 1) ∧ u = .pointer (some ⟨φ.b, 0, none⟩) := by
   rintro d' v vs' Φs' ht rfl j' rfl
   obtain ⟨φ', h1, h2⟩ := args_m (i + 1) ht j' τ u (by simpa using hp) (by simpa using hv)
   exact ⟨φ', by rw [show i + (j' + 1) = i + 1 + j' by omega]; exact h1, h2⟩
  cases p with
  | v σ =>
   obtain ⟨v, vs', φ, Φs', e1, rfl, _, _, _, ht⟩ := h
   cases j with
   | zero => simp at hp
   | succ j => exact key ht e1 j rfl
  | r σ =>
   obtain ⟨v, vs', φ, Φs', e1, rfl, _, _, _, ht⟩ := h
   cases j with
   | zero => simp at hp
   | succ j => exact key ht e1 j rfl
  | c f =>
   obtain ⟨v, vs', φ, Φs', e1, rfl, _, _, _, ht⟩ := h
   cases j with
   | zero => simp at hp
   | succ j => exact key ht e1 j rfl
  | m σ =>
   obtain ⟨v, vs', φ, Φs', e1, rfl, e, _, ht⟩ := h
   cases j with
   | zero =>
    subst e1
    obtain rfl : v = u := by simpa using hv
    exact ⟨φ, List.mem_cons_self, e⟩
   | succ j =>
    obtain ⟨φ', h1, h2⟩ := key ht e1 j rfl
    exact ⟨φ', List.mem_cons_of_mem _ h1, h2⟩
  | mr t e =>
   obtain ⟨v, vs', φ, Φs', e1, rfl, _, _, ht⟩ := h
   cases j with
   | zero => simp at hp
   | succ j =>
    obtain ⟨φ', h1, h2⟩ := key ht e1 j rfl
    exact ⟨φ', List.mem_cons_of_mem _ h1, h2⟩
  | t t e =>
   obtain ⟨v, vs', φ, Φs', e1, rfl, _, _, ht⟩ := h
   cases j with
   | zero => simp at hp
   | succ j =>
    obtain ⟨φ', h1, h2⟩ := key ht e1 j rfl
    exact ⟨φ', List.mem_cons_of_mem _ h1, h2⟩
  | gm σ =>
   obtain ⟨v, vs', φ, Φs', e1, rfl, _, _, ht⟩ := h
   cases j with
   | zero => simp at hp
   | succ j =>
    obtain ⟨φ', h1, h2⟩ := key ht e1 j rfl
    exact ⟨φ', List.mem_cons_of_mem _ h1, h2⟩
  | cm f σ =>
   obtain ⟨v, vs', φ, Φs', e1, rfl, _, _, ht⟩ := h
   cases j with
   | zero => simp at hp
   | succ j =>
    obtain ⟨φ', h1, h2⟩ := key ht e1 j rfl
    exact ⟨φ', List.mem_cons_of_mem _ h1, h2⟩
def isM : jR → Bool
 | .m _ => true
 | _ => false
end
end Go.Vi
