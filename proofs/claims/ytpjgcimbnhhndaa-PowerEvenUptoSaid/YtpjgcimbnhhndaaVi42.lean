/- The abstract interpreter 'Vi', forty-second part: functions that call themselves through a variable that they have captured. No condition beyond those typed in each theorem. -/
import Derived.Test.YtpjgcimbnhhndaaViC
namespace Go.Vi

noncomputable def absFnL (cfg : Cfg) (k : Nat) (fn : Func) (c : Code) (sp : SelfP) (d : PDens sp.p.ps) : Option (RDens sp.p.rs × MDens sp.p.ps) :=
  run cfg k c ((entrySt sp.p.ps d).set (sp.n + sp.m) (.cv 0 sp.f (1000 * sp.m + sp.n))) (doneK cfg fn sp.p.ps sp.p.rs)

section
variable {P : Program} {cfg : Cfg} {w : World} {H : FH}

theorem args_m : ∀ {ps : List PTy} {d : PDens ps} {vs : List Value} {Φs : List Info} (i : Nat), ArgsOK P w H ps d vs Φs → ∀ (j : Nat) (τ : Ty) (u : Value), ps[j]? = some (.m τ) → vs[j]? = some u → ∃ φ, (pid (i + j), φ) ∈ pinL ps Φs i ∧ u = .pointer (some ⟨φ.b, 0, none⟩)
  | [], _, _, _, _, _, _, _, _, hp, _ => by simp at hp
  | p :: ps, d, vs, Φs, i, h, j, τ, u, hp, hv => by
    have key : ∀ {d' : PDens ps} {v : Value} {vs' : List Value} {Φs' : List Info}, ArgsOK P w H ps d' vs' Φs' → vs = v :: vs' → ∀ j', j = j' + 1 → ∃ φ, (pid (i + j), φ) ∈ pinL ps Φs' (i + 1) ∧ u = .pointer (some ⟨φ.b, 0, none⟩) := by
      rintro d' v vs' Φs' ht rfl j' rfl
      obtain ⟨φ', h1, h2⟩ := args_m (i + 1) ht j' τ u (by simpa using hp) (by simpa using hv)
      exact ⟨φ', by rw [show i + (j' + 1) = i + 1 + j' by omega]; exact h1, h2⟩
    cases p with
    | v σ =>
      obtain ⟨v, vs', φ, Φs', e1, rfl, _, _, _, ht⟩ := h
      cases j with
      | zero => simp at hp
      | succ j => exact key ht e1 j rfl
    | r σ =>
      obtain ⟨v, vs', φ, Φs', e1, rfl, _, _, _, ht⟩ := h
      cases j with
      | zero => simp at hp
      | succ j => exact key ht e1 j rfl
    | c f =>
      obtain ⟨v, vs', φ, Φs', e1, rfl, _, _, _, ht⟩ := h
      cases j with
      | zero => simp at hp
      | succ j => exact key ht e1 j rfl
    | m σ =>
      obtain ⟨v, vs', φ, Φs', e1, rfl, e, _, ht⟩ := h
      cases j with
      | zero =>
        subst e1
        obtain rfl : v = u := by simpa using hv
        exact ⟨φ, List.mem_cons_self, e⟩
      | succ j =>
        obtain ⟨φ', h1, h2⟩ := key ht e1 j rfl
        exact ⟨φ', List.mem_cons_of_mem _ h1, h2⟩
    | mr t e =>
      obtain ⟨v, vs', φ, Φs', e1, rfl, _, _, ht⟩ := h
      cases j with
      | zero => simp at hp
      | succ j =>
        obtain ⟨φ', h1, h2⟩ := key ht e1 j rfl
        exact ⟨φ', List.mem_cons_of_mem _ h1, h2⟩
    | t t e =>
      obtain ⟨v, vs', φ, Φs', e1, rfl, _, _, ht⟩ := h
      cases j with
      | zero => simp at hp
      | succ j =>
        obtain ⟨φ', h1, h2⟩ := key ht e1 j rfl
        exact ⟨φ', List.mem_cons_of_mem _ h1, h2⟩
    | gm σ =>
      obtain ⟨v, vs', φ, Φs', e1, rfl, _, _, ht⟩ := h
      cases j with
      | zero => simp at hp
      | succ j =>
        obtain ⟨φ', h1, h2⟩ := key ht e1 j rfl
        exact ⟨φ', List.mem_cons_of_mem _ h1, h2⟩
    | cm f σ =>
      obtain ⟨v, vs', φ, Φs', e1, rfl, _, _, ht⟩ := h
      cases j with
      | zero => simp at hp
      | succ j =>
        obtain ⟨φ', h1, h2⟩ := key ht e1 j rfl
        exact ⟨φ', List.mem_cons_of_mem _ h1, h2⟩

def isM : PTy → Bool
  | .m _ => true
  | _ => false
theorem fn_soundL (hm : P.follows .mixedOrders = true) (hcfg : CfgOK P cfg) {sp : SelfP} {fn : Func} {c : Code} (hf : P.funcs[sp.f]? = some fn) (hb : fn.body = some c) (hnt : fn.ntmps = cfg.nt) (hl : LoopsOK cfg c) (hd : drawOK cfg c = true)
    (hps : sp.p.ps.length < cfg.nt) (hn : sp.n < 1000) (hlen : sp.p.ps.length = sp.n + sp.m) (hms : (sp.p.ps.drop sp.n).all isM = true) (hg : ∀ d y, sp.p.g d = some y → ∃ k, absFnL cfg k fn c sp d = some y) : SoundL P sp := by
  intro d y hy w H vs Φs hok hargs hnd hfr b hbH
  obtain ⟨k, hk⟩ := hg d y hy
  refine calls_of_wp hf hb ?_
  rw [hnt]
  have hsim := entry_sim hok hargs hnd hfr (nt := cfg.nt) (by omega)
  have hC := entry_ctx (cfg := cfg) hargs
  obtain ⟨hvl, _, _, hnodup, _⟩ := entry_ok (C := entryC w H cfg.nt sp.p.ps Φs) 0 hargs
  have hrep : RepA P (entryC w H cfg.nt sp.p.ps Φs) w H (fun id => (lk (pinL sp.p.ps Φs 0) id).getD (nilI id)) (entrySt sp.p.ps d).obj (.cv 0 sp.f (1000 * sp.m + sp.n)) (.pointer (some ⟨b, 0, none⟩)) := by
    refine ⟨b, vs.drop sp.n, hbH, ⟨by rw [List.length_drop, hvl, hlen]; omega, fun j u hu => ?_⟩, rfl⟩
    rw [show (1000 * sp.m + sp.n) % 1000 = sp.n by omega]
    rw [List.getElem?_drop] at hu
    have hlt := (List.getElem?_eq_some_iff.1 hu).1
    have hp : ∃ τ, sp.p.ps[sp.n + j]? = some (.m τ) := by
      have h1 : (sp.p.ps.drop sp.n)[j]? = some (sp.p.ps[sp.n + j]'(by omega)) := by
        rw [List.getElem?_drop]
        exact List.getElem?_eq_getElem _
      have h2 := List.all_eq_true.1 hms _ (List.mem_of_getElem? h1)
      have h3 : sp.p.ps[sp.n + j]? = some (sp.p.ps[sp.n + j]'(by omega)) := List.getElem?_eq_getElem _
      generalize sp.p.ps[sp.n + j]'(by omega) = q at h2 h3
      cases q <;> first | exact ⟨_, h3⟩ | cases h2
    obtain ⟨τ, hp⟩ := hp
    obtain ⟨φ, h1, h2⟩ := args_m 0 hargs (sp.n + j) τ u hp hu
    rw [Nat.zero_add] at h1
    exact ⟨φ, lk_in hnodup h1, h2⟩
  have hsim1 := hsim.set (d := sp.n + sp.m) (show sp.n + sp.m < cfg.nt by omega) hrep
  have hact : ({ tmps := (vs ++ [Value.pointer (some ⟨b, 0, none⟩)]).toArray ++ Array.replicate (cfg.nt - (vs ++ [Value.pointer (some ⟨b, 0, none⟩)]).toArray.size) undef, defers := [] } : Act) =
      ({ tmps := vs.toArray ++ Array.replicate (cfg.nt - vs.toArray.size) undef, defers := [] } : Act).put (some (sp.n + sp.m)) (.pointer (some ⟨b, 0, none⟩)) := by
    have e1 : cfg.nt - vs.length = (cfg.nt - (vs.length + 1)) + 1 := by omega
    have e2 : sp.n + sp.m = vs.length := by omega
    simp only [Act.put, List.size_toArray, List.length_append, List.length_singleton]
    congr 1
    apply Array.toList_inj.1
    rw [e1, e2]
    simp [List.replicate_succ]
  rw [hact]
  refine wp_mono (run_ok hm hcfg hC c hl hd ⟨H, _, hsim1, trivial⟩ hk) ?_
  have fin : ∀ (s : St) (a' : Act) (w' : World), Sim P (entryC w H cfg.nt sp.p.ps Φs) s a' w' → doneK cfg fn sp.p.ps sp.p.rs .ret s = some y →
      a'.defers = [] ∧ ∃ v, (results fn a'.tmps).run P w' = .ok v w' ∧ ∃ us H' Φs' Ψs, Ending.returned v = .returned (resultV us) ∧ Mod (· ∈ fpsOf Φs) w w' ∧ H.le H' ∧ HOk H' w' ∧ (∀ b c, H' b = some c → H b = some c ∨ b ∈ fpsOf Φs ∨ w.heap.size ≤ b) ∧
        ResOK P w' H' sp.p.rs y.1 us Ψs ∧ MutsOK P w' H' sp.p.ps y.2 vs Φs' ∧ (fpsOf (Ψs ++ Φs')).Nodup ∧ ∀ b ∈ fpsOf (Ψs ++ Φs'), H' b = none ∧ (b ∈ fpsOf Φs ∨ w.heap.size ≤ b) ∧ b < w'.heap.size := by
    rintro s a' w' ⟨H2, Φ2, hs⟩ h
    exact fin_ok (gh := fun _ => none) hcfg hargs hs h
  intro e a' w' hp
  cases e with
  | normal => obtain ⟨s, hs, h⟩ := hp; exact fin s a' w' hs.sim h
  | ret => obtain ⟨s, hs, h⟩ := hp; exact fin s a' w' hs.sim h
  | exit i => obtain ⟨s, hs, h⟩ := hp; cases h
  | _ => exact hp.elim
theorem fn_doneL (hm : P.follows .mixedOrders = true) (hcfg : CfgOK P cfg) {sp : SelfP} {fn : Func} (hf : P.funcs[sp.f]? = some fn) (hb : fn.body.isSome = true) (hnt : fn.ntmps = cfg.nt)
    (hps : Nat.blt sp.p.ps.length cfg.nt = true) (hn : Nat.blt sp.n 1000 = true) (hlen : Nat.beq sp.p.ps.length (sp.n + sp.m) = true) (hms : (sp.p.ps.drop sp.n).all isM = true) (hl : ∀ b ∈ loopsOf (body fn), LoopHas cfg b) (hd : drawOK cfg (body fn) = true)
    (hg : ∀ d y, sp.p.g d = some y → ∃ k, absFnL cfg k fn (body fn) sp d = some y) : SoundL P sp := by
  have hb2 : fn.body = some (body fn) := by
    unfold body
    cases h : fn.body with
    | none => rw [h] at hb; cases hb
    | some c => rfl
  exact fn_soundL hm hcfg hf hb2 hnt (loops_ok hl) hd (Eq.mp Nat.blt_eq hps) (Eq.mp Nat.blt_eq hn) (Nat.eq_of_beq_eq_true hlen) hms hg
theorem selfOne {sp0 : SelfP} (he : cfg.self = some sp0) (h1 : Callable P sp0.f) (h2 : SoundL P sp0) (h3 : isFuncT P sp0.T = true) : ∀ sp, cfg.self = some sp → Callable P sp.f ∧ SoundL P sp ∧ isFuncT P sp.T = true := by
  intro sp h
  rw [he] at h
  cases h
  exact ⟨h1, h2, h3⟩
end
end Go.Vi
