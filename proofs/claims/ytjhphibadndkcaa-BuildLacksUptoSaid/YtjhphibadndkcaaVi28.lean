/- The abstract interpreter 'Vi', twenty-seventh part: the contract of a function from the interpreter's run. No condition beyond those typed in each theorem. -/
import Derived.Test.YtjhphibadndkcaaVi27
namespace Go.Vi
section
variable {P : Program} {C : Ctx} {cfg : Cfg} {s : St} {a : Act} {w : World} {H : FH} {Φ : Nat → Info}

theorem mutIds_ge : ∀ {ps : List PTy} {i : Nat}, (∀ id ∈ mutIds ps i, pid i ≤ id) ∧ (mutIds ps i).Nodup
  | [], _ => ⟨by simp [mutIds], by simp [mutIds]⟩
  | .v _ :: ps, i => by
    obtain ⟨h1, h2⟩ := mutIds_ge (ps := ps) (i := i + 1)
    exact ⟨fun id hid => Nat.le_trans (Nat.le_of_lt (pid_lt (Nat.lt_add_one i))) (h1 id hid), h2⟩
  | .r _ :: ps, i => by
    obtain ⟨h1, h2⟩ := mutIds_ge (ps := ps) (i := i + 1)
    exact ⟨fun id hid => Nat.le_trans (Nat.le_of_lt (pid_lt (Nat.lt_add_one i))) (h1 id hid), h2⟩
  | .m _ :: ps, i => by
    obtain ⟨h1, h2⟩ := mutIds_ge (ps := ps) (i := i + 1)
    have hlt : pid i < pid (i + 1) := pid_lt (Nat.lt_add_one i)
    refine ⟨fun id hid => ?_, List.nodup_cons.2 ⟨fun hm => ?_, h2⟩⟩
    · rcases List.mem_cons.1 hid with rfl | hid
      · exact Nat.le_refl _
      · exact Nat.le_trans (Nat.le_of_lt hlt) (h1 id hid)
    · have := h1 _ hm; omega
  | .mr _ _ :: ps, i => by
    obtain ⟨h1, h2⟩ := mutIds_ge (ps := ps) (i := i + 1)
    have hlt : pid i < pid (i + 1) := pid_lt (Nat.lt_add_one i)
    refine ⟨fun id hid => ?_, List.nodup_cons.2 ⟨fun hm => ?_, h2⟩⟩
    · rcases List.mem_cons.1 hid with rfl | hid
      · exact Nat.le_refl _
      · exact Nat.le_trans (Nat.le_of_lt hlt) (h1 id hid)
    · have := h1 _ hm; omega

/-- What the parameters' objects hold in the end. -/
theorem outMuts_ok (hs : SimB P C s a w H Φ) {Hf : FH} (hle : H.le Hf) {w0 : World} {H0 : FH} : ∀ {ps : List PTy} {i : Nat} {d : PDens ps} {vs : List Value} {Φs : List Info} {md : MDens ps}, ArgsOK P w0 H0 ps d vs Φs →
    (∀ x ∈ pinL ps Φs i, (Φ x.1).b = x.2.b ∧ (Φ x.1).hdr = x.2.hdr) → outMuts s ps i = some md → ∃ Φs', MutsOK P w Hf ps md vs Φs' ∧ fpsOf Φs' = (mutIds ps i).flatMap (fun id => (Φ id).fp) ∧ ∀ id ∈ mutIds ps i, ∃ o, s.obj id = some o
  | [], i, d, vs, Φs, md, ha, _, h => by
    obtain ⟨rfl, rfl⟩ := ha
    exact ⟨[], ⟨rfl, rfl⟩, rfl, by simp [mutIds]⟩
  | .v τ :: ps, i, d, vs, Φs, md, ha, hp, h => by
    obtain ⟨v, vs', φ, Φs', rfl, rfl, _, _, _, ha⟩ := ha
    obtain ⟨Ψ, h1, h2, h3⟩ := outMuts_ok hs hle (i := i + 1) ha hp h
    exact ⟨nilInfo :: Ψ, ⟨v, vs', nilInfo, Ψ, rfl, rfl, rfl, h1⟩, by simpa [fpsOf, nilInfo, mutIds] using h2, h3⟩
  | .r τ :: ps, i, d, vs, Φs, md, ha, hp, h => by
    obtain ⟨v, vs', φ, Φs', rfl, rfl, _, _, _, ha⟩ := ha
    obtain ⟨Ψ, h1, h2, h3⟩ := outMuts_ok hs hle (i := i + 1) ha hp h
    exact ⟨nilInfo :: Ψ, ⟨v, vs', nilInfo, Ψ, rfl, rfl, rfl, h1⟩, by simpa [fpsOf, nilInfo, mutIds] using h2, h3⟩
  | .m τ :: ps, i, d, vs, Φs, md, ha, hp, h => by
    obtain ⟨v, vs', φ, Φs', rfl, rfl, hv, _, ha⟩ := ha
    simp only [outMuts] at h
    split at h
    case h_2 => cases h
    rename_i o ho
    obtain ⟨row, σ, x0⟩ := o
    cases row with
    | true => cases h
    | false =>
    simp only [cond_false] at h
    split at h
    case h_2 => cases h
    rename_i x d' hx hd'
    cases h
    obtain ⟨e1, hx⟩ := castTy_self hx
    subst e1
    subst hx
    obtain ⟨Ψ, h1, h2, h3⟩ := outMuts_ok hs hle (i := i + 1) ha (fun x hx => hp x (List.mem_cons_of_mem _ hx)) hd'
    have hb := (hp (pid i, φ) List.mem_cons_self).1
    simp only at hb
    refine ⟨Φ (pid i) :: Ψ, ⟨v, vs', _, Ψ, rfl, rfl, by rw [hb]; exact hv, (hs.os _ _ ho).1.frame hle (fun _ _ => rfl), h1⟩, by simpa [fpsOf, mutIds] using h2, ?_⟩
    intro id hid
    rcases List.mem_cons.1 hid with rfl | hid
    · exact ⟨_, ho⟩
    · exact h3 id hid
  | .mr tid e :: ps, i, d, vs, Φs, md, ha, hp, h => by
    obtain ⟨v, vs', φ, Φs', rfl, rfl, hv, _, ha⟩ := ha
    simp only [outMuts] at h
    split at h
    case h_2 => cases h
    rename_i o ho
    obtain ⟨row, σ, x0⟩ := o
    cases row with
    | false => cases h
    | true =>
    simp only [cond_true] at h
    split at h
    case h_2 => cases h
    rename_i x d' hx hd'
    cases h
    obtain ⟨e1, hx⟩ := castTy_self hx
    subst e1
    subst hx
    obtain ⟨Ψ, h1, h2, h3⟩ := outMuts_ok hs hle (i := i + 1) ha (fun x hx => hp x (List.mem_cons_of_mem _ hx)) hd'
    have hb := (hp (pid i, φ) List.mem_cons_self).2
    simp only at hb
    refine ⟨Φ (pid i) :: Ψ, ⟨v, vs', _, Ψ, rfl, rfl, by rw [hb]; exact hv, (hs.os _ _ ho).1.frame hle (fun _ _ => rfl), h1⟩, by simpa [fpsOf, mutIds] using h2, ?_⟩
    intro id hid
    rcases List.mem_cons.1 hid with rfl | hid
    · exact ⟨_, ho⟩
    · exact h3 id hid

/-- THE CONTRACT OF A FUNCTION: what the interpreter computes for it, it returns. -/
theorem fn_sound (hm : P.follows .mixedOrders = true) (hcfg : CfgOK P cfg) {f : FuncId} {fn : Func} {c : Code} (hf : P.funcs[f]? = some fn) (hb : fn.body = some c) (hnt : fn.ntmps = cfg.nt) (hl : LoopsOK cfg c) (hd : drawOK cfg c = true)
    {p : Prim} (hps : p.ps.length ≤ cfg.nt) (hg : ∀ d y, p.g d = some y → ∃ n, absFn cfg n fn c p.ps p.rs d = some y) : Sound P f p := by
  intro d y hy w H vs Φs hok hargs hnd hfr
  obtain ⟨n, hn⟩ := hg d y hy
  refine calls_of_wp hf hb ?_
  rw [hnt]
  have hsim := entry_sim hok hargs hnd hfr hps
  have hC := entry_ctx (cfg := cfg) hargs
  obtain ⟨_, _, _, h4, _⟩ := entry_ok (C := entryC w H cfg.nt p.ps Φs) 0 hargs
  refine wp_mono (run_ok hm hcfg hC c hl hd ⟨H, _, hsim, trivial⟩ hn) ?_
  have fin : ∀ (s : St) (a' : Act) (w' : World), Sim P (entryC w H cfg.nt p.ps Φs) s a' w' → doneK cfg fn p.ps p.rs .ret s = some y →
      a'.defers = [] ∧ ∃ v, (results fn a'.tmps).run P w' = .ok v w' ∧ ∃ us H' Φs' Ψs, Ending.returned v = .returned (resultV us) ∧ Mod (· ∈ fpsOf Φs) w w' ∧ H.le H' ∧ HOk H' w' ∧ (∀ b c, H' b = some c → H b = some c ∨ b ∈ fpsOf Φs ∨ w.heap.size ≤ b) ∧
        ResOK P w' H' p.rs y.1 us Ψs ∧ MutsOK P w' H' p.ps y.2 vs Φs' ∧ (fpsOf (Ψs ++ Φs')).Nodup ∧ ∀ b ∈ fpsOf (Ψs ++ Φs'), H' b = none ∧ (b ∈ fpsOf Φs ∨ w.heap.size ≤ b) ∧ b < w'.heap.size := by
    rintro s a' w' ⟨H2, Φ2, hs⟩ h
    simp only [doneK] at h
    split at h
    case h_2 => cases h
    rename_i md hmd
    obtain ⟨T, hand, t1, t2, t3, t4⟩ := resK_ok hcfg hs h
    obtain ⟨Hf, m1, m2, m3, m4, m5⟩ := SimB.freezeAll T hs
    obtain ⟨d', us, Ψs, g1, g2, g3, g4, g5⟩ := t4 Hf m1 m3
    cases g1
    obtain ⟨Φs', k1, k2, k3⟩ := outMuts_ok hs m1 (i := 0) hargs (fun x hx => by
      obtain ⟨id, φ⟩ := x
      have hpin : (entryC w H cfg.nt p.ps Φs).pin id = some φ := lk_in h4 hx
      exact hs.pins id φ hpin) hmd
    have hids := mutIds_ge (ps := p.ps) (i := 0)
    have hfapp : fpsOf (Ψs ++ Φs') = fpsOf Ψs ++ fpsOf Φs' := by simp [fpsOf]
    have hobj : ∀ id, id ∉ T → ∀ o, s.obj id = some o → ∀ b ∈ (Φ2 id).fp, Hf b = none ∧ (b ∈ fpsOf Φs ∨ w.heap.size ≤ b) ∧ b < w'.heap.size := by
      intro id hid o ho b hb'
      obtain ⟨q1, q2, q3⟩ := (hs.os id o ho).2 b hb'
      refine ⟨?_, q2, q3⟩
      cases hq : Hf b with
      | none => rfl
      | some c =>
        rcases m2 b c hq with h1 | ⟨j, hj, o', ho', hbj⟩
        · rw [q1] at h1; cases h1
        · exact absurd hbj (hs.disj id j o o' (by rintro rfl; exact hid hj) ho ho' b hb')
    refine ⟨hs.defers, _, run_results g2, us, Hf, Φs', Ψs, rfl, hs.mod, FH.le_trans hs.le m1, m4.hok, m4.hnew, g3, k1, ?_, ?_⟩
    · rw [hfapp, List.nodup_append]
      refine ⟨g4, ?_, ?_⟩
      · rw [k2]
        refine flat_nodup hids.2 (fun id hid => ?_) (fun i hi j hj hij b hb' => ?_)
        · obtain ⟨o, ho⟩ := k3 id hid
          exact (hs.os id o ho).1.2.1
        · obtain ⟨o, ho⟩ := k3 i hi
          obtain ⟨o', ho'⟩ := k3 j hj
          exact hs.disj i j o o' hij ho ho' b hb'
      · rintro b hb1 _ hb2 rfl
        obtain ⟨i, hi, o, ho, hbi⟩ := g5 b hb1
        rw [k2] at hb2
        obtain ⟨j, hj, hbj⟩ := List.mem_flatMap.1 hb2
        obtain ⟨o', ho'⟩ := k3 j hj
        exact hs.disj i j o o' (by rintro rfl; exact (t3 i hi).1 hj) ho ho' b hbi hbj
    · intro b hb'
      rw [hfapp] at hb'
      rcases List.mem_append.1 hb' with hb1 | hb2
      · obtain ⟨i, hi, o, ho, hbi⟩ := g5 b hb1
        exact hobj i (t3 i hi).2 o ho b hbi
      · rw [k2] at hb2
        obtain ⟨j, hj, hbj⟩ := List.mem_flatMap.1 hb2
        obtain ⟨o', ho'⟩ := k3 j hj
        exact hobj j (fun hT => t1 j hT hj) o' ho' b hbj
  intro e a' w' hp
  cases e with
  | normal => obtain ⟨s, hs, h⟩ := hp; exact fin s a' w' hs.sim h
  | ret => obtain ⟨s, hs, h⟩ := hp; exact fin s a' w' hs.sim h
  | exit i => obtain ⟨s, hs, h⟩ := hp; cases h
  | _ => exact hp.elim

theorem callable_of {f : FuncId} {fn : Func} {c : Code} (hf : P.funcs[f]? = some fn) (hb : fn.body = some c) (hn : (fn.name == "runtime.NumGoroutine") = false) : Callable P f := ⟨fn, hf, hn, by rw [hb]; rfl⟩
end
end Go.Vi
