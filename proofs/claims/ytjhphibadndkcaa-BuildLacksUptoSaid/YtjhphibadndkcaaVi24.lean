/- The abstract interpreter 'Vi', twenty-third part: every operation; regions. No condition beyond those typed in each theorem. -/
import Derived.Test.YtjhphibadndkcaaVi23
namespace Go.Vi

/-- The same, or a call of a function that reads alone. -/
def isQuiet (cfg : Cfg) (o : Oper) : Bool := isStill o || match o.op with
  | .call c => match c.callee with
    | .value (.func f) => match lk cfg.prims f with
      | some p => quietP p
      | none => false
    | _ => false
  | _ => false

section
variable {P : Program} {C : Ctx} {cfg : Cfg} {R : Type} {r : R} {s : St} {a : Act} {w : World} {H : FH} {Φ : Nat → Info}

theorem absOp_still (hcfg : CfgOK P cfg) (hC : CtxOK C cfg) {o : Oper} {k : St → Option R} (hs : Sim P C s a w) (hd : dstOK cfg.nt o.dst = true) (hq : isStill o = true) (h : absOp cfg o s k = some r) : ∃ s', k s' = some r ∧ Still P C o a w s' := by
  obtain ⟨H, Φ, hs⟩ := hs
  obtain ⟨dst, op, ty, pos, after, guard⟩ := o
  cases op
  case move => exact op_move hcfg hC hs hd h
  case assign => exact op_assign hcfg hC hs hd h
  case pick => exact op_pick hcfg hC hs hd h
  case load => exact op_load hcfg hC hs hd h
  case nilCheck => exact op_nilCheck hcfg hC hs hd h
  case binOp => exact op_binOp hcfg hC hs hd h
  case unOp => exact op_unOp hcfg hC hs hd h
  case fieldAddr => exact op_fieldAddr hcfg hC hs hd h
  case indexAddr => exact op_indexAddr hcfg hC hs hd h
  case extract => exact op_extract hcfg hC hs hd h
  case slice => exact op_slice hcfg hC hs hd h
  case makeFunc fn first caps =>
    cases fn
    case func f => exact op_makeFunc hcfg hC hs hd h
    all_goals cases hq
  case call c =>
    simp only [isStill] at hq
    split at hq
    · rename_i hc; exact op_len hcfg hC hc hs hd h
    · rename_i hc; exact op_max hcfg hC hc hs hd h
    · rename_i hc; exact op_min hcfg hC hc hs hd h
    · cases hq
  all_goals cases hq

theorem absOp_quiet (hcfg : CfgOK P cfg) (hC : CtxOK C cfg) {o : Oper} {k : St → Option R} (hs : Sim P C s a w) (hd : dstOK cfg.nt o.dst = true) (hq : isQuiet cfg o = true) (h : absOp cfg o s k = some r) : ∃ s', k s' = some r ∧ Quiet P C o a w s' := by
  unfold isQuiet at hq
  cases hst : isStill o with
  | true =>
    obtain ⟨s', h1, h2⟩ := absOp_still hcfg hC hs hd hst h
    exact ⟨s', h1, h2.quiet⟩
  | false =>
    rw [hst, Bool.false_or] at hq
    obtain ⟨H, Φ, hs⟩ := hs
    obtain ⟨dst, op, ty, pos, after, guard⟩ := o
    cases op
    case call c =>
      simp only at hq
      split at hq
      · rename_i f hc
        split at hq
        · rename_i p hp
          exact op_callq hcfg hC hc hp hq hs hd h
        · cases hq
      · cases hq
    all_goals cases hq

theorem absOp_goes (hcfg : CfgOK P cfg) (hC : CtxOK C cfg) {o : Oper} {k : St → Option R} (hs : Sim P C s a w) (hd : dstOK cfg.nt o.dst = true) (h : absOp cfg o s k = some r) : ∃ s', k s' = some r ∧ Goes P C o a w s' := by
  cases hst : isStill o with
  | true =>
    obtain ⟨s', h1, h2⟩ := absOp_still hcfg hC hs hd hst h
    exact ⟨s', h1, h2.quiet.goes⟩
  | false =>
  obtain ⟨H, Φ, hs⟩ := hs
  obtain ⟨dst, op, ty, pos, after, guard⟩ := o
  cases op
  case alloc => exact op_alloc hcfg hC hs hd h
  case box => exact op_box hcfg hC hs hd h
  case store => exact op_store hcfg hC hs hd h
  case makeSlice => exact op_makeSlice hcfg hC hs hd h
  case build => exact op_build hcfg hC hs hd h
  case buildSlice => exact op_buildSlice hcfg hC hs hd h
  case call c =>
    match hc : c.callee with
    | .value f => exact op_callv hcfg hC hc hs hd h
    | .invoke _ _ => simp [absOp, hc] at h
    | .builtin b =>
      cases b
      case append => exact op_append hcfg hC hc hs hd h
      case len => simp [isStill, hc] at hst
      case max => simp [isStill, hc] at hst
      case min => simp [isStill, hc] at hst
      all_goals simp [absOp, hc] at h
  all_goals first | (simp [isStill] at hst; done) | (simp only [absOp] at h; cases h; done) | (rename_i fn _ _; cases fn <;> first | (simp [isStill] at hst; done) | (simp only [absOp] at h; cases h; done))

theorem absOp_both (hcfg : CfgOK P cfg) (hC : CtxOK C cfg) {o : Oper} {k : St → Option R} (hs : SimB P C s a w H Φ) (hd : dstOK cfg.nt o.dst = true) (h : absOp cfg o s k = some r) : ∃ s', k s' = some r ∧ (isStill o = true → Still P C o a w s') ∧ Goes P C o a w s' := by
  cases hst : isStill o with
  | true =>
    obtain ⟨s', h1, h2⟩ := absOp_still hcfg hC ⟨H, Φ, hs⟩ hd hst h
    exact ⟨s', h1, fun _ => h2, h2.quiet.goes⟩
  | false =>
    obtain ⟨s', h1, h2⟩ := absOp_goes hcfg hC ⟨H, Φ, hs⟩ hd h
    exact ⟨s', h1, (fun e => by cases e), h2⟩

theorem Sim.withM (h : Sim P C s a w) (m : Option Ms) : Sim P C (s.withM m) a w := by obtain ⟨H, Φ, h⟩ := h; exact ⟨H, Φ, h.withM m⟩

theorem absOpM_goes (hcfg : CfgOK P cfg) (hC : CtxOK C cfg) {o : Oper} {k : St → Option R} (hs : SimM P C s a w) (hd : dstOK cfg.nt o.dst = true) (h : absOpM cfg o s k = some r) : ∃ s', k s' = some r ∧ GoesM P C o a w s' := by
  obtain ⟨H, Φ, hs, hM⟩ := hs
  unfold absOpM at h
  split at h
  · rename_i hmp
    split at h
    · rename_i T hop
      split at h
      case h_2 => cases h
      rename_i d kt vt hdst hT
      obtain ⟨hu, hk, hv⟩ := hcfg.maps T kt vt hT
      have hdl : d < C.nt := by rw [hdst] at hd; rw [hC.nt]; exact Eq.mp Nat.blt_eq hd
      have hmod := mod_alloc w (.map #[] 0)
      have hs2 := (hs.grow hmod).set (d := d) (av := .dead) (v := .map (some w.heap.size)) hdl trivial
      have hrun : (execOp a.eval o).run P w = .ok (.value (.map (some w.heap.size))) (w.alloc (.map #[] 0)) := by
        obtain ⟨dst, op, ty, pos, after, guard⟩ := o
        simp only at hop
        subst hop
        simp [execOp, RowKit.run_makeMap]
      refine ⟨_, h, goesM_val hrun ?_⟩
      rw [hdst]
      refine ⟨H, Φ, hs2.withM _, w.heap.size, hk, hv, ⟨?_, ?_, .inr hs.mod.size, by simp⟩, ⟨.map [], World.ownsMap_made _ _ _ _, MRel.empty⟩, fun t ht => ?_, fun ti lf e => by cases e⟩
      · cases hq : H w.heap.size with
        | none => rfl
        | some c => obtain ⟨t, f, h⟩ := hs.hok _ _ hq; exact absurd (Array.getElem?_eq_some_iff.1 h).1 (by omega)
      · intro id o ho hbf
        have := ((hs.os id o ho).2 _ hbf).2.2
        omega
      · rw [List.mem_singleton.1 ht]
        rw [getD_put (by rw [hs.size]; exact hdl), if_pos rfl]
    · obtain ⟨s', h1, _, h3⟩ := absOp_both hcfg (reC_ok hC) hs.rebase hd h
      exact ⟨_, h1, goes_lift hs hM h3 (.inl rfl)⟩
  · rename_i m hmp
    rw [hmp] at hM
    exact absMap_goes hcfg hC (fun hC' hs' hd' h' => absOp_both hcfg hC' hs' hd' h') hs hmp hM hd h

theorem absOpM_none (hmp : s.mp = none) {o : Oper} (hq : isQuiet cfg o = true) {k : St → Option R} : absOpM cfg o s k = absOp cfg o s fun s' => k (s'.withM none) := by
  unfold absOpM
  rw [hmp]
  simp only
  split
  · rename_i hop
    simp [isQuiet, isStill, hop] at hq
  · rfl

/-! ## Regions -/
theorem SimB.know (hs : SimB P C s a w H Φ) {t : Nat} {av : AV} (hv : RepA P C w H Φ s.obj av (a.tmps.getD t undef)) : SimB P C (s.set t av) a w H Φ := by
  refine hs.weaken (fun _ _ h => h) ?_
  intro u av' hu
  rw [St.get_set] at hu
  split at hu
  · rename_i e; subst e; cases hu; exact hv
  · exact hs.ts u av' hu

theorem skip_obj (d : Option Nat) : (s.skip d).obj = s.obj := by unfold St.skip St.setDst; cases d <;> rfl

theorem SimM.dead (hC : CtxOK C cfg) (hs : SimM P C s a w) {d : Option Nat} (hd : dstOK cfg.nt d = true) : SimM P C (s.skip d) (a.put d undef) w := by
  obtain ⟨H, Φ, hs, hM⟩ := hs
  refine ⟨H, Φ, (hs.setDst (by rw [hC.nt]; exact hd) (av := .nil) rfl).withM _, ?_⟩
  rw [skip_obj]
  show MapOK P C (s.mp.map fun m => m.strike d) s.obj _ w H Φ
  cases hmp : s.mp with
  | none => trivial
  | some m =>
    rw [hmp] at hM
    exact MOK.step hM (fun b hb _ => ⟨hb, rfl⟩) (.inr ⟨rfl, rfl⟩)

/-- A step over one operation of a region: wanted or not. -/
theorem guard_step {ops : Array Oper} {o : Oper} {rest : List Oper} {kk : St → Option R} (hs : SimM P C s a w) (h : absOps cfg ops kk (o :: rest) s = some r) :
    dstOK cfg.nt o.dst = true ∧ ((Region.wanted o (yielded ops a.tmps) = true ∧ ∃ s2, (SimM P C s2 a w ∧ (s.mp = none → s2.mp = none)) ∧ absOpM cfg o s2 (fun s => absOps cfg ops kk rest s) = some r) ∨
      (Region.wanted o (yielded ops a.tmps) = false ∧ ∃ s2, (SimM P C s2 a w ∧ (s.mp = none → s2.mp = none)) ∧ absOps cfg ops kk rest (s2.skip o.dst) = some r)) := by
  simp only [absOps] at h
  cases hd : dstOK cfg.nt o.dst with
  | false => rw [hd] at h; cases h
  | true =>
  rw [hd, cond_true] at h
  refine ⟨rfl, ?_⟩
  unfold Region.wanted
  split at h
  · rename_i hg
    rw [hg]
    exact .inl ⟨rfl, s, ⟨hs, id⟩, h⟩
  · rename_i j want hg
    rw [hg]
    split at h
    · cases h
    · rename_i t ht
      split at h
      · rename_i b hb
        obtain ⟨H, Φ, hs, hM⟩ := hs
        have hr := hs.ts t _ hb
        have hv := hr.bool
        have hy : yielded ops a.tmps j = some b := by
          unfold yielded
          rw [ht]
          simp only [Option.bind_some]
          rw [Array.getD_eq_getD_getElem?] at hv
          cases hq : a.tmps[t]? with
          | none => rw [hq] at hv; simp [undef] at hv
          | some u =>
            rw [hq] at hv
            simp only [Option.getD_some] at hv
            rw [hv]
        simp only [hy]
        have hs2 : SimM P C (s.set t (.val .bool b)) a w ∧ (s.mp = none → (s.set t (.val .bool b)).mp = none) := ⟨⟨H, Φ, hs.know hr, hM⟩, fun h => h⟩
        cases b with
        | true =>
          simp only [cond_true] at h
          cases want with
          | true => exact .inl ⟨rfl, _, hs2, h⟩
          | false => exact .inr ⟨rfl, _, hs2, h⟩
        | false =>
          simp only [cond_false] at h
          cases want with
          | true => exact .inr ⟨rfl, _, hs2, h⟩
          | false => exact .inl ⟨rfl, _, hs2, h⟩
      · rename_i hb
        obtain ⟨H, Φ, hs, hM⟩ := hs
        have hv : a.tmps.getD t undef = .tuple #[] := hs.ts t _ hb
        have hy : yielded ops a.tmps j = none := by
          unfold yielded
          rw [ht]
          simp only [Option.bind_some]
          rw [Array.getD_eq_getD_getElem?] at hv
          cases hq : a.tmps[t]? with
          | none => rfl
          | some u =>
            rw [hq] at hv
            simp only [Option.getD_some] at hv
            rw [hv]
        simp only [hy]
        exact .inr ⟨by simp, s, ⟨⟨H, Φ, hs, hM⟩, id⟩, h⟩
      · cases h

theorem wp_of_goesM {o : Oper} {s' : St} {K : Act → World → Prop} {Q : Exit → Act → World → Prop} (h : GoesM P C o a w s') (hK : ∀ a w, SimM P C s' a w → K a w) : o.wp P a w K Q := by
  unfold GoesM at h
  unfold Oper.wp Oper.upon
  split at h
  · rename_i v w' e; rw [e]; exact hK _ _ h
  · rename_i w' e; rw [e]; exact hK _ _ h
  · rename_i f args w' e
    rw [e]
    refine h.mono ?_
    rintro e w'' ⟨v, rfl, hsim⟩
    exact hK _ _ hsim
  · exact h.elim

/-- A region's operations in the text's order. -/
theorem ops_ok (hcfg : CfgOK P cfg) (hC : CtxOK C cfg) {ops : Array Oper} {kk : St → Option R} {Q : Exit → Act → World → Prop} (hQ : ∀ s a w, SimM P C s a w → kk s = some r → Q .normal a w) :
    ∀ {l : List Oper} {s : St} {a : Act} {w : World}, SimM P C s a w → absOps cfg ops kk l s = some r → wpList P ops Q l a w
  | [], s, a, w, hs, h => hQ s a w hs h
  | o :: rest, s, a, w, hs, h => by
    obtain ⟨hd, h⟩ := guard_step hs h
    unfold wpList
    rcases h with ⟨hw, s2, ⟨hs2, _⟩, h⟩ | ⟨hw, s2, ⟨hs2, _⟩, h⟩
    · rw [hw, if_pos rfl]
      obtain ⟨s', h, hg⟩ := absOpM_goes hcfg hC hs2 hd h
      exact .inl (wp_of_goesM hg (fun a w hs => ops_ok hcfg hC hQ hs h))
    · rw [hw, if_neg (by simp)]
      exact ops_ok hcfg hC hQ (hs2.dead hC hd) h

theorem ops_quiet (hcfg : CfgOK P cfg) (hC : CtxOK C cfg) {ops : Array Oper} {kk : St → Option R} {K : Act → Prop} (hK : ∀ s a, Sim P C s a w → s.mp = none → kk s = some r → K a) :
    ∀ {l : List Oper} {s : St} {a : Act}, l.all (isQuiet cfg) = true → Sim P C s a w → s.mp = none → absOps cfg ops kk l s = some r → wpQuiet P ops (Mod noBlock w) K l a
  | [], s, a, _, hs, hmp, h => hK s a hs hmp h
  | o :: rest, s, a, hq, hs, hmp, h => by
    simp only [List.all_cons, Bool.and_eq_true] at hq
    obtain ⟨hd, h⟩ := guard_step (hs.simM hmp) h
    unfold wpQuiet
    rcases h with ⟨hw, s2, ⟨hs2, hm2⟩, h⟩ | ⟨hw, s2, ⟨hs2, hm2⟩, h⟩
    · rw [hw, if_pos rfl]
      rw [absOpM_none (hm2 hmp) hq.1] at h
      obtain ⟨s', h, v, hv, hsim⟩ := absOp_quiet hcfg hC hs2.sim hd hq.1 h
      exact ⟨v, hv, ops_quiet hcfg hC hK hq.2 (hsim.withM none) rfl h⟩
    · rw [hw, if_neg (by simp)]
      exact ops_quiet hcfg hC hK hq.2 (hs2.dead hC hd).sim (by show Option.map _ _ = none; rw [hm2 hmp]; rfl) h

theorem isQuiet_of_still {o : Oper} (h : isStill o = true) : isQuiet cfg o = true := by unfold isQuiet; rw [h]; rfl

theorem ops_still (hcfg : CfgOK P cfg) (hC : CtxOK C cfg) {ops : Array Oper} {kk : St → Option R} {K : Act → Prop} {l2 : List Oper} (hK : ∀ s a, Sim P C s a w → s.mp = none → absOps cfg ops kk l2 s = some r → K a) :
    ∀ {l : List Oper} {s : St} {a : Act}, l.all isStill = true → Sim P C s a w → s.mp = none → absOps cfg ops kk (l ++ l2) s = some r → wpStill P ops w K l a
  | [], s, a, _, hs, hmp, h => hK s a hs hmp h
  | o :: rest, s, a, hq, hs, hmp, h => by
    simp only [List.all_cons, Bool.and_eq_true] at hq
    obtain ⟨hd, h⟩ := guard_step (hs.simM hmp) h
    unfold wpStill
    rcases h with ⟨hw, s2, ⟨hs2, hm2⟩, h⟩ | ⟨hw, s2, ⟨hs2, hm2⟩, h⟩
    · rw [hw, if_pos rfl]
      rw [absOpM_none (cfg := cfg) (hm2 hmp) (isQuiet_of_still hq.1)] at h
      obtain ⟨s', h, v, hv, hsim⟩ := absOp_still hcfg hC hs2.sim hd hq.1 h
      unfold Oper.still
      rw [hv w (Mod.refl _ _)]
      exact ⟨rfl, ops_still hcfg hC hK hq.2 (hsim.withM none) rfl h⟩
    · rw [hw, if_neg (by simp)]
      exact ops_still hcfg hC hK hq.2 (hs2.dead hC hd).sim (by show Option.map _ _ = none; rw [hm2 hmp]; rfl) h

/-- Whether a region that draws its order may be walked in the text's order. -/
def drawR (cfg : Cfg) (ops : Array Oper) : Bool :=
  (ops.toList.all (isQuiet cfg) && Region.lexB .any ops) || (List.range ops.size).any fun n => (ops.toList.take n).all isStill && Region.lexTailB .any ops n

theorem mod_drawn (w : World) : Mod noBlock w { w with drawn := w.drawn + 1 } := ⟨rfl, rfl, rfl, Nat.le_refl _, fun _ _ _ => rfl⟩

theorem region_ok (hm : P.follows .mixedOrders = true) (hcfg : CfgOK P cfg) (hC : CtxOK C cfg) {id : Nat} {ops : Array Oper} {draw : Bool} (hdraw : draw = true → drawR cfg ops = true ∧ s.mp = none) {kk : St → Option R} {Q : Exit → Act → World → Prop} (hQ : ∀ s a w, SimM P C s a w → kk s = some r → Q .normal a w)
    (hs : SimM P C s a w) (h : absOps cfg ops kk ops.toList s = some r) : (Code.region id ops draw).wp P Q a w := by
  cases draw with
  | false => exact wp_region_list (ops_ok hcfg hC hQ hs h)
  | true =>
    obtain ⟨hd, hmp⟩ := hdraw rfl
    unfold drawR at hd
    rw [Bool.or_eq_true] at hd
    have hs1 : Sim P C s a { w with drawn := w.drawn + 1 } := hs.sim.grow (mod_drawn w)
    rcases hd with hd | hd
    · rw [Bool.and_eq_true] at hd
      exact wp_region_quiet (C := Mod noBlock { w with drawn := w.drawn + 1 }) hm hd.2 (Mod.refl _ _)
        (ops_quiet hcfg hC (fun s a hsim hmp hk w' hm' => hQ s a w' ((hsim.grow hm').simM hmp) hk) hd.1 hs1 hmp h)
    · obtain ⟨n, _, hn⟩ := List.any_eq_true.1 hd
      rw [Bool.and_eq_true] at hn
      have := wp_region_still_tail (P := P) (id := id) (Q := Q) (a := a) (w := w) (l := ops.toList) n hm (by simpa using hn.2)
        (by
          simp only [Array.toArray_toList]
          exact ops_still hcfg hC (l2 := ops.toList.drop n) (fun s a hsim hmp hk => ops_ok hcfg hC hQ (hsim.simM hmp) hk) hn.1 hs1 hmp (by rw [List.take_append_drop]; exact h))
      simpa using this

theorem any_step (hcfg : CfgOK P cfg) (hC : CtxOK C cfg) {ops : Array Oper} {K : Act → World → Prop} {kk : St → Option R} {Q : Exit → Act → World → Prop} {i : Nat} (hK : ∀ s a w, SimM P C s a w → kk s = some r → K a w)
    (hs : SimM P C s a w) (h : absOps cfg ops kk (oneOp ops i) s = some r) : wpOp P ops Q i K a w := by
  unfold wpOp
  unfold oneOp at h
  cases ho : ops[i]? with
  | none => rw [ho] at h; exact hK _ _ _ hs h
  | some o =>
    rw [ho] at h
    obtain ⟨hd, h⟩ := guard_step hs h
    rcases h with ⟨hw, s2, ⟨hs2, _⟩, h⟩ | ⟨hw, s2, ⟨hs2, _⟩, h⟩
    · simp only [hw, if_true]
      obtain ⟨s', h, hg⟩ := absOpM_goes hcfg hC hs2 hd h
      exact .inl (wp_of_goesM hg (fun a w hs => hK _ _ _ hs h))
    · simp only [hw]
      exact hK _ _ _ (hs2.dead hC hd) h

theorem run_move (a : Act) (dst : Option Nat) (x : Operand) (ty pos after guard) (w : World) : (execOp a.eval ⟨dst, .move x, ty, pos, after, guard⟩).run P w = .ok (.value (a.eval x)) w := by
  simp [execOp]

theorem pure_step (hcfg : CfgOK P cfg) (hC : CtxOK C cfg) {ops : Array Oper} {listed : Array Bool} {K : Act → World → Prop} {kk : St → Option R} {i : Nat} (hK : ∀ s a w, SimM P C s a w → kk s = some r → K a w)
    (hp : pureAt ops listed i = true) (hs : SimM P C s a w) (h : absOps cfg ops kk (oneOp ops i) s = some r) :
    ∃ o v, ops[i]? = some o ∧ Region.free .any ops listed i = true ∧ Yields P ops o v a ∧ K (a.put o.dst v) w := by
  unfold pureAt at hp
  split at hp
  · rename_i dst x ty pos after ho
    unfold oneOp at h
    rw [ho] at h
    obtain ⟨hd, h⟩ := guard_step hs h
    rcases h with ⟨hw, s2, ⟨hs2, _⟩, h⟩ | ⟨hw, _⟩
    · refine ⟨_, a.eval x, ho, hp, .inl ⟨hw, fun w => run_move a dst x ty pos after none w⟩, ?_⟩
      obtain ⟨s', h, hg⟩ := absOpM_goes hcfg hC hs2 hd h
      have := wp_of_goesM (K := K) (Q := fun _ _ _ => True) hg (fun a w hs => hK _ _ _ hs h)
      unfold Oper.wp Oper.upon at this
      rw [run_move] at this
      exact this
    · cases hw
  · cases hp

theorem any_ok (hcfg : CfgOK P cfg) (hC : CtxOK C cfg) {ops : Array Oper} {kk : St → Option R} {Q : Exit → Act → World → Prop} (hns : Region.noSelect ops = true) (hQ : ∀ s a w, SimM P C s a w → kk s = some r → Q .normal a w) (hQp : ∀ c a w, ¬ Q (.panic c) a w) :
    ∀ (n : Nat) (listed : Array Bool) {s : St} {a : Act} {w : World}, SimM P C s a w → absAny cfg ops kk n listed s = some r → wpAny P .any ops Q n listed a w
  | 0, listed, s, a, w, hs, h => by
    unfold absAny at h
    unfold wpAny
    split at h
    · rename_i e; exact ⟨e, hQ _ _ _ hs h⟩
    · cases h
  | n + 1, listed, s, a, w, hs, h => by
    unfold absAny at h
    split at h
    · rename_i i hfind
      have hr := List.mem_of_find?_eq_some hfind
      have hp := List.find?_some hfind
      obtain ⟨o, v, ho, hf, hy, hK⟩ := pure_step hcfg hC (fun s a w hs h => any_ok hcfg hC hns hQ hQp n _ hs h) hp hs h
      exact wpAny_take ho hns hf (by simpa using hr) (fun c a w h => absurd h (hQp c _ w)) hy hK
    · unfold wpAny
      split at h
      · rename_i e; rw [e]; exact ⟨fun _ => hQ _ _ _ hs h, fun i hi => by cases hi⟩
      · rename_i i e
        rw [e]
        refine ⟨(fun e => by cases e), fun j hj => ?_⟩
        rw [List.mem_singleton.1 hj]
        exact any_step hcfg hC (fun s a w hs h => any_ok hcfg hC hns hQ hQp n _ hs h) hs h
      · rename_i i j l e
        rw [e]
        refine ⟨(fun e => by cases e), fun t ht => ?_⟩
        have := agreeK_some h _ (List.mem_map.2 ⟨t, ht, rfl⟩)
        exact any_step hcfg hC (fun s a w hs h => any_ok hcfg hC hns hQ hQp n _ hs h) hs this
end
end Go.Vi
