/- The abstract interpreter 'Vi', fifteenth part: operations that make memory. No condition beyond those typed in each theorem. -/
import Derived.Test.YtjhphibadndkcaaVi14
namespace Go.Vi
section
variable {P : Program} {C : Ctx} {cfg : Cfg} {R : Type} {r : R} {s : St} {a : Act} {w : World} {H : FH} {Φ : Nat → Info} {dst : Option Nat} {ty : TypeId} {pos : String} {after : Array Edge} {guard : Option (Nat × Bool)} {k : St → Option R}

theorem mod_alloc (w : World) (o : Go.Obj) : Mod noBlock w (w.alloc o) := ⟨rfl, rfl, rfl, by simp, fun k hk _ => heap_alloc_old w o hk⟩

theorem goes_val {o : Oper} {a : Act} {w w' : World} {v : Value} {s' : St} (hrun : (execOp a.eval o).run P w = .ok (.value v) w') (h : Sim P C s' (a.put o.dst v) w') : Goes P C o a w s' := by
  unfold Goes; rw [hrun]; exact h

theorem run_newVar {v : Value} {T : TypeId} : (newVar T v).run P w = .ok ⟨w.heap.size, 0, none⟩ (w.alloc (.cells v.cells T)) := by
  simp [newVar, newRow]

/-- A new variable. -/
theorem SimB.newVar (hs : SimB P C s a w H Φ) (hcfg : CfgOK P cfg) (hC : CtxOK C cfg) {d : Nat} (hd : d < cfg.nt) {T : TypeId} {τ : Ty} {x : τ.den} {cs : List Value} {arr : Array Value} (hn : τ.noFn = true) (harr : arr.toList = cs) (hrep : Rep P τ w H x cs []) :
    ∃ Φ', SimB P C ((s.newObj d false τ x).set d (.ptr d [])) (a.put (some d) (.pointer (some ⟨w.heap.size, 0, none⟩))) (w.alloc (.cells arr T)) H Φ' := by
  have hm := mod_alloc w (.cells arr T)
  have hd2 : d < 10000000 := by have := hcfg.small; omega
  have hh : (w.alloc (.cells arr T)).heap[w.heap.size]? = some (.cells arr T (0, 0)) := heap_alloc_new w _
  have hnone : H w.heap.size = none := by
    cases hq : H w.heap.size with
    | none => rfl
    | some c => obtain ⟨t, f, h⟩ := hs.hok _ _ hq; exact absurd (Array.getElem?_eq_some_iff.1 h).1 (by omega)
  have h1 := hs.newObj hm (hC.pin d hd2) (row := false) (τ := τ) (x := x) (φ := ⟨w.heap.size, .nilFunc, [w.heap.size]⟩)
    ⟨hn, by simp, arr, T, [], hh, by rw [harr]; exact Rep.mono τ (FH.le_refl _) (by simp) hrep, rfl⟩ (by
      intro b hb
      simp only [List.mem_singleton] at hb
      subst hb
      refine ⟨hnone, .inr hs.mod.size, by simp, fun j o' _ hj hb => ?_⟩
      have := ((hs.os j o' hj).2 _ hb).2.2
      omega)
  refine ⟨_, h1.set (by rw [hC.nt]; exact hd) ⟨⟨false, τ, x⟩, ⟨τ, x⟩, w.heap.size, 0, ?_, rfl, getV_nil _ _, ?_, rfl⟩⟩
  · rw [St.newObj, St.obj_setObj, if_pos rfl]
  · rw [putInfo_same]
    exact Loc_nil _ _ _ _

theorem op_alloc (hcfg : CfgOK P cfg) (hC : CtxOK C cfg) {T : TypeId} (hs : SimB P C s a w H Φ) (hd : dstOK cfg.nt dst = true) (h : absOp cfg ⟨dst, .alloc T, ty, pos, after, guard⟩ s k = some r) :
    ∃ s', k s' = some r ∧ Goes P C ⟨dst, .alloc T, ty, pos, after, guard⟩ a w s' := by
  simp only [absOp] at h
  split at h
  case h_2 => cases h
  rename_i d τ hst
  have hty : TyOK P T τ := by
    unfold siteTy at hst
    simp only at hst
    split at hst
    · rename_i σ _
      cases hq : decide (some σ.fz = lk cfg.ty T) with
      | false => rw [hq] at hst; cases hst
      | true =>
        rw [hq, cond_true] at hst
        cases hst
        exact TyOK.unfz (hcfg.ty T _ (of_decide_eq_true hq).symm).1
    · exact (hcfg.ty T _ hst).1
  cases hn : τ.noFn with
  | false => rw [hn] at h; cases h
  | true =>
    rw [hn, cond_true] at h
    have hcells : (toV τ τ.zeroCells).cells.toList = τ.zeroCells := toV_cells (by rintro x y rfl; exact hty.not_pair) (Ty.zero_length τ) (Ty.zero_one τ)
    obtain ⟨Φ', h1⟩ := hs.newVar hcfg hC (Eq.mp Nat.blt_eq hd) (T := T) hn hcells (Rep.zero τ hn)
    refine ⟨_, h, goes_val (w' := w.alloc (.cells (toV τ τ.zeroCells).cells T)) (v := .pointer (some ⟨w.heap.size, 0, none⟩)) ?_ ⟨H, Φ', h1⟩⟩
    simp [execOp, Instr.alloc, hty.zeroValue, run_newVar]

theorem snapVal {av : AV} {v : Value} (hr : RepA P C w H Φ s.obj av v) {τ : Ty} (hfz : τ.isFz = true) {f : τ.den → Option R} (hav : (∃ σ x, av = .val σ x) ∨ ∃ σ x, av = .ref σ x) (h : snapK s av τ f = some r) :
    ∃ x, f x = some r ∧ ∃ cs, v = toV τ cs ∧ Rep P τ w H x cs [] := by
  rcases hav with ⟨σ, x, rfl⟩ | ⟨σ, x, rfl⟩
  · simp only [snapK, derefK_eq] at h
    replace h := Option.bind_eq_some_iff.1 h
    obtain ⟨y, hy, h⟩ := h
    obtain ⟨e, hy⟩ := castTy_self hy
    subst e
    subst hy
    obtain ⟨_, cs, hv, hrep⟩ := hr
    exact ⟨_, h, cs, hv, hrep⟩
  · simp only [snapK, derefK_eq] at h
    replace h := Option.bind_eq_some_iff.1 h
    obtain ⟨y, hy, h⟩ := h
    obtain ⟨e, hy⟩ := castTy_self hy
    subst e
    subst hy
    obtain ⟨_, b, o, blk, hv, hH, hrep⟩ := hr
    exact ⟨_, h, [v], rfl, rfl, b, o, blk, by rw [hv], hH, hrep⟩

theorem op_box (hcfg : CfgOK P cfg) (hC : CtxOK C cfg) {T : TypeId} {x : Operand} (hs : SimB P C s a w H Φ) (hd : dstOK cfg.nt dst = true) (h : absOp cfg ⟨dst, .box T x, ty, pos, after, guard⟩ s k = some r) :
    ∃ s', k s' = some r ∧ Goes P C ⟨dst, .box T x, ty, pos, after, guard⟩ a w s' := by
  simp only [absOp] at h
  split at h
  case h_2 => cases h
  rename_i d av τ he hT
  have hr := evalA_ok hs (hcfg.fz T) he
  obtain ⟨hty, hfz⟩ := hcfg.ty T τ hT
  have hdl : d < cfg.nt := Eq.mp Nat.blt_eq hd
  cases hn : τ.noFn with
  | false => rw [hn] at h; cases h
  | true =>
  rw [hn, Bool.not_true, cond_false] at h
  split at h
  · rename_i id
    split at h
    case h_2 => cases h
    rename_i ob ho
    cases hq : ob.row && decide (ob.τ.fz = τ) with
    | false => rw [hq] at h; cases h
    | true =>
      rw [hq, cond_true] at h
      rw [Bool.and_eq_true] at hq
      obtain ⟨hrow, hτ⟩ := hq
      have hτ := of_decide_eq_true hτ
      subst hτ
      obtain ⟨h1, h2⟩ := hs.os id ob ho
      obtain ⟨o', y', q1, q2, q3⟩ := hr
      rw [ho] at q1
      cases q1
      rw [hrow] at q3
      simp only [List.isEmpty_nil, Bool.and_self] at q3
      obtain ⟨hn2, hnd, h3⟩ := h1
      rw [hrow] at h3
      obtain ⟨_, cs, hcs, h3⟩ := h3
      have hcells : (toV ob.τ cs).cells.toList = cs := toV_cells (by rintro x y e; rw [e] at hty; exact hty.not_pair) (Rep.length _ h3) (Rep.one _ h3)
      rw [← hcs] at hcells
      have hrm := hs.remove id
      have hm := mod_alloc w (.cells (Φ id).hdr.cells T)
      have hh : (w.alloc (.cells (Φ id).hdr.cells T)).heap[w.heap.size]? = some (.cells (Φ id).hdr.cells T (0, 0)) := heap_alloc_new w _
      have hnone : H w.heap.size = none := by
        cases hq : H w.heap.size with
        | none => rfl
        | some c => obtain ⟨t, f, h⟩ := hs.hok _ _ hq; exact absurd (Array.getElem?_eq_some_iff.1 h).1 (by omega)
      have hd2 : d < 10000000 := Nat.lt_of_lt_of_le hdl (Nat.le_trans hcfg.small (by decide))
      have hob : ∀ j o, ((s.kill id).setObj id none).obj j = some o → s.obj j = some o ∧ j ≠ id := by
        intro j o hj
        rw [St.obj_setObj] at hj
        split at hj
        · cases hj
        · rename_i hne; exact ⟨hj, fun e => hne e.symm⟩
      have hn1 := hrm.newObj hm (hC.pin d hd2) (row := false) (τ := ob.τ) (x := ob.x) (φ := ⟨w.heap.size, .nilFunc, w.heap.size :: (Φ id).fp⟩)
        ⟨hn2, by
          rw [List.nodup_cons]
          exact ⟨fun hb => by have := (h2 _ hb).2.2; omega, hnd⟩, (Φ id).hdr.cells, T, (Φ id).fp, hh, by rw [hcells]; exact Rep.mono _ (FH.le_refl _) (fun b hb => heap_alloc_old w _ (h2 b hb).2.2) h3, rfl⟩ (by
          intro b hb
          rcases List.mem_cons.1 hb with rfl | hb
          · refine ⟨hnone, .inr hs.mod.size, by simp, fun j o' _ hj hb => ?_⟩
            have := ((hs.os j o' (hob j o' hj).1).2 _ hb).2.2
            omega
          · obtain ⟨p1, p2, p3⟩ := h2 b hb
            exact ⟨p1, p2, by simp; omega, fun j o' _ hj => hs.disj id j ob o' (fun e => (hob j o' hj).2 e.symm) ho (hob j o' hj).1 b hb⟩)
      refine ⟨_, h, goes_val (w' := w.alloc (.cells (Φ id).hdr.cells T)) (v := .pointer (some ⟨w.heap.size, 0, none⟩)) ?_ ⟨H, _, hn1.set (by rw [hC.nt]; exact hdl) ⟨⟨false, ob.τ, ob.x⟩, ⟨ob.τ, ob.x⟩, w.heap.size, 0, ?_, rfl, getV_nil _ _, ?_, rfl⟩⟩⟩
      · simp [execOp, Instr.box, run_newVar, q3]
      · rw [St.newObj, St.obj_setObj, if_pos rfl]
      · rw [putInfo_same]
        exact Loc_nil _ _ _ _
  · rename_i hnv
    have key : ((∃ σ x, av = .val σ x) ∨ ∃ σ x, av = .ref σ x) ∧ ∃ x0 : τ.den, k ((s.newObj d false τ x0).set d (.ptr d [])) = some r ∧ ∃ cs, a.eval x = toV τ cs ∧ Rep P τ w H x0 cs [] := by
      cases av with
      | val σ y =>
        obtain ⟨x0, h, hx⟩ := snapVal hr hfz (.inl ⟨_, _, rfl⟩) h
        exact ⟨.inl ⟨_, _, rfl⟩, x0, h, hx⟩
      | ref σ y =>
        obtain ⟨x0, h, hx⟩ := snapVal hr hfz (.inr ⟨_, _, rfl⟩) h
        exact ⟨.inr ⟨_, _, rfl⟩, x0, h, hx⟩
      | view id p =>
        exfalso
        simp only [snapK] at h
        split at h
        · rw [getPK_eq] at h
          obtain ⟨y, _, h⟩ := Option.bind_eq_some_iff.1 h
          rw [derefK_eq] at h
          obtain ⟨y, _, h⟩ := Option.bind_eq_some_iff.1 h
          cases h
        · cases h
      | upd id p tid e l =>
        cases h
      | ptr id p =>
        exfalso
        simp only [snapK] at h
        split at h
        · rename_i o _
          cases hr : o.row with
          | true => rw [hr] at h; cases h
          | false =>
            rw [hr, cond_false] at h
            split at h
            · rw [derefK_eq] at h
              obtain ⟨y, _, h⟩ := Option.bind_eq_some_iff.1 h
              cases h
            · cases h
        · cases h
      | _ => cases h
    obtain ⟨_, x0, h, cs, hv, hrep⟩ := key
    have hcells : (toV τ cs).cells.toList = cs := toV_cells (by rintro x y rfl; exact hty.not_pair) (Rep.length τ hrep) (Rep.one τ hrep)
    obtain ⟨Φ', h1⟩ := hs.newVar hcfg hC hdl (T := T) hn hcells hrep
    refine ⟨_, h, goes_val (w' := w.alloc (.cells (toV τ cs).cells T)) (v := .pointer (some ⟨w.heap.size, 0, none⟩)) ?_ ⟨H, Φ', h1⟩⟩
    simp [execOp, Instr.box, run_newVar, hv]
end
end Go.Vi
