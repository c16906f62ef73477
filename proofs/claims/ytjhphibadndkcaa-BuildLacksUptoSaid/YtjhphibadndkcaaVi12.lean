/- The abstract interpreter 'Vi', twelfth part: loads, lengths, max and min, slices, assignments. No condition beyond those typed in each theorem. -/
import Derived.Test.YtjhphibadndkcaaVi11
import Derived.Laws.Cover3
namespace Go.Vi
section
variable {P : Program} {C : Ctx} {cfg : Cfg} {R : Type} {r : R} {s : St} {a : Act} {w : World} {H : FH} {Φ : Nat → Info} {dst : Option Nat} {ty : TypeId} {pos : String} {after : Array Edge} {guard : Option (Nat × Bool)} {k : St → Option R}

theorem run_loadAt_seg {t : TypeId} {τ : Ty} (h : TyOK P t τ) {w : World} {b o : Nat} {blk : Array Value} {bt : TypeId} {f : Nat × Nat} (hb : w.heap[b]? = some (.cells blk bt f)) (hs : (seg blk o τ.size).length = τ.size) :
    (Instr.loadAt t (.pointer (some ⟨b, o, none⟩))).run P w = .ok (toV τ (seg blk o τ.size)) w := by
  obtain ⟨_, _, _, hp, _⟩ := h.info
  obtain ⟨pre, post, e1, e2⟩ := split_seg hs hp
  have := run_loadVar h hb e1 hs
  rw [e2] at this
  simp [Instr.loadAt, Instr.sureAddr, this]

theorem op_load (hcfg : CfgOK P cfg) (hC : CtxOK C cfg) {T : TypeId} {x : Operand} (hs : SimB P C s a w H Φ) (hd : dstOK cfg.nt dst = true) (h : absOp cfg ⟨dst, .load T x, ty, pos, after, guard⟩ s k = some r) :
    ∃ s', k s' = some r ∧ Still P C ⟨dst, .load T x, ty, pos, after, guard⟩ a w s' := by
  simp only [absOp] at h
  split at h
  case h_2 => cases h
  rename_i av he
  have hr := evalA_ok hs none_fz he
  unfold loadK at h
  split at h
  · rename_i σ y
    cases hT : decide (lk cfg.ty T = some σ) with
    | false => rw [hT] at h; cases h
    | true =>
      rw [hT, cond_true] at h
      obtain ⟨hty, _⟩ := hcfg.ty T _ (of_decide_eq_true hT)
      obtain ⟨hf, b, o, blk, hv, hH, hrep⟩ := hr
      obtain ⟨t, f, hb⟩ := hs.hok b blk hH
      refine ⟨_, h, quiet_set hs hC hd (v := toV σ (seg blk o σ.size)) ⟨hf, _, rfl, hrep⟩ (fun w' hm => ?_)⟩
      simp [execOp, hv, run_loadAt_seg hty (old_block hm hb) (Rep.length σ hrep)]
  · rename_i id p
    obtain ⟨o, y, b, off, h1, h2, h3, h4, hv⟩ := hr
    rw [h1] at h
    simp only [h2, cond_false] at h
    have hyt := getV_tyAt _ h3
    rw [hyt] at h
    obtain ⟨σ, y⟩ := y
    simp only at h hyt
    cases hT : decide (lk cfg.ty T = some σ.fz) with
    | false => rw [hT] at h; cases h
    | true =>
      rw [hT, cond_true] at h
      obtain ⟨hty, _⟩ := hcfg.ty T _ (of_decide_eq_true hT)
      have hty' := TyOK.unfz hty
      have hok := (hs.os id o h1).1
      obtain ⟨b', o', hl, blk', t', pre', c, post', f1, f', f2, e1, e2, e3, e4, e5, e6, _⟩ := hok.desc (y := y) h3 ⟨w, _, _, h4⟩ h2
      obtain ⟨rfl, rfl⟩ := LocO.det h4 (hl w (fun _ _ => rfl))
      have hseg : seg blk' off σ.size = c := by rw [← e3]; exact seg_of_split e2 (Rep.length σ e6)
      have hrun : ∀ w', Mod noBlock w w' → (execOp a.eval ⟨dst, .load T x, ty, pos, after, guard⟩).run P w' = .ok (.value (toV σ c)) w' := by
        intro w' hm
        have := run_loadAt_seg hty' (o := off) (old_block hm e1) (by rw [hseg]; exact Rep.length σ e6)
        rw [hseg] at this
        simp [execOp, hv, this]
      cases hfz : σ.isFz with
      | true =>
        rw [hfz, cond_true, getPK_eq, h3] at h
        have hf0 := Rep.fz_fp σ hfz e6
        subst hf0
        exact ⟨_, h, quiet_set hs hC hd (v := toV σ c) ⟨hfz, c, rfl, e6⟩ hrun⟩
      | false =>
        rw [hfz, cond_false] at h
        refine ⟨_, h, quiet_set hs hC hd (v := toV σ c) ⟨o, ⟨σ, y⟩, h1, h3, ?_⟩ hrun⟩
        rw [h2]
        exact ⟨b, off, blk', t', h4, e1, by rw [hseg]⟩
  · cases h

theorem list_val {own : Bool} {tid : TypeId} {e : Ty} {l : List e.den} {cs fp} (h : Rep P (.list own tid e) w H l cs fp) : ∃ ad cap, toV (.list own tid e) cs = .slice ad l.length cap := by
  cases own with
  | false => obtain ⟨_, ad, cap, rfl, _⟩ := h; exact ⟨ad, cap, rfl⟩
  | true =>
    obtain ⟨hdr, xs, fp', rfl, _, ho, _⟩ := h
    rcases ho.2 with ⟨rfl, h0⟩ | ⟨g, cap, cur, rfl, _⟩
    · exact ⟨none, 0, by rw [h0]; rfl⟩
    · exact ⟨_, cap, rfl⟩

/-- The slice value behind an abstract slice, and its length. -/
theorem lenAV_ok (hs : SimB P C s a w H Φ) {av : AV} {v : Value} (hr : RepA P C w H Φ s.obj av v) {f : Nat → Option R} (h : lenAV s av f = some r) : ∃ n, f n = some r ∧ ∃ ad cap, v = .slice ad n cap := by
  unfold lenAV at h
  split at h
  · obtain ⟨_, cs, rfl, hrep⟩ := hr
    exact ⟨_, h, list_val hrep⟩
  · rename_i id p
    split at h
    case h_2 => cases h
    rename_i o ho
    rw [getPK_eq] at h
    obtain ⟨y, hy, h⟩ := Option.bind_eq_some_iff.1 h
    obtain ⟨cs, fp, hv, hrep, _⟩ := view_rep hr ho (hs.os id o ho).1 hy
    obtain ⟨σ, y⟩ := y
    simp only at h
    split at h
    · rw [hv]; exact ⟨_, h, list_val hrep⟩
    · cases h
  · obtain ⟨o, _, _, _, _, fp, hrep, _⟩ := hr
    refine ⟨_, h, ?_⟩
    obtain ⟨ad, cap, e⟩ := list_val hrep
    exact ⟨ad, cap, e⟩
  · cases h

/-- Of a slice that has elements the address is there. -/
theorem list_some {own : Bool} {tid : TypeId} {e : Ty} {l : List e.den} {cs fp} (h : Rep P (.list own tid e) w H l cs fp) : ∃ ad cap, toV (.list own tid e) cs = .slice ad l.length cap ∧ (ad = none → l.length = 0) := by
  cases own with
  | false =>
    obtain ⟨_, ad, cap, rfl, _, h⟩ := h
    refine ⟨ad, cap, rfl, fun e => ?_⟩
    rcases h with h | ⟨b, o, blk, h, _⟩
    · rw [h]; rfl
    · rw [e] at h; cases h
  | true =>
    obtain ⟨hdr, xs, fp', rfl, _, ho, _⟩ := h
    rcases ho.2 with ⟨rfl, hz⟩ | ⟨g, cap, cur, rfl, _⟩
    · have hz' : List.length l = 0 := hz
      exact ⟨none, 0, by rw [hz']; rfl, fun _ => hz'⟩
    · exact ⟨_, cap, rfl, fun e => by cases e⟩

theorem lenAV_some (hs : SimB P C s a w H Φ) {av : AV} {v : Value} (hr : RepA P C w H Φ s.obj av v) {f : Nat → Option R} (h : lenAV s av f = some r) : ∃ n, f n = some r ∧ ∃ ad cap, v = .slice ad n cap ∧ (ad = none → n = 0) := by
  unfold lenAV at h
  split at h
  · obtain ⟨_, cs, rfl, hrep⟩ := hr
    exact ⟨_, h, list_some hrep⟩
  · rename_i id p
    split at h
    case h_2 => cases h
    rename_i o ho
    rw [getPK_eq] at h
    obtain ⟨y, hy, h⟩ := Option.bind_eq_some_iff.1 h
    obtain ⟨cs, fp, hv, hrep, _⟩ := view_rep hr ho (hs.os id o ho).1 hy
    obtain ⟨σ, y⟩ := y
    simp only at h
    split at h
    · rw [hv]; exact ⟨_, h, list_some hrep⟩
    · cases h
  · obtain ⟨o, _, _, _, _, fp, hrep, _⟩ := hr
    refine ⟨_, h, ?_⟩
    obtain ⟨ad, cap, e⟩ := list_some hrep
    exact ⟨ad, cap, e⟩
  · cases h

theorem isListTy_some {t : Option Ty} (h : isListTy t = true) : ∃ own tid e, t = some (.list own tid e) := by
  unfold isListTy at h
  split at h
  · exact ⟨_, _, _, rfl⟩
  · cases h

theorem op_binOp (hcfg : CfgOK P cfg) (hC : CtxOK C cfg) {op : BinOp} {T T' : TypeId} {x y : Operand} (hs : SimB P C s a w H Φ) (hd : dstOK cfg.nt dst = true) (h : absOp cfg ⟨dst, .binOp op T x y T', ty, pos, after, guard⟩ s k = some r) :
    ∃ s', k s' = some r ∧ Still P C ⟨dst, .binOp op T x y T', ty, pos, after, guard⟩ a w s' := by
  simp only [absOp] at h
  cases hq : isNilOp y && isListTy (lk cfg.ty T) with
  | false =>
    rw [hq, cond_false] at h
    exact op_binOp0 hcfg hC hs hd h
  | true =>
    rw [hq, cond_true] at h
    rw [Bool.and_eq_true] at hq
    obtain ⟨hy, hT⟩ := hq
    obtain ⟨own, tid, e, hlk⟩ := isListTy_some hT
    have hu := (hcfg.ty T _ hlk).1.list.1
    have hyv : a.eval y = .slice none 0 0 := by
      unfold isNilOp at hy
      split at hy
      · rfl
      · cases hy
    split at h
    case h_2 => cases h
    rename_i av he
    obtain ⟨n, h, ad, cap, hv, hn⟩ := lenAV_some hs (evalA_ok hs none_fz he) h
    have hk : nilTestK op ad.isNone (fun b => k (s.setDst dst (.val .bool b))) = some r := by
      unfold nilK at h
      cases hn0 : Nat.beq n 0 with
      | true =>
        rw [hn0, cond_true] at h
        exact dem_some h ad.isNone trivial
      | false =>
        rw [hn0, cond_false] at h
        have hne := Nat.ne_of_beq_eq_false hn0
        cases ad with
        | none => exact absurd (hn rfl) hne
        | some _ => exact h
    unfold nilTestK at hk
    split at hk
    · exact ⟨_, hk, quiet_set hs hC hd (RepA.mk_bool w H Φ s.obj _) (fun w' _ => by simp [execOp, hv, hyv, eqGuard, binOp, run_equal_slice_nil _ T tid _ _ _ hu])⟩
    · exact ⟨_, hk, quiet_set hs hC hd (RepA.mk_bool w H Φ s.obj _) (fun w' _ => by simp [execOp, hv, hyv, eqGuard, binOp, run_equal_slice_nil _ T tid _ _ _ hu])⟩
    · cases hk

theorem call_lit {c : Call} {cal : Callee} (h : c.callee = cal) {args : List Operand} (ha : c.args.toList = args) : c = ⟨cal, args.toArray, c.argTypes⟩ := by
  obtain ⟨c1, c2, c3⟩ := c
  simp only at h ha
  rw [h, ← ha]

theorem op_len (hcfg : CfgOK P cfg) (hC : CtxOK C cfg) {c : Call} (hc : c.callee = .builtin .len) (hs : SimB P C s a w H Φ) (hd : dstOK cfg.nt dst = true) (h : absOp cfg ⟨dst, .call c, ty, pos, after, guard⟩ s k = some r) :
    ∃ s', k s' = some r ∧ Still P C ⟨dst, .call c, ty, pos, after, guard⟩ a w s' := by
  simp only [absOp, hc] at h
  split at h
  case h_2 => cases h
  rename_i x T hx hT
  split at h
  case h_2 => cases h
  rename_i av he
  have hr := evalA_ok hs none_fz he
  cases hl : isListTy (lk cfg.ty T) with
  | false => rw [hl] at h; cases h
  | true =>
    rw [hl, cond_true] at h
    obtain ⟨n, h, ad, cap, hv⟩ := lenAV_ok hs hr h
    obtain ⟨own, tid, e, hlk⟩ : ∃ own tid e, lk cfg.ty T = some (.list own tid e) := by
      unfold isListTy at hl
      split at hl
      · exact ⟨_, _, _, ‹_›⟩
      · cases hl
    have hu := (hcfg.ty T _ hlk).1.list.1
    have e2 : c = ⟨.builtin .len, #[x], #[T]⟩ := by
      obtain ⟨c1, c2, c3⟩ := c
      simp only at hc hx hT
      rw [hc, ← Array.toArray_toList (xs := c2), hx, ← Array.toArray_toList (xs := c3), hT]
    subst e2
    exact ⟨_, h, quiet_set hs hC hd (RepA.mk_int w H Φ s.obj _ _) (fun w' _ => by simp [execOp, resolve, invoke, builtin, Builtin.len_, hv, run_underlying hu, goInt])⟩

theorem max_eq (x y : Int) : max x y = if y > x then y else x := by omega
theorem min_eq (x y : Int) : min x y = if y < x then y else x := by omega

theorem op_max (_hcfg : CfgOK P cfg) (hC : CtxOK C cfg) {c : Call} (hc : c.callee = .builtin .max) (hs : SimB P C s a w H Φ) (hd : dstOK cfg.nt dst = true) (h : absOp cfg ⟨dst, .call c, ty, pos, after, guard⟩ s k = some r) :
    ∃ s', k s' = some r ∧ Still P C ⟨dst, .call c, ty, pos, after, guard⟩ a w s' := by
  simp only [absOp, hc] at h
  split at h
  case h_2 => cases h
  rename_i i m j n he
  have hr := evalAll_ok hs (fun _ => none_fz) he
  cases hij : (i == j) with
  | false => rw [hij] at h; cases h
  | true =>
    rw [hij, cond_true] at h
    have hij' : i = j := by simpa using hij
    subst hij'
    obtain ⟨c1, c2, c3⟩ := c
    simp only at hc hr
    subst hc
    obtain ⟨x, y, hxy⟩ : ∃ x y, c2.toList = [x, y] := by
      match c2.toList, hr with
      | [], hr => exact hr.elim
      | [_], hr => exact hr.2.elim
      | [x, y], _ => exact ⟨x, y, rfl⟩
      | _ :: _ :: _ :: _, hr => exact hr.2.2.elim
    rw [hxy] at hr
    have v1 := hr.1.int
    have v2 := hr.2.1.int
    have e2 : c2 = #[x, y] := by rw [← Array.toArray_toList (xs := c2), hxy]
    subst e2
    refine ⟨_, h, quiet_set hs hC hd (RepA.mk_int w H Φ s.obj _ _) (fun w' _ => ?_)⟩
    rw [max_eq]
    simp [execOp, resolve, invoke, builtin, v1, v2, run_max_int2]

theorem op_min (_hcfg : CfgOK P cfg) (hC : CtxOK C cfg) {c : Call} (hc : c.callee = .builtin .min) (hs : SimB P C s a w H Φ) (hd : dstOK cfg.nt dst = true) (h : absOp cfg ⟨dst, .call c, ty, pos, after, guard⟩ s k = some r) :
    ∃ s', k s' = some r ∧ Still P C ⟨dst, .call c, ty, pos, after, guard⟩ a w s' := by
  simp only [absOp, hc] at h
  split at h
  case h_2 => cases h
  rename_i i m j n he
  have hr := evalAll_ok hs (fun _ => none_fz) he
  cases hij : (i == j) with
  | false => rw [hij] at h; cases h
  | true =>
    rw [hij, cond_true] at h
    have hij' : i = j := by simpa using hij
    subst hij'
    obtain ⟨c1, c2, c3⟩ := c
    simp only at hc hr
    subst hc
    obtain ⟨x, y, hxy⟩ : ∃ x y, c2.toList = [x, y] := by
      match c2.toList, hr with
      | [], hr => exact hr.elim
      | [_], hr => exact hr.2.elim
      | [x, y], _ => exact ⟨x, y, rfl⟩
      | _ :: _ :: _ :: _, hr => exact hr.2.2.elim
    rw [hxy] at hr
    have v1 := hr.1.int
    have v2 := hr.2.1.int
    have e2 : c2 = #[x, y] := by rw [← Array.toArray_toList (xs := c2), hxy]
    subst e2
    refine ⟨_, h, quiet_set hs hC hd (RepA.mk_int w H Φ s.obj _ _) (fun w' _ => ?_)⟩
    rw [min_eq]
    simp [execOp, resolve, invoke, builtin, v1, v2, run_min_int2]

theorem const_slice {tid : Nat} {e : Ty} {o : Bool} {l : List e.den} {x : Operand} {a : Act} {τ : Option Ty} {s : St} (hx : ∃ v, x = .const v) (he : evalA s τ x = some (.val (.list o tid e) l)) :
    a.eval x = .slice none 0 0 ∧ l = [] := by
  obtain ⟨v, rfl⟩ := hx
  simp only [evalA] at he
  unfold constAV at he
  split at he
  · cases he
  · cases he
  · split at he
    · cases he; exact ⟨rfl, rfl⟩
    · cases he
  · split at he
    · cases he
    · cases he
  · cases he

/-- A pending slice is laid down as its row. -/
theorem SimB.commit (hs : SimB P C s a w H Φ) (hC : CtxOK C cfg) {id : Nat} {tid : TypeId} {e : Ty} {l : List e.den} {v : Value} (hr : RepA P C w H Φ s.obj (.upd id [] tid e l) v) {o : Obj} (ho : s.obj id = some o) (hrow : o.row = true) (hid : id < 10000000) :
    SimB P C (s.newObj id true (.list true tid e) l) a w H (putInfo Φ id ⟨0, v, v.ownBlock.toList⟩) := by
  obtain ⟨o', h1, h2, h3, h4, fp, h5, h6⟩ := hr
  rw [ho] at h1
  cases h1
  have hfp : fp = v.ownBlock.toList := by
    obtain ⟨hdr, xs, fp', q1, q2, q3, q4⟩ := h5
    obtain rfl : v = hdr := by simpa using q1
    rw [q2, Chunks.fp_nil (fun _ _ _ hh => Rep.fz_fp e h2 hh) q4, List.append_nil]
  subst hfp
  refine hs.newObj (Mod.refl _ _) (hC.pin id hid) ⟨by simpa [Ty.noFn] using h3, ?_, rfl, [v], rfl, h5⟩ ?_
  · cases v.ownBlock <;> simp
  · intro b hb
    obtain ⟨hlt, h7⟩ := h6 b hb
    rcases h7 with hf | ⟨hh, q1, q2⟩
    · exact ⟨hf.fz, hf.may, hlt, fun j o' _ hj => hf.obj j o' hj⟩
    · unfold HdrAt at q1
      rw [hrow] at q1
      simp only [List.isEmpty_nil, Bool.and_self] at q1
      have hb' : b ∈ (Φ id).fp := by
        have h9 := (hs.os id o ho).1
        obtain ⟨row, τ, x⟩ := o
        simp only [tyAt_nil, Option.some.injEq] at h4
        subst h4
        simp only at hrow
        subst hrow
        obtain ⟨hdr', xs, fp', k1, k2, k3, _⟩ := h9.row_list
        have : (Φ id).hdr = hdr' := by simpa using k1
        rw [k2, ← this, ← q1, q2]; simp
      obtain ⟨q3, q4, q5⟩ := (hs.os id o ho).2 b hb'
      exact ⟨q3, q4, hlt, fun j o' hj hoj => hs.disj id j o o' (fun e => hj e.symm) ho hoj b hb'⟩

theorem SimB.frzSite (hs : SimB P C s a w H Φ) (d : Option Nat) (x : Operand) : ∃ H', SimB P C (frzSite cfg s d x) a w H' Φ := by
  unfold Go.Vi.frzSite
  split
  · split
    · obtain ⟨H', _, _, _, h⟩ := hs.freeze _
      exact ⟨H', h⟩
    · exact ⟨H, hs⟩
  · exact ⟨H, hs⟩
theorem SimB.frzOp (hs : SimB P C s a w H Φ) (x : Operand) : ∃ H', SimB P C (frzOp s x) a w H' Φ := by
  unfold Go.Vi.frzOp
  split
  · split
    · rename_i o _
      cases o.row && _ with
      | true => exact ⟨H, hs⟩
      | false =>
        obtain ⟨H', _, _, _, h⟩ := hs.freeze _
        exact ⟨H', h⟩
    · exact ⟨H, hs⟩
  · exact ⟨H, hs⟩

theorem op_assign0 (hcfg : CfgOK P cfg) (hC : CtxOK C cfg) {x : Operand} (hs : SimB P C s a w H Φ) (hd : dstOK cfg.nt dst = true) (h : assignVK cfg s dst ty x k = some r) :
    ∃ s', k s' = some r ∧ Still P C ⟨dst, .assign x, ty, pos, after, guard⟩ a w s' := by
  have hrun : ∀ w', Mod noBlock w w' → (execOp a.eval ⟨dst, .assign x, ty, pos, after, guard⟩).run P w' = .ok (.value (a.eval x)) w' := fun w' _ => rfl
  unfold assignVK at h
  split at h
  case h_2 => cases h
  rename_i av he
  have hr := evalA_ok hs (hcfg.fz ty) he
  cases hsite : (dst.bind (lk cfg.site)).isSome with
  | true =>
    rw [hsite, cond_true] at h
    exact ⟨_, h, quiet_set hs hC hd hr hrun⟩
  | false =>
  rw [hsite, cond_false] at h
  unfold assignK at h
  split at h
  · rename_i v own tid e l
    split at h
    case h_2 => cases h
    rename_i d
    cases hfn : e.noFn with
    | false => rw [hfn] at h; cases h
    | true =>
    rw [hfn, cond_true] at h
    obtain ⟨hv, rfl⟩ := const_slice (a := a) ⟨v, rfl⟩ he
    have hd' : d < C.nt := by rw [hC.nt]; exact Eq.mp Nat.blt_eq hd
    have hd2 : d < 10000000 := by have := hcfg.small; rw [← hC.nt] at this; omega
    have hfz := hr.1
    simp only [Ty.isFz, Bool.and_eq_true] at hfz
    have hn : SimB P C (s.newObj d true (.list true tid e) []) a w H (putInfo Φ d ⟨0, .slice none 0 0, []⟩) :=
      hs.newObj (Mod.refl _ _) (hC.pin d hd2) ⟨by simpa [Ty.noFn] using hfn, by simp, rfl, [.slice none 0 0], rfl, ⟨.slice none 0 0, [], [], rfl, rfl, World.ownsRow_nil w 0 tid e.size, rfl, rfl⟩⟩ (by simp)
    rw [hv] at hrun
    refine ⟨_, h, quiet_val hrun ⟨H, _, hn.set hd' (v := .slice none 0 0) ⟨⟨true, .list true tid e, []⟩, ⟨.list true tid e, []⟩, ?_, getV_nil _ _, ?_⟩⟩⟩
    · rw [St.newObj, St.obj_setObj, if_pos rfl]
    · simp only [List.isEmpty_nil, Bool.and_self, putInfo_same]
  · rename_i x' id tid e l
    split at h
    case h_2 => cases h
    rename_i o ho
    cases hrw : o.row && Nat.blt id 10000000 with
    | false => rw [hrw] at h; cases h
    | true =>
      rw [hrw, cond_true] at h
      rw [Bool.and_eq_true] at hrw
      split at h
      case h_2 => cases h
      have hid : id < 10000000 := Eq.mp Nat.blt_eq hrw.2
      have hn := hs.commit hC hr ho hrw.1 hid
      refine ⟨_, h, quiet_val hrun ⟨H, _, hn.setDst (by rw [hC.nt]; exact hd) ⟨⟨true, .list true tid e, l⟩, ⟨.list true tid e, l⟩, ?_, getV_nil _ _, ?_⟩⟩⟩
      · rw [St.newObj, St.obj_setObj, if_pos rfl]
      · simp only [List.isEmpty_nil, Bool.and_self, putInfo_same]
  · cases h
  · exact ⟨_, h, quiet_set hs hC hd hr hrun⟩

theorem op_assign (hcfg : CfgOK P cfg) (hC : CtxOK C cfg) {x : Operand} (hs : SimB P C s a w H Φ) (hd : dstOK cfg.nt dst = true) (h : absOp cfg ⟨dst, .assign x, ty, pos, after, guard⟩ s k = some r) :
    ∃ s', k s' = some r ∧ Still P C ⟨dst, .assign x, ty, pos, after, guard⟩ a w s' := by
  simp only [absOp] at h
  obtain ⟨H', hs'⟩ := hs.frzSite (cfg := cfg) dst x
  exact op_assign0 hcfg hC hs' hd h
end
end Go.Vi
