/- The abstract interpreter 'Vi', sixteenth part: make, and the append operation. No condition beyond those typed in each theorem. -/
import Derived.Test.YtjhphibadndkcaaVi15
namespace Go.Vi
section
variable {P : Program} {C : Ctx} {cfg : Cfg} {R : Type} {r : R} {s : St} {a : Act} {w : World} {H : FH} {Φ : Nat → Info} {dst : Option Nat} {ty : TypeId} {pos : String} {after : Array Edge} {guard : Option (Nat × Bool)} {k : St → Option R}

theorem made_list (z : Array Value) (hz : 0 < z.size) : ∀ c, (madeCells z (c * z.size)).toList = (List.replicate c z.toList).flatten
  | 0 => by simp [madeCells]
  | c + 1 => by
    have ih := made_list z hz c
    simp only [madeCells, Array.toList_map, Array.toList_range] at ih ⊢
    rw [Nat.add_mul, Nat.one_mul, List.range_add, List.map_append, ih, List.replicate_succ', List.flatten_append]
    congr 1
    rw [List.map_map]
    simp only [List.flatten_cons, List.flatten_nil, List.append_nil]
    apply List.ext_getElem?
    intro i
    by_cases hi : i < z.size
    · have hm : (c * z.size + i) % z.size = i := by rw [Nat.mul_comm, Nat.mul_add_mod]; exact Nat.mod_eq_of_lt hi
      simp [hm, hi]
    · simp [Nat.not_lt.1 hi]

/-- A new row. -/
theorem SimB.newRow (hs : SimB P C s a w H Φ) (hcfg : CfgOK P cfg) (hC : CtxOK C cfg) {d : Nat} (hd : d < cfg.nt) {tid : TypeId} {e : Ty} {l : List e.den} {v : Value} {w' : World} {xs : List Value} (hn : e.noFn = true) (hm : Mod noBlock w w')
    (hown : w'.ownsRow 0 tid e.size v l.length xs) (hch : Chunks (Rep P e w' H) l xs []) (hnew : ∀ b, v.ownBlock = some b → w.heap.size ≤ b ∧ b < w'.heap.size) :
    ∃ Φ', SimB P C ((s.newObj d true (.list true tid e) l).set d (.view d [])) (a.put (some d) v) w' H Φ' := by
  have hd2 : d < 10000000 := Nat.lt_of_lt_of_le hd (Nat.le_trans hcfg.small (by decide))
  have h1 := hs.newObj hm (hC.pin d hd2) (row := true) (τ := .list true tid e) (x := l) (φ := ⟨0, v, v.ownBlock.toList⟩)
    ⟨by simpa [Ty.noFn] using hn, by cases v.ownBlock <;> simp, rfl, [v], rfl, v, xs, [], rfl, by simp, hown, hch⟩ (by
      intro b hb
      have hb' : v.ownBlock = some b := by simpa using hb
      obtain ⟨h2, h3⟩ := hnew b hb'
      refine ⟨?_, .inr (Nat.le_trans hs.mod.size h2), h3, fun j o' _ hj hb => ?_⟩
      · cases hq : H b with
        | none => rfl
        | some c => obtain ⟨t, f, h⟩ := hs.hok _ _ hq; exact absurd (Array.getElem?_eq_some_iff.1 h).1 (by omega)
      · have := ((hs.os j o' hj).2 _ hb).2.2
        omega)
  refine ⟨_, h1.set (by rw [hC.nt]; exact hd) ⟨⟨true, .list true tid e, l⟩, ⟨.list true tid e, l⟩, ?_, getV_nil _ _, ?_⟩⟩
  · rw [St.newObj, St.obj_setObj, if_pos rfl]
  · simp only [List.isEmpty_nil, Bool.and_self, putInfo_same]

theorem lenK_some {R : Type} {n : Int} {k : Option R} {r : R} (h : lenK n k = some r) : 0 ≤ n ∧ n ≤ 549755813888 ∧ k = some r := by
  rw [lenK_eq] at h
  split at h
  · exact ⟨by omega, by omega, h⟩
  · cases h

theorem op_makeSlice (hcfg : CfgOK P cfg) (hC : CtxOK C cfg) {T : TypeId} {x y : Operand} (hs : SimB P C s a w H Φ) (hd : dstOK cfg.nt dst = true) (h : absOp cfg ⟨dst, .makeSlice T x y, ty, pos, after, guard⟩ s k = some r) :
    ∃ s', k s' = some r ∧ Goes P C ⟨dst, .makeSlice T x y, ty, pos, after, guard⟩ a w s' := by
  simp only [absOp] at h
  split at h
  case h_2 => cases h
  rename_i d tid e l c hl hc hst
  obtain ⟨av, hl1, hl2⟩ := Option.bind_eq_some_iff.1 hl
  obtain ⟨bv, hc1, hc2⟩ := Option.bind_eq_some_iff.1 hc
  obtain ⟨k1, hv1⟩ := intOf_ok hl2 (evalA_ok hs none_fz hl1)
  obtain ⟨k2, hv2⟩ := intOf_ok hc2 (evalA_ok hs none_fz hc1)
  cases hq : e.noFn && decide (lk cfg.ty T = some (.list false tid e.fz)) with
  | false => rw [hq] at h; cases h
  | true =>
    rw [hq, cond_true] at h
    rw [Bool.and_eq_true] at hq
    obtain ⟨hn, hT⟩ := hq
    obtain ⟨hty, _⟩ := hcfg.ty T _ (of_decide_eq_true hT)
    obtain ⟨hu, he⟩ := hty.list
    have he := TyOK.unfz he
    obtain ⟨h0, h⟩ := leK_some h
    obtain ⟨h1, h⟩ := leK_some h
    obtain ⟨h2, h3, h⟩ := lenK_some h
    obtain ⟨i, hi, hsz, hpos, hby, hz⟩ := he.info
    have hzc : (toV e e.zeroCells).cells.toList = e.zeroCells := toV_cells (by rintro x y rfl; exact he.not_pair) (Ty.zero_length e) (Ty.zero_one e)
    have hzs : (toV e e.zeroCells).cells.size = e.size := by rw [← Array.length_toList, hzc, Ty.zero_length]
    have hb : (i.bytes : Int) * c ≤ 281474976710656 := by
      have h4 : i.bytes * c.toNat ≤ 256 * 549755813888 := Nat.mul_le_mul hby (by omega)
      have h5 : ((i.bytes * c.toNat : Nat) : Int) = (i.bytes : Int) * c := by rw [Int.natCast_mul, Int.toNat_of_nonneg (by omega)]
      omega
    have hrun := run_make (P := P) w T tid i _ hu hi hz k1 k2 l c h0 h1 hb (by omega)
    have hm := mod_alloc w (.cells (madeCells (toV e e.zeroCells).cells (c.toNat * i.size)) tid)
    have hml : (madeCells (toV e e.zeroCells).cells (c.toNat * i.size)).toList = (List.replicate c.toNat e.zeroCells).flatten := by
      have := made_list (toV e e.zeroCells).cells (by omega) c.toNat
      rw [hzs, hzc] at this
      rw [hsz]; exact this
    have hlz : (List.replicate l.toNat e.zeroCells).flatten.length = l.toNat * e.size := by simp [Ty.zero_length]
    have hsplit : (List.replicate c.toNat e.zeroCells).flatten = (List.replicate l.toNat e.zeroCells).flatten ++ (List.replicate (c.toNat - l.toNat) e.zeroCells).flatten := by
      rw [← List.flatten_append, List.replicate_append_replicate]; congr 2; omega
    obtain ⟨Φ', h4⟩ := hs.newRow (w' := w.alloc (.cells (madeCells (toV e e.zeroCells).cells (c.toNat * i.size)) tid)) (tid := tid) (e := e) (l := List.replicate l.toNat e.zero) (v := .slice (some ⟨w.heap.size, 0, none⟩) l.toNat c.toNat) (xs := (List.replicate l.toNat e.zeroCells).flatten) hcfg hC (Eq.mp Nat.blt_eq hd) hn hm
      ⟨by rw [List.length_replicate, hlz], .inr ⟨w.heap.size, c.toNat, _, by rw [List.length_replicate], Nat.zero_le _, heap_alloc_new w _, by rw [List.length_replicate]; omega, by unfold maxLen; omega, by rw [size_madeCells, hsz], by rw [List.length_replicate, hml, hsplit, ← hlz, List.take_left]⟩⟩
      (Chunks.replicate (Rep.zero e hn) l.toNat) (by intro b hb; simp only [Value.ownBlock, Option.some.injEq] at hb; subst hb; exact ⟨Nat.le_refl _, by simp⟩)
    refine ⟨_, h, goes_val (w' := w.alloc (.cells (madeCells (toV e e.zeroCells).cells (c.toNat * i.size)) tid)) (v := .slice (some ⟨w.heap.size, 0, none⟩) l.toNat c.toNat) ?_ ⟨H, Φ', h4⟩⟩
    simp [execOp, hv1, hv2, hrun]

theorem castList_some {own : Bool} {tid : TypeId} {σ e : Ty} {y : σ.den} {l : List e.den} (h : castTy σ (.list own tid e) y = some l) : σ = .list own tid e ∧ HEq y l := by
  obtain ⟨e1, h2⟩ := castTy_self h
  subst e1
  exact ⟨rfl, by rw [h2]⟩

theorem op_append (hcfg : CfgOK P cfg) (hC : CtxOK C cfg) {c : Call} (hc : c.callee = .builtin .append) (hs : SimB P C s a w H Φ) (hd : dstOK cfg.nt dst = true) (h : absOp cfg ⟨dst, .call c, ty, pos, after, guard⟩ s k = some r) :
    ∃ s', k s' = some r ∧ Goes P C ⟨dst, .call c, ty, pos, after, guard⟩ a w s' := by
  simp only [absOp, hc] at h
  split at h
  case h_2 => cases h
  rename_i x y T T' hxy hTT
  split at h
  case h_2 => cases h
  rename_i av bv he1 he2
  cases hq : Nat.beq T T' with
  | false => rw [hq] at h; cases h
  | true =>
  rw [hq, cond_true] at h
  obtain rfl := Nat.eq_of_beq_eq_true hq
  have hr := evalA_ok hs (hcfg.fz T) he1
  have hr2 := evalA_ok hs (hcfg.fz T) he2
  have e2 : c = ⟨.builtin .append, #[x, y], #[T, T]⟩ := by
    obtain ⟨c1, c2, c3⟩ := c
    simp only at hc hxy hTT
    rw [hc, ← Array.toArray_toList (xs := c2), hxy, ← Array.toArray_toList (xs := c3), hTT]
  subst e2
  unfold appendK at h
  split at h
  case h_2 => cases h
  rename_i own tid e hT
  obtain ⟨hty, hfz⟩ := hcfg.ty T _ hT
  obtain ⟨hu, he⟩ := hty.list
  have hef : e.isFz = true := by simp only [Ty.isFz, Bool.and_eq_true] at hfz; exact hfz.2
  cases hn : e.noFn with
  | false => rw [hn] at h; cases h
  | true =>
  rw [hn, cond_true] at h
  split at h
  · rename_i o2 tid2 e2 l0
    split at h
    case h_2 => cases h
    rename_i cv
    obtain ⟨hv, _⟩ := const_slice (a := a) ⟨cv, rfl⟩ he1
    obtain ⟨l2, h, hel⟩ := elemsK_ok hs hr2 hef h
    obtain ⟨h2, h3, h⟩ := lenK_some h
    split at h
    case h_2 => cases h
    rename_i d
    obtain ⟨v', w', news, hrun, hch, hown, _, hg, hblk⟩ := run_append_row hu he ty (World.ownsRow_nil w 0 tid e.size) hel (by omega)
    have hm : Mod noBlock w w' := ⟨hg.os, hg.tape, hg.output, hg.size, fun k hk _ => hg.block k hk (by simp [Value.ownBlock])⟩
    simp only [Nat.zero_add, List.nil_append] at hown
    obtain ⟨Φ', h4⟩ := hs.newRow (l := l2) hcfg hC (Eq.mp Nat.blt_eq hd) hn hm hown (Chunks.mono (fun _ _ _ hh => by
      have hf0 := Rep.fz_fp e hef hh
      subst hf0
      exact Rep.mono e (FH.le_refl _) (by simp) hh) hch) (by
      intro b hb
      rcases hblk with hb' | ⟨g, hb', h5, h6⟩
      · rw [hb'] at hb; simp [Value.ownBlock] at hb
      · rw [hb'] at hb; cases hb; exact ⟨h5, h6⟩)
    refine ⟨_, h, goes_val (w' := w') (v := v') ?_ ⟨H, Φ', h4⟩⟩
    simp [execOp, resolve, invoke, builtin, hv, hrun]
  · rename_i id p
    split at h
    case h_2 => cases h
    rename_i o ho
    rw [getPK_eq] at h
    replace h := Option.bind_eq_some_iff.1 h
    obtain ⟨yy, hy, h⟩ := h
    obtain ⟨σ, yy⟩ := yy
    simp only [derefK_eq] at h
    replace h := Option.bind_eq_some_iff.1 h
    obtain ⟨l, hl, h⟩ := h
    obtain ⟨hσ, hyl⟩ := castList_some hl
    subst hσ
    obtain rfl := eq_of_heq hyl
    obtain ⟨l2, h, hel⟩ := elemsK_ok hs hr2 hef h
    obtain ⟨h2, h3, h⟩ := lenK_some h
    have hok := (hs.os id o ho).1
    have hob := (hs.os id o ho).2
    obtain ⟨cs, fp, hv, hrep, hsub, _⟩ := view_rep hr ho hok hy
    replace hrep : Rep P (.list true tid e) w H yy cs fp := hrep
    replace hv : a.eval x = toV (.list true tid e) cs := hv
    obtain ⟨hdr, xs, fp', rfl, rfl, hown, hch⟩ := hrep
    have hf0 := Chunks.fp_nil (fun _ _ _ hh => Rep.fz_fp e hef hh) hch
    subst hf0
    replace hv : a.eval x = hdr := hv
    have hch1 := hch
    obtain ⟨v', w', news, hrun, hch2, hown2, hown1, hg, hblk⟩ := run_append_row hu he ty hown hel (by omega)
    have hgb : ∀ b, hdr.ownBlock = some b → b ∈ (Φ id).fp := fun b hb => hsub b (by rw [hb]; simp)
    have hchw : ∀ {l : List e.den} {xs : List Value}, Chunks (Rep P e w H) l xs [] → Chunks (Rep P e w' H) l xs [] := fun hh => Chunks.mono (fun _ _ _ hh => by
      have hf0 := Rep.fz_fp e hef hh
      subst hf0
      exact Rep.mono e (FH.le_refl _) (by simp) hh) hh
    have hrep1 : Rep P (.list true tid e) w' H yy [hdr] hdr.ownBlock.toList := ⟨hdr, xs, [], rfl, by simp, hown1, hchw hch⟩
    -- the object reads as before
    have hobj : ObjOK P w' H ⟨o.row, o.τ, o.x⟩ (Φ id) ∧ HdrAt w' o (Φ id) p hdr := by
      cases hrp : o.row && p.isEmpty with
      | true =>
        simp only [Bool.and_eq_true, List.isEmpty_iff] at hrp
        obtain ⟨hrow, rfl⟩ := hrp
        rw [getV_nil] at hy
        obtain ⟨q1, q2, q3⟩ := hok
        obtain ⟨row, τ, ox⟩ := o
        simp only at hrow
        subst hrow
        simp only [Option.some.injEq, Sigma.mk.injEq] at hy
        obtain ⟨rfl, hxl⟩ := hy
        simp only [heq_eq_eq] at hxl
        subst hxl
        obtain ⟨hdr', xs', fp', k1, k2, k3, k4⟩ := ObjOK.row_list ⟨q1, q2, q3⟩
        have hf0 := Chunks.fp_nil (fun _ _ _ hh => Rep.fz_fp e hef hh) k4
        subst hf0
        obtain ⟨o', y', p1, p2, p3⟩ := hr
        rw [ho] at p1
        cases p1
        have hh : hdr = (Φ id).hdr := by rw [← hv]; exact p3
        refine ⟨ObjOK.of_list q1 q2 ?_, hh⟩
        rw [k2, List.append_nil]
        have : (Φ id).hdr = hdr' := by simpa using k1
        rw [← this, ← hh]
        exact hrep1
      | false =>
        have hloc0 : ∃ w0 b off, LocO w0 o (Φ id) p b off := by
          obtain ⟨ob2, y', p1, p2, p3⟩ := hr
          rw [ho] at p1
          cases p1
          rw [hrp] at p3
          obtain ⟨b, off, _, _, k, _⟩ := p3
          exact ⟨w, b, off, k⟩
        obtain ⟨b', o', blk', t', pre', c, post', f1, f, f2, e1, e2, e3, e4, e5, e6, hl', e7⟩ := hok.desc2 (y := yy) hy hloc0 hrp
        have hcc : c = [hdr] ∧ f = hdr.ownBlock.toList := by
          obtain ⟨ob2, y', p1, p2, p3⟩ := hr
          rw [ho] at p1
          cases p1
          rw [hrp] at p3
          rw [hy] at p2
          cases p2
          obtain ⟨b2, off, blk, t, q4, q5, q6⟩ := p3
          obtain ⟨rfl, rfl⟩ := LocO.det q4 (hl' w (fun _ _ => rfl))
          rw [e1] at q5
          cases q5
          obtain ⟨hdr2, xs2, fp2, rfl, rfl, k3, k4⟩ := e6
          have hf0 := Chunks.fp_nil (fun _ _ _ hh => Rep.fz_fp e hef hh) k4
          subst hf0
          have : hdr = hdr2 := by
            rw [← hv, q6, ← e3]
            exact congrArg (toV (.list true tid e)) (seg_of_split (n := 1) e2 rfl)
          subst this
          exact ⟨rfl, by simp⟩
        obtain ⟨rfl, rfl⟩ := hcc
        have hnd := hok.2.1
        rw [e4] at hnd
        have hbk : ∀ k, (k ∈ f1 ∨ k ∈ f2) → some k ≠ hdr.ownBlock ∧ k < w.heap.size := by
          intro k hk
          refine ⟨fun hh => ?_, (hob k (by rw [e4]; rcases hk with h | h <;> simp [h])).2.2⟩
          rw [← hh] at hnd
          simp only [Option.toList_some, List.nodup_append, List.mem_append, List.mem_singleton] at hnd
          rcases hk with hk | hk
          · exact hnd.1.2.2 k hk k rfl rfl
          · exact hnd.2.2 k (.inr rfl) k hk rfl
        have hsame : ∀ k, (k ∈ f1 ∨ k ∈ f2) → w'.heap[k]? = w.heap[k]? := fun k hk => hg.block k (hbk k hk).2 (hbk k hk).1
        have := e7 w' [hdr] hdr.ownBlock.toList (.list true tid e) yy o.x hrep1 (setV_getV _ hy) (by rw [hsame b' (.inl e5), e1, ← e2]) (fun k hk _ => hsame k (List.mem_append.1 hk)) hnd
        rw [← e4] at this
        refine ⟨this, ?_⟩
        unfold HdrAt
        rw [hrp]
        refine ⟨b', o', hl' w' (fun k hk => hsame k (.inl hk)), ?_⟩
        rw [cell_of_block (by rw [hsame b' (.inl e5)]; exact e1), ← Array.getElem?_toList, e2, ← e3]
        simp
    obtain ⟨hobj, hhd⟩ := hobj
    have hother : ∀ j o', j ≠ id → s.obj j = some o' → ∀ b ∈ (Φ j).fp, w'.heap[b]? = w.heap[b]? ∧ H b = none := by
      intro j o' hj hoj b hb
      refine ⟨hg.block b ((hs.os j o' hoj).2 b hb).2.2 (fun hh => ?_), ((hs.os j o' hoj).2 b hb).1⟩
      exact hs.disj id j o o' (fun e => hj e.symm) ho hoj b (hgb b hh.symm) hb
    have hmw : Mod (fun k => some k = hdr.ownBlock) w w' := ⟨hg.os, hg.tape, hg.output, hg.size, fun k hk hM => hg.block k hk hM⟩
    have hmod : Mod C.M0 C.w0 w' := hs.mod.trans_new hmw (fun k hk => (hob k (hgb k hk.symm)).2.1)
    have hhok : HOk H w' := hs.hok.mod hmw (fun b hb => (hob b (hgb b hb.symm)).1)
    have hch := hs.change ho o.x (Φ id) rfl rfl (FH.le_refl H) hhok hs.hnew hmod hg.size hother hobj (fun b hb => ⟨(hob b hb).1, (hob b hb).2.1, Nat.lt_of_lt_of_le (hob b hb).2.2 hg.size, fun j o' hj hoj hb' => hs.disj id j o o' (fun e => hj e.symm) ho hoj b hb hb'⟩)
    have hΦ : putInfo Φ id (Φ id) = Φ := by
      funext j
      unfold putInfo
      split
      · rename_i e; rw [e]
      · rfl
    rw [hΦ] at hch
    have hcg := hch.congr (s' := s.killIf (AV.stale id o.row)) rfl (by
      funext j
      rw [St.obj_setObj, St.obj_killIf]
      split
      · rename_i e; rw [← e]; exact ho
      · rfl)
    have hty2 := getV_tyAt _ hy
    refine ⟨_, h, goes_val (w' := w') (v := v') ?_ ⟨H, Φ, hcg.setDst (by rw [hC.nt]; exact hd) ⟨o, ho, hef, hn, hty2, v'.ownBlock.toList, ⟨v', xs ++ news, [], rfl, by simp, by rw [List.length_append]; exact hown2, Chunks.append (hchw hch1) (hchw hch2)⟩, ?_⟩⟩⟩
    · simp [execOp, resolve, invoke, builtin, hv, hrun]
    · intro b hb
      have hb' : v'.ownBlock = some b := by simpa using hb
      rcases hblk with hb2 | ⟨g, hb2, h5, h6⟩
      · rw [hb2] at hb'
        exact ⟨Nat.lt_of_lt_of_le (hob b (hgb b hb')).2.2 hg.size, .inr ⟨hdr, hhd, hb'⟩⟩
      · rw [hb2] at hb'
        obtain rfl : g = b := by simpa using hb'
        refine ⟨h6, .inl ⟨?_, fun j o' hj hbj => ?_, .inr (Nat.le_trans hs.mod.size h5), h6⟩⟩
        · cases hq : H g with
          | none => rfl
          | some c => obtain ⟨t, f, hh⟩ := hs.hok _ _ hq; exact absurd (Array.getElem?_eq_some_iff.1 hh).1 (by omega)
        · have := ((hs.os j o' hj).2 _ hbj).2.2
          omega
  · cases h
end
end Go.Vi
