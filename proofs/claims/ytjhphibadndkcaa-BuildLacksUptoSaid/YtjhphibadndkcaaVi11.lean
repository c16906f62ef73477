/- The abstract interpreter 'Vi', eleventh part: addresses, loads, lengths, slices. No condition beyond those typed in each theorem. -/
import Derived.Test.YtjhphibadndkcaaVi10
namespace Go.Vi
section
variable {P : Program} {C : Ctx}

theorem isFz_tyAt : (τ : Ty) → τ.isFz = true → ∀ {p : List Step} {σ : Ty}, tyAt τ p = some σ → σ.isFz = true
  | .pair a b, hf, p, σ, h => by
    have hf' := hf
    simp only [Ty.isFz, Bool.and_eq_true] at hf'
    match p with
    | [] => cases h; exact hf
    | .L :: q => exact isFz_tyAt a hf'.1 h
    | .R :: q => exact isFz_tyAt b hf'.2 h
    | .I _ :: _ => cases h
  | .str t, hf, p, σ, h => by
    match p with
    | [] => cases h; exact hf
    | s :: q => exact isFz_tyAt t hf h
  | .list true tid e, hf, p, σ, h => by simp [Ty.isFz] at hf
  | .arr n e, hf, p, σ, h => by
    match p with
    | [] => cases h; exact hf
    | .L :: _ => cases h
    | .R :: _ => cases h
    | .I _ :: q => exact isFz_tyAt e hf h
  | .int _, hf, p, _, h => by cases p <;> cases h; exact hf
  | .bool, hf, p, _, h => by cases p <;> cases h; exact hf
  | .list false _ _, hf, p, _, h => by cases p <;> cases h; exact hf
  | .ptr _, hf, p, _, h => by cases p <;> cases h; exact hf
  | .fn _ _, hf, p, _, h => by cases p <;> cases h; exact hf
  | .fn2 _ _ _, hf, p, _, h => by cases p <;> cases h; exact hf

theorem getV_append : (τ : Ty) → ∀ {x : τ.den} {p q : List Step} {y}, getV τ x p = some y → getV τ x (p ++ q) = getV y.1 y.2 q
  | .pair a b, x, p, q, y, h => by
    match p with
    | [] => cases h; rfl
    | .L :: _ => exact getV_append a h
    | .R :: _ => exact getV_append b h
    | .I _ :: _ => cases h
  | .str t, x, p, q, y, h => by
    match p with
    | [] => cases h; rfl
    | s :: _ => exact getV_append t h
  | .list true tid e, x, p, q, y, h => by
    match p with
    | [] => cases h; rfl
    | .L :: _ => cases h
    | .R :: _ => cases h
    | .I i :: r =>
      simp only [getV, List.cons_append] at h ⊢
      split at h
      · rename_i hi
        rw [if_pos hi]
        obtain ⟨z, hz, h⟩ := Option.bind_eq_some_iff.1 h
        rw [hz]
        exact getV_append e h
      · cases h
  | .arr n e, x, p, q, y, h => by
    match p with
    | [] => cases h; rfl
    | .L :: _ => cases h
    | .R :: _ => cases h
    | .I i :: r =>
      simp only [getV, List.cons_append] at h ⊢
      split at h
      · rename_i hi
        rw [if_pos hi]
        obtain ⟨z, hz, h⟩ := Option.bind_eq_some_iff.1 h
        rw [hz]
        exact getV_append e h
      · cases h
  | .int _, _, p, _, _, h => by cases p <;> cases h; rfl
  | .bool, _, p, _, _, h => by cases p <;> cases h; rfl
  | .list false _ _, _, p, _, _, h => by cases p <;> cases h; rfl
  | .ptr _, _, p, _, _, h => by cases p <;> cases h; rfl
  | .fn _ _, _, p, _, _, h => by cases p <;> cases h; rfl
  | .fn2 _ _ _, _, p, _, _, h => by cases p <;> cases h; rfl

theorem LocO.append {w : World} {o : Obj} {φ : Info} {p q : List Step} {b off b2 off2 : Nat} {σ : Ty} (h : LocO w o φ p b off) (ht : tyAt o.τ p = some σ) (k : Loc w σ b off q b2 off2) : LocO w o φ (p ++ q) b2 off2 := by
  obtain ⟨row, τ, x⟩ := o
  cases row with
  | false => exact Loc.append τ ht h k
  | true =>
    cases τ with
    | list own tid e =>
      cases own with
      | false => exact h.elim
      | true =>
        match p with
        | [] => exact h.elim
        | .L :: _ => exact h.elim
        | .R :: _ => exact h.elim
        | .I i :: r =>
          obtain ⟨g, n, cap, e1, e2⟩ := h
          exact ⟨g, n, cap, e1, Loc.append e ht e2 k⟩
    | _ => exact h.elim

theorem fpath_fz : (s : Ty) → ∀ i, fpath s.fz i = fpath s i ∧ hasField s.fz i = hasField s i
  | .pair a b, 0 => ⟨rfl, rfl⟩
  | .pair a b, i + 1 => by
    have := fpath_fz b i
    exact ⟨congrArg (Step.R :: ·) this.1, this.2⟩
  | .int _, _ => ⟨rfl, rfl⟩
  | .bool, _ => ⟨rfl, rfl⟩
  | .list _ _ _, _ => ⟨rfl, rfl⟩
  | .str _, _ => ⟨rfl, rfl⟩
  | .ptr _, _ => ⟨rfl, rfl⟩
  | .arr _ _, _ => ⟨rfl, rfl⟩
  | .fn _ _, _ => ⟨rfl, rfl⟩
  | .fn2 _ _ _, _ => ⟨rfl, rfl⟩

theorem Addr.add_none (b o n : Nat) : (⟨b, o, none⟩ : Addr).add n = ⟨b, o + n, none⟩ := by unfold Addr.add; split <;> simp_all

theorem split_seg {c : Array Value} {o n : Nat} (h : (seg c o n).length = n) (hn : 0 < n) : ∃ pre post, c.toList = pre ++ seg c o n ++ post ∧ pre.length = o := by
  unfold seg at h ⊢
  refine ⟨c.toList.take o, (c.toList.drop o).drop n, ?_, ?_⟩
  · rw [List.append_assoc, List.take_append_drop, List.take_append_drop]
  · rw [List.length_take, List.length_drop] at h
    rw [List.length_take]; omega

theorem seg_seg {c : Array Value} {o n k m : Nat} {pre x post : List Value} (h : seg c o n = pre ++ x ++ post) (hk : pre.length = k) (hm : x.length = m) : seg c (o + k) m = x := by
  unfold seg at h ⊢
  rw [← List.drop_drop]
  have e := List.take_append_drop n (c.toList.drop o)
  rw [h] at e
  rw [← e, List.append_assoc, List.append_assoc, ← hk, List.drop_left, ← hm, List.take_left]

theorem run_fieldAt {t : TypeId} {fs : Array Field} (hu : P.underlying t = some (.struct fs)) {f : Field} {σ : Ty} {i : Nat} (hf : fs.toList[i]? = some f) (ht : TyOK P f.type σ) (b o : Nat) (w : World) :
    (Instr.fieldAt t (.pointer (some ⟨b, o, none⟩)) i).run P w = .ok (.pointer (some ⟨b, o + f.offset, none⟩)) w := by
  have hf' : fs[i]? = some f := by simpa using hf
  obtain ⟨j, h1, h2, h3, _⟩ := ht.info
  have hne : ¬ j.size = 0 := by omega
  simp [Instr.fieldAt, run_underlying hu, hf', Instr.sureAddr, fieldPlace, Go.sizeOf, typeInfo, h1, hne, Addr.add_none]

variable {cfg : Cfg} {R : Type} {r : R} {s : St} {a : Act} {w : World} {H : FH} {Φ : Nat → Info} {dst : Option Nat} {ty : TypeId} {pos : String} {after : Array Edge} {guard : Option (Nat × Bool)} {k : St → Option R}

theorem op_fieldAddr (hcfg : CfgOK P cfg) (hC : CtxOK C cfg) {T : TypeId} {x : Operand} {i : Nat} (hs : SimB P C s a w H Φ) (hd : dstOK cfg.nt dst = true) (h : absOp cfg ⟨dst, .fieldAddr T x i, ty, pos, after, guard⟩ s k = some r) :
    ∃ s', k s' = some r ∧ Still P C ⟨dst, .fieldAddr T x i, ty, pos, after, guard⟩ a w s' := by
  simp only [absOp] at h
  split at h
  case h_2 => cases h
  rename_i av he
  have hr := evalA_ok hs none_fz he
  unfold fieldAddrK at h
  split at h
  · cases h
  rename_i T' hT
  obtain ⟨hty, hfz⟩ := hcfg.ty T T' hT
  split at h
  · cases h
  rename_i q hq
  unfold stepsTo at hq
  split at hq
  case h_2 => cases hq
  rename_i t'
  cases hhf : hasField t' i with
  | false => rw [hhf] at hq; cases hq
  | true =>
    rw [hhf] at hq
    cases hq
    split at h
    · rename_i t y
      cases ht : decide (Ty.str t = .str t') with
      | false => rw [ht] at h; cases h
      | true =>
        rw [ht, cond_true] at h
        have ht := of_decide_eq_true ht
        injection ht with ht
        subst ht
        obtain ⟨_, b, o, blk, hv, hH, hrep⟩ := hr
        obtain ⟨fs, hu, hfs⟩ := hty.str
        obtain ⟨f, σ, q1, q2, q3, q4, q5, q6, q7⟩ := hfs.at t hhf
        obtain ⟨z, g1, g2, pre, c, post, f1, f2, f3, e1, e2, e3, e4⟩ := q7 (show Rep P t w H y _ [] from hrep)
        rw [g2] at h
        have ef : f2 = [] := by
          have := congrArg List.length e2; simp at this; exact List.length_eq_zero_iff.1 (by omega)
        subst ef
        refine ⟨_, h, quiet_set hs hC hd (v := .pointer (some ⟨b, o + f.offset, none⟩)) ⟨isFz_tyAt t (by simpa [Ty.isFz] using hfz) q4, b, o + f.offset, blk, rfl, hH, ?_⟩ (fun w' _ => by simp [execOp, hv, run_fieldAt hu q1 q3])⟩
        have := seg_seg (m := σ.size) e1 (k := f.offset) (by rw [e3]; omega) (Rep.length σ e4)
        rw [this]
        exact e4
    · rename_i id p
      obtain ⟨o, y, b, off, h1, h2, h3, h4, hv⟩ := hr
      rw [h1] at h
      simp only [h2, cond_false] at h
      have hyt := getV_tyAt _ h3
      rw [hyt] at h
      simp only at h
      cases ht : decide (y.1.fz = .str t') && !(fpath t' i).isEmpty with
      | false => rw [ht] at h; cases h
      | true =>
        rw [ht, cond_true] at h
        rw [Bool.and_eq_true] at ht
        obtain ⟨ht, hne⟩ := ht
        have ht := of_decide_eq_true ht
        obtain ⟨σ0, y0⟩ := y
        simp only at ht hyt
        cases σ0 with
        | str u =>
          injection ht with ht
          subst ht
          obtain ⟨fs, hu, hfs⟩ := (TyOK.unfz (τ := .str u) hty).str
          have hhf' : hasField u i = true := by rw [← (fpath_fz u i).2]; exact hhf
          rw [(fpath_fz u i).1] at hne h
          obtain ⟨f, σ, q1, q2, q3, q4, q5, q6, q7⟩ := hfs.at u hhf'
          have hok := (hs.os id o h1).1
          obtain ⟨_, _, _, blk', t', pre', c, post', f1, f', f2, e1, e2, e3, e4, e5, e6, _⟩ := hok.desc (y := y0) h3 ⟨w, _, _, h4⟩ h2
          obtain ⟨z, g1, _⟩ := q7 (show Rep P u w H y0 c f' from e6)
          have hstr : getV (.str u) y0 (fpath u i) = some ⟨σ, z⟩ := by
            cases hpp : fpath u i with
            | nil => rw [hpp] at hne; cases hne
            | cons a l => rw [hpp] at g1; exact g1
          have happ : getV o.τ o.x (p ++ fpath u i) = some ⟨σ, z⟩ := by
            rw [getV_append _ h3]; exact hstr
          have hloc : LocO w o (Φ id) (p ++ fpath u i) b (off + f.offset) := by
            refine h4.append hyt ?_
            have := q6 w b off
            rw [Nat.sub_zero] at this
            cases hpp : fpath u i with
            | nil => rw [hpp] at hne; cases hne
            | cons a l => rw [hpp] at this; exact this
          refine ⟨_, h, quiet_set hs hC hd (v := .pointer (some ⟨b, off + f.offset, none⟩)) ⟨o, ⟨σ, z⟩, b, off + f.offset, h1, ?_, happ, hloc, rfl⟩ (fun w' _ => by simp [execOp, hv, run_fieldAt hu q1 q3])⟩
          cases hpp : fpath u i with
          | nil => rw [hpp] at hne; cases hne
          | cons a l => simp
        | _ => cases ht
    · cases h

/-- What a view reads as. -/
theorem view_rep {w : World} {H : FH} {Φ : Nat → Info} {os : Nat → Option Obj} {id : Nat} {p : List Step} {v : Value} (h : RepA P C w H Φ os (.view id p) v) {o : Obj} (ho : os id = some o) (hok : ObjOK P w H o (Φ id)) {y} (hy : getV o.τ o.x p = some y) :
    ∃ cs fp, v = toV y.1 cs ∧ Rep P y.1 w H y.2 cs fp ∧ (∀ b ∈ fp, b ∈ (Φ id).fp) ∧ fp.Nodup := by
  obtain ⟨o', y', h1, h2, h3⟩ := h
  rw [ho] at h1
  cases h1
  rw [hy] at h2
  cases h2
  cases hr : o.row && p.isEmpty with
  | true =>
    rw [hr] at h3
    simp only [Bool.and_eq_true, List.isEmpty_iff] at hr
    obtain ⟨hrow, rfl⟩ := hr
    rw [getV_nil] at hy
    cases hy
    obtain ⟨_, hnd, h5⟩ := hok
    rw [hrow] at h5
    obtain ⟨_, cs, hcs, h6⟩ := h5
    refine ⟨cs, (Φ id).fp, ?_, h6, fun _ h => h, hnd⟩
    simp only at h3
    rw [h3]
    exact hcs
  | false =>
    rw [hr] at h3
    obtain ⟨b, off, blk, t, h4, h5, h6⟩ := h3
    have hnd := hok.2.1
    obtain ⟨b', o', hl, blk', t', pre', c, post', f1, f, f2, e1, e2, e3, e4, e5, e6, _⟩ := hok.desc (y := y.2) hy ⟨w, _, _, h4⟩ hr
    obtain ⟨rfl, rfl⟩ := LocO.det h4 (hl w (fun _ _ => rfl))
    rw [e1] at h5
    cases h5
    refine ⟨c, f, ?_, e6, fun b hb => by rw [e4]; simp [hb], ?_⟩
    · rw [h6, ← e3, seg_of_split e2 (Rep.length _ e6)]
    · rw [e4] at hnd
      exact (List.nodup_append.1 (List.nodup_append.1 hnd).1).2.1

theorem run_indexAt_slice {t tid : TypeId} {e : Ty} (hu : P.underlying t = some (.slice tid)) (he : TyOK P tid e) {b o n cap : Nat} {i : Int} {ik : IntKind} (h0 : 0 ≤ i) (hn : i < n) (w : World) :
    (Instr.indexAt t (.slice (some ⟨b, o, none⟩) n cap) (.int ik i)).run P w = .ok (.pointer (some ⟨b, o + i.toNat * e.size, none⟩)) w := by
  obtain ⟨j, h1, h2, _⟩ := he.info
  simp [Instr.indexAt, asIntOf, run_underlying hu, h0, hn, Go.sizeOf, typeInfo, h1, h2, Addr.add_none]
theorem run_indexAt_arr {t tid : TypeId} {e : Ty} {m : Nat} (hu : P.underlying t = some (.array m tid)) (he : TyOK P tid e) {b o : Nat} {i : Int} {ik : IntKind} (h0 : 0 ≤ i) (hn : i < m) (w : World) :
    (Instr.indexAt t (.pointer (some ⟨b, o, none⟩)) (.int ik i)).run P w = .ok (.pointer (some ⟨b, o + i.toNat * e.size, none⟩)) w := by
  obtain ⟨j, h1, h2, _⟩ := he.info
  simp [Instr.indexAt, asIntOf, Instr.sureAddr, run_underlying hu, h0, hn, Go.sizeOf, typeInfo, h1, h2, Addr.add_none]

theorem intOf_ok {av : AV} {n : Int} (h : intOf av = some n) {v : Value} (hr : RepA P C w H Φ s.obj av v) : ∃ k, v = .int k n := by
  unfold intOf at h
  split at h
  · cases h; exact ⟨_, hr.int⟩
  · cases h

theorem getI_some {α R : Type} {l : List α} {i : Int} {k : α → Option R} {r : R} (h : getI l i k = some r) : 0 ≤ i ∧ ∃ x, l[i.toNat]? = some x ∧ k x = some r := by
  rw [getI_eq] at h
  split at h
  · obtain ⟨x, h1, h2⟩ := Option.bind_eq_some_iff.1 h
    exact ⟨‹_›, x, h1, h2⟩
  · cases h
theorem inR_some {R : Type} {i : Int} {n : Nat} {k : Option R} {r : R} (h : inR i n k = some r) : 0 ≤ i ∧ i < n ∧ k = some r := by
  unfold inR at h
  split at h
  · exact ⟨by omega, by omega, h⟩
  · cases h

theorem op_indexAddr (hcfg : CfgOK P cfg) (hC : CtxOK C cfg) {T : TypeId} {x ix : Operand} (hs : SimB P C s a w H Φ) (hd : dstOK cfg.nt dst = true) (h : absOp cfg ⟨dst, .indexAddr T x ix, ty, pos, after, guard⟩ s k = some r) :
    ∃ s', k s' = some r ∧ Still P C ⟨dst, .indexAddr T x ix, ty, pos, after, guard⟩ a w s' := by
  simp only [absOp] at h
  split at h
  case h_2 => cases h
  rename_i av i he hi
  have hr := evalA_ok hs none_fz he
  obtain ⟨iav, hi1, hi2⟩ := Option.bind_eq_some_iff.1 hi
  obtain ⟨ik, hiv⟩ := intOf_ok hi2 (evalA_ok hs none_fz hi1)
  unfold indexAddrK at h
  split at h
  · rename_i own tid e l
    cases hT : decide (lk cfg.ty T = some (.list false tid e.fz)) with
    | false => rw [hT] at h; cases h
    | true =>
      rw [hT, cond_true] at h
      obtain ⟨hty, _⟩ := hcfg.ty T _ (of_decide_eq_true hT)
      replace h := getI_some h
      obtain ⟨h0, y, hy, h⟩ := h
      obtain ⟨hf, cs, hv, hrep⟩ := hr
      simp only [Ty.isFz, Bool.and_eq_true, Bool.not_eq_true'] at hf
      obtain ⟨rfl, hef⟩ := hf
      rw [Ty.fz_of_isFz e hef] at hty
      obtain ⟨_, ad, cap, rfl, hcap, hl⟩ := hrep
      have hlt := (List.getElem?_eq_some_iff.1 hy).1
      rcases hl with rfl | ⟨b, o, blk, rfl, hH, hch⟩
      · simp at hlt
      · obtain ⟨pre, c, post, f1, f, f2, e1, e2, e3, e4, e5⟩ := hch.at hy
        have ef : f = [] := by have := congrArg List.length e2; simp at this; exact List.length_eq_zero_iff.1 (by omega)
        subst ef
        have hpl : pre.length = i.toNat * e.size := by
          rw [Chunks.length (n := e.size) (fun _ _ _ hh => Rep.length e hh) e3, List.length_take, Nat.min_eq_left (Nat.le_of_lt hlt)]
        have hv' : a.eval x = .slice (some ⟨b, o, none⟩) (List.length l) cap := by rw [hv]; rfl
        refine ⟨_, h, quiet_set hs hC hd (v := .pointer (some ⟨b, o + i.toNat * e.size, none⟩)) ⟨hef, b, _, blk, rfl, hH, ?_⟩ (fun w' _ => by
          simp [execOp, hv', hiv, run_indexAt_slice hty.list.1 hty.list.2 h0 (show i < (List.length l : Int) by omega)])⟩
        rw [seg_seg (m := e.size) e1 hpl (Rep.length e e4)]
        exact e4
  · rename_i n e l
    cases hT : decide (lk cfg.ty T = some (.arr n e)) with
    | false => rw [hT] at h; cases h
    | true =>
      rw [hT, cond_true] at h
      obtain ⟨hty, hfz⟩ := hcfg.ty T _ (of_decide_eq_true hT)
      obtain ⟨u, hu, hue⟩ := hty.arr
      obtain ⟨h0, y, hy, h⟩ := getI_some h
      obtain ⟨hf, b, o, blk, hv, hH, hln, hch⟩ := hr
      have hlt := (List.getElem?_eq_some_iff.1 hy).1
      obtain ⟨pre, c, post, f1, f, f2, e1, e2, e3, e4, e5⟩ := hch.at hy
      have ef : f = [] := by have := congrArg List.length e2; simp at this; exact List.length_eq_zero_iff.1 (by omega)
      subst ef
      have hpl : pre.length = i.toNat * e.size := by
        rw [Chunks.length (n := e.size) (fun _ _ _ hh => Rep.length e hh) e3, List.length_take, Nat.min_eq_left (Nat.le_of_lt hlt)]
      refine ⟨_, h, quiet_set hs hC hd (v := .pointer (some ⟨b, o + i.toNat * e.size, none⟩)) ⟨by simpa [Ty.isFz] using hfz, b, _, blk, rfl, hH, ?_⟩ (fun w' _ => by
        simp [execOp, hv, hiv, run_indexAt_arr hu hue h0 (show i < (n : Int) by rw [← hln]; omega)])⟩
      rw [seg_seg (m := e.size) e1 hpl (Rep.length e e4)]
      exact e4
  · rename_i id p
    split at h
    case h_2 => cases h
    rename_i o ho
    rw [getPK_eq] at h
    obtain ⟨y, hy, h⟩ := Option.bind_eq_some_iff.1 h
    obtain ⟨σ, y⟩ := y
    simp only at h
    split at h
    case h_2 => cases h
    rename_i own tid e l
    cases hT : own && (decide (lk cfg.ty T = some (.list false tid e.fz))) with
    | false => rw [hT] at h; cases h
    | true =>
      rw [hT, cond_true] at h
      rw [Bool.and_eq_true] at hT
      obtain ⟨rfl, hT⟩ := hT
      obtain ⟨hty, _⟩ := hcfg.ty T _ (of_decide_eq_true hT)
      have hty' := TyOK.unfz (τ := .list false tid e) hty
      obtain ⟨h0, hlt, h⟩ := inR_some h
      have hok := (hs.os id o ho).1
      have hlt' : i.toNat < List.length l := by omega
      have happ : ∃ z, getV o.τ o.x (p ++ [.I i]) = some ⟨e, z⟩ := by
        refine ⟨l[i.toNat], ?_⟩
        rw [getV_append _ hy]
        simp only [getV, if_pos h0, List.getElem?_eq_getElem hlt', Option.bind_some, getV_nil]
      obtain ⟨z, happ⟩ := happ
      -- the header's value, and where the element lies
      have hloc : ∃ g n cap, a.eval x = .slice (some ⟨g, 0, none⟩) n cap ∧ i < n ∧ LocO w o (Φ id) (p ++ [.I i]) g (i.toNat * e.size) := by
        obtain ⟨o', y', h1, h2, h3⟩ := hr
        rw [ho] at h1
        cases h1
        cases hrp : o.row && p.isEmpty with
        | true =>
          rw [hrp] at h3
          simp only [Bool.and_eq_true, List.isEmpty_iff] at hrp
          obtain ⟨hrow, rfl⟩ := hrp
          rw [getV_nil] at hy
          obtain ⟨row, τ, xo⟩ := o
          simp only at hrow
          subst hrow
          simp only [Option.some.injEq, Sigma.mk.injEq] at hy
          obtain ⟨rfl, hxl⟩ := hy
          simp only [heq_eq_eq] at hxl
          subst hxl
          obtain ⟨hdr, xs, fp', q1, q2, q3, q4⟩ := hok.row_list
          have hh : (Φ id).hdr = hdr := by simpa using q1
          rcases q3.2 with ⟨rfl, hz⟩ | ⟨g, cap, cur, rfl, _⟩
          · have hz' : List.length xo = 0 := hz
            omega
          · simp only at h3
            exact ⟨g, List.length xo, cap, by rw [h3, hh], hlt, ⟨g, List.length xo, cap, hh, Loc_nil _ _ _ _⟩⟩
        | false =>
          rw [hrp] at h3
          rw [hy] at h2
          cases h2
          obtain ⟨b, off, blk, t, h4, h5, h6⟩ := h3
          obtain ⟨b', o', hl, blk', t', pre', c, post', f1, f, f2, e1, e2, e3, e4, e5, e6, _⟩ := hok.desc (y := l) hy ⟨w, _, _, h4⟩ hrp
          obtain ⟨rfl, rfl⟩ := LocO.det h4 (hl w (fun _ _ => rfl))
          rw [e1] at h5
          cases h5
          obtain ⟨hdr, xs, fp', rfl, q2, q3, q4⟩ := e6
          rcases q3.2 with ⟨rfl, hz⟩ | ⟨g, cap, cur, rfl, _⟩
          · omega
          · refine ⟨g, List.length l, cap, ?_, hlt, h4.append (getV_tyAt _ hy) ⟨g, List.length l, cap, ?_, Loc_nil _ _ _ _⟩⟩
            · rw [h6, ← e3]; exact congrArg (toV (.list true tid e)) (seg_of_split (n := 1) e2 rfl)
            · rw [cell_of_block e1, ← Array.getElem?_toList, e2, ← e3]; simp
      obtain ⟨g, n, cap, hv, hin, hloc⟩ := hloc
      refine ⟨_, h, quiet_set hs hC hd (v := .pointer (some ⟨g, 0 + i.toNat * e.size, none⟩)) ⟨o, ⟨e, z⟩, g, i.toNat * e.size, ho, by simp, happ, hloc, by simp⟩ (fun w' _ => by
        simp [execOp, hv, hiv, run_indexAt_slice hty'.list.1 hty'.list.2 h0 hin])⟩
  · rename_i id p
    obtain ⟨o, y, b, off, h1, h2, h3, h4, hv⟩ := hr
    rw [h1] at h
    simp only [h2, cond_false] at h
    have hyt := getV_tyAt _ h3
    rw [hyt] at h
    obtain ⟨σ, y⟩ := y
    simp only at h hyt
    split at h
    case h_2 => cases h
    rename_i n e he'
    cases he'
    cases hT : decide (lk cfg.ty T = some (.arr n e.fz)) with
    | false => rw [hT] at h; cases h
    | true =>
      rw [hT, cond_true] at h
      obtain ⟨hty, _⟩ := hcfg.ty T _ (of_decide_eq_true hT)
      obtain ⟨u, hu, hue⟩ := (TyOK.unfz (τ := .arr n e) hty).arr
      obtain ⟨h0, hlt, h⟩ := inR_some h
      have hok := (hs.os id o h1).1
      obtain ⟨_, _, _, blk', t', pre', c, post', f1, f', f2, e1, e2, e3, e4, e5, e6, _⟩ := hok.desc (y := y) h3 ⟨w, _, _, h4⟩ h2
      have hlt' : i.toNat < List.length y := by rw [e6.1]; omega
      have happ : getV o.τ o.x (p ++ [.I i]) = some ⟨e, y[i.toNat]⟩ := by
        rw [getV_append _ h3]
        simp only [getV, if_pos h0, List.getElem?_eq_getElem hlt', Option.bind_some, getV_nil]
      refine ⟨_, h, quiet_set hs hC hd (v := .pointer (some ⟨b, off + i.toNat * e.size, none⟩)) ⟨o, ⟨e, y[i.toNat]⟩, b, off + i.toNat * e.size, h1, by simp, happ, h4.append hyt (Loc_nil _ _ _ _), rfl⟩ (fun w' _ => by
        simp [execOp, hv, hiv, run_indexAt_arr hu hue h0 hlt])⟩
  · cases h
end
end Go.Vi
