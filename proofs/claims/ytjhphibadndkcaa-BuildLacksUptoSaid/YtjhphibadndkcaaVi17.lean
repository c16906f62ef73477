/- The abstract interpreter 'Vi', seventeenth part: stores. No condition beyond those typed in each theorem. -/
import Derived.Test.YtjhphibadndkcaaVi16
namespace Go.Vi
section
variable {P : Program} {C : Ctx} {cfg : Cfg} {R : Type} {r : R} {s : St} {a : Act} {w : World} {H : FH} {Φ : Nat → Info} {dst : Option Nat} {ty : TypeId} {pos : String} {after : Array Edge} {guard : Option (Nat × Bool)} {k : St → Option R}

theorem setV_tyAt : (τ : Ty) → ∀ {x : τ.den} {p : List Step} {σ : Ty} {y : σ.den} {z}, setV τ x p σ y = some z → tyAt τ p = some σ
  | .pair a b, x, p, σ, y, z, h => by
    match p with
    | [] => obtain ⟨e, _⟩ := castTy_self h; subst e; rfl
    | .L :: q => obtain ⟨z', h', _⟩ := Option.map_eq_some_iff.1 h; exact setV_tyAt a h'
    | .R :: q => obtain ⟨z', h', _⟩ := Option.map_eq_some_iff.1 h; exact setV_tyAt b h'
    | .I _ :: _ => cases h
  | .str t, x, p, σ, y, z, h => by
    match p with
    | [] => obtain ⟨e, _⟩ := castTy_self h; subst e; rfl
    | s :: q => exact setV_tyAt t h
  | .list true tid e, x, p, σ, y, z, h => by
    match p with
    | [] => obtain ⟨e, _⟩ := castTy_self h; subst e; rfl
    | .L :: _ => cases h
    | .R :: _ => cases h
    | .I i :: q =>
      simp only [setV] at h
      split at h
      · replace h := Option.bind_eq_some_iff.1 h
        obtain ⟨z', _, h⟩ := h
        replace h := Option.map_eq_some_iff.1 h
        obtain ⟨_, h, _⟩ := h
        exact setV_tyAt e h
      · cases h
  | .arr n e, x, p, σ, y, z, h => by
    match p with
    | [] => obtain ⟨e, _⟩ := castTy_self h; subst e; rfl
    | .L :: _ => cases h
    | .R :: _ => cases h
    | .I i :: q =>
      simp only [setV] at h
      split at h
      · replace h := Option.bind_eq_some_iff.1 h
        obtain ⟨z', _, h⟩ := h
        replace h := Option.map_eq_some_iff.1 h
        obtain ⟨_, h, _⟩ := h
        exact setV_tyAt e h
      · cases h
  | .int _, _, p, _, _, _, h => by cases p <;> first | (obtain ⟨e, _⟩ := castTy_self h; subst e; rfl) | cases h
  | .bool, _, p, _, _, _, h => by cases p <;> first | (obtain ⟨e, _⟩ := castTy_self h; subst e; rfl) | cases h
  | .list false _ _, _, p, _, _, _, h => by cases p <;> first | (obtain ⟨e, _⟩ := castTy_self h; subst e; rfl) | cases h
  | .ptr _, _, p, _, _, _, h => by cases p <;> first | (obtain ⟨e, _⟩ := castTy_self h; subst e; rfl) | cases h
  | .fn _ _, _, p, _, _, _, h => by cases p <;> first | (obtain ⟨e, _⟩ := castTy_self h; subst e; rfl) | cases h
  | .fn2 _ _ _, _, p, _, _, _, h => by cases p <;> first | (obtain ⟨e, _⟩ := castTy_self h; subst e; rfl) | cases h

/-- A store at a place of an object. -/
theorem SimB.storeAt (hs : SimB P C s a w H Φ) {id : Nat} {o : Obj} (ho : s.obj id = some o) {p : List Step} (hp : (o.row && p.isEmpty) = false) {σ : Ty} {y : σ.den} (hg : getV o.τ o.x p = some ⟨σ, y⟩) {b off : Nat} (hl : LocO w o (Φ id) p b off)
    {T : TypeId} (hty : TyOK P T σ) {y' : σ.den} {c' : List Value} {f' : List Nat} (hr : Rep P σ w H y' c' f') (hnd' : f'.Nodup)
    (hf' : ∀ k ∈ f', H k = none ∧ (C.M0 k ∨ C.w0.heap.size ≤ k) ∧ k < w.heap.size ∧ (∀ j o', j ≠ id → s.obj j = some o' → k ∉ (Φ j).fp) ∧ (k ∈ (Φ id).fp → ∃ h tid e, σ = .list true tid e ∧ w.cell? ⟨b, off, none⟩ = some h ∧ h.ownBlock = some k))
    {x' : o.τ.den} (hx : setV o.τ o.x p σ y' = some x') :
    ∃ w' φ, (Instr.storeAt T (.pointer (some ⟨b, off, none⟩)) (toV σ c')).run P w = .ok () w' ∧ SimB P C ((s.killIf (AV.stale id o.row)).setObj id (some ⟨o.row, o.τ, x'⟩)) a w' H (putInfo Φ id φ) := by
  have hok := (hs.os id o ho).1
  have hob := (hs.os id o ho).2
  obtain ⟨b', o', blk', t', pre', c, post', f1, f, f2, e1, e2, e3, e4, e5, e6, hl', e7⟩ := hok.desc2 (y := y) hg ⟨w, _, _, hl⟩ hp
  obtain ⟨rfl, rfl⟩ := LocO.det hl (hl' w (fun _ _ => rfl))
  have hnd := hok.2.1
  rw [e4] at hnd
  have hin : ∀ k ∈ f1, k ∈ (Φ id).fp := fun k hk => by rw [e4]; simp [hk]
  have hin2 : ∀ k ∈ f2, k ∈ (Φ id).fp := fun k hk => by rw [e4]; simp [hk]
  have hold : ∀ k ∈ f', k ∈ (Φ id).fp → k ∈ f := by
    intro k hk hkφ
    obtain ⟨h, tid, e, rfl, hc, hb⟩ := (hf' k hk).2.2.2.2 hkφ
    obtain ⟨hdr, xs, fp', rfl, rfl, _⟩ := e6
    rw [cell_of_block e1, ← Array.getElem?_toList, e2, ← e3] at hc
    simp only [List.append_assoc, Nat.le_refl, List.getElem?_append_right, Nat.sub_self, List.singleton_append, List.getElem?_cons_zero, Option.some.injEq] at hc
    subst hc
    simp [hb]
  have hnf1 : ∀ k ∈ f', k ∉ f1 := by
    intro k hk hk1
    have := hold k hk (hin k hk1)
    simp only [List.nodup_append, List.mem_append] at hnd
    exact hnd.1.2.2 k hk1 k this rfl
  have hnf2 : ∀ k ∈ f', k ∉ f2 := by
    intro k hk hk2
    have := hold k hk (hin2 k hk2)
    simp only [List.nodup_append, List.mem_append] at hnd
    exact hnd.2.2 k (.inr this) k hk2 rfl
  have hbin : b ∈ (Φ id).fp := hin b e5
  have hrun := run_storeVar hty e1 e2 (Rep.length σ e6) (Rep.length σ hr) (Rep.one σ hr)
  rw [e3] at hrun
  have hwb : (w.setRow b (pre' ++ c' ++ post').toArray).heap[b]? = some (.cells (pre' ++ c' ++ post').toArray t' (0, 0)) := setRow_heap w b blk' _ t' _ e1
  have hwo : ∀ k, k ≠ b → (w.setRow b (pre' ++ c' ++ post').toArray).heap[k]? = w.heap[k]? := fun k hk => setRow_other w b k _ hk
  have hsz : (w.setRow b (pre' ++ c' ++ post').toArray).heap.size = w.heap.size := by simp [World.setRow]
  have hmw : Mod (fun k => k = b) w (w.setRow b (pre' ++ c' ++ post').toArray) := ⟨rfl, rfl, rfl, by omega, fun k _ hM => hwo k hM⟩
  have hnd2 : (f1 ++ f' ++ f2).Nodup := by
    simp only [List.nodup_append, List.mem_append] at hnd ⊢
    refine ⟨⟨hnd.1.1, hnd', ?_⟩, hnd.2.1, ?_⟩
    · rintro k hk _ hk' rfl; exact hnf1 k hk' hk
    · rintro k (hk | hk) _ hk' rfl
      · exact hnd.2.2 k (.inl hk) k hk' rfl
      · exact hnf2 k hk hk'
  have hobj := e7 _ c' f' σ y' x' (Rep.mono σ (FH.le_refl H) (fun k hk => hwo k (fun e => hnf1 k hk (by rw [e]; exact e5))) hr) hx hwb (fun k _ hk => hwo k hk) hnd2
  have hfp : ∀ k ∈ f1 ++ f' ++ f2, H k = none ∧ (C.M0 k ∨ C.w0.heap.size ≤ k) ∧ k < w.heap.size ∧ ∀ j o', j ≠ id → s.obj j = some o' → k ∉ (Φ j).fp := by
    intro k hk
    have old : k ∈ (Φ id).fp → H k = none ∧ (C.M0 k ∨ C.w0.heap.size ≤ k) ∧ k < w.heap.size ∧ ∀ j o', j ≠ id → s.obj j = some o' → k ∉ (Φ j).fp := fun hk =>
      ⟨(hob k hk).1, (hob k hk).2.1, (hob k hk).2.2, fun j o' hj hoj => hs.disj id j o o' (fun e => hj e.symm) ho hoj k hk⟩
    simp only [List.mem_append] at hk
    rcases hk with (hk | hk) | hk
    · exact old (hin k hk)
    · exact ⟨(hf' k hk).1, (hf' k hk).2.1, (hf' k hk).2.2.1, (hf' k hk).2.2.2.1⟩
    · exact old (hin2 k hk)
  refine ⟨_, ⟨(Φ id).b, (Φ id).hdr, f1 ++ f' ++ f2⟩, ?_, hs.change ho x' _ rfl rfl (FH.le_refl H) (hs.hok.mod hmw (fun k hk => by rw [hk]; exact (hob b hbin).1)) hs.hnew (hs.mod.trans_new hmw (fun k hk => by rw [hk]; exact (hob b hbin).2.1)) (by omega) ?_ hobj ?_⟩
  · simp [Instr.storeAt, Instr.sureAddr, hrun]
  · intro j o' hj hoj k hk
    exact ⟨hwo k (fun e => hs.disj id j o o' (fun e => hj e.symm) ho hoj b hbin (e ▸ hk)), ((hs.os j o' hoj).2 k hk).1⟩
  · intro k hk
    have := hfp k hk
    exact ⟨this.1, this.2.1, by rw [hsz]; exact this.2.2.1, this.2.2.2⟩

theorem pathK_some {R : Type} : ∀ {p q : List Step} {k : Option R} {r : R}, pathK p q k = some r → p = q ∧ k = some r
  | [], [], _, _, h => ⟨rfl, h⟩
  | .L :: p, .L :: q, _, _, h => by obtain ⟨rfl, h2⟩ := pathK_some (p := p) (q := q) h; exact ⟨rfl, h2⟩
  | .R :: p, .R :: q, _, _, h => by obtain ⟨rfl, h2⟩ := pathK_some (p := p) (q := q) h; exact ⟨rfl, h2⟩
  | .I i :: p, .I j :: q, _, _, h => by
    simp only [pathK, eqK] at h
    split at h
    · rename_i e; subst e; obtain ⟨rfl, h2⟩ := pathK_some h; exact ⟨rfl, h2⟩
    · cases h
  | [], _ :: _, _, _, h => by cases h
  | .L :: _, [], _, _, h => by cases h
  | .R :: _, [], _, _, h => by cases h
  | .I _ :: _, [], _, _, h => by cases h
  | .L :: _, .R :: _, _, _, h => by cases h
  | .L :: _, .I _ :: _, _, _, h => by cases h
  | .R :: _, .L :: _, _, _, h => by cases h
  | .R :: _, .I _ :: _, _, _, h => by cases h
  | .I _ :: _, .L :: _, _, _, h => by cases h
  | .I _ :: _, .R :: _, _, _, h => by cases h

theorem goes_skip {o : Oper} {w' : World} {s' : St} (hrun : (execOp a.eval o).run P w = .ok .skip w') (h : Sim P C s' (a.put o.dst undef) w') : Goes P C o a w s' := by
  unfold Goes
  rw [hrun]
  exact h

theorem op_store0 (hcfg : CfgOK P cfg) (hC : CtxOK C cfg) {T : TypeId} {x z : Operand} (hs : SimB P C s a w H Φ) (hd : dstOK cfg.nt dst = true) (h : storeVK cfg s dst T x z k = some r) :
    ∃ s', k s' = some r ∧ Goes P C ⟨dst, .store T x z, ty, pos, after, guard⟩ a w s' := by
  unfold storeVK at h
  split at h
  case h_2 => cases h
  rename_i av bv he1 he2
  have hr := evalA_ok hs none_fz he1
  have hr2 := evalA_ok hs (hcfg.fz T) he2
  cases hnil : isNilOp z && ownPlace s av with
  | true =>
    rw [hnil, cond_true] at h
    rw [Bool.and_eq_true] at hnil
    have hzv : a.eval z = .slice none 0 0 := by
      have := hnil.1
      unfold isNilOp at this
      split at this
      · rfl
      · cases this
    unfold storeNilK at h
    split at h
    case h_2 => cases h
    rename_i id p
    obtain ⟨o, y, b, off, h1, h2, h3, h4, hv⟩ := hr
    rw [h1] at h
    have hyt := getV_tyAt _ h3
    simp only [hyt] at h
    obtain ⟨σ, y⟩ := y
    simp only at h hyt
    split at h
    case h_2 => cases h
    rename_i tid e hσ
    cases hσ
    cases hT : decide (lk cfg.ty T = some (.list false tid e.fz)) with
    | false => rw [hT] at h; cases h
    | true =>
    rw [hT, cond_true, setPK_eq] at h
    replace h := Option.bind_eq_some_iff.1 h
    obtain ⟨x', hx, h⟩ := h
    have hty := TyOK.unfz (τ := .list true tid e) (hcfg.ty T _ (of_decide_eq_true hT)).1
    obtain ⟨w', φ, hrun, hsim⟩ := hs.storeAt h1 h2 h3 h4 hty (y' := ([] : List e.den)) (c' := [.slice none 0 0]) (f' := []) ⟨.slice none 0 0, [], [], rfl, rfl, World.ownsRow_nil w 0 tid e.size, rfl, rfl⟩ List.nodup_nil (by simp) hx
    have hrun' : (Instr.storeAt T (.pointer (some ⟨b, off, none⟩)) (.slice none 0 0)).run P w = .ok () w' := hrun
    refine ⟨_, h, goes_skip (w' := w') ?_ ⟨H, _, hsim.setDst (by rw [hC.nt]; exact hd) trivial⟩⟩
    simp [execOp, hv, hzv, hrun']
  | false =>
  rw [hnil, cond_false] at h
  unfold storeK at h
  split at h
  case h_2 => cases h
  rename_i id p
  obtain ⟨o, y, b, off, h1, h2, h3, h4, hv⟩ := hr
  rw [h1] at h
  have hyt := getV_tyAt _ h3
  simp only [h2, cond_false, hyt] at h
  obtain ⟨σ, y⟩ := y
  simp only at h hyt
  cases hT : decide (lk cfg.ty T = some σ.fz) with
  | false => rw [hT] at h; cases h
  | true =>
  rw [hT, cond_true] at h
  have hty := TyOK.unfz (hcfg.ty T _ (of_decide_eq_true hT)).1
  have fin : ∀ {s2 : St} {H2 : FH} {v : Value} (hs2 : SimB P C s2 a w H2 Φ) (ho : s2.obj id = some o) {τ : Ty} {y' : τ.den} {c' : List Value} {f' : List Nat}, Rep P τ w H2 y' c' f' → v = toV τ c' → f'.Nodup →
      (∀ k ∈ f', H2 k = none ∧ (C.M0 k ∨ C.w0.heap.size ≤ k) ∧ k < w.heap.size ∧ (∀ j o', j ≠ id → s2.obj j = some o' → k ∉ (Φ j).fp) ∧ (k ∈ (Φ id).fp → ∃ h tid e, τ = .list true tid e ∧ w.cell? ⟨b, off, none⟩ = some h ∧ h.ownBlock = some k)) →
      ∀ {x'}, setV o.τ o.x p τ y' = some x' → a.eval z = v →
      Goes P C ⟨dst, .store T x z, ty, pos, after, guard⟩ a w (((s2.killIf (AV.stale id o.row)).setObj id (some ⟨o.row, o.τ, x'⟩)).setDst dst .dead) := by
    intro s2 H2 v hs2 ho τ y' c' f' hrep hv' hnd hf x' hx hz
    have := setV_tyAt _ hx
    rw [hyt] at this
    cases this
    obtain ⟨w', φ, hrun, hsim⟩ := hs2.storeAt ho h2 h3 h4 hty hrep hnd hf hx
    refine goes_skip (w' := w') ?_ ⟨H2, _, hsim.setDst (by rw [hC.nt]; exact hd) trivial⟩
    simp [execOp, hv, hz, hv', hrun]
  split at h
  · -- a pending row
    rename_i id' p' tid e l
    cases hid : Nat.beq id id' with
    | false => rw [hid] at h; cases h
    | true =>
    rw [hid, cond_true] at h
    obtain rfl := Nat.eq_of_beq_eq_true hid
    replace h := pathK_some h
    obtain ⟨rfl, h⟩ := h
    rw [setPK_eq] at h
    replace h := Option.bind_eq_some_iff.1 h
    obtain ⟨x', hx, h⟩ := h
    obtain ⟨o', q1, q2, q3, q4, fp, q5, q6⟩ := hr2
    rw [h1] at q1
    cases q1
    have hfp : fp = (a.eval z).ownBlock.toList := by
      obtain ⟨hdr, xs, fp', k1, k2, k3, k4⟩ := q5
      obtain rfl : a.eval z = hdr := by simpa using k1
      rw [k2, Chunks.fp_nil (fun _ _ _ hh => Rep.fz_fp e q2 hh) k4, List.append_nil]
    refine ⟨_, h, fin hs h1 q5 rfl ?_ ?_ hx rfl⟩
    · rw [hfp]; cases (a.eval z).ownBlock <;> simp
    · intro b2 hb2
      obtain ⟨hlt, hh⟩ := q6 b2 hb2
      rcases hh with hh | ⟨hd2, k1, k2⟩
      · exact ⟨hh.fz, hh.may, hlt, fun j o' _ hj => hh.obj j o' hj, fun hk => absurd hk (hh.obj id o h1)⟩
      · unfold HdrAt at k1
        rw [h2] at k1
        obtain ⟨b3, off3, k3, k4⟩ := k1
        obtain ⟨rfl, rfl⟩ := LocO.det k3 h4
        have hb2' : b2 ∈ (Φ id).fp := by
          obtain ⟨b', o', blk', t', pre', c, post', f1, f, f2, e1, e2, e3, e4, e5, e6, hl', _⟩ := (hs.os id o h1).1.desc2 (y := y) h3 ⟨w, _, _, h4⟩ h2
          obtain ⟨rfl, rfl⟩ := LocO.det h4 (hl' w (fun _ _ => rfl))
          rw [hyt] at q4
          cases q4
          obtain ⟨hdr, xs, fp', rfl, rfl, _⟩ := e6
          rw [cell_of_block e1, ← Array.getElem?_toList, e2, ← e3] at k4
          simp only [List.append_assoc, Nat.le_refl, List.getElem?_append_right, Nat.sub_self, List.singleton_append, List.getElem?_cons_zero, Option.some.injEq] at k4
          subst k4
          rw [e4]
          simp [k2]
        obtain ⟨g1, g2, g3⟩ := (hs.os id o h1).2 b2 hb2'
        exact ⟨g1, g2, g3, fun j o' hj hoj => hs.disj id j o o' (fun e => hj e.symm) h1 hoj b2 hb2', fun _ => ⟨hd2, tid, e, rfl, k4, k2⟩⟩
  · -- a row
    rename_i id2
    cases hid : Nat.beq id id2 with
    | true => rw [hid] at h; cases h
    | false =>
    rw [hid, cond_false] at h
    have hne := Nat.ne_of_beq_eq_false hid
    split at h
    case h_2 => cases h
    rename_i o2 ho2
    cases hrow : o2.row with
    | false => rw [hrow] at h; cases h
    | true =>
    rw [hrow, cond_true] at h
    obtain ⟨o2', y2, q1, q2, q3⟩ := hr2
    rw [ho2] at q1
    cases q1
    rw [hrow] at q3
    simp only [List.isEmpty_nil, Bool.and_self] at q3
    obtain ⟨hn2, hnd2, g3⟩ := (hs.os id2 o2 ho2).1
    rw [hrow] at g3
    obtain ⟨_, cs2, hcs2, hrep2⟩ := g3
    cases hfz : σ.isFz with
    | true =>
      rw [hfz, cond_true] at h
      simp only [setPK_eq] at h
      replace h := Option.bind_eq_some_iff.1 h
      obtain ⟨x', hx, h⟩ := h
      obtain ⟨H', hle, hnew, hin, hs2⟩ := hs.freeze id2
      have hob : (s.freeze id2).obj id = some o := by
        unfold St.freeze
        rw [ho2]
        show (St.setObj s id2 none).obj id = some o
        rw [St.obj_setObj, if_neg (fun e => hne e.symm)]
        exact h1
      refine ⟨_, h, fin hs2 hob (Rep.freeze o2.τ hn2 w hle (hin o2 ho2) hrep2 _) ?_ (by simp) (by simp) hx q3⟩
      rw [toV_fz]; exact hcs2
    | false =>
      rw [hfz, cond_false, setPK_eq] at h
      replace h := Option.bind_eq_some_iff.1 h
      obtain ⟨x', hx, h⟩ := h
      have hs2 := hs.remove id2
      have hob : ((s.kill id2).setObj id2 none).obj id = some o := by
        rw [St.obj_setObj, if_neg (fun e => hne e.symm)]
        exact h1
      refine ⟨_, h, fin hs2 hob hrep2 ?_ hnd2 ?_ hx q3⟩
      · exact hcs2
      · intro k hk
        obtain ⟨k1, k2, k3⟩ := (hs.os id2 o2 ho2).2 k hk
        refine ⟨k1, k2, k3, fun j o' hj hoj => ?_, fun hk2 => absurd hk2 (hs.disj id2 id o2 o (fun e => hne e.symm) ho2 h1 k hk)⟩
        rw [St.obj_setObj] at hoj
        split at hoj
        · cases hoj
        · rename_i e
          exact hs.disj id2 j o2 o' e ho2 hoj k hk
  · -- a value
    rename_i τ y'
    cases hf : τ.isFz with
    | false => rw [hf] at h; cases h
    | true =>
    rw [hf, cond_true, setPK_eq] at h
    replace h := Option.bind_eq_some_iff.1 h
    obtain ⟨x', hx, h⟩ := h
    obtain ⟨_, cs, hv2, hrep⟩ := hr2
    exact ⟨_, h, fin hs h1 hrep rfl (by simp) (by simp) hx hv2⟩
  · rename_i τ y'
    cases hf : τ.isFz with
    | false => rw [hf] at h; cases h
    | true =>
    rw [hf, cond_true, setPK_eq] at h
    replace h := Option.bind_eq_some_iff.1 h
    obtain ⟨x', hx, h⟩ := h
    obtain ⟨_, b2, o2, blk, hv2, hH, hrep⟩ := hr2
    have hrep' : Rep P (.ptr τ) w H (some y') [.pointer (some ⟨b2, o2, none⟩)] [] := ⟨rfl, b2, o2, blk, rfl, hH, hrep⟩
    exact ⟨_, h, fin hs h1 hrep' rfl (by simp) (by simp) hx hv2⟩
  · cases h

theorem samePath_eq : ∀ {p q : List Step}, samePath p q = true → p = q
  | [], [], _ => rfl
  | .L :: p, .L :: q, h => by rw [samePath_eq (p := p) (q := q) (by simpa [samePath, Step.same] using h)]
  | .R :: p, .R :: q, h => by rw [samePath_eq (p := p) (q := q) (by simpa [samePath, Step.same] using h)]
  | .L :: _, .R :: _, h => by simp [samePath, Step.same] at h
  | .L :: _, .I _ :: _, h => by simp [samePath, Step.same] at h
  | .R :: _, .L :: _, h => by simp [samePath, Step.same] at h
  | .R :: _, .I _ :: _, h => by simp [samePath, Step.same] at h
  | .I _ :: _, .L :: _, h => by simp [samePath, Step.same] at h
  | .I _ :: _, .R :: _, h => by simp [samePath, Step.same] at h
  | .I _ :: _, .I _ :: _, h => by simp [samePath, Step.same] at h
  | [], _ :: _, h => by simp [samePath] at h
  | _ :: _, [], h => by simp [samePath] at h

theorem op_self (hcfg : CfgOK P cfg) (hC : CtxOK C cfg) {T : TypeId} {x z : Operand} {id : Nat} {p : List Step} (hs : SimB P C s a w H Φ) (hd : dstOK cfg.nt dst = true) (hself : selfPath s x z = some (id, p)) (h : selfK s (lk cfg.ty T) id p (fun s => k (s.setDst dst .dead)) = some r) :
    ∃ s', k s' = some r ∧ Goes P C ⟨dst, .store T x z, ty, pos, after, guard⟩ a w s' := by
  unfold selfPath at hself
  split at hself
  case h_2 => cases hself
  rename_i id1 p1 id2 q he1 he2
  cases hq : Nat.beq id1 id2 && samePath p1 q with
  | false => rw [hq] at hself; cases hself
  | true =>
  rw [hq, cond_true] at hself
  cases hself
  rw [Bool.and_eq_true] at hq
  obtain rfl := Nat.eq_of_beq_eq_true hq.1
  obtain rfl := samePath_eq hq.2
  obtain ⟨o, y, b, off, h1, h2, h3, h4, hv⟩ := evalA_ok hs none_fz he1
  obtain ⟨o', y', k1, k2, k3⟩ := evalA_ok hs none_fz he2
  rw [h1] at k1
  cases k1
  rw [h3] at k2
  cases k2
  rw [h2] at k3
  obtain ⟨b', off', blk, t, k4, k5, k6⟩ := k3
  obtain ⟨rfl, rfl⟩ := LocO.det h4 k4
  unfold selfK at h
  rw [h1] at h
  have hyt := getV_tyAt _ h3
  simp only [h2, cond_false, hyt] at h
  obtain ⟨σ, y⟩ := y
  simp only at h hyt k6
  split at h
  case h_2 => cases h
  rename_i tid e hσ
  cases hσ
  cases hT : e.isFz && decide (lk cfg.ty T = some (.list false tid e.fz)) with
  | false => rw [hT] at h; cases h
  | true =>
  rw [hT, cond_true, getPK_eq, h3] at h
  rw [Bool.and_eq_true] at hT
  simp only [Option.bind_some, setPK_eq] at h
  replace h := Option.bind_eq_some_iff.1 h
  obtain ⟨x', hx, h⟩ := h
  have hty := TyOK.unfz (τ := .list true tid e) (hcfg.ty T _ (of_decide_eq_true hT.2)).1
  obtain ⟨b', o', blk', t', pre', c, post', f1, f, f2, e1, e2, e3, e4, e5, e6, hl', _⟩ := (hs.os id o h1).1.desc2 h3 ⟨w, _, _, h4⟩ h2
  obtain ⟨rfl, rfl⟩ := LocO.det h4 (hl' w (fun _ _ => rfl))
  rw [k5] at e1
  cases e1
  obtain ⟨hdr, xs, fp', rfl, hf, ho, hch⟩ := e6
  have hf0 := Chunks.fp_nil (fun _ _ _ hh => Rep.fz_fp e hT.1 hh) hch
  subst hf0
  rw [List.append_nil] at hf
  subst hf
  have hrep : Rep P (.list true tid e) w H y [hdr] hdr.ownBlock.toList := ⟨hdr, xs, [], rfl, by simp, ho, hch⟩
  have hseg : seg blk off (Ty.list true tid e).size = [hdr] := by rw [← e3]; exact seg_of_split e2 rfl
  have hzv : a.eval z = hdr := by rw [k6, hseg]; rfl
  have hcell : w.cell? ⟨b, off, none⟩ = some hdr := by
    rw [cell_of_block k5, ← Array.getElem?_toList, e2, ← e3]
    simp
  obtain ⟨w', φ, hrun, hsim⟩ := hs.storeAt h1 h2 h3 h4 hty (y' := y) (c' := [hdr]) hrep (by cases hdr.ownBlock <;> simp) (by
    intro k hk
    have hk' : k ∈ (Φ id).fp := by rw [e4]; simp [hk]
    obtain ⟨g1, g2, g3⟩ := (hs.os id o h1).2 k hk'
    exact ⟨g1, g2, g3, fun j o' hj hoj => hs.disj id j o o' (fun e => hj e.symm) h1 hoj k hk', fun _ => ⟨hdr, tid, e, rfl, hcell, by simpa using hk⟩⟩) hx
  have hrun' : (Instr.storeAt T (.pointer (some ⟨b, off, none⟩)) hdr).run P w = .ok () w' := hrun
  refine ⟨_, h, goes_skip (w' := w') ?_ ⟨H, _, hsim.setDst (by rw [hC.nt]; exact hd) trivial⟩⟩
  simp [execOp, hv, hzv, hrun']

theorem op_store (hcfg : CfgOK P cfg) (hC : CtxOK C cfg) {T : TypeId} {x z : Operand} (hs : SimB P C s a w H Φ) (hd : dstOK cfg.nt dst = true) (h : absOp cfg ⟨dst, .store T x z, ty, pos, after, guard⟩ s k = some r) :
    ∃ s', k s' = some r ∧ Goes P C ⟨dst, .store T x z, ty, pos, after, guard⟩ a w s' := by
  simp only [absOp] at h
  split at h
  · rename_i id p hself
    exact op_self hcfg hC hs hd hself h
  · obtain ⟨H', hs'⟩ := hs.frzOp z
    exact op_store0 hcfg hC hs' hd h
end
end Go.Vi
