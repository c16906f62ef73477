/- The abstract interpreter Vi, part B: a verified interpreter over the model's code, whose run of a function gives the contract of the function. No condition beyond those typed in each theorem. -/
import Derived.Test.YtncngmcojppmgaaGreatViZ
import Derived.Laws.Cover3
import Derived.Great.BuildSlice
namespace Go.Vi
section
variable {P : Program} {C : Ctx} {cfg : jM} {R : Type} {r : R} {s : St} {a : Act} {w : World} {H : FH} {Φ : Nat → qC} {dst : Option Nat} {ty : TypeId} {pos : String} {after : Array Edge} {guard : Option (Nat × Bool)} {k : St → Option R}
theorem qaM {t : TypeId} {τ : Ty} (h : qR P t τ) {w : World} {b o : Nat} {blk : Array Value} {bt : TypeId} {f : Nat × Nat} (hb : w.heap[b]? = some (.cells blk bt f)) (hs : (seg blk o τ.size).length = τ.size) :
  (Instr.loadAt t (.pointer (some ⟨b, o, none⟩))).run P w = .ok (jY τ (seg blk o τ.size)) w := by
 obtain ⟨_, _, _, hp, _⟩ := h.info
 obtain ⟨pre, post, e1, e2⟩ := qh2 hs hp
 have := qfS h hb e1 hs
 rw [e2] at this
 simp [Instr.loadAt, Instr.sureAddr, this]
theorem take_ok (hcfg : qA P cfg) (hC : qG C cfg) {T : TypeId} {x : Operand} {av : AV} {s' : St} (hs : qk P C s a w H Φ) (hd : qQ cfg.nt dst = true) (hr : qg P C w H Φ s.obj av (a.eval x)) (h : qj2 cfg s dst T av = some s') :
  qak P C ⟨dst, .load T x, ty, pos, after, guard⟩ a w s' := by
 cases dst with
 | none => cases h
 | some d =>
 unfold qj2 at h
 simp only at h
 cases hsite : lk cfg.site d with
 | none => rw [hsite] at h; cases h
 | some _ =>
 rw [hsite] at h
 cases av with
 | ptr id p =>
  cases p with
  | cons _ _ => cases h
  | nil =>
  simp only at h
  cases ho : s.obj id with
  | none => rw [ho] at h; cases h
  | some o =>
  rw [ho] at h
  simp only at h
  cases hq : !o.row && (qfT o.τ && decide (lk cfg.ty T = some o.τ.fz)) with
  | false => rw [hq] at h; cases h
  | true =>
  rw [hq, cond_true] at h
  cases h
  rw [Bool.and_eq_true, Bool.and_eq_true] at hq
  obtain ⟨hrow, hrt, hT⟩ := hq
  obtain ⟨row, τ, y⟩ := o
  cases row with
  | true => cases hrow
  | false =>
  obtain ⟨hty, _⟩ := hcfg.ty T _ (of_decide_eq_true hT)
  have hty' := qR.unfz hty
  have hdl : d < cfg.nt := Eq.mp Nat.blt_eq hd
  have hd2 : d < 4000000 := Nat.lt_of_lt_of_le hdl (Nat.le_trans hcfg.small (by decide))
  obtain ⟨h1, h2⟩ := hs.os id _ ho
  obtain ⟨hn, hnd, blk, t, fp', e1, e2, e3⟩ := h1
  obtain ⟨o', z, b, off, q1, q2, q3, q4, hv⟩ := hr
  rw [ho] at q1
  cases q1
  obtain ⟨rfl, rfl⟩ := jT.det _ q4 (jV w τ (Φ id).b 0)
  have hlen := qn.length τ e2
  have hseg : seg blk 0 τ.size = blk.toList := qV (pre := []) (post := []) (by simp) hlen
  have hrm := hs.remove id
  have hob : ∀ j o, ((s.kill id).setObj id none).obj j = some o → s.obj j = some o ∧ j ≠ id := by
   intro j o hj
   rw [St.obj_setObj] at hj
   split at hj
   ·cases hj
   ·rename_i hne; exact ⟨hj, fun e => hne e.symm⟩
  rw [e3, List.nodup_cons] at hnd
  have hn1 := hrm.newObj (j7.refl _ _) (hC.pin d (Nat.lt_trans hd2 (by decide))) (qa2 hd2) (row := true) (τ := τ) (x := y) (φ := ⟨0, jY τ blk.toList, fp'⟩)
   ⟨hn, hnd.2, hrt, blk.toList, rfl, e2⟩ (by
    intro b hb
    have hb' : b ∈ (Φ id).fp := by rw [e3]; exact List.mem_cons_of_mem _ hb
    obtain ⟨p1, p2, p3⟩ := h2 b hb'
    exact ⟨p1, p2, p3, fun j o' _ hj => hs.disj id j _ o' (fun e => (hob j o' hj).2 e.symm) ho (hob j o' hj).1 b hb'⟩)
  refine qbJ (v := jY τ blk.toList) ?_ ⟨H, _, hn1.set (by rw [hC.nt]; exact hdl) ⟨⟨true, τ, y⟩, ⟨τ, y⟩, ?_, qN _ _, ?_⟩⟩
  ·intro w' hm
   have := qaM hty' (o := 0) (qcR hm e1) (by rw [hseg]; exact hlen)
   rw [hseg] at this
   simp [execOp, hv, this]
  ·rw [St.newObj, St.obj_setObj, if_pos rfl]
  ·show jY τ blk.toList = (qax Φ d _ d).hdr
   rw [qr]
 | _ => cases h
theorem qk.frzLoad (hs : qk P C s a w H Φ) (d : Option Nat) (x : Operand) : ∃ H', qk P C (frzLoad cfg s d x) a w H' Φ := by
 unfold Go.Vi.frzLoad
 split
 ·cases qap (8000000 + _) cfg.enum with
  | false => exact ⟨H, hs⟩
  | true =>
   rw [cond_true]
   split
   ·rename_i id _ _
    obtain ⟨H', _, _, _, h⟩ := hs.freeze id
    exact ⟨H', h⟩
   ·exact ⟨H, hs⟩
 ·exact ⟨H, hs⟩
theorem qlT (hcfg : qA P cfg) (hC : qG C cfg) {T : TypeId} {x : Operand} (hs : qk P C s a w H Φ) (hd : qQ cfg.nt dst = true) {i f n : Nat} (hr : qg P C w H Φ s.obj (.cv i f n) (a.eval x)) (h : qi5 cfg s dst T i n k = some r) :
  ∃ s', k s' = some r ∧ qak P C ⟨dst, .load T x, ty, pos, after, guard⟩ a w s' := by
 unfold qi5 at h
 cases hq : Nat.beq i 2 && (Nat.beq (n / 1000) 1 && qeX (lk cfg.ty T)) with
 | false => rw [hq] at h; cases h
 | true =>
 rw [hq, cond_true] at h
 simp only [Bool.and_eq_true] at hq
 obtain ⟨q1, q2, q3⟩ := hq
 obtain rfl := Nat.eq_of_beq_eq_true q1
 have q2 := Nat.eq_of_beq_eq_true q2
 split at h
 case h_2 => cases h
 rename_i o ho
 cases hrow : o.row with
 | true => rw [hrow] at h; cases h
 | false =>
 rw [hrow, cond_false] at h
 obtain ⟨b, cv, h1, ⟨h2, h3⟩, hv⟩ := hr
 obtain ⟨σ, hT⟩ : ∃ σ, lk cfg.ty T = some (.ptr σ) := by
  unfold qeX at q3
  split at q3
  ·exact ⟨_, by assumption⟩
  ·cases q3
 obtain ⟨hty, hfz⟩ := hcfg.ty T _ hT
 rw [q2] at h2
 obtain ⟨u, rfl⟩ : ∃ u, cv = [u] := by
  match cv, h2 with
  | [u], _ => exact ⟨u, rfl⟩
 obtain ⟨φ, hp, rfl⟩ := h3 0 u rfl
 rw [Nat.add_zero] at hp
 obtain ⟨t, f', hb⟩ := hs.hok b _ h1
 refine ⟨_, h, qq hs hC hd (v := .pointer (some ⟨φ.b, 0, none⟩)) ⟨o, ⟨o.τ, o.x⟩, φ.b, 0, ho, by rw [hrow]; rfl, qN _ _, ?_, rfl⟩ (fun w' hm => ?_)⟩
 ·unfold j1
  rw [hrow, ← (hs.pins.1 _ _ hp).1]
  exact jV _ _ _ _
 ·have := qaM hty (o := 0) (qcR hm hb) rfl
  have hv' : a.eval x = .pointer (some ⟨b, 0, none⟩) := hv
  simp [execOp, hv', this]
  rfl
theorem op_load (hcfg : qA P cfg) (hC : qG C cfg) {T : TypeId} {x : Operand} (hs : qk P C s a w H Φ) (hd : qQ cfg.nt dst = true) (h : qO cfg ⟨dst, .load T x, ty, pos, after, guard⟩ s k = some r) :
  ∃ s', k s' = some r ∧ qak P C ⟨dst, .load T x, ty, pos, after, guard⟩ a w s' := by
 simp only [qO] at h
 obtain ⟨H, hs⟩ := hs.frzLoad (cfg := cfg) dst x
 generalize frzLoad cfg s dst x = s at h hs
 split at h
 case h_3 => cases h
 ·rename_i i f n he
  have hr := qo hs qD he
  cases hq : Nat.beq i 0 && qka cfg T with
  | false =>
   rw [hq, cond_false] at h
   exact qlT hcfg hC hs hd hr h
  | true =>
   rw [hq, cond_true] at h
   rw [Bool.and_eq_true] at hq
   obtain rfl := Nat.eq_of_beq_eq_true hq.1
   obtain ⟨b, cv, h1, h2, hv⟩ := hr
   have hfT : qgo P T = true := by
    have hq2 := hq.2
    unfold qka at hq2
    split at hq2
    ·rename_i sp hsp
     rw [Nat.eq_of_beq_eq_true hq2]
     exact (hcfg.self sp hsp).2.2
    ·cases hq2
   obtain ⟨t, f', hb⟩ := hs.hok b _ h1
   refine ⟨_, h, qq hs hC hd (v := .func (.func f) #[] (cv ++ [Value.pointer (some ⟨b, 0, none⟩)]).toArray) ⟨b, cv, h1, h2, rfl⟩ (fun w' hm => ?_)⟩
   have hc : w'.cell? ⟨b, 0, none⟩ = some (.func (.func f) #[] (cv ++ [Value.pointer (some ⟨b, 0, none⟩)]).toArray) := by
    rw [qz (qcR hm hb)]
    rfl
   unfold qgo at hfT
   split at hfT
   ·rename_i hu
    simp [execOp, hv, Instr.loadAt, Instr.sureAddr, loadVar, isAgg, underlying, hu, hc]
   ·cases hfT
 rename_i av hne he
 clear hne
 have hr := qo hs qD he
 split at h
 ·rename_i s' htk; exact ⟨s', h, take_ok hcfg hC hs hd hr htk⟩
 rename_i htk
 clear htk
 unfold qjI at h
 split at h
 ·rename_i σ y
  cases hT : decide (lk cfg.ty T = some σ) with
  | false => rw [hT] at h; cases h
  | true =>
   rw [hT, cond_true] at h
   obtain ⟨hty, _⟩ := hcfg.ty T _ (of_decide_eq_true hT)
   obtain ⟨hf, b, o, blk, hv, hH, hrep⟩ := hr
   obtain ⟨t, f, hb⟩ := hs.hok b blk hH
   refine ⟨_, h, qq hs hC hd (v := jY σ (seg blk o σ.size)) ⟨hf, _, rfl, hrep⟩ (fun w' hm => ?_)⟩
   simp [execOp, hv, qaM hty (qcR hm hb) (qn.length σ hrep)]
 ·rename_i id p
  obtain ⟨o, y, b, off, h1, h2, h3, h4, hv⟩ := hr
  rw [h1] at h
  simp only [h2, cond_false] at h
  have hyt := jQ _ h3
  rw [hyt] at h
  obtain ⟨σ, y⟩ := y
  simp only at h hyt
  cases hT : decide (lk cfg.ty T = some σ.fz) with
  | false => rw [hT] at h; cases h
  | true =>
   rw [hT, cond_true] at h
   obtain ⟨hty, _⟩ := hcfg.ty T _ (of_decide_eq_true hT)
   have hty' := qR.unfz hty
   have hok := (hs.os id o h1).1
   obtain ⟨b', o', hl, blk', t', pre', c, post', f1, f', f2, e1, e2, e3, e4, e5, e6, _⟩ := hok.desc (y := y) h3 ⟨w, _, _, h4⟩ h2
   obtain ⟨rfl, rfl⟩ := j1.det h4 (hl w (fun _ _ => rfl))
   have hseg : seg blk' off σ.size = c := by rw [← e3]; exact qV e2 (qn.length σ e6)
   have hrun : ∀ w', j7 jP w w' → (execOp a.eval ⟨dst, .load T x, ty, pos, after, guard⟩).run P w' = .ok (.value (jY σ c)) w' := by
    intro w' hm
    have := qaM hty' (o := off) (qcR hm e1) (by rw [hseg]; exact qn.length σ e6)
    rw [hseg] at this
    simp [execOp, hv, this]
   cases hfz : σ.isFz with
   | true =>
    rw [hfz, cond_true, jJ, h3] at h
    have hf0 := qn.fz_fp σ hfz e6
    subst hf0
    exact ⟨_, h, qq hs hC hd (v := jY σ c) ⟨hfz, c, rfl, e6⟩ hrun⟩
   | false =>
    rw [hfz, cond_false] at h
    refine ⟨_, h, qq hs hC hd (v := jY σ c) ⟨o, ⟨σ, y⟩, h1, h3, ?_⟩ hrun⟩
    rw [h2]
    exact ⟨b, off, blk', t', h4, e1, by rw [hseg]⟩
 ·cases h
theorem qha {own : Bool} {tid : TypeId} {e : Ty} {l : List e.den} {cs fp} (h : qn P (.list own tid e) w H l cs fp) : ∃ ad cap, jY (.list own tid e) cs = .slice ad l.length cap := by
 cases own with
 | false => obtain ⟨_, ad, cap, rfl, _⟩ := h; exact ⟨ad, cap, rfl⟩
 | true =>
  obtain ⟨hdr, xs, fp', rfl, _, ho, _⟩ := h
  rcases ho.2 with ⟨rfl, h0⟩ | ⟨g, cap, cur, rfl, _⟩
  ·exact ⟨none, 0, by rw [h0]; rfl⟩
  ·exact ⟨_, cap, rfl⟩
theorem qjJ (hs : qk P C s a w H Φ) {av : AV} {v : Value} (hr : qg P C w H Φ s.obj av v) {f : Nat → Option R} (h : qik s av f = some r) : ∃ n, f n = some r ∧ ∃ ad cap, v = .slice ad n cap := by
 unfold qik at h
 split at h
 ·obtain ⟨_, cs, rfl, hrep⟩ := hr
  exact ⟨_, h, qha hrep⟩
 ·rename_i id p
  split at h
  case h_2 => cases h
  rename_i o ho
  rw [jJ] at h
  obtain ⟨y, hy, h⟩ := Option.bind_eq_some_iff.1 h
  obtain ⟨cs, fp, hv, hrep, _⟩ := qa5 hr ho (hs.os id o ho).1 hy
  obtain ⟨σ, y⟩ := y
  simp only at h
  split at h
  ·rw [hv]; exact ⟨_, h, qha hrep⟩
  ·cases h
 ·obtain ⟨o, _, _, _, _, fp, hrep, _⟩ := hr
  refine ⟨_, h, ?_⟩
  obtain ⟨ad, cap, e⟩ := qha hrep
  exact ⟨ad, cap, e⟩
 ·cases h
theorem qfm {own : Bool} {tid : TypeId} {e : Ty} {l : List e.den} {cs fp} (h : qn P (.list own tid e) w H l cs fp) : ∃ ad cap, jY (.list own tid e) cs = .slice ad l.length cap ∧ (ad = none → l.length = 0) := by
 cases own with
 | false =>
  obtain ⟨_, ad, cap, rfl, _, h⟩ := h
  refine ⟨ad, cap, rfl, fun e => ?_⟩
  rcases h with h | ⟨b, o, blk, h, _⟩
  ·rw [h]; rfl
  ·rw [e] at h; cases h
 | true =>
  obtain ⟨hdr, xs, fp', rfl, _, ho, _⟩ := h
  rcases ho.2 with ⟨rfl, hz⟩ | ⟨g, cap, cur, rfl, _⟩
  ·have hz' : List.length l = 0 := hz
   exact ⟨none, 0, by rw [hz']; rfl, fun _ => hz'⟩
  ·exact ⟨_, cap, rfl, fun e => by cases e⟩
theorem qkt (hs : qk P C s a w H Φ) {av : AV} {v : Value} (hr : qg P C w H Φ s.obj av v) {f : Nat → Option R} (h : qik s av f = some r) : ∃ n, f n = some r ∧ ∃ ad cap, v = .slice ad n cap ∧ (ad = none → n = 0) := by
 unfold qik at h
 split at h
 ·obtain ⟨_, cs, rfl, hrep⟩ := hr
  exact ⟨_, h, qfm hrep⟩
 ·rename_i id p
  split at h
  case h_2 => cases h
  rename_i o ho
  rw [jJ] at h
  obtain ⟨y, hy, h⟩ := Option.bind_eq_some_iff.1 h
  obtain ⟨cs, fp, hv, hrep, _⟩ := qa5 hr ho (hs.os id o ho).1 hy
  obtain ⟨σ, y⟩ := y
  simp only at h
  split at h
  ·rw [hv]; exact ⟨_, h, qfm hrep⟩
  ·cases h
 ·obtain ⟨o, _, _, _, _, fp, hrep, _⟩ := hr
  refine ⟨_, h, ?_⟩
  obtain ⟨ad, cap, e⟩ := qfm hrep
  exact ⟨ad, cap, e⟩
 ·cases h
theorem qhU {t : Option Ty} (h : qbC t = true) : ∃ own tid e, t = some (.list own tid e) := by
 unfold qbC at h
 split at h
 ·exact ⟨_, _, _, rfl⟩
 ·cases h
theorem op_binOp (hcfg : qA P cfg) (hC : qG C cfg) {op : BinOp} {T T' : TypeId} {x y : Operand} (hs : qk P C s a w H Φ) (hd : qQ cfg.nt dst = true) (h : qO cfg ⟨dst, .binOp op T x y T', ty, pos, after, guard⟩ s k = some r) :
  ∃ s', k s' = some r ∧ qak P C ⟨dst, .binOp op T x y T', ty, pos, after, guard⟩ a w s' := by
 simp only [qO] at h
 cases hq : qb9 y && qbC (lk cfg.ty T) with
 | false =>
  rw [hq, cond_false] at h
  exact qlI hcfg hC hs hd h
 | true =>
  rw [hq, cond_true] at h
  rw [Bool.and_eq_true] at hq
  obtain ⟨hy, hT⟩ := hq
  obtain ⟨own, tid, e, hlk⟩ := qhU hT
  have hu := (hcfg.ty T _ hlk).1.list.1
  have hyv : a.eval y = .slice none 0 0 := by
   unfold qb9 at hy
   split at hy
   ·rfl
   ·cases hy
  split at h
  case h_2 => cases h
  rename_i av he
  cases hns : qiQ s av with
  | some b =>
   rw [hns] at h
   have hr := qo hs qD he
   unfold qiQ at hns
   split at hns
   case h_2 => cases hns
   rename_i id
   split at hns
   case h_2 => cases hns
   rename_i o ho
   cases hrow : o.row with
   | false => rw [hrow] at hns; cases hns
   | true =>
   rw [hrow, cond_true] at hns
   obtain ⟨o2, y2, q1, _, q3⟩ := hr
   rw [ho] at q1
   cases q1
   simp only [hrow, List.isEmpty_nil, Bool.and_self] at q3
   have hb : ∃ ad n cap, a.eval x = .slice ad n cap ∧ ad.isNone = b := by
    cases h1 : qer id true with
    | true =>
     rw [h1] at hns
     cases hns
     obtain ⟨ad, n, cap, e⟩ := qgt h1 (hs.pins.2 id)
     exact ⟨some ad, n, cap, by rw [q3, e], rfl⟩
    | false =>
     rw [h1, cond_false] at hns
     cases h2 : qer id false with
     | true =>
      rw [h2] at hns
      cases hns
      have e : (Φ id).hdr = .slice none 0 0 := qgt h2 (hs.pins.2 id)
      exact ⟨none, 0, 0, by rw [q3, e], rfl⟩
     | false => rw [h2] at hns; cases hns
   obtain ⟨ad, n, cap, hv, rfl⟩ := hb
   simp only at h
   unfold qdC at h
   split at h
   ·exact ⟨_, h, qq hs hC hd (qg.mk_bool w H Φ s.obj _) (fun w' _ => by simp [execOp, hv, hyv, eqGuard, binOp, run_equal_slice_nil _ T tid _ _ _ hu])⟩
   ·exact ⟨_, h, qq hs hC hd (qg.mk_bool w H Φ s.obj _) (fun w' _ => by simp [execOp, hv, hyv, eqGuard, binOp, run_equal_slice_nil _ T tid _ _ _ hu])⟩
   ·cases h
  | none =>
  rw [hns] at h
  simp only at h
  obtain ⟨n, h, ad, cap, hv, hn⟩ := qkt hs (qo hs qD he) h
  have hk : qdC op ad.isNone (fun b => k (s.setDst dst (.val .bool b))) = some r := by
   unfold nilK at h
   cases hn0 : Nat.beq n 0 with
   | true =>
    rw [hn0, cond_true] at h
    exact qdI h ad.isNone trivial
   | false =>
    rw [hn0, cond_false] at h
    have hne := Nat.ne_of_beq_eq_false hn0
    cases ad with
    | none => exact absurd (hn rfl) hne
    | some _ => exact h
  unfold qdC at hk
  split at hk
  ·exact ⟨_, hk, qq hs hC hd (qg.mk_bool w H Φ s.obj _) (fun w' _ => by simp [execOp, hv, hyv, eqGuard, binOp, run_equal_slice_nil _ T tid _ _ _ hu])⟩
  ·exact ⟨_, hk, qq hs hC hd (qg.mk_bool w H Φ s.obj _) (fun w' _ => by simp [execOp, hv, hyv, eqGuard, binOp, run_equal_slice_nil _ T tid _ _ _ hu])⟩
  ·cases hk
theorem op_len (hcfg : qA P cfg) (hC : qG C cfg) {c : Call} (hc : c.callee = .builtin .len) (hs : qk P C s a w H Φ) (hd : qQ cfg.nt dst = true) (h : qO cfg ⟨dst, .call c, ty, pos, after, guard⟩ s k = some r) :
  ∃ s', k s' = some r ∧ qak P C ⟨dst, .call c, ty, pos, after, guard⟩ a w s' := by
 simp only [qO, hc] at h
 split at h
 case h_2 => cases h
 rename_i x T hx hT
 split at h
 case h_2 => cases h
 rename_i av he
 have hr := qo hs qD he
 cases hl : qbC (lk cfg.ty T) with
 | false => rw [hl] at h; cases h
 | true =>
  rw [hl, cond_true] at h
  obtain ⟨n, h, ad, cap, hv⟩ := qjJ hs hr h
  obtain ⟨own, tid, e, hlk⟩ : ∃ own tid e, lk cfg.ty T = some (.list own tid e) := by
   unfold qbC at hl
   split at hl
   ·exact ⟨_, _, _, ‹_›⟩
   ·cases hl
  have hu := (hcfg.ty T _ hlk).1.list.1
  have e2 : c = ⟨.builtin .len, #[x], #[T]⟩ := by
   obtain ⟨c1, c2, c3⟩ := c
   simp only at hc hx hT
   rw [hc, ← Array.toArray_toList (xs := c2), hx, ← Array.toArray_toList (xs := c3), hT]
  subst e2
  exact ⟨_, h, qq hs hC hd (qg.mk_int w H Φ s.obj _ _) (fun w' _ => by simp [execOp, resolve, invoke, builtin, Builtin.len_, hv, run_underlying hu, goInt])⟩
theorem qkq (x y : Int) : max x y = if y > x then y else x := by omega
theorem min_eq (x y : Int) : min x y = if y < x then y else x := by omega
theorem qiH (w : World) (ats : Array TypeId) (t : TypeId) (k : IntKind) (x y z : Int) : (Builtin.max_ ats t #[.int k x, .int k y, .int k z]).run P w = .ok (.int k (max (max x y) z)) w := by
 rw [qkq (max x y) z, qkq x y]
 simp [Builtin.max_, Builtin.max2]
theorem op_max3 (_hcfg : qA P cfg) (hC : qG C cfg) {c : Call} (hc : c.callee = .builtin .max) (hs : qk P C s a w H Φ) (hd : qQ cfg.nt dst = true) {i j l : IntKind} {m n q : Int} (he : qbg s (fun _ => none) c.args.toList 0 = some [.val (.int i) m, .val (.int j) n, .val (.int l) q])
  (h : (bif (i == j) && (i == l) then k (s.setDst dst (.val (.int i) (max (max m n) q))) else none) = some r) :
  ∃ s', k s' = some r ∧ qak P C ⟨dst, .call c, ty, pos, after, guard⟩ a w s' := by
 have hr := jW hs (fun _ => qD) he
 cases hij : (i == j) && (i == l) with
 | false => rw [hij] at h; cases h
 | true =>
  rw [hij, cond_true] at h
  rw [Bool.and_eq_true] at hij
  have hij' : i = j := by simpa using hij.1
  have hil' : i = l := by simpa using hij.2
  subst hij'
  subst hil'
  obtain ⟨c1, c2, c3⟩ := c
  simp only at hc hr
  subst hc
  obtain ⟨x, y, z, hxy⟩ : ∃ x y z, c2.toList = [x, y, z] := by
   match c2.toList, hr with
   | [], hr => exact hr.elim
   | [_], hr => exact hr.2.elim
   | [_, _], hr => exact hr.2.2.elim
   | [x, y, z], _ => exact ⟨x, y, z, rfl⟩
   | _ :: _ :: _ :: _ :: _, hr => exact hr.2.2.2.elim
  rw [hxy] at hr
  have v1 := hr.1.int
  have v2 := hr.2.1.int
  have v3 := hr.2.2.1.int
  have e2 : c2 = #[x, y, z] := by rw [← Array.toArray_toList (xs := c2), hxy]
  subst e2
  exact ⟨_, h, qq hs hC hd (qg.mk_int w H Φ s.obj _ _) (fun w' _ => by simp [execOp, resolve, invoke, builtin, v1, v2, v3, qiH])⟩
theorem op_max (_hcfg : qA P cfg) (hC : qG C cfg) {c : Call} (hc : c.callee = .builtin .max) (hs : qk P C s a w H Φ) (hd : qQ cfg.nt dst = true) (h : qO cfg ⟨dst, .call c, ty, pos, after, guard⟩ s k = some r) :
  ∃ s', k s' = some r ∧ qak P C ⟨dst, .call c, ty, pos, after, guard⟩ a w s' := by
 simp only [qO, hc] at h
 split at h
 case h_3 => cases h
 case h_2 => exact op_max3 _hcfg hC hc hs hd ‹_› h
 rename_i i m j n he
 have hr := jW hs (fun _ => qD) he
 cases hij : (i == j) with
 | false => rw [hij] at h; cases h
 | true =>
  rw [hij, cond_true] at h
  have hij' : i = j := by simpa using hij
  subst hij'
  obtain ⟨c1, c2, c3⟩ := c
  simp only at hc hr
  subst hc
  obtain ⟨x, y, hxy⟩ : ∃ x y, c2.toList = [x, y] := by
   match c2.toList, hr with
   | [], hr => exact hr.elim
   | [_], hr => exact hr.2.elim
   | [x, y], _ => exact ⟨x, y, rfl⟩
   | _ :: _ :: _ :: _, hr => exact hr.2.2.elim
  rw [hxy] at hr
  have v1 := hr.1.int
  have v2 := hr.2.1.int
  have e2 : c2 = #[x, y] := by rw [← Array.toArray_toList (xs := c2), hxy]
  subst e2
  refine ⟨_, h, qq hs hC hd (qg.mk_int w H Φ s.obj _ _) (fun w' _ => ?_)⟩
  rw [qkq]
  simp [execOp, resolve, invoke, builtin, v1, v2, run_max_int2]
theorem op_min (_hcfg : qA P cfg) (hC : qG C cfg) {c : Call} (hc : c.callee = .builtin .min) (hs : qk P C s a w H Φ) (hd : qQ cfg.nt dst = true) (h : qO cfg ⟨dst, .call c, ty, pos, after, guard⟩ s k = some r) :
  ∃ s', k s' = some r ∧ qak P C ⟨dst, .call c, ty, pos, after, guard⟩ a w s' := by
 simp only [qO, hc] at h
 split at h
 case h_2 => cases h
 rename_i i m j n he
 have hr := jW hs (fun _ => qD) he
 cases hij : (i == j) with
 | false => rw [hij] at h; cases h
 | true =>
  rw [hij, cond_true] at h
  have hij' : i = j := by simpa using hij
  subst hij'
  obtain ⟨c1, c2, c3⟩ := c
  simp only at hc hr
  subst hc
  obtain ⟨x, y, hxy⟩ : ∃ x y, c2.toList = [x, y] := by
   match c2.toList, hr with
   | [], hr => exact hr.elim
   | [_], hr => exact hr.2.elim
   | [x, y], _ => exact ⟨x, y, rfl⟩
   | _ :: _ :: _ :: _, hr => exact hr.2.2.elim
  rw [hxy] at hr
  have v1 := hr.1.int
  have v2 := hr.2.1.int
  have e2 : c2 = #[x, y] := by rw [← Array.toArray_toList (xs := c2), hxy]
  subst e2
  refine ⟨_, h, qq hs hC hd (qg.mk_int w H Φ s.obj _ _) (fun w' _ => ?_)⟩
  rw [min_eq]
  simp [execOp, resolve, invoke, builtin, v1, v2, run_min_int2]
theorem qdK {tid : Nat} {e : Ty} {o : Bool} {l : List e.den} {x : Operand} {a : Act} {τ : Option Ty} {s : St} (hx : ∃ v, x = .const v) (he : jB s τ x = some (.val (.list o tid e) l)) :
  a.eval x = .slice none 0 0 ∧ l = [] := by
 obtain ⟨v, rfl⟩ := hx
 simp only [jB] at he
 unfold qe2 at he
 split at he
 ·cases he
 ·cases he
 ·split at he
  ·cases he; exact ⟨rfl, rfl⟩
  ·cases he
 ·split at he
  ·cases he
  ·cases he
 ·cases he
 ·cases he
theorem qk.commit (hs : qk P C s a w H Φ) (hC : qG C cfg) {id : Nat} {tid : TypeId} {e : Ty} {l : List e.den} {v : Value} (hr : qg P C w H Φ s.obj (.upd id [] tid e l) v) {o : Obj} (ho : s.obj id = some o) (hrow : o.row = true) (hid : id < 4000000) :
  ∃ fp, qk P C (s.newObj id true (.list true tid e) l) a w H (qax Φ id ⟨0, v, fp⟩) := by
 obtain ⟨o', h1, h3, h4, fp, h0, h5, h6⟩ := hr
 rw [ho] at h1
 cases h1
 refine ⟨fp, hs.newObj (j7.refl _ _) (hC.pin id (Nat.lt_trans hid (by decide))) (qa2 hid) ⟨by simpa [Ty.noFn] using h3, h0, rfl, [v], rfl, h5⟩ ?_⟩
 intro b hb
 obtain ⟨hlt, h7⟩ := h6 b hb
 rcases h7 with hf | q1
 ·exact ⟨hf.fz, hf.may, hlt, fun j o' _ hj => hf.obj j o' hj⟩
 ·unfold qbY at q1
  rw [hrow] at q1
  simp only [List.isEmpty_nil, Bool.and_self] at q1
  obtain ⟨q3, q4, q5⟩ := (hs.os id o ho).2 b q1
  exact ⟨q3, q4, hlt, fun j o' hj hoj => hs.disj id j o o' (fun e => hj e.symm) ho hoj b q1⟩
theorem qk.commitMove (hs : qk P C s a w H Φ) (hC : qG C cfg) {id : Nat} {tid : TypeId} {e : Ty} {l : List e.den} {v : Value} (hr : qg P C w H Φ s.obj (.upd id [] tid e l) v) {o : Obj} (ho : s.obj id = some o) (hrow : o.row = true) {d : Nat} (hd : d < 4000000) :
  ∃ fp, qk P C (((s.kill id).setObj id none).newObj d true (.list true tid e) l) a w H (qax Φ d ⟨0, v, fp⟩) := by
 obtain ⟨o', h1, h3, h4, fp, h0, h5, h6⟩ := hr
 rw [ho] at h1
 cases h1
 have hob : ∀ j o', ((s.kill id).setObj id none).obj j = some o' → s.obj j = some o' ∧ j ≠ id := by
  intro j o' hj
  rw [St.obj_setObj] at hj
  split at hj
  ·cases hj
  ·rename_i hne; exact ⟨hj, fun e => hne e.symm⟩
 refine ⟨fp, (hs.remove id).newObj (j7.refl _ _) (hC.pin d (Nat.lt_trans hd (by decide))) (qa2 hd) ⟨by simpa [Ty.noFn] using h3, h0, rfl, [v], rfl, h5⟩ ?_⟩
 intro b hb
 obtain ⟨hlt, h7⟩ := h6 b hb
 rcases h7 with hf | q1
 ·exact ⟨hf.fz, hf.may, hlt, fun j o' _ hj => hf.obj j o' (hob j o' hj).1⟩
 ·unfold qbY at q1
  rw [hrow] at q1
  simp only [List.isEmpty_nil, Bool.and_self] at q1
  obtain ⟨q3, q4, q5⟩ := (hs.os id o ho).2 b q1
  exact ⟨q3, q4, hlt, fun j o' _ hoj => hs.disj id j o o' (fun e => (hob j o' hoj).2 e.symm) ho (hob j o' hoj).1 b q1⟩
theorem qk.frzSite (hs : qk P C s a w H Φ) (d : Option Nat) (x : Operand) : ∃ H', qk P C (frzSite cfg s d x) a w H' Φ := by
 unfold Go.Vi.frzSite
 split
 ·exact ⟨H, hs⟩
 ·exact ⟨H, hs⟩
 ·split
  ·obtain ⟨H', _, _, _, h⟩ := hs.freeze _
   exact ⟨H', h⟩
  ·exact ⟨H, hs⟩
 ·exact ⟨H, hs⟩
theorem qk.frzOp (hs : qk P C s a w H Φ) (x : Operand) : ∃ H', qk P C (frzOp s x) a w H' Φ := by
 unfold Go.Vi.frzOp
 split
 ·split
  ·rename_i o _
   cases o.row && _ with
   | true => exact ⟨H, hs⟩
   | false =>
    obtain ⟨H', _, _, _, h⟩ := hs.freeze _
    exact ⟨H', h⟩
  ·exact ⟨H, hs⟩
 ·exact ⟨H, hs⟩
theorem qdc (hcfg : qA P cfg) (hC : qG C cfg) {x : Operand} (hs : qk P C s a w H Φ) (hd : qQ cfg.nt dst = true) {av : AV} (he : jB s (lk cfg.ty ty) x = some av) (h : qd9 s dst x av k = some r) :
  ∃ s', k s' = some r ∧ qak P C ⟨dst, .assign x, ty, pos, after, guard⟩ a w s' := by
 have hrun : ∀ w', j7 jP w w' → (execOp a.eval ⟨dst, .assign x, ty, pos, after, guard⟩).run P w' = .ok (.value (a.eval x)) w' := fun w' _ => rfl
 have hr := qo hs (hcfg.fz ty) he
 unfold qd9 at h
 split at h
 ·rename_i v own tid e l
  split at h
  case h_2 => cases h
  rename_i d
  cases hfn : e.noFn with
  | false => rw [hfn] at h; cases h
  | true =>
  rw [hfn, cond_true] at h
  obtain ⟨hv, rfl⟩ := qdK (a := a) ⟨v, rfl⟩ he
  have hd' : d < C.nt := by rw [hC.nt]; exact Eq.mp Nat.blt_eq hd
  have hd2 : d < 4000000 := by have := hcfg.small; rw [← hC.nt] at this; omega
  have hfz := hr.1
  simp only [Ty.isFz, Bool.and_eq_true] at hfz
  have hn : qk P C (s.newObj d true (.list true tid e) []) a w H (qax Φ d ⟨0, .slice none 0 0, []⟩) :=
   hs.newObj (j7.refl _ _) (hC.pin d (Nat.lt_trans hd2 (by decide))) (qa2 hd2) ⟨by simpa [Ty.noFn] using hfn, by simp, rfl, [.slice none 0 0], rfl, ⟨.slice none 0 0, [], [], rfl, rfl, World.ownsRow_nil w 0 tid e.size, rfl, rfl⟩⟩ (by simp)
  rw [hv] at hrun
  refine ⟨_, h, qbJ hrun ⟨H, _, hn.set hd' (v := .slice none 0 0) ⟨⟨true, .list true tid e, []⟩, ⟨.list true tid e, []⟩, ?_, qN _ _, ?_⟩⟩⟩
  ·rw [St.newObj, St.obj_setObj, if_pos rfl]
  ·simp only [List.isEmpty_nil, Bool.and_self, qr]
 ·rename_i x' id tid e l
  split at h
  case h_2 => cases h
  rename_i o ho
  cases hrw : o.row && Nat.blt id 4000000 with
  | false =>
   rw [hrw, cond_false] at h
   split at h
   case h_2 => cases h
   rename_i d
   cases hrw2 : o.row && !Nat.beq id d with
   | false => rw [hrw2] at h; cases h
   | true =>
   rw [hrw2, cond_true] at h
   rw [Bool.and_eq_true] at hrw2
   have hd' : d < C.nt := by rw [hC.nt]; exact Eq.mp Nat.blt_eq hd
   have hd2 : d < 4000000 := by have := hcfg.small; rw [← hC.nt] at this; omega
   obtain ⟨_, hn⟩ := hs.commitMove hC hr ho hrw2.1 hd2
   refine ⟨_, h, qbJ hrun ⟨H, _, hn.set hd' ⟨⟨true, .list true tid e, l⟩, ⟨.list true tid e, l⟩, ?_, qN _ _, ?_⟩⟩⟩
   ·rw [St.newObj, St.obj_setObj, if_pos rfl]
   ·simp only [List.isEmpty_nil, Bool.and_self, qr]
  | true =>
   rw [hrw, cond_true] at h
   rw [Bool.and_eq_true] at hrw
   split at h
   case h_2 => cases h
   have hid : id < 4000000 := Eq.mp Nat.blt_eq hrw.2
   obtain ⟨_, hn⟩ := hs.commit hC hr ho hrw.1 hid
   refine ⟨_, h, qbJ hrun ⟨H, _, hn.setDst (by rw [hC.nt]; exact hd) ⟨⟨true, .list true tid e, l⟩, ⟨.list true tid e, l⟩, ?_, qN _ _, ?_⟩⟩⟩
   ·rw [St.newObj, St.obj_setObj, if_pos rfl]
   ·simp only [List.isEmpty_nil, Bool.and_self, qr]
 ·exact ⟨_, h, qq hs hC hd hr hrun⟩
theorem qkk (hcfg : qA P cfg) (hC : qG C cfg) {x : Operand} (hs : qk P C s a w H Φ) (hd : qQ cfg.nt dst = true) {av : AV} (he : jB s (lk cfg.ty ty) x = some av) (h : qiR s dst x av k = some r) :
  ∃ s', k s' = some r ∧ qak P C ⟨dst, .assign x, ty, pos, after, guard⟩ a w s' := by
 unfold qiR at h
 split at h
 ·rename_i v own tid e l d
  have hrun : ∀ w', j7 jP w w' → (execOp a.eval ⟨some d, .assign (.const v), ty, pos, after, guard⟩).run P w' = .ok (.value (a.eval (.const v))) w' := fun w' _ => rfl
  cases hfn : e.noFn with
  | false => rw [hfn] at h; cases h
  | true =>
  rw [hfn, cond_true] at h
  obtain ⟨hv, rfl⟩ := qdK (a := a) ⟨v, rfl⟩ he
  have hd' : d < C.nt := by rw [hC.nt]; exact Eq.mp Nat.blt_eq hd
  have hd2 : d < 3000000 := by have := hcfg.small; rw [← hC.nt] at this; omega
  have hn : qk P C (s.newObj (7000000 + d) true (.list true tid e) []) a w H (qax Φ (7000000 + d) ⟨0, .slice none 0 0, []⟩) :=
   hs.newObj (j7.refl _ _) (hC.pin (7000000 + d) (by omega)) (qhz (nn := false) hd2 rfl) ⟨by simpa [Ty.noFn] using hfn, by simp, rfl, [.slice none 0 0], rfl, ⟨.slice none 0 0, [], [], rfl, rfl, World.ownsRow_nil w 0 tid e.size, rfl, rfl⟩⟩ (by simp)
  rw [hv] at hrun
  refine ⟨_, h, qbJ hrun ⟨H, _, hn.set hd' (v := .slice none 0 0) ⟨⟨true, .list true tid e, []⟩, ⟨.list true tid e, []⟩, ?_, qN _ _, ?_⟩⟩⟩
  ·rw [St.newObj, St.obj_setObj, if_pos rfl]
  ·simp only [List.isEmpty_nil, Bool.and_self, qr]
 ·exact qdc hcfg hC hs hd he h
theorem qjy (hcfg : qA P cfg) (hC : qG C cfg) {x : Operand} (hs : qk P C s a w H Φ) (hd : qQ cfg.nt dst = true) {av : AV} (he : jB s (lk cfg.ty ty) x = some av) (h : qg3 s dst x av k = some r) :
  ∃ s', k s' = some r ∧ qak P C ⟨dst, .assign x, ty, pos, after, guard⟩ a w s' := by
 unfold qg3 at h
 split at h
 ·rename_i id d
  split at h
  case h_2 => cases h
  rename_i o ho
  cases hq : o.row && !Nat.beq id d with
  | false => rw [hq, cond_false] at h; exact qdc hcfg hC hs hd he h
  | true =>
  rw [hq, cond_true] at h
  rw [Bool.and_eq_true] at hq
  have hr := qo hs (hcfg.fz ty) he
  have hrun : ∀ w', j7 jP w w' → (execOp a.eval ⟨some d, .assign x, ty, pos, after, guard⟩).run P w' = .ok (.value (a.eval x)) w' := fun w' _ => rfl
  have hdl : d < cfg.nt := Eq.mp Nat.blt_eq hd
  have hd2 : d < 4000000 := Nat.lt_of_lt_of_le hdl (Nat.le_trans hcfg.small (by decide))
  obtain ⟨h1, h2⟩ := hs.os id o ho
  obtain ⟨row, τ, y⟩ := o
  cases row with
  | false => cases hq.1
  | true =>
  have hob : ∀ j o, ((s.kill id).setObj id none).obj j = some o → s.obj j = some o ∧ j ≠ id := by
   intro j o hj
   rw [St.obj_setObj] at hj
   split at hj
   ·cases hj
   ·rename_i hne; exact ⟨hj, fun e => hne e.symm⟩
  have hn1 := (hs.remove id).newObj (j7.refl _ _) (hC.pin d (Nat.lt_trans hd2 (by decide))) (qa2 hd2) (row := true) (τ := τ) (x := y) (φ := Φ id) h1 (by
   intro b hb
   obtain ⟨p1, p2, p3⟩ := h2 b hb
   exact ⟨p1, p2, p3, fun j o' _ hj => hs.disj id j _ o' (fun e => (hob j o' hj).2 e.symm) ho (hob j o' hj).1 b hb⟩)
  obtain ⟨o', z, q1, _, q3⟩ := hr
  rw [ho] at q1
  cases q1
  refine ⟨_, h, qbJ hrun ⟨H, _, hn1.set (by rw [hC.nt]; exact hdl) ⟨⟨true, τ, y⟩, ⟨τ, y⟩, ?_, qN _ _, ?_⟩⟩⟩
  ·rw [St.newObj, St.obj_setObj, if_pos rfl]
  ·simp only [List.isEmpty_nil, Bool.and_self, qr]
   exact q3
 ·exact qdc hcfg hC hs hd he h
theorem qko (hcfg : qA P cfg) (hC : qG C cfg) {x : Operand} (hs : qk P C s a w H Φ) (hd : qQ cfg.nt dst = true) (h : qhE cfg s dst ty x k = some r) :
  ∃ s', k s' = some r ∧ qak P C ⟨dst, .assign x, ty, pos, after, guard⟩ a w s' := by
 have hrun : ∀ w', j7 jP w w' → (execOp a.eval ⟨dst, .assign x, ty, pos, after, guard⟩).run P w' = .ok (.value (a.eval x)) w' := fun w' _ => rfl
 unfold qhE at h
 split at h
 case h_2 => cases h
 rename_i av he
 have hr := qo hs (hcfg.fz ty) he
 cases hbs : qhd (dst.bind (lk cfg.site)) with
 | true =>
  rw [hbs, cond_true] at h
  exact qkk hcfg hC hs hd he h
 | false =>
 rw [hbs, cond_false] at h
 cases hms : qhc (dst.bind (lk cfg.site)) with
 | true =>
  rw [hms, cond_true] at h
  exact qjy hcfg hC hs hd he h
 | false =>
 rw [hms, cond_false] at h
 cases hsite : (dst.bind (lk cfg.site)).isSome with
 | true =>
  rw [hsite, cond_true] at h
  exact ⟨_, h, qq hs hC hd hr hrun⟩
 | false =>
 rw [hsite, cond_false] at h
 exact qdc hcfg hC hs hd he h
theorem qlJ (hcfg : qA P cfg) (hC : qG C cfg) {x : Operand} (hs : qk P C s a w H Φ) (hd : qQ cfg.nt dst = true) (h : qO cfg ⟨dst, .assign x, ty, pos, after, guard⟩ s k = some r) :
  ∃ s', k s' = some r ∧ qak P C ⟨dst, .assign x, ty, pos, after, guard⟩ a w s' := by
 simp only [qO] at h
 obtain ⟨H', hs'⟩ := hs.frzSite (cfg := cfg) dst x
 exact qko hcfg hC hs' hd h
end
end Go.Vi
namespace Go.Vi
section
variable {P : Program} {C : Ctx} {cfg : jM} {R : Type} {r : R} {s : St} {a : Act} {w : World} {H : FH} {Φ : Nat → qC} {dst : Option Nat} {ty : TypeId} {pos : String} {after : Array Edge} {guard : Option (Nat × Bool)} {k : St → Option R}
theorem qbH : (τ : Ty) → ∀ {x : τ.den} {p : List qs} {y}, qT τ x p = some y → j5 τ x p y.1 y.2 = some x
 | .pair a b, x, p, y, h => by
  match p with
  | [] => cases h; simp [j5, qy]
  | .L :: q => simp only [j5, qbH a h, Option.map_some]
  | .R :: q => simp only [j5, qbH b h, Option.map_some]
  | .I _ :: _ => cases h
 | .str t, x, p, y, h => by
  match p with
  | [] => cases h; simp [j5, qy]
  | s :: q => exact qbH t h
 | .list true tid e, x, p, y, h => by
  match p with
  | [] => cases h; simp [j5, qy]
  | .L :: _ => cases h
  | .R :: _ => cases h
  | .I i :: r =>
   simp only [qT, j5] at h ⊢
   split at h
   ·rename_i hi
    rw [if_pos hi]
    obtain ⟨z, hz, h⟩ := Option.bind_eq_some_iff.1 h
    rw [hz]
    simp only [Option.bind_some, qbH e h, Option.map_some]
    congr 1
    apply List.ext_getElem?
    intro j
    rw [List.getElem?_set]
    split
    ·rename_i e; subst e; split <;> simp_all
    ·rfl
   ·cases h
 | .arr n e, x, p, y, h => by
  match p with
  | [] => cases h; simp [j5, qy]
  | .L :: _ => cases h
  | .R :: _ => cases h
  | .I i :: r =>
   simp only [qT, j5] at h ⊢
   split at h
   ·rename_i hi
    rw [if_pos hi]
    obtain ⟨z, hz, h⟩ := Option.bind_eq_some_iff.1 h
    rw [hz]
    simp only [Option.bind_some, qbH e h, Option.map_some]
    congr 1
    apply List.ext_getElem?
    intro j
    rw [List.getElem?_set]
    split
    ·rename_i e; subst e; split <;> simp_all
    ·rfl
   ·cases h
 | .op t, x, p, y, h => by
  match p with
  | [] => cases h; simp [j5, qy]
  | .L :: _ => cases h
  | .R :: _ => cases h
  | .I i :: r =>
   simp only [qT, j5] at h ⊢
   obtain ⟨z, rfl, h⟩ := Option.bind_eq_some_iff.1 h
   simp only [Option.bind_some, qbH t h, Option.map_some]
 | .int _, x, p, _, h => by cases p <;> cases h; simp [j5, qy]
 | .bool, x, p, _, h => by cases p <;> cases h; simp [j5, qy]
 | .list false _ _, x, p, _, h => by cases p <;> cases h; simp [j5, qy]
 | .ptr _, x, p, _, h => by cases p <;> cases h; simp [j5, qy]
 | .fn _ _, x, p, _, h => by cases p <;> cases h; simp [j5, qy]
 | .fn2 _ _ _, x, p, _, h => by cases p <;> cases h; simp [j5, qy]
def qfb (P : Program) (w : World) (H : FH) (e : Ty) (l : List e.den) (v : Value) : Prop :=
 (l = [] ∧ v = .slice none 0 0) ∨ ∃ b o cap xs, v = .slice (some ⟨b, o, none⟩) l.length cap ∧ qe (qn P e w H) l xs [] ∧ ∀ j u, xs[j]? = some u → w.cell? ((⟨b, o, none⟩ : Addr).add j) = some u
theorem qe3 {b o n : Nat} {blk : Array Value} {t : TypeId} {f : Nat × Nat} (hb : w.heap[b]? = some (.cells blk t f)) : ∀ j u, (seg blk o n)[j]? = some u → w.cell? ((⟨b, o, none⟩ : Addr).add j) = some u := by
 intro j u hj
 unfold seg at hj
 rw [List.getElem?_take] at hj
 split at hj
 ·rw [Addr.add_none, qz hb, ← Array.getElem?_toList]
  rw [List.getElem?_drop] at hj
  exact hj
 ·cases hj
theorem qn.elems {own : Bool} {tid : TypeId} {e : Ty} (he : e.isFz = true) (hok : HOk H w) {l : List e.den} {cs fp} (h : qn P (.list own tid e) w H l cs fp) : qfb P w H e l (jY (.list own tid e) cs) ∨ (l = [] ∧ ∃ ad cap, jY (.list own tid e) cs = .slice ad 0 cap) := by
 cases own with
 | false =>
  obtain ⟨_, ad, cap, rfl, hc, hl⟩ := h
  rcases hl with rfl | ⟨b, o, blk, rfl, hH, hch⟩
  ·exact .inr ⟨rfl, ad, cap, rfl⟩
  ·obtain ⟨t, f, hb⟩ := hok b blk hH
   exact .inl (.inr ⟨b, o, cap, _, rfl, hch, qe3 hb⟩)
 | true =>
  obtain ⟨hdr, xs, fp', rfl, _, ho, hch⟩ := h
  have hf := qe.fp_nil (fun _ _ _ hh => qn.fz_fp e he hh) hch
  subst hf
  rcases ho.2 with ⟨rfl, h0⟩ | ⟨g, cap, cur, rfl, _, hg, _, _, _, htake⟩
  ·exact .inl (.inl ⟨List.length_eq_zero_iff.1 h0, rfl⟩)
  ·refine .inl (.inr ⟨g, 0, cap, xs, rfl, hch, ?_⟩)
   rw [← htake, ← qcM]
   exact qe3 hg
theorem qd1 {b c : Bool} {tid tid' : Nat} {σ e : Ty} {l : List σ.den} {y : List e.den} (h : qy (.list b tid σ) (.list c tid' e) l = some y) : b = c ∧ tid = tid' ∧ ∃ he : σ = e, y = he ▸ l := by
 obtain ⟨e1, h2⟩ := qj h
 have e2 := e1
 injection e2 with e3 e4 e5
 subst e3; subst e4; subst e5
 exact ⟨rfl, rfl, rfl, h2⟩
theorem qfD (hs : qk P C s a w H Φ) {av : AV} {v : Value} (hr : qg P C w H Φ s.obj av v) {e : Ty} (he : e.isFz = true) {f : List e.den → Option R} (h : qhs s av e f = some r) :
  ∃ l, f l = some r ∧ (qfb P w H e l v ∨ (l = [] ∧ ∃ ad cap, v = .slice ad 0 cap)) := by
 unfold qhs at h
 split at h
 ·rename_i o tid σ l
  rw [ql] at h
  replace h := Option.bind_eq_some_iff.1 h
  obtain ⟨y, hy, h⟩ := h
  obtain ⟨_, _, rfl, rfl⟩ := qd1 hy
  obtain ⟨_, cs, rfl, hrep⟩ := hr
  exact ⟨_, h, qn.elems he hs.hok hrep⟩
 ·rename_i id p
  split at h
  case h_2 => cases h
  rename_i o ho
  rw [jJ] at h
  obtain ⟨y, hy, h⟩ := Option.bind_eq_some_iff.1 h
  obtain ⟨cs, fp, hv, hrep, _⟩ := qa5 hr ho (hs.os id o ho).1 hy
  obtain ⟨σ, y⟩ := y
  simp only at h
  split at h
  ·rw [ql] at h
   replace h := Option.bind_eq_some_iff.1 h
   obtain ⟨y, hy', h⟩ := h
   obtain ⟨_, _, rfl, rfl⟩ := qd1 hy'
   rw [hv]
   exact ⟨_, h, qn.elems he hs.hok hrep⟩
  ·cases h
 ·rename_i id p tid σ l
  rw [ql] at h
  replace h := Option.bind_eq_some_iff.1 h
  obtain ⟨y, hy, h⟩ := h
  obtain ⟨_, _, rfl, rfl⟩ := qd1 hy
  obtain ⟨o, _, _, _, fp, _, hrep, _⟩ := hr
  refine ⟨_, h, ?_⟩
  have := qn.elems he hs.hok hrep
  exact this
 ·cases h
theorem qfb.one {e : Ty} {l : List e.den} {xs : List Value} (h : qe (qn P e w H) l xs []) : ∀ u ∈ xs, u.oneCell' = true := qe.all (fun _ _ _ hh => qn.one e hh) h
def RawEl (w : World) (size : Nat) (x : Value) (m : Nat) (news : List Value) : Prop :=
 (m = 0 ∧ news = [] ∧ ∃ ad cap, x = .slice ad 0 cap) ∨ ∃ b o cap, x = .slice (some ⟨b, o, none⟩) m cap ∧ news.length = m * size ∧ ∀ j u, news[j]? = some u → w.cell? ((⟨b, o, none⟩ : Addr).add j) = some u
theorem qfb.raw {e : Ty} {l : List e.den} {v : Value} (h : qfb P w H e l v ∨ (l = [] ∧ ∃ ad cap, v = .slice ad 0 cap)) : ∃ news, RawEl w e.size v l.length news ∧ qe (qn P e w H) l news [] := by
 rcases h with (⟨rfl, rfl⟩ | ⟨b, o, cap, xs, rfl, hch, hc⟩) | ⟨rfl, ad, cap, rfl⟩
 ·exact ⟨[], .inl ⟨rfl, rfl, none, 0, rfl⟩, rfl, rfl⟩
 ·exact ⟨xs, .inr ⟨b, o, cap, rfl, qe.length (fun _ _ _ hh => qn.length e hh) hch, hc⟩, hch⟩
 ·exact ⟨[], .inl ⟨rfl, rfl, ad, cap, rfl⟩, rfl, rfl⟩
theorem qdB {t e : TypeId} {τ : Ty} (hu : P.underlying t = some (.slice e)) (he : qR P e τ) (ty : TypeId) {v : Value} {n : Nat} {xs : List Value} (hown : w.ownsRow 0 e τ.size v n xs)
  {m : Nat} {news : List Value} {x : Value} (hx : RawEl w τ.size x m news) (h1 : ∀ u ∈ news, u.oneCell' = true) (hlen : n + m ≤ 274877906944) :
  ∃ v' w', (Builtin.append_ #[t, t] ty #[v, x]).run P w = .ok v' w' ∧ w'.ownsRow 0 e τ.size v' (n + m) (xs ++ news) ∧ w'.ownsRow 0 e τ.size v n xs ∧ w.grownBy w' v.ownBlock ∧
   (v'.ownBlock = v.ownBlock ∨ ∃ g, v'.ownBlock = some g ∧ w.heap.size ≤ g ∧ g < w'.heap.size) := by
 obtain ⟨i, hi, hsz, hpos, hby, hz⟩ := he.info
 have hzs : (jY τ τ.zeroCells).cells.size = τ.size := by
  rw [← Array.length_toList, qaA (by rintro x y rfl; exact he.not_pair) (Ty.zero_length τ) (Ty.zero_one τ), Ty.zero_length]
 have hnone : m = 0 → news = [] → ∀ ad cap, x = .slice ad 0 cap → ∃ v' w', (Builtin.append_ #[t, t] ty #[v, x]).run P w = .ok v' w' ∧ w'.ownsRow 0 e τ.size v' (n + m) (xs ++ news) ∧ w'.ownsRow 0 e τ.size v n xs ∧ w.grownBy w' v.ownBlock ∧
   (v'.ownBlock = v.ownBlock ∨ ∃ g, v'.ownBlock = some g ∧ w.heap.size ≤ g ∧ g < w'.heap.size) := by
  rintro rfl rfl ad cap rfl
  refine ⟨v, w, ?_, by simpa using hown, hown, ⟨rfl, rfl, rfl, Nat.le_refl _, fun _ _ _ => rfl⟩, .inl rfl⟩
  rcases hown.2 with ⟨rfl, rfl⟩ | ⟨g, cp, cur, rfl, _, hg, hnc, _⟩
  ·cases ad <;> simp [Builtin.append_, run_underlying hu, Go.sizeOf, typeInfo, hi, Builtin.lenOf, Builtin.firstCells, loadCells, loadCellsFrom]
  ·cases ad <;> simp [Builtin.append_, run_underlying hu, Go.sizeOf, typeInfo, hi, Builtin.lenOf, Builtin.firstCells, loadCells, loadCellsFrom, hnc, storeCells]
 rcases hx with ⟨hl0, hn0, ad, cap, hxe⟩ | ⟨b, o, cap, rfl, hl, hcells⟩
 ·exact hnone hl0 hn0 ad cap hxe
 ·have hl : news.length = m * i.size := by rw [hsz]; exact hl
  by_cases hm : m = 0
  ·exact hnone hm (List.eq_nil_of_length_eq_zero (by rw [hl, hm, Nat.zero_mul])) _ _ (by rw [hm])
  have hown' : w.ownsRow 0 e i.size v n xs := by rw [hsz]; exact hown
  have hlen2 : (xs ++ news).length = (n + m) * τ.size := by rw [List.length_append, hown.1, hl, Nat.add_mul, hsz]
  have hbytes : (n + m) * i.bytes ≤ 140737488355328 := by
   have := Nat.mul_le_mul hlen hby; omega
  have h63 : n + m ≤ maxLen := by unfold maxLen; omega
  have grown : ∀ old, w.drew.heap.size = w.heap.size → ∃ v', v' = Value.slice (some ⟨w.heap.size, 0, none⟩) (n + m) (grownCap w (n + m) old e) ∧
    (w.drew.alloc (.cells (xs.toArray ++ news.toArray ++ Builtin.zeroCells (jY τ τ.zeroCells).cells (grownCap w (n + m) old e - (n + m))) e)).ownsRow 0 e τ.size v' (n + m) (xs ++ news) := by
   intro old _
   have hge := grownCap_ge w (n + m) old e
   have hcm := grownCap_le_maxLen w (n + m) old e h63
   refine ⟨_, rfl, hlen2, .inr ⟨w.heap.size, _, _, rfl, Nat.zero_le _, heap_alloc_new w.drew _, hge, hcm, ?_, ?_⟩⟩
   ·simp only [Array.size_append, List.size_toArray, size_zeroCells, hzs, hown.1, hl, hsz, ← Nat.add_mul]
    congr 1
    omega
   ·simp only [Array.toList_append, List.append_assoc]
    rw [← List.append_assoc, ← hlen2]
    exact List.take_left
  rcases hown.2 with ⟨rfl, rfl⟩ | ⟨g, cp, cur, rfl, _, hg, hnc, hcm, hcs, htake⟩
  ·have hxs : xs = [] := List.eq_nil_of_length_eq_zero (by simpa using hown.1)
   subst hxs
   have hr := run_append_nil (P := P) w t ty e i _ hu hi hz ⟨b, o, none⟩ m cap news hl hcells (by omega) (by omega) (by simp only [Nat.zero_add] at hbytes; omega)
   obtain ⟨v', rfl, hgr⟩ := grown 0 rfl
   simp only [Nat.zero_add, List.nil_append, Array.empty_append] at hgr ⊢
   refine ⟨_, _, hr, hgr, World.ownsRow_nil _ _ _ _, ⟨rfl, rfl, rfl, by simp, fun k hk _ => heap_alloc_old w.drew _ hk⟩, .inr ⟨w.heap.size, rfl, Nat.le_refl _, by simp⟩⟩
  ·by_cases hroom : n + m ≤ cp
   ·have hfit : n * i.size + news.length ≤ cur.size := by rw [hl, hcs, hsz, ← Nat.add_mul]; exact Nat.mul_le_mul_right _ hroom
    have hr := run_append_room (P := P) w t ty e i hu hi g n cp cur hg ⟨b, o, none⟩ m cap news hl hcells h1 hroom hfit
    rw [hsz] at hr hfit
    have htk : (cur.toList.take (n * τ.size)).length = n * τ.size := by rw [htake, hown.1]
    refine ⟨_, _, hr, ⟨hlen2, .inr ⟨g, cp, _, rfl, Nat.zero_le _, setRow_heap w g cur _ e _ hg, hroom, hcm, ?_, ?_⟩⟩, ⟨hown.1, .inr ⟨g, cp, _, rfl, Nat.zero_le _, setRow_heap w g cur _ e _ hg, hnc, hcm, ?_, ?_⟩⟩,
     ⟨rfl, rfl, rfl, by simp, fun k _ hk => setRow_other w g k _ (fun e => hk (by simp [Value.ownBlock, e]))⟩, .inl rfl⟩
    ·simp only [List.size_toArray, List.length_append, List.length_take, List.length_drop, Array.length_toList]
     omega
    ·rw [htake, ← hlen2]
     exact List.take_left
    ·simp only [List.size_toArray, List.length_append, List.length_take, List.length_drop, Array.length_toList]
     omega
    ·show List.take (n * τ.size) (cur.toList.take (n * τ.size) ++ news ++ _) = xs
     rw [List.append_assoc, List.take_append_of_le_length (by rw [htk]; exact Nat.le_refl _), List.take_take, Nat.min_self, htake]
   ·have holds : ∀ j u, xs[j]? = some u → w.cell? ((⟨g, 0, none⟩ : Addr).add j) = some u := hown.cells (g := g) rfl
    have hr := run_append_grow (P := P) w t ty e i _ hu hi hz ⟨g, 0, none⟩ n cp xs (by rw [hsz]; exact hown.1) holds ⟨b, o, none⟩ m cap news hl hcells (by omega) (by omega) (growslice_fits (by omega) hbytes)
    obtain ⟨v', rfl, hgr⟩ := grown cp rfl
    refine ⟨_, _, hr, hgr, ?_, ⟨rfl, rfl, rfl, by simp, fun k hk _ => heap_alloc_old w.drew _ hk⟩, .inr ⟨w.heap.size, rfl, Nat.le_refl _, by simp⟩⟩
    exact (hown.alloc (w := w) _ : (w.alloc _).ownsRow _ _ _ _ _ _)
theorem qgL {t e : TypeId} {τ : Ty} (hu : P.underlying t = some (.slice e)) (he : qR P e τ) (ty : TypeId) {v : Value} {n : Nat} {xs : List Value} (hown : w.ownsRow 0 e τ.size v n xs)
  {l : List τ.den} {x : Value} (hx : qfb P w H τ l x ∨ (l = [] ∧ ∃ ad cap, x = .slice ad 0 cap)) (hlen : n + l.length ≤ 274877906944) :
  ∃ v' w' news, (Builtin.append_ #[t, t] ty #[v, x]).run P w = .ok v' w' ∧ qe (qn P τ w H) l news [] ∧ w'.ownsRow 0 e τ.size v' (n + l.length) (xs ++ news) ∧ w'.ownsRow 0 e τ.size v n xs ∧ w.grownBy w' v.ownBlock ∧
   (v'.ownBlock = v.ownBlock ∨ ∃ g, v'.ownBlock = some g ∧ w.heap.size ≤ g ∧ g < w'.heap.size) := by
 obtain ⟨news, h1, h2⟩ := qfb.raw hx
 obtain ⟨v', w', k1, k2⟩ := qdB hu he ty hown h1 (qfb.one h2) hlen
 exact ⟨v', w', news, k1, h2, k2⟩
end
end Go.Vi
namespace Go.Vi
section
variable {P : Program} {C : Ctx} {cfg : jM} {R : Type} {r : R} {s : St} {a : Act} {w : World} {H : FH} {Φ : Nat → qC} {dst : Option Nat} {ty : TypeId} {pos : String} {after : Array Edge} {guard : Option (Nat × Bool)} {k : St → Option R}
theorem qb8 {t tid : TypeId} {e : Ty} (hu : P.underlying t = some (.slice tid)) (he : qR P tid e) (ad : Option Addr) (n cap : Nat) (lo hi : Option Int) (i j : Nat) (hi0 : lo.getD 0 = i) (hj0 : hi.getD n = j) (hij : i ≤ j) (hjc : j ≤ cap) (w : World) (k1 k2 : IntKind) :
  (Instr.sliceAt t (.slice ad n cap) (lo.map (.int k1)) (hi.map (.int k2)) none).run P w = .ok (.slice (if cap = i then ad else ad.map (·.add (i * e.size))) (j - i) (cap - i)) w := by
 cases lo with
 | none =>
  simp only [Option.getD_none] at hi0
  obtain rfl : i = 0 := by omega
  cases hi with
  | none =>
   simp only [Option.getD_none] at hj0
   obtain rfl : n = j := by omega
   simp [Instr.sliceAt, run_underlying hu, Instr.slice, Instr.sliceBounds, he.sizeOf]
  | some h =>
   simp only [Option.getD_some] at hj0
   subst hj0
   simp [Instr.sliceAt, run_underlying hu, Instr.slice, Instr.sliceBounds, Instr.sliceBound, asIntOf, he.sizeOf, hjc]
 | some l =>
  simp only [Option.getD_some] at hi0
  subst hi0
  cases hi with
  | none =>
   simp only [Option.getD_none] at hj0
   obtain rfl : n = j := by omega
   simp [Instr.sliceAt, run_underlying hu, Instr.slice, Instr.sliceBounds, Instr.sliceBound, asIntOf, he.sizeOf, hij]
  | some h =>
   simp only [Option.getD_some] at hj0
   subst hj0
   simp [Instr.sliceAt, run_underlying hu, Instr.slice, Instr.sliceBounds, Instr.sliceBound, asIntOf, he.sizeOf, hjc, hij]
theorem qhP {c : Array Value} {o n p q : Nat} (hn : q ≤ n) : ((seg c o n).take q).drop p = seg c (o + p) (q - p) := by
 unfold seg
 rw [List.take_take, Nat.min_eq_left hn, List.drop_take, List.drop_drop]
theorem qn.slice {tid : TypeId} {e : Ty} {l : List e.den} {ad : Option Addr} {cap : Nat} (hr : qn P (.list false tid e) w H l [.slice ad l.length cap] []) {i j : Nat} (hij : i ≤ j) (hj : j ≤ l.length) :
  qn P (.list false tid e) w H ((l.take j).drop i) [.slice (if cap = i then ad else ad.map (·.add (i * e.size))) (j - i) (cap - i)] [] := by
 obtain ⟨_, ad', cap', he, hc, hl⟩ := hr
 simp only [List.cons.injEq, Value.slice.injEq, and_true, true_and] at he
 obtain ⟨rfl, rfl⟩ := he
 have hlen : ((l.take j).drop i).length = j - i := by simp [Nat.min_eq_left hj]
 refine ⟨rfl, _, _, by rw [hlen], by rw [hlen]; omega, ?_⟩
 by_cases hz : j = i
 ·left
  exact List.length_eq_zero_iff.1 (by rw [hlen]; omega)
 ·right
  rcases hl with rfl | ⟨b, o, blk, rfl, hH, hch⟩
  ·simp at hj; omega
  ·have hci : ¬ cap = i := by omega
   refine ⟨b, o + i * e.size, blk, ?_, hH, ?_⟩
   ·rw [if_neg hci]; simp [Addr.add_none]
   ·obtain ⟨f1, h1, g1, e1⟩ := qe.take (n := e.size) (fun _ _ _ hh => qn.length e hh) hch j
    obtain ⟨rfl, rfl⟩ := List.append_eq_nil_iff.1 e1.symm
    obtain ⟨f2, h2, g2, e2⟩ := qe.drop (n := e.size) (fun _ _ _ hh => qn.length e hh) h1 i
    obtain ⟨rfl, rfl⟩ := List.append_eq_nil_iff.1 e2.symm
    rw [qhP (Nat.mul_le_mul_right _ hj)] at h2
    rw [hlen, Nat.sub_mul]
    exact h2
theorem qiG {blk : Array Value} {off : Nat} {v : Value} (h : (seg blk off 1).headD undef = v) (hv : v ≠ undef) : blk[off]? = some v := by
 unfold seg at h
 cases hq : blk.toList.drop off with
 | nil => rw [hq] at h; exact absurd h.symm hv
 | cons u r =>
  have h2 : (blk.toList.drop off)[0]? = some u := by rw [hq]; rfl
  rw [List.getElem?_drop, Nat.add_zero, Array.getElem?_toList] at h2
  rw [hq] at h
  rw [h2, ← h]; rfl
theorem qaw {R : Type} {a b : Int} {k : Option R} {r : R} (h : jG a b k = some r) : a ≤ b ∧ k = some r := by
 unfold jG at h
 split at h
 ·exact ⟨‹_›, h⟩
 ·cases h
theorem qil (hs : qk P C s a w H Φ) {x : Option Operand} {n : Option Int} (h : qez s x = some n) : ∃ k : IntKind, x.map a.eval = n.map (Value.int k) := by
 unfold qez at h
 split at h
 ·cases h; exact ⟨.i64, rfl⟩
 ·rename_i x
  split at h
  ·rename_i m hm
   cases h
   obtain ⟨av, h1, h2⟩ := Option.bind_eq_some_iff.1 hm
   obtain ⟨k, hk⟩ := qdE h2 (qo hs qD h1)
   exact ⟨k, by simp [hk]⟩
  ·cases h
theorem qlG (hcfg : qA P cfg) (hC : qG C cfg) {T : TypeId} {x : Operand} {lo hi mx : Option Operand} (hs : qk P C s a w H Φ) (hd : qQ cfg.nt dst = true) (h : qgl cfg s dst T x lo hi mx k = some r) :
  ∃ s', k s' = some r ∧ qak P C ⟨dst, .slice T x lo hi mx, ty, pos, after, guard⟩ a w s' := by
 unfold qgl at h
 split at h
 case h_2 => cases h
 rename_i av lo' hi' he hlo hhi
 have hr := qo hs qD he
 obtain ⟨k1, hk1⟩ := qil hs hlo
 obtain ⟨k2, hk2⟩ := qil hs hhi
 split at h
 ·rename_i m e l
  unfold qiu at h
  split at h
  case h_2 => cases h
  rename_i tid _ hsite
  cases hT : decide (lk cfg.ty T = some (.arr m e)) with
  | false => rw [hT] at h; cases h
  | true =>
  rw [hT, cond_true] at h
  obtain ⟨hty, hfz⟩ := hcfg.ty T _ (of_decide_eq_true hT)
  obtain ⟨u, hu, he⟩ := hty.arr
  obtain ⟨hf, b, o, blk, hv, hb, hl, hch⟩ := hr
  refine ⟨_, h, qq hs hC hd (v := .slice (some ⟨b, o, none⟩) m m) ⟨hf, [.slice (some ⟨b, o, none⟩) m m], rfl, ?_⟩ (fun w' _ => ?_)⟩
  ·refine ⟨rfl, some ⟨b, o, none⟩, m, ?_, Nat.le_of_eq hl, .inr ⟨b, o, blk, rfl, hb, ?_⟩⟩
   ·rw [show List.length l = m from hl]
   ·rw [show List.length l = m from hl]; exact hch
  ·simp [execOp, hv, Instr.sliceAt, run_underlying hu, Instr.sliceBounds, Instr.sureAddr, he.sizeOf, hk1, hk2]
   cases m <;> simp [Addr.add]
 rename_i hnot
 clear hnot
 unfold qj8 at h
 split at h
 ·rename_i own tid e l
  cases hT : !own && decide (lk cfg.ty T = some (.list false tid e)) with
  | false => rw [hT] at h; cases h
  | true =>
   rw [hT, cond_true] at h
   rw [Bool.and_eq_true, Bool.not_eq_true'] at hT
   obtain ⟨rfl, hT⟩ := hT
   obtain ⟨hty, hfz⟩ := hcfg.ty T _ (of_decide_eq_true hT)
   obtain ⟨hf, cs, hv, hrep⟩ := hr
   have hrep' := hrep
   obtain ⟨_, ad, cap, rfl, hcap, _⟩ := hrep
   have hv' : a.eval x = .slice ad (List.length l) cap := by rw [hv]; rfl
   have fin : ∀ (i j : Nat) (l' : List e.den), lo'.getD 0 = i → hi'.getD (List.length l) = j → i ≤ j → j ≤ List.length l → l' = (List.take j l).drop i → k (s.setDst dst (.val (.list false tid e) l')) = some r →
     ∃ s', k s' = some r ∧ qak P C ⟨dst, .slice T x lo hi none, ty, pos, after, guard⟩ a w s' := by
    rintro i j l' hi0 hj0 hij hj rfl hk
    refine ⟨_, hk, qq hs hC hd (v := .slice (if cap = i then ad else ad.map (·.add (i * e.size))) (j - i) (cap - i)) ⟨hf, _, rfl, qn.slice hrep' hij hj⟩ (fun w' _ => ?_)⟩
    have := qb8 hty.list.1 hty.list.2 ad (List.length l) cap lo' hi' i j hi0 hj0 hij (Nat.le_trans hj hcap) w' k1 k2
    simp [execOp, hv', hk1, hk2, this]
   match lo', hi', h with
   | none, none, h => exact fin 0 (List.length l) l rfl rfl (Nat.zero_le _) (Nat.le_refl _) (by simp) h
   | some i, none, h =>
    obtain ⟨h0, h⟩ := qaw h
    obtain ⟨h1, h⟩ := qaw h
    exact fin i.toNat (List.length l) _ (by simp; omega) rfl (by omega) (Nat.le_refl _) (by simp) h
   | none, some j, h =>
    obtain ⟨h0, h⟩ := qaw h
    obtain ⟨h1, h⟩ := qaw h
    exact fin 0 j.toNat _ rfl (by simp; omega) (Nat.zero_le _) (by omega) (by simp) h
   | some i, some j, h =>
    obtain ⟨h0, h⟩ := qaw h
    obtain ⟨h1, h⟩ := qaw h
    obtain ⟨h2, h⟩ := qaw h
    exact fin i.toNat j.toNat _ (by simp; omega) (by simp; omega) (by omega) (by omega) rfl h
 ·rename_i id p
  split at h
  case h_2 => cases h
  rename_i o ho
  rw [jJ] at h
  obtain ⟨y, hy, h⟩ := Option.bind_eq_some_iff.1 h
  obtain ⟨σ, y⟩ := y
  simp only at h
  split at h
  case h_2 => cases h
  rename_i own tid e l
  cases hT : own && e.isFz && decide (lk cfg.ty T = some (.list false tid e)) with
  | false => rw [hT] at h; cases h
  | true =>
   rw [hT, cond_true] at h
   rw [Bool.and_eq_true, Bool.and_eq_true] at hT
   obtain ⟨⟨rfl, hef⟩, hT⟩ := hT
   obtain ⟨hty, _⟩ := hcfg.ty T _ (of_decide_eq_true hT)
   have hok := (hs.os id o ho).1
   have hnf := qaj _ hok.1 hy
   match lo', hi', h with
   | none, some j, h =>
    obtain ⟨h0, h⟩ := qaw h
    obtain ⟨h1, h⟩ := qaw h
    obtain ⟨cs, fp, hv, hrep, hsub, _⟩ := qa5 hr ho hok hy
    replace hrep : qn P (.list true tid e) w H l cs fp := hrep
    replace hv : a.eval x = jY (.list true tid e) cs := hv
    obtain ⟨hdr, xs, fp', rfl, rfl, hown, hch⟩ := hrep
    have hf0 := qe.fp_nil (fun _ _ _ hh => qn.fz_fp e hef hh) hch
    subst hf0
    have hv' : a.eval x = hdr := by rw [hv]; rfl
    have hcut : ∃ ad cap, hdr = .slice ad (List.length l) cap ∧ List.length l ≤ cap ∧ w.ownsRow 0 tid e.size (.slice ad j.toNat cap) j.toNat (xs.take (j.toNat * e.size)) ∧ (Value.slice ad j.toNat cap).ownBlock = hdr.ownBlock := by
     have hlx : (xs.take (j.toNat * e.size)).length = j.toNat * e.size := by
      rw [List.length_take, hown.1]
      exact Nat.min_eq_left (Nat.mul_le_mul_right _ (by omega))
     rcases hown.2 with ⟨rfl, hz⟩ | ⟨g, cap, cur, rfl, hb, hg, hnc, hcm, hcs, htake⟩
     ·have hj0 : j.toNat = 0 := by omega
      refine ⟨none, 0, by rw [hz], by omega, ⟨hlx, .inl ⟨by rw [hj0], hj0⟩⟩, rfl⟩
     ·refine ⟨_, cap, rfl, hnc, ⟨hlx, .inr ⟨g, cap, cur, rfl, hb, hg, by omega, hcm, hcs, ?_⟩⟩, rfl⟩
      rw [← htake, List.take_take, Nat.min_eq_left (Nat.mul_le_mul_right _ (by omega))]
    obtain ⟨ad, cap, rfl, hlc, hcut, hblk⟩ := hcut
    obtain ⟨f1, hch', g1, e1⟩ := qe.take (n := e.size) (fun _ _ _ hh => qn.length e hh) hch j.toNat
    obtain ⟨rfl, rfl⟩ := List.append_eq_nil_iff.1 e1.symm
    have hll : (List.take j.toNat l).length = j.toNat := by rw [List.length_take]; omega
    have hru : qg P C w H Φ s.obj (.upd id p tid e (List.take j.toNat l)) (.slice ad j.toNat cap) := by
     refine ⟨o, ho, by simpa [Ty.noFn] using hnf, jQ _ hy, (Value.slice ad j.toNat cap).ownBlock.toList, by cases (Value.slice ad j.toNat cap).ownBlock <;> simp, ⟨_, _, [], rfl, by simp, by rw [hll]; exact hcut, hch'⟩, ?_⟩
     intro b hb
     rw [hblk] at hb
     refine ⟨((hs.os id o ho).2 b (hsub b (by simp at hb ⊢; exact hb))).2.2, .inr ?_⟩
     obtain ⟨o', y', q1, q2, q3⟩ := hr
     rw [ho] at q1
     cases q1
     unfold qbY
     cases hrp : o.row && p.isEmpty with
     | true => exact hsub b (by simp at hb ⊢; exact hb)
     | false =>
      rw [hrp] at q3
      rw [hy] at q2
      cases q2
      obtain ⟨b2, off, blk, t, q4, q5, q6⟩ := q3
      have q7 : jY (.list true tid e) (seg blk off 1) = .slice ad (List.length l) cap := by rw [← hv']; exact q6.symm
      have hc9 := qiG q7 (by simp [undef])
      have hsg : seg blk off (Ty.list true tid e).size = [.slice ad (List.length l) cap] := by
       show seg blk off 1 = _
       unfold seg
       rw [List.take_one, List.head?_drop, Array.getElem?_toList, hc9]
       rfl
      exact ⟨⟨.list true tid e, l⟩, b2, off, blk, t, (Value.slice ad (List.length l) cap).ownBlock.toList, hy, q4, q5, by rw [hsg]; exact ⟨_, _, [], rfl, by simp, hown, hch⟩, by simpa using hb⟩
    refine ⟨_, h, qq hs hC hd hru (fun w' _ => ?_)⟩
    have := qb8 hty.list.1 hty.list.2 ad (List.length l) cap none (some j) 0 j.toNat rfl (by simp; omega) (Nat.zero_le _) (by omega) w' k1 k2
    simp only [Nat.zero_mul, Nat.sub_zero, Option.map_none, Option.map_some] at this
    have hadd : (if cap = 0 then ad else Option.map (fun x => x.add 0) ad) = ad := by
     split
     ·rfl
     ·cases ad <;> rfl
    rw [hadd] at this
    simp [execOp, hv', hk1, hk2, this]
   | none, none, h => cases h
   | some i, none, h =>
    replace h : jG 0 i (jG i (List.length l) (k (s.setDst dst (.cut id p e.size i)))) = some r := h
    obtain ⟨h0, hq1⟩ := qaw h
    obtain ⟨h1, hq2⟩ := qaw hq1
    obtain ⟨cs, fp, hv, hrep, _, _⟩ := qa5 hr ho hok hy
    replace hrep : qn P (.list true tid e) w H l cs fp := hrep
    replace hv : a.eval x = jY (.list true tid e) cs := hv
    obtain ⟨hdr, xs, fp', rfl, rfl, hown, _⟩ := hrep
    have hv' : a.eval x = hdr := by rw [hv]; rfl
    have hhd : ∃ ad cap, hdr = .slice ad (List.length l) cap ∧ List.length l ≤ cap := by
     rcases hown.2 with ⟨rfl, hz⟩ | ⟨g, cap, cur, rfl, _, _, hnc, _⟩
     ·exact ⟨none, 0, by rw [hz], by omega⟩
     ·exact ⟨_, cap, rfl, hnc⟩
    obtain ⟨ad, cap, rfl, hlc⟩ := hhd
    have hru : qg P C w H Φ s.obj (.cut id p e.size i) (.slice (if cap = i.toNat then ad else ad.map (·.add (i.toNat * e.size))) (List.length l - i.toNat) (cap - i.toNat)) :=
     ⟨_, hr, ad, List.length l, cap, hv', h0, by omega, rfl⟩
    refine ⟨_, hq2, qq hs hC hd hru (fun w' _ => ?_)⟩
    have := qb8 hty.list.1 hty.list.2 ad (List.length l) cap (some i) none i.toNat (List.length l) (by simp; omega) rfl (by omega) (by omega) w' k1 k2
    simp only [Option.map_none, Option.map_some] at this
    simp [execOp, hv', hk1, hk2, this]
   | some _, some _, h => cases h
 ·cases h
theorem op_slice (hcfg : qA P cfg) (hC : qG C cfg) {T : TypeId} {x : Operand} {lo hi mx : Option Operand} (hs : qk P C s a w H Φ) (hd : qQ cfg.nt dst = true) (h : qO cfg ⟨dst, .slice T x lo hi mx, ty, pos, after, guard⟩ s k = some r) :
  ∃ s', k s' = some r ∧ qak P C ⟨dst, .slice T x lo hi mx, ty, pos, after, guard⟩ a w s' := by
 simp only [qO] at h
 obtain ⟨H', hs'⟩ := hs.frzSite (cfg := cfg) dst x
 exact qlG hcfg hC hs' hd h
end
end Go.Vi
namespace Go.Vi
section
variable {P : Program} {C : Ctx} {cfg : jM} {R : Type} {r : R} {s : St} {a : Act} {w : World} {H : FH} {Φ : Nat → qC} {dst : Option Nat} {ty : TypeId} {pos : String} {after : Array Edge} {guard : Option (Nat × Bool)} {k : St → Option R}
theorem qbt (w : World) (o : Go.Obj) : j7 jP w (w.alloc o) := ⟨rfl, rfl, rfl, by simp, fun k hk _ => heap_alloc_old w o hk⟩
theorem qad {o : Oper} {a : Act} {w w' : World} {v : Value} {s' : St} (hrun : (execOp a.eval o).run P w = .ok (.value v) w') (h : Sim P C s' (a.put o.dst v) w') : qa4 P C o a w s' := by
 unfold qa4; rw [hrun]; exact h
theorem qbI {v : Value} {T : TypeId} : (newVar T v).run P w = .ok ⟨w.heap.size, 0, none⟩ (w.alloc (.cells v.cells T)) := by
 simp [newVar, newRow]
theorem qk.newVar (hs : qk P C s a w H Φ) (hcfg : qA P cfg) (hC : qG C cfg) {d : Nat} (hd : d < cfg.nt) {T : TypeId} {τ : Ty} {x : τ.den} {cs : List Value} {arr : Array Value} (hn : τ.noFn = true) (harr : arr.toList = cs) (hrep : qn P τ w H x cs []) :
  ∃ Φ', qk P C ((s.newObj d false τ x).set d (.ptr d [])) (a.put (some d) (.pointer (some ⟨w.heap.size, 0, none⟩))) (w.alloc (.cells arr T)) H Φ' := by
 have hm := qbt w (.cells arr T)
 have hd2 : d < 4000000 := by have := hcfg.small; omega
 have hh : (w.alloc (.cells arr T)).heap[w.heap.size]? = some (.cells arr T (0, 0)) := heap_alloc_new w _
 have hnone : H w.heap.size = none := by
  cases hq : H w.heap.size with
  | none => rfl
  | some c => obtain ⟨t, f, h⟩ := hs.hok _ _ hq; exact absurd (Array.getElem?_eq_some_iff.1 h).1 (by omega)
 have h1 := hs.newObj hm (hC.pin d (Nat.lt_trans hd2 (by decide))) (qa2 hd2) (row := false) (τ := τ) (x := x) (φ := ⟨w.heap.size, .nilFunc, [w.heap.size]⟩)
  ⟨hn, by simp, arr, T, [], hh, by rw [harr]; exact qn.mono τ (FH.le_refl _) (by simp) hrep, rfl⟩ (by
   intro b hb
   simp only [List.mem_singleton] at hb
   subst hb
   refine ⟨hnone, .inr hs.mod.size, by simp, fun j o' _ hj hb => ?_⟩
   have := ((hs.os j o' hj).2 _ hb).2.2
   omega)
 refine ⟨_, h1.set (by rw [hC.nt]; exact hd) ⟨⟨false, τ, x⟩, ⟨τ, x⟩, w.heap.size, 0, ?_, rfl, qN _ _, ?_, rfl⟩⟩
 ·rw [St.newObj, St.obj_setObj, if_pos rfl]
 ·rw [qr]
  exact jV _ _ _ _
theorem op_alloc (hcfg : qA P cfg) (hC : qG C cfg) {T : TypeId} (hs : qk P C s a w H Φ) (hd : qQ cfg.nt dst = true) (h : qO cfg ⟨dst, .alloc T, ty, pos, after, guard⟩ s k = some r) :
  ∃ s', k s' = some r ∧ qa4 P C ⟨dst, .alloc T, ty, pos, after, guard⟩ a w s' := by
 simp only [qO] at h
 split at h
 case h_2 => cases h
 rename_i d τ hst
 have hty : qR P T τ := by
  unfold siteTy at hst
  simp only at hst
  split at hst
  ·rename_i σ _
   cases hq : decide (some σ.fz = lk cfg.ty T) with
   | false => rw [hq] at hst; cases hst
   | true =>
    rw [hq, cond_true] at hst
    cases hst
    exact qR.unfz (hcfg.ty T _ (of_decide_eq_true hq).symm).1
  ·exact (hcfg.ty T _ hst).1
 cases hn : τ.noFn with
 | false => rw [hn] at h; cases h
 | true =>
  rw [hn, cond_true] at h
  have hcells : (jY τ τ.zeroCells).cells.toList = τ.zeroCells := qaA (by rintro x y rfl; exact hty.not_pair) (Ty.zero_length τ) (Ty.zero_one τ)
  obtain ⟨Φ', h1⟩ := hs.newVar hcfg hC (Eq.mp Nat.blt_eq hd) (T := T) hn hcells (qn.zero τ hn)
  refine ⟨_, h, qad (w' := w.alloc (.cells (jY τ τ.zeroCells).cells T)) (v := .pointer (some ⟨w.heap.size, 0, none⟩)) ?_ ⟨H, Φ', h1⟩⟩
  simp [execOp, Instr.alloc, hty.zeroValue, qbI]
theorem qk0 {av : AV} {v : Value} (hr : qg P C w H Φ s.obj av v) {τ : Ty} (hfz : τ.isFz = true) {f : τ.den → Option R} (hav : (∃ σ x, av = .val σ x) ∨ ∃ σ x, av = .ref σ x) (h : qbz s av τ f = some r) :
  ∃ x, f x = some r ∧ ∃ cs, v = jY τ cs ∧ qn P τ w H x cs [] := by
 rcases hav with ⟨σ, x, rfl⟩ | ⟨σ, x, rfl⟩
 ·simp only [qbz, ql] at h
  replace h := Option.bind_eq_some_iff.1 h
  obtain ⟨y, hy, h⟩ := h
  obtain ⟨e, hy⟩ := qj hy
  subst e
  subst hy
  obtain ⟨_, cs, hv, hrep⟩ := hr
  exact ⟨_, h, cs, hv, hrep⟩
 ·simp only [qbz, ql] at h
  replace h := Option.bind_eq_some_iff.1 h
  obtain ⟨y, hy, h⟩ := h
  obtain ⟨e, hy⟩ := qj hy
  subst e
  subst hy
  obtain ⟨_, b, o, blk, hv, hH, hrep⟩ := hr
  exact ⟨_, h, [v], rfl, rfl, b, o, blk, by rw [hv], hH, hrep⟩
theorem qk.newFrozen (hs : qk P C s a w H Φ) (hC : qG C cfg) {d : Nat} (hd : d < cfg.nt) {T : TypeId} {τ : Ty} {x : τ.den} {cs : List Value} {arr : Array Value} (hfz : τ.isFz = true) (harr : arr.toList = cs) (hrep : qn P τ w H x cs []) :
  ∃ H', qk P C (s.set d (.ref τ x)) (a.put (some d) (.pointer (some ⟨w.heap.size, 0, none⟩))) (w.alloc (.cells arr T)) H' Φ := by
 have hm := qbt w (.cells arr T)
 have hnone : H w.heap.size = none := by
  cases hq : H w.heap.size with
  | none => rfl
  | some c => obtain ⟨t, f, h⟩ := hs.hok _ _ hq; exact absurd (Array.getElem?_eq_some_iff.1 h).1 (by omega)
 obtain ⟨H', hH'⟩ : ∃ H' : FH, H' = fun b => if b = w.heap.size then some arr else H b := ⟨_, rfl⟩
 have hold : ∀ b, b ≠ w.heap.size → H' b = H b := fun b hb => by rw [hH']; simp only [if_neg hb]
 have hnew : H' w.heap.size = some arr := by rw [hH']; exact if_pos rfl
 have hle : H.le H' := fun b c hb => by
  rw [hold b (by rintro rfl; rw [hnone] at hb; cases hb)]
  exact hb
 have hw : ∀ b, b < w.heap.size → (w.alloc (.cells arr T)).heap[b]? = w.heap[b]? := fun b hb => heap_alloc_old w _ hb
 refine ⟨H', qk.set (C := C) ⟨hs.defers, hs.size, FH.le_trans hs.le hle, ?_, ?_, hs.mod.trans (hm.mono (fun _ hb => hb.elim)), ?_, ?_, hs.disj, hs.pins⟩ (by rw [hC.nt]; exact hd) ⟨hfz, w.heap.size, 0, arr, rfl, hnew, ?_⟩⟩
 ·intro b c hb
  by_cases e : b = w.heap.size
  ·subst e
   rw [hnew] at hb
   cases hb
   exact ⟨T, (0, 0), heap_alloc_new w _⟩
  ·rw [hold b e] at hb
   obtain ⟨t, f, h⟩ := hs.hok b c hb
   exact ⟨t, f, (hw b (Array.getElem?_eq_some_iff.1 h).1).trans h⟩
 ·intro b c hb
  by_cases e : b = w.heap.size
  ·subst e; exact .inr (.inr hs.mod.size)
  ·rw [hold b e] at hb; exact hs.hnew b c hb
 ·intro t av ht
  exact qg.grow hle (fun id o ho => ⟨(hs.os id o ho).1, fun b hb => ((hs.os id o ho).2 b hb).2.2⟩) hw hm.size (fun b hb => by rw [hold b (by have := hb.lt; omega)]; exact hb.fz) (hs.ts t av ht)
 ·intro id o ho
  obtain ⟨h1, h2⟩ := hs.os id o ho
  exact ⟨h1.frame hle (fun b hb => hw b (h2 b hb).2.2), fun b hb => ⟨by rw [hold b (by have := (h2 b hb).2.2; omega)]; exact (h2 b hb).1, (h2 b hb).2.1, Nat.lt_of_lt_of_le (h2 b hb).2.2 hm.size⟩⟩
 ·have : seg arr 0 τ.size = cs := by
   have hl := qn.length τ hrep
   rw [qcM, harr, ← hl, List.take_length]
  rw [this]
  exact qn.mono τ hle (by simp) hrep
theorem op_box (hcfg : qA P cfg) (hC : qG C cfg) {T : TypeId} {x : Operand} (hs : qk P C s a w H Φ) (hd : qQ cfg.nt dst = true) (h : qO cfg ⟨dst, .box T x, ty, pos, after, guard⟩ s k = some r) :
  ∃ s', k s' = some r ∧ qa4 P C ⟨dst, .box T x, ty, pos, after, guard⟩ a w s' := by
 simp only [qO] at h
 split at h
 case h_2 => cases h
 rename_i d av τ he hT
 have hr := qo hs (hcfg.fz T) he
 obtain ⟨hty, hfz⟩ := hcfg.ty T τ hT
 have hdl : d < cfg.nt := Eq.mp Nat.blt_eq hd
 cases hn : (!τ.noFn || (lk cfg.site d).isSome) with
 | true =>
  rw [hn, cond_true] at h
  split at h
  case h_3 => cases h
  case h_2 =>
   rename_i σ y
   rw [ql] at h
   replace h := Option.bind_eq_some_iff.1 h
   obtain ⟨x0, hx, h⟩ := h
   obtain ⟨e1, hx⟩ := qj hx
   subst e1
   subst hx
   obtain ⟨_, b2, o2, blk, hv, hH, hrep0⟩ := hr
   have hrep : qn P (.ptr σ) w H (some y) [.pointer (some ⟨b2, o2, none⟩)] [] := ⟨rfl, b2, o2, blk, rfl, hH, hrep0⟩
   obtain ⟨H', h1⟩ := hs.newFrozen hC hdl (T := T) (arr := (Value.pointer (some ⟨b2, o2, none⟩)).cells) hfz rfl hrep
   refine ⟨_, h, qad (w' := w.alloc (.cells (Value.pointer (some ⟨b2, o2, none⟩)).cells T)) (v := .pointer (some ⟨w.heap.size, 0, none⟩)) ?_ ⟨H', Φ, h1⟩⟩
   simp [execOp, Instr.box, qbI, hv]
  rename_i σ y
  rw [ql] at h
  replace h := Option.bind_eq_some_iff.1 h
  obtain ⟨x0, hx, h⟩ := h
  obtain ⟨e1, hx⟩ := qj hx
  subst e1
  subst hx
  obtain ⟨_, cs, hv, hrep⟩ := hr
  have hcells : (jY σ cs).cells.toList = cs := qaA (by rintro x y rfl; exact hty.not_pair) (qn.length σ hrep) (qn.one σ hrep)
  obtain ⟨H', h1⟩ := hs.newFrozen hC hdl (T := T) hfz hcells hrep
  refine ⟨_, h, qad (w' := w.alloc (.cells (jY σ cs).cells T)) (v := .pointer (some ⟨w.heap.size, 0, none⟩)) ?_ ⟨H', Φ, h1⟩⟩
  simp [execOp, Instr.box, qbI, hv]
 | false =>
 rw [hn, cond_false] at h
 replace hn : τ.noFn = true := by cases hq : τ.noFn with
  | true => rfl
  | false => rw [hq] at hn; cases hn
 split at h
 ·rename_i id
  split at h
  case h_2 => cases h
  rename_i ob ho
  cases hq : ob.row && decide (ob.τ.fz = τ) with
  | false => rw [hq] at h; cases h
  | true =>
   rw [hq, cond_true] at h
   rw [Bool.and_eq_true] at hq
   obtain ⟨hrow, hτ⟩ := hq
   have hτ := of_decide_eq_true hτ
   subst hτ
   obtain ⟨h1, h2⟩ := hs.os id ob ho
   obtain ⟨o', y', q1, q2, q3⟩ := hr
   rw [ho] at q1
   cases q1
   rw [hrow] at q3
   simp only [List.isEmpty_nil, Bool.and_self] at q3
   obtain ⟨hn2, hnd, h3⟩ := h1
   rw [hrow] at h3
   obtain ⟨_, cs, hcs, h3⟩ := h3
   have hcells : (jY ob.τ cs).cells.toList = cs := qaA (by rintro x y e; rw [e] at hty; exact hty.not_pair) (qn.length _ h3) (qn.one _ h3)
   rw [← hcs] at hcells
   have hrm := hs.remove id
   have hm := qbt w (.cells (Φ id).hdr.cells T)
   have hh : (w.alloc (.cells (Φ id).hdr.cells T)).heap[w.heap.size]? = some (.cells (Φ id).hdr.cells T (0, 0)) := heap_alloc_new w _
   have hnone : H w.heap.size = none := by
    cases hq : H w.heap.size with
    | none => rfl
    | some c => obtain ⟨t, f, h⟩ := hs.hok _ _ hq; exact absurd (Array.getElem?_eq_some_iff.1 h).1 (by omega)
   have hd2 : d < 4000000 := Nat.lt_of_lt_of_le hdl (Nat.le_trans hcfg.small (by decide))
   have hob : ∀ j o, ((s.kill id).setObj id none).obj j = some o → s.obj j = some o ∧ j ≠ id := by
    intro j o hj
    rw [St.obj_setObj] at hj
    split at hj
    ·cases hj
    ·rename_i hne; exact ⟨hj, fun e => hne e.symm⟩
   have hn1 := hrm.newObj hm (hC.pin d (Nat.lt_trans hd2 (by decide))) (qa2 hd2) (row := false) (τ := ob.τ) (x := ob.x) (φ := ⟨w.heap.size, .nilFunc, w.heap.size :: (Φ id).fp⟩)
    ⟨hn2, by
     rw [List.nodup_cons]
     exact ⟨fun hb => by have := (h2 _ hb).2.2; omega, hnd⟩, (Φ id).hdr.cells, T, (Φ id).fp, hh, by rw [hcells]; exact qn.mono _ (FH.le_refl _) (fun b hb => heap_alloc_old w _ (h2 b hb).2.2) h3, rfl⟩ (by
     intro b hb
     rcases List.mem_cons.1 hb with rfl | hb
     ·refine ⟨hnone, .inr hs.mod.size, by simp, fun j o' _ hj hb => ?_⟩
      have := ((hs.os j o' (hob j o' hj).1).2 _ hb).2.2
      omega
     ·obtain ⟨p1, p2, p3⟩ := h2 b hb
      exact ⟨p1, p2, by simp; omega, fun j o' _ hj => hs.disj id j ob o' (fun e => (hob j o' hj).2 e.symm) ho (hob j o' hj).1 b hb⟩)
   have ho5 : (((s.kill id).setObj id none).newObj d false ob.τ ob.x).obj d = some ⟨false, ob.τ, ob.x⟩ := by rw [St.newObj, St.obj_setObj, if_pos rfl]
   have hn2 := hn1.set (d := d) (av := .ptr d []) (v := .pointer (some ⟨w.heap.size, 0, none⟩)) (by rw [hC.nt]; exact hdl) ⟨⟨false, ob.τ, ob.x⟩, ⟨ob.τ, ob.x⟩, w.heap.size, 0, ho5, rfl, qN _ _, by
    rw [qr]
    exact jV _ _ _ _, rfl⟩
   refine ⟨_, h, qad (w' := w.alloc (.cells (Φ id).hdr.cells T)) (v := .pointer (some ⟨w.heap.size, 0, none⟩)) ?_ ⟨H, qax Φ d ⟨w.heap.size, .nilFunc, w.heap.size :: (Φ id).fp⟩, ?_⟩⟩
   ·simp [execOp, Instr.box, qbI, q3]
   unfold St.ghMove
   split
   case h_2 => exact hn2
   rename_i n j hg
   cases hj : Nat.beq j id with
   | false => exact hn2
   | true =>
    obtain rfl := Nat.eq_of_beq_eq_true hj
    refine hn2.setAV ?_
    obtain ⟨u, hu, o2, y2, e1, _, e3⟩ := hs.ts ghId _ hg
    rw [ho] at e1
    cases e1
    rw [hrow] at e3
    simp only [List.isEmpty_nil, Bool.and_self] at e3
    refine ⟨u, hu, ⟨false, ob.τ, ob.x⟩, ⟨ob.τ, ob.x⟩, ho5, qN _ _, ?_⟩
    simp only [Bool.false_and]
    refine ⟨w.heap.size, 0, (Φ j).hdr.cells, T, ?_, hh, ?_⟩
    ·rw [qr]
     exact jV _ _ _ _
    ·rw [e3]
     have : seg (Φ j).hdr.cells 0 ob.τ.size = cs := by
      rw [qcM, hcells, List.take_of_length_le (by rw [qn.length _ h3]; exact Nat.le_refl _)]
     rw [this]
     exact hcs
 ·rename_i hnv
  have key : ((∃ σ x, av = .val σ x) ∨ ∃ σ x, av = .ref σ x) ∧ ∃ x0 : τ.den, k ((s.newObj d false τ x0).set d (.ptr d [])) = some r ∧ ∃ cs, a.eval x = jY τ cs ∧ qn P τ w H x0 cs [] := by
   cases av with
   | val σ y =>
    obtain ⟨x0, h, hx⟩ := qk0 hr hfz (.inl ⟨_, _, rfl⟩) h
    exact ⟨.inl ⟨_, _, rfl⟩, x0, h, hx⟩
   | ref σ y =>
    obtain ⟨x0, h, hx⟩ := qk0 hr hfz (.inr ⟨_, _, rfl⟩) h
    exact ⟨.inr ⟨_, _, rfl⟩, x0, h, hx⟩
   | view id p =>
    exfalso
    simp only [qbz] at h
    split at h
    ·rw [jJ] at h
     obtain ⟨y, _, h⟩ := Option.bind_eq_some_iff.1 h
     rw [ql] at h
     obtain ⟨y, _, h⟩ := Option.bind_eq_some_iff.1 h
     cases h
    ·cases h
   | upd id p tid e l =>
    cases h
   | ptr id p =>
    exfalso
    simp only [qbz] at h
    split at h
    ·rename_i o _
     cases hr : o.row with
     | true => rw [hr] at h; cases h
     | false =>
      rw [hr, cond_false] at h
      split at h
      ·rw [ql] at h
       obtain ⟨y, _, h⟩ := Option.bind_eq_some_iff.1 h
       cases h
      ·cases h
    ·cases h
   | _ => cases h
  obtain ⟨_, x0, h, cs, hv, hrep⟩ := key
  have hcells : (jY τ cs).cells.toList = cs := qaA (by rintro x y rfl; exact hty.not_pair) (qn.length τ hrep) (qn.one τ hrep)
  obtain ⟨Φ', h1⟩ := hs.newVar hcfg hC hdl (T := T) hn hcells hrep
  refine ⟨_, h, qad (w' := w.alloc (.cells (jY τ cs).cells T)) (v := .pointer (some ⟨w.heap.size, 0, none⟩)) ?_ ⟨H, Φ', h1⟩⟩
  simp [execOp, Instr.box, qbI, hv]
end
end Go.Vi
namespace Go.Vi
section
variable {P : Program} {C : Ctx} {cfg : jM} {R : Type} {r : R} {s : St} {a : Act} {w : World} {H : FH} {Φ : Nat → qC} {dst : Option Nat} {ty : TypeId} {pos : String} {after : Array Edge} {guard : Option (Nat × Bool)} {k : St → Option R}
theorem qd0 (z : Array Value) (hz : 0 < z.size) : ∀ c, (madeCells z (c * z.size)).toList = (List.replicate c z.toList).flatten
 | 0 => by simp [madeCells]
 | c + 1 => by
  have ih := qd0 z hz c
  simp only [madeCells, Array.toList_map, Array.toList_range] at ih ⊢
  rw [Nat.add_mul, Nat.one_mul, List.range_add, List.map_append, ih, List.replicate_succ', List.flatten_append]
  congr 1
  rw [List.map_map]
  simp only [List.flatten_cons, List.flatten_nil, List.append_nil]
  apply List.ext_getElem?
  intro i
  by_cases hi : i < z.size
  ·have hm : (c * z.size + i) % z.size = i := by rw [Nat.mul_comm, Nat.mul_add_mod]; exact Nat.mod_eq_of_lt hi
   simp [hm, hi]
  ·simp [Nat.not_lt.1 hi]
theorem qA.low (hcfg : qA P cfg) {d : Nat} (hd : d < cfg.nt) : d < 4000000 := Nat.lt_of_lt_of_le hd (Nat.le_trans hcfg.small (by decide))
theorem qlM (hcfg : qA P cfg) {d : Nat} (hd : d < cfg.nt) {v : Value} (hv : IsNN v) : qg6 cfg d < 10000000 ∧ cls (qg6 cfg d) v := by
 have h1 : d < 3000000 := Nat.lt_of_lt_of_le hd (Nat.le_trans hcfg.small (by decide))
 unfold qg6
 cases qap (1000000 + d) cfg.enum with
 | true => exact ⟨by rw [cond_true]; omega, qhz (nn := true) h1 hv⟩
 | false => exact ⟨by rw [cond_false]; omega, qa2 (by rw [cond_false]; omega)⟩
theorem qk.newRow (hs : qk P C s a w H Φ) (_hcfg : qA P cfg) (hC : qG C cfg) {d id : Nat} (hd : d < cfg.nt) (hid : id < 10000000) {tid : TypeId} {e : Ty} {l : List e.den} {v : Value} {w' : World} {xs : List Value} (hcl : cls id v) (hn : e.noFn = true) (hm : j7 jP w w')
  (hown : w'.ownsRow 0 tid e.size v l.length xs) (hch : qe (qn P e w' H) l xs []) (hnew : ∀ b, v.ownBlock = some b → w.heap.size ≤ b ∧ b < w'.heap.size) :
  ∃ Φ', qk P C ((s.newObj id true (.list true tid e) l).set d (.view id [])) (a.put (some d) v) w' H Φ' := by
 have h1 := hs.newObj hm (hC.pin id hid) (φ := ⟨0, v, v.ownBlock.toList⟩) hcl (row := true) (τ := .list true tid e) (x := l)
  ⟨by simpa [Ty.noFn] using hn, by cases v.ownBlock <;> simp, rfl, [v], rfl, v, xs, [], rfl, by simp, hown, hch⟩ (by
   intro b hb
   have hb' : v.ownBlock = some b := by simpa using hb
   obtain ⟨h2, h3⟩ := hnew b hb'
   refine ⟨?_, .inr (Nat.le_trans hs.mod.size h2), h3, fun j o' _ hj hb => ?_⟩
   ·cases hq : H b with
    | none => rfl
    | some c => obtain ⟨t, f, h⟩ := hs.hok _ _ hq; exact absurd (Array.getElem?_eq_some_iff.1 h).1 (by omega)
   ·have := ((hs.os j o' hj).2 _ hb).2.2
    omega)
 refine ⟨_, h1.set (by rw [hC.nt]; exact hd) ⟨⟨true, .list true tid e, l⟩, ⟨.list true tid e, l⟩, ?_, qN _ _, ?_⟩⟩
 ·rw [St.newObj, St.obj_setObj, if_pos rfl]
 ·simp only [List.isEmpty_nil, Bool.and_self, qr]
theorem qcT {R : Type} {n : Int} {k : Option R} {r : R} (h : qB n k = some r) : 0 ≤ n ∧ n ≤ 274877906944 ∧ k = some r := by
 rw [qlf] at h
 split at h
 ·exact ⟨by omega, by omega, h⟩
 ·cases h
theorem qiM (hcfg : qA P cfg) (hC : qG C cfg) {T : TypeId} {x y : Operand} (hs : qk P C s a w H Φ) (hd : qQ cfg.nt dst = true) (h : qO cfg ⟨dst, .makeSlice T x y, ty, pos, after, guard⟩ s k = some r) :
  ∃ s', k s' = some r ∧ qa4 P C ⟨dst, .makeSlice T x y, ty, pos, after, guard⟩ a w s' := by
 simp only [qO] at h
 split at h
 case h_2 => cases h
 rename_i d tid e l c hl hc hst
 obtain ⟨av, hl1, hl2⟩ := Option.bind_eq_some_iff.1 hl
 obtain ⟨bv, hc1, hc2⟩ := Option.bind_eq_some_iff.1 hc
 obtain ⟨k1, hv1⟩ := qdE hl2 (qo hs qD hl1)
 obtain ⟨k2, hv2⟩ := qdE hc2 (qo hs qD hc1)
 cases hq : e.noFn && decide (lk cfg.ty T = some (.list false tid e.fz)) with
 | false => rw [hq] at h; cases h
 | true =>
  rw [hq, cond_true] at h
  rw [Bool.and_eq_true] at hq
  obtain ⟨hn, hT⟩ := hq
  obtain ⟨hty, _⟩ := hcfg.ty T _ (of_decide_eq_true hT)
  obtain ⟨hu, he⟩ := hty.list
  have he := qR.unfz he
  obtain ⟨h0, h⟩ := qaw h
  obtain ⟨h1, h⟩ := qaw h
  obtain ⟨h2, h3, h⟩ := qcT h
  obtain ⟨i, hi, hsz, hpos, hby, hz⟩ := he.info
  have hzc : (jY e e.zeroCells).cells.toList = e.zeroCells := qaA (by rintro x y rfl; exact he.not_pair) (Ty.zero_length e) (Ty.zero_one e)
  have hzs : (jY e e.zeroCells).cells.size = e.size := by rw [← Array.length_toList, hzc, Ty.zero_length]
  have hb : (i.bytes : Int) * c ≤ 281474976710656 := by
   have h4 : i.bytes * c.toNat ≤ 512 * 274877906944 := Nat.mul_le_mul hby (by omega)
   have h5 : ((i.bytes * c.toNat : Nat) : Int) = (i.bytes : Int) * c := by rw [Int.natCast_mul, Int.toNat_of_nonneg (by omega)]
   omega
  have hrun := run_make (P := P) w T tid i _ hu hi hz k1 k2 l c h0 h1 hb (by omega)
  have hm := qbt w (.cells (madeCells (jY e e.zeroCells).cells (c.toNat * i.size)) tid)
  have hml : (madeCells (jY e e.zeroCells).cells (c.toNat * i.size)).toList = (List.replicate c.toNat e.zeroCells).flatten := by
   have := qd0 (jY e e.zeroCells).cells (by omega) c.toNat
   rw [hzs, hzc] at this
   rw [hsz]; exact this
  have hlz : (List.replicate l.toNat e.zeroCells).flatten.length = l.toNat * e.size := by simp [Ty.zero_length]
  have hsplit : (List.replicate c.toNat e.zeroCells).flatten = (List.replicate l.toNat e.zeroCells).flatten ++ (List.replicate (c.toNat - l.toNat) e.zeroCells).flatten := by
   rw [← List.flatten_append, List.replicate_append_replicate]; congr 2; omega
  have hmk := qlM hcfg (d := d) (Eq.mp Nat.blt_eq hd) (v := .slice (some ⟨w.heap.size, 0, none⟩) l.toNat c.toNat) ⟨_, _, _, rfl⟩
  obtain ⟨Φ', h4⟩ := hs.newRow (w' := w.alloc (.cells (madeCells (jY e e.zeroCells).cells (c.toNat * i.size)) tid)) (tid := tid) (e := e) (l := List.replicate l.toNat e.zero) (v := .slice (some ⟨w.heap.size, 0, none⟩) l.toNat c.toNat) (xs := (List.replicate l.toNat e.zeroCells).flatten) hcfg hC (Eq.mp Nat.blt_eq hd) hmk.1 hmk.2 hn hm
   ⟨by rw [List.length_replicate, hlz], .inr ⟨w.heap.size, c.toNat, _, by rw [List.length_replicate], Nat.zero_le _, heap_alloc_new w _, by rw [List.length_replicate]; omega, by unfold maxLen; omega, by rw [size_madeCells, hsz], by rw [List.length_replicate, hml, hsplit, ← hlz, List.take_left]⟩⟩
   (qe.replicate (qn.zero e hn) l.toNat) (by intro b hb; simp only [Value.ownBlock, Option.some.injEq] at hb; subst hb; exact ⟨Nat.le_refl _, by simp⟩)
  refine ⟨_, h, qad (w' := w.alloc (.cells (madeCells (jY e e.zeroCells).cells (c.toNat * i.size)) tid)) (v := .slice (some ⟨w.heap.size, 0, none⟩) l.toNat c.toNat) ?_ ⟨H, Φ', h4⟩⟩
  simp [execOp, hv1, hv2, hrun]
theorem qbj {own : Bool} {tid : TypeId} {σ e : Ty} {y : σ.den} {l : List e.den} (h : qy σ (.list own tid e) y = some l) : σ = .list own tid e ∧ HEq y l := by
 obtain ⟨e1, h2⟩ := qj h
 subst e1
 exact ⟨rfl, by rw [h2]⟩
theorem qf6 (_hcfg : qA P cfg) (hC : qG C cfg) (hs : qk P C s a w H Φ) (hd : qQ cfg.nt dst = true) {id : Nat} {p : List qs} {o : Obj} (ho : s.obj id = some o) {T tid : TypeId} {e : Ty} (hu : P.underlying T = some (.slice tid)) (he : qR P tid e) (hn : e.noFn = true) {l : List e.den} (hy : qT o.τ o.x p = some ⟨.list true tid e, l⟩)
  {v : Value} (hr : qg P C w H Φ s.obj (.view id p) v) {x2 : Value} {m : Nat} {news : List Value} (hx : RawEl w e.size x2 m news) {l2 : List e.den} (hm : l2.length = m) {fpn : List Nat} (hch2 : qe (qn P e w H) l2 news fpn) (hfpn : fpn.Nodup) (hfree : ∀ b ∈ fpn, qao C w H Φ s.obj b) (hlen : l.length + m ≤ 274877906944) :
  ∃ v' w', (Builtin.append_ #[T, T] ty #[v, x2]).run P w = .ok v' w' ∧ qk P C ((s.killIf (AV.staleV id o.row p)).setDst dst (.upd id p tid e (l ++ l2))) (a.put dst v') w' H Φ := by
 have hok := (hs.os id o ho).1
 have hob := (hs.os id o ho).2
 obtain ⟨cs, fp, hv, hrep, hsub, hndp⟩ := qa5 hr ho hok hy
 replace hrep : qn P (.list true tid e) w H l cs fp := hrep
 replace hv : v = jY (.list true tid e) cs := hv
 obtain ⟨hdr, xs, fp', rfl, rfl, hown, hch⟩ := hrep
 replace hv : v = hdr := hv
 subst hv
 obtain ⟨v', w', hrun, hown2, hown1, hg, hblk⟩ := qdB hu he ty hown hx (qe.all (fun _ _ _ hh => qn.one e hh) hch2) hlen
 have hgb : ∀ b, v.ownBlock = some b → b ∈ (Φ id).fp := fun b hb => hsub b (by rw [hb]; simp)
 have hin : ∀ b ∈ fp', b ∈ (Φ id).fp := fun b hb => hsub b (by simp [hb])
 have hne : ∀ b ∈ fp', some b ≠ v.ownBlock := by
  intro b hb hh
  rw [← hh] at hndp
  simp only [Option.toList_some, List.singleton_append, List.nodup_cons] at hndp
  exact hndp.1 hb
 have hsameI : ∀ b ∈ fp', w'.heap[b]? = w.heap[b]? := fun b hb => hg.block b (hob b (hin b hb)).2.2 (hne b hb)
 have hsameN : ∀ b ∈ fpn, w'.heap[b]? = w.heap[b]? := fun b hb => hg.block b (hfree b hb).lt (fun hh => (hfree b hb).obj id o ho (hgb b hh.symm))
 have hchI : qe (qn P e w' H) l xs fp' := qe.mono_fp (Q := fun b => w'.heap[b]? = w.heap[b]?) (fun _ _ _ hf hh => qn.mono e (FH.le_refl _) hf hh) hsameI hch
 have hchN : qe (qn P e w' H) l2 news fpn := qe.mono_fp (Q := fun b => w'.heap[b]? = w.heap[b]?) (fun _ _ _ hf hh => qn.mono e (FH.le_refl _) hf hh) hsameN hch2
 have hrep1 : qn P (.list true tid e) w' H l [v] (v.ownBlock.toList ++ fp') := ⟨v, xs, fp', rfl, rfl, hown1, hchI⟩
 have hobj : qP P w' H ⟨o.row, o.τ, o.x⟩ (Φ id) ∧ (∀ b ∈ v.ownBlock.toList ++ fp', qbY P w' H o (Φ id) p b) ∧ ((o.row && p.isEmpty) = true ∨ ∃ b1 o1, j1 w o (Φ id) p b1 o1 ∧ Chg P w w' H b1 o1 ⟨.list true tid e, l⟩ ∧ w'.heap[b1]? = w.heap[b1]?) := by
  cases hrp : o.row && p.isEmpty with
  | true =>
   have hrp0 := hrp
   simp only [Bool.and_eq_true, List.isEmpty_iff] at hrp
   obtain ⟨hrow, rfl⟩ := hrp
   rw [qN] at hy
   obtain ⟨q1, q2, q3⟩ := hok
   obtain ⟨row, τ, ox⟩ := o
   simp only at hrow
   subst hrow
   simp only [Option.some.injEq, Sigma.mk.injEq] at hy
   obtain ⟨rfl, hxl⟩ := hy
   simp only [heq_eq_eq] at hxl
   subst hxl
   have hrl := qP.row_list ⟨q1, q2, q3⟩
   obtain ⟨o', y', p1, p2, p3⟩ := hr
   rw [ho] at p1
   cases p1
   have hh : v = (Φ id).hdr := p3
   rw [← hh] at hrl
   have hfp := qn.fp_det _ hrl ⟨v, xs, fp', rfl, rfl, hown, hch⟩
   refine ⟨qP.of_list q1 q2 ?_, fun b hb => ?_, .inl rfl⟩
   ·rw [hfp, ← hh]
    exact hrep1
   ·unfold qbY
    rw [hrp0]
    show b ∈ (Φ id).fp
    rw [hfp]
    exact hb
  | false =>
   have hloc0 : ∃ w0 b off, j1 w0 o (Φ id) p b off := by
    obtain ⟨ob2, y', p1, p2, p3⟩ := hr
    rw [ho] at p1
    cases p1
    rw [hrp] at p3
    obtain ⟨b, off, _, _, k, _⟩ := p3
    exact ⟨w, b, off, k⟩
   obtain ⟨b', o', blk', t', pre', c, post', f1, f, f2, e1, e2, e3, e4, e5, e6, hl', e7⟩ := hok.desc2 (σ := .list true tid e) (y := (l : (Ty.list true tid e).den)) hy hloc0 hrp
   have hcc : c = [v] ∧ f = v.ownBlock.toList ++ fp' := by
    obtain ⟨ob2, y', p1, p2, p3⟩ := hr
    rw [ho] at p1
    cases p1
    rw [hrp] at p3
    rw [hy] at p2
    cases p2
    obtain ⟨b2, off, blk, t, q4, q5, q6⟩ := p3
    obtain ⟨rfl, rfl⟩ := j1.det q4 (hl' w (fun _ _ => rfl))
    rw [e1] at q5
    cases q5
    have hlc := qn.length _ e6
    have hc1 : c = [v] := by
     match c, hlc with
     | [u], _ =>
      have : v = u := by
       rw [q6, ← e3]
       exact congrArg (jY (.list true tid e)) (qV (n := 1) e2 rfl)
      rw [this]
    subst hc1
    exact ⟨rfl, qn.fp_det _ e6 ⟨v, xs, fp', rfl, rfl, hown, hch⟩⟩
   obtain ⟨rfl, rfl⟩ := hcc
   have hnd := hok.2.1
   rw [e4] at hnd
   have hbk : ∀ k, (k ∈ f1 ∨ k ∈ f2) → some k ≠ v.ownBlock ∧ k < w.heap.size := by
    intro k hk
    refine ⟨fun hh => ?_, (hob k (by rw [e4]; rcases hk with h | h <;> simp [h])).2.2⟩
    rw [← hh] at hnd
    simp only [Option.toList_some, List.nodup_append, List.mem_append, List.mem_singleton] at hnd
    rcases hk with hk | hk
    ·exact hnd.1.2.2 k hk k (.inl rfl) rfl
    ·exact hnd.2.2 k (.inr (.inl rfl)) k hk rfl
   have hsame : ∀ k, (k ∈ f1 ∨ k ∈ f2) → w'.heap[k]? = w.heap[k]? := fun k hk => hg.block k (hbk k hk).2 (hbk k hk).1
   have := e7 w' [v] (v.ownBlock.toList ++ fp') (.list true tid e) l o.x hrep1 (qbH _ hy) (by rw [hsame b' (.inl e5), e1, ← e2]) (fun k hk _ => hsame k (List.mem_append.1 hk)) hnd
   rw [← e4] at this
   have hchg : Chg P w w' H b' o' ⟨.list true tid e, l⟩ := by
    refine ⟨[v], v.ownBlock.toList ++ fp', e6, fun i hi => ?_, fun k hk _ hkf => hg.block k hk (fun e => hkf (by rw [← e]; simp)), fun i _ => World.cell?_of_block (a := ⟨b', i, none⟩) (hsame b' (.inl e5))⟩
    have hi : i < 1 := hi
    obtain rfl : i = 0 := by omega
    rw [qz e1, ← Array.getElem?_toList, e2, ← e3]
    simp
   refine ⟨this, ?_, .inr ⟨b', o', hl' w (fun _ _ => rfl), hchg, hsame b' (.inl e5)⟩⟩
   intro b hb
   unfold qbY
   rw [hrp]
   refine ⟨⟨.list true tid e, l⟩, b', o', blk', t', v.ownBlock.toList ++ fp', hy, hl' w' (fun k hk => hsame k (.inl hk)), (hsame b' (.inl e5)).trans e1, ?_, hb⟩
   have hsg : seg blk' o' (Ty.list true tid e).size = [v] := by rw [← e3]; exact qV e2 rfl
   simp only [hsg]
   exact hrep1
 obtain ⟨hobj, hhd, hroot⟩ := hobj
 have hother : ∀ j o', j ≠ id → s.obj j = some o' → ∀ b ∈ (Φ j).fp, w'.heap[b]? = w.heap[b]? ∧ H b = none := by
  intro j o' hj hoj b hb
  refine ⟨hg.block b ((hs.os j o' hoj).2 b hb).2.2 (fun hh => ?_), ((hs.os j o' hoj).2 b hb).1⟩
  exact hs.disj id j o o' (fun e => hj e.symm) ho hoj b (hgb b hh.symm) hb
 have hmw : j7 (fun k => some k = v.ownBlock) w w' := ⟨hg.os, hg.tape, hg.output, hg.size, fun k hk hM => hg.block k hk hM⟩
 have hmod : j7 C.M0 C.w0 w' := hs.mod.trans_new hmw (fun k hk => (hob k (hgb k hk.symm)).2.1)
 have hhok : HOk H w' := hs.hok.mod hmw (fun b hb => (hob b (hgb b hb.symm)).1)
 have hlive : ∀ q, (o.row && q.isEmpty) = false → qaB p q = true → ∀ y, qT o.τ o.x q = some y → ∀ b off, j1 w o (Φ id) q b off → j1 w' ⟨o.row, o.τ, o.x⟩ (Φ id) q b off ∧ qaC w w' b off (off + y.1.size) := by
  intro q hq hwq y2 hy2 b2 off2 hl2
  rcases hroot with hroot | ⟨b1, o1, k1, k2, k3⟩
  ·simp only [Bool.and_eq_true, List.isEmpty_iff] at hroot
   obtain ⟨hr1, rfl⟩ := hroot
   cases q with
   | nil => rw [hr1] at hq; cases hq
   | cons a q => simp [qaB] at hwq
  ·obtain ⟨q1, q2⟩ := hok.stay ⟨rfl, rfl⟩ hwq hy hy2 k1 hl2 k2 o.x
   exact ⟨q1, q2 (.inr k3)⟩
 have hch := hs.changeF (F := AV.staleV id o.row p) ho o.x (Φ id) rfl rfl (FH.le_refl H) hhok hs.hnew hmod hg.size hother hobj (fun b hb => ⟨(hob b hb).1, (hob b hb).2.1, Nat.lt_of_lt_of_le (hob b hb).2.2 hg.size, fun j o' hj hoj hb' => hs.disj id j o o' (fun e => hj e.symm) ho hoj b hb hb'⟩)
  (fun q hf => by
   simp only [AV.staleV, Nat.beq_refl, Bool.true_and] at hf
   cases hq : q.any qs.isI with
   | false => exact .inl rfl
   | true =>
    rw [hq, Bool.true_and, Bool.not_eq_false'] at hf
    have hqe : (o.row && q.isEmpty) = false := by
     cases q with
     | nil => simp at hq
     | cons _ _ => simp
    exact .inr fun y2 hy2 => ⟨fun b off hl2 => (hlive q hqe hf y2 hy2 b off hl2).1, y2.2, hy2⟩)
  (fun _ _ _ _ _ => rfl)
  (fun q hf => by
   simp only [AV.staleV, Nat.beq_refl, Bool.true_and] at hf
   cases hrq : o.row && q.isEmpty with
   | true => exact .inl rfl
   | false =>
    right
    rw [hrq, Bool.not_false, Bool.true_and, Bool.not_eq_false'] at hf
    intro y2 b2 off2 blk2 t2 _ hy2 hl2 he2
    obtain ⟨k1, k2⟩ := hlive q hrq hf y2 hy2 b2 off2 hl2
    obtain ⟨blk3, t3, he3⟩ : ∃ blk3 t3, w'.heap[b2]? = some (.cells blk3 t3 (0, 0)) := by
     by_cases hbo : some b2 = v.ownBlock
     ·rcases hown1.2 with ⟨e0, _⟩ | ⟨g, cap, cur, e0, _, hg', _⟩
      ·rw [e0] at hbo; simp [Value.ownBlock] at hbo
      ·rw [e0] at hbo
       simp only [Value.ownBlock, Option.some.injEq] at hbo
       subst hbo
       exact ⟨_, _, hg'⟩
     ·exact ⟨_, _, (hg.block b2 (Array.getElem?_eq_some_iff.1 he2).1 hbo).trans he2⟩
    exact ⟨y2, b2, off2, _, _, rfl, hy2, k1, he3, qgG k2 he2 he3⟩)
 have hΦ : qax Φ id (Φ id) = Φ := by
  funext j
  unfold qax
  split
  ·rename_i e; rw [e]
  ·rfl
 rw [hΦ] at hch
 have hcg := hch.congr (s' := s.killIf (AV.staleV id o.row p)) rfl (by
  funext j
  rw [St.obj_setObj, St.obj_killIf]
  split
  ·rename_i e; rw [← e]; exact ho
  ·rfl)
 have hty2 := jQ _ hy
 have hnew : ∀ g, v'.ownBlock = some g → some g ≠ v.ownBlock → w.heap.size ≤ g ∧ g < w'.heap.size := by
  intro g hg1 hg2
  rcases hblk with hb2 | ⟨g2, hb2, h5, h6⟩
  ·rw [hb2] at hg1; exact absurd hg1.symm hg2
  ·rw [hb2] at hg1; cases hg1; exact ⟨h5, h6⟩
 refine ⟨v', w', hrun, hcg.setDst (by rw [hC.nt]; exact hd) ⟨o, ho, hn, hty2, v'.ownBlock.toList ++ (fp' ++ fpn), ?_, ⟨v', xs ++ news, fp' ++ fpn, rfl, rfl, by rw [List.length_append, hm]; exact hown2, qe.append hchI hchN⟩, ?_⟩⟩
 ·have hd1 : ∀ b ∈ fp', b ∉ fpn := fun b hb hb' => (hfree b hb').obj id o ho (hin b hb)
  have hd2 : ∀ g, v'.ownBlock = some g → g ∉ fp' ∧ g ∉ fpn := by
   intro g hg1
   by_cases hg2 : some g = v.ownBlock
   ·exact ⟨fun hh => hne g hh hg2, fun hh => (hfree g hh).obj id o ho (hgb g hg2.symm)⟩
   ·obtain ⟨h5, _⟩ := hnew g hg1 hg2
    exact ⟨fun hh => by have := (hob g (hin g hh)).2.2; omega, fun hh => by have := (hfree g hh).lt; omega⟩
  have hnd1 : fp'.Nodup := (List.nodup_append.1 hndp).2.1
  have hnd2 : (fp' ++ fpn).Nodup := List.nodup_append.2 ⟨hnd1, hfpn, fun b hb _ hb' e => hd1 b hb (e ▸ hb')⟩
  cases hvb : v'.ownBlock with
  | none => simpa using hnd2
  | some g =>
   simp only [Option.toList_some, List.singleton_append, List.nodup_cons, List.mem_append]
   exact ⟨fun hh => hh.elim (hd2 g hvb).1 (hd2 g hvb).2, hnd2⟩
 ·intro b hb
  simp only [List.mem_append, Option.mem_toList] at hb
  rcases hb with hb | hb | hb
  ·by_cases hg2 : some b = v.ownBlock
   ·exact ⟨Nat.lt_of_lt_of_le (hob b (hgb b hg2.symm)).2.2 hg.size, .inr (hhd b (by rw [← hg2]; simp))⟩
   ·obtain ⟨h5, h6⟩ := hnew b hb hg2
    refine ⟨h6, .inl ⟨?_, fun j o' hj hbj => ?_, .inr (Nat.le_trans hs.mod.size h5), h6⟩⟩
    ·cases hq : H b with
     | none => rfl
     | some c => obtain ⟨t, f, hh⟩ := hs.hok _ _ hq; exact absurd (Array.getElem?_eq_some_iff.1 hh).1 (by omega)
    ·have := ((hs.os j o' hj).2 _ hbj).2.2
     omega
  ·exact ⟨Nat.lt_of_lt_of_le (hob b (hin b hb)).2.2 hg.size, .inr (hhd b (by simp [hb]))⟩
  ·have hf := hfree b hb
   exact ⟨Nat.lt_of_lt_of_le hf.lt hg.size, .inl ⟨hf.fz, hf.obj, hf.may, Nat.lt_of_lt_of_le hf.lt hg.size⟩⟩
theorem qjB (hcfg : qA P cfg) (hC : qG C cfg) {x y : Operand} {T : TypeId} {av bv : AV} {tid : Nat} {t : Ty} (hs : qk P C s a w H Φ) (hd : qQ cfg.nt dst = true) (hr : qg P C w H Φ s.obj av (a.eval x)) (hr2 : qg P C w H Φ s.obj bv (a.eval y)) (h : qfL s dst (lk cfg.ty T) tid t av bv k = some r) :
  ∃ s', k s' = some r ∧ qa4 P C ⟨dst, .call ⟨.builtin .append, #[x, y], #[T, T]⟩, ty, pos, after, guard⟩ a w s' := by
 unfold qfL at h
 split at h
 case h_2 => cases h
 rename_i id p id2
 split at h
 case h_2 => cases h
 rename_i o o2 ho ho2
 cases hc : o2.row && (!Nat.beq id id2 && (t.noFn && decide (lk cfg.ty T = some (.list false tid (.ptr t.fz))))) with
 | false => rw [hc] at h; cases h
 | true =>
 rw [hc, cond_true, jJ] at h
 simp only [Bool.and_eq_true, Bool.not_eq_true', decide_eq_true_eq] at hc
 obtain ⟨c1, c2, c3, c4⟩ := hc
 have hne : id ≠ id2 := Nat.ne_of_beq_eq_false c2
 obtain ⟨⟨σ, y0⟩, hy, h⟩ := Option.bind_eq_some_iff.1 h
 simp only [ql] at h
 replace h := Option.bind_eq_some_iff.1 h
 obtain ⟨l, hl, h⟩ := h
 obtain ⟨hσ, hyl⟩ := qbj hl
 subst hσ
 obtain rfl := eq_of_heq hyl
 replace h := Option.bind_eq_some_iff.1 h
 obtain ⟨l2, hl2, h⟩ := h
 obtain ⟨h2, h3, h⟩ := qcT h
 obtain ⟨hty, hfz⟩ := hcfg.ty T _ c4
 obtain ⟨hu, he⟩ := hty.list
 have he' : qR P tid (.op t) := qR.unfz (τ := .op t) he
 obtain ⟨o2', y2, q1, q2, q3⟩ := hr2
 rw [ho2] at q1
 cases q1
 rw [c1] at q3
 simp only [List.isEmpty_nil, Bool.and_self] at q3
 obtain ⟨row2, τ2, x2⟩ := o2
 simp only at c1 hl2
 subst c1
 obtain ⟨hτ, hx2⟩ := qbj hl2
 subst hτ
 obtain rfl := eq_of_heq hx2
 have hok2 := hs.os id2 _ ho2
 have hnd2 := hok2.1.2.1
 obtain ⟨hdr, xs, fp', e1, e2, how, hch⟩ := hok2.1.row_list
 have e1 : (Φ id2).hdr = hdr := by simpa using e1
 have hv2 : a.eval y = hdr := q3.trans e1
 have hraw : RawEl w (Ty.op t).size (a.eval y) (List.length x2) xs := by
  rw [hv2]
  rcases how.2 with ⟨rfl, hz⟩ | ⟨g, cap, cur, rfl, _, hg, _, _, _, htake⟩
  ·have := how.1
   rw [hz, Nat.zero_mul] at this
   exact .inl ⟨hz, List.eq_nil_of_length_eq_zero this, none, 0, rfl⟩
  ·exact .inr ⟨g, 0, cap, rfl, how.1, how.cells (g := g) rfl⟩
 have hob : ∀ j o', ((s.kill id2).setObj id2 none).obj j = some o' → s.obj j = some o' ∧ j ≠ id2 := by
  intro j o' hj
  rw [St.obj_setObj] at hj
  split at hj
  ·cases hj
  ·rename_i hne; exact ⟨hj, fun e => hne e.symm⟩
 have hs2 := hs.remove id2
 have hho : ((s.kill id2).setObj id2 none).obj id = some o := by
  rw [St.obj_setObj, if_neg (fun e => hne e.symm)]
  exact ho
 have hrv : qg P C w H Φ ((s.kill id2).setObj id2 none).obj (.view id p) (a.eval x) :=
  qg.view_stay (fun o1 ho1 => by rw [ho] at ho1; cases ho1; exact hho) rfl (fun o1 ho1 => ⟨(hs.os id o1 ho1).1, fun _ _ => rfl⟩) hr
 rw [e2] at hnd2
 obtain ⟨v', w', hrun, hsim⟩ := qf6 (ty := ty) (e := .op t) hcfg hC hs2 hd hho hu he' c3 hy hrv hraw rfl hch (List.nodup_append.1 hnd2).2.1 (fun b hb => by
  have hb2 : b ∈ (Φ id2).fp := by rw [e2]; simp [hb]
  obtain ⟨k1, k2, k3⟩ := hok2.2 b hb2
  exact ⟨k1, fun j o' hj hbj => hs.disj id2 j _ o' (fun e => (hob j o' hj).2 e.symm) ho2 (hob j o' hj).1 b hb2 hbj, k2, k3⟩) (by omega)
 refine ⟨_, h, qad (w' := w') (v := v') ?_ ⟨H, Φ, hsim⟩⟩
 simp [execOp, resolve, invoke, builtin, hrun]
theorem qkp (hcfg : qA P cfg) (hC : qG C cfg) {c : Call} (hc : c.callee = .builtin .append) (hs : qk P C s a w H Φ) (hd : qQ cfg.nt dst = true) (h : qO cfg ⟨dst, .call c, ty, pos, after, guard⟩ s k = some r) :
  ∃ s', (qeu cfg dst k s' = some r ∨ k s' = some r) ∧ qa4 P C ⟨dst, .call c, ty, pos, after, guard⟩ a w s' := by
 simp only [qO, hc] at h
 split at h
 case h_2 => cases h
 rename_i x y T T' hxy hTT
 split at h
 case h_2 => cases h
 rename_i av bv he1 he2
 cases hq : Nat.beq T T' with
 | false => rw [hq] at h; cases h
 | true =>
 rw [hq, cond_true] at h
 obtain rfl := Nat.eq_of_beq_eq_true hq
 have hr := qo hs (hcfg.fz T) he1
 have hr2 := qo hs (hcfg.fz T) he2
 have e2 : c = ⟨.builtin .append, #[x, y], #[T, T]⟩ := by
  obtain ⟨c1, c2, c3⟩ := c
  simp only at hc hxy hTT
  rw [hc, ← Array.toArray_toList (xs := c2), hxy, ← Array.toArray_toList (xs := c3), hTT]
 subst e2
 split at h
 ·obtain ⟨s', h1, h2⟩ := qjB hcfg hC hs hd hr hr2 h
  exact ⟨s', .inr h1, h2⟩
 unfold qlq at h
 split at h
 case h_2 => cases h
 rename_i own tid e hT
 obtain ⟨hty, hfz⟩ := hcfg.ty T _ hT
 obtain ⟨hu, he⟩ := hty.list
 have hef : e.isFz = true := by simp only [Ty.isFz, Bool.and_eq_true] at hfz; exact hfz.2
 cases hn : e.noFn with
 | false => rw [hn] at h; cases h
 | true =>
 rw [hn, cond_true] at h
 split at h
 ·rename_i o2 tid2 e2 l0
  split at h
  case h_2 => cases h
  rename_i cv
  obtain ⟨hv, _⟩ := qdK (a := a) ⟨cv, rfl⟩ he1
  obtain ⟨l2, h, hel⟩ := qfD hs hr2 hef h
  obtain ⟨h2, h3, h⟩ := qcT h
  split at h
  case h_2 => cases h
  rename_i d
  obtain ⟨v', w', news, hrun, hch, hown, _, hg, hblk⟩ := qgL hu he ty (World.ownsRow_nil w 0 tid e.size) hel (by omega)
  have hm : j7 jP w w' := ⟨hg.os, hg.tape, hg.output, hg.size, fun k hk _ => hg.block k hk (by simp [Value.ownBlock])⟩
  simp only [Nat.zero_add, List.nil_append] at hown
  obtain ⟨Φ', h4⟩ := hs.newRow (l := l2) hcfg hC (Eq.mp Nat.blt_eq hd) (Nat.lt_trans (hcfg.low (Eq.mp Nat.blt_eq hd)) (by decide)) (qa2 (hcfg.low (Eq.mp Nat.blt_eq hd))) hn hm hown (qe.mono (fun _ _ _ hh => by
   have hf0 := qn.fz_fp e hef hh
   subst hf0
   exact qn.mono e (FH.le_refl _) (by simp) hh) hch) (by
   intro b hb
   rcases hblk with hb' | ⟨g, hb', h5, h6⟩
   ·rw [hb'] at hb; simp [Value.ownBlock] at hb
   ·rw [hb'] at hb; cases hb; exact ⟨h5, h6⟩)
  refine ⟨_, .inl h, qad (w' := w') (v := v') ?_ ⟨H, Φ', h4⟩⟩
  simp [execOp, resolve, invoke, builtin, hv, hrun]
 ·rename_i id p
  split at h
  case h_2 => cases h
  rename_i o ho
  rw [jJ] at h
  replace h := Option.bind_eq_some_iff.1 h
  obtain ⟨yy, hy, h⟩ := h
  obtain ⟨σ, yy⟩ := yy
  simp only [ql] at h
  replace h := Option.bind_eq_some_iff.1 h
  obtain ⟨l, hl, h⟩ := h
  obtain ⟨hσ, hyl⟩ := qbj hl
  subst hσ
  obtain rfl := eq_of_heq hyl
  obtain ⟨l2, h, hel⟩ := qfD hs hr2 hef h
  obtain ⟨h2, h3, h⟩ := qcT h
  obtain ⟨news, hraw, hch2⟩ := qfb.raw hel
  obtain ⟨v', w', hrun, hsim⟩ := qf6 (ty := ty) hcfg hC hs hd ho hu he hn hy hr hraw rfl hch2 List.nodup_nil (by simp) (by omega)
  refine ⟨_, .inl h, qad (w' := w') (v := v') ?_ ⟨H, Φ, hsim⟩⟩
  simp [execOp, resolve, invoke, builtin, hrun]
 ·cases h
theorem cutOf_ok {os : Nat → Option Obj} {av : AV} {v : Value} {id : Nat} {lo : Int} (h : cutOf av = some (id, lo)) (hr : qg P C w H Φ os av v) : ∃ v0, qkU w Φ os id [] v0 ∧ ((lo = 0 ∧ v = v0) ∨ CutV v0 1 lo v) := by
 unfold cutOf at h
 split at h
 ·cases h
  exact ⟨v, hr, .inl ⟨rfl, rfl⟩⟩
 ·rename_i z lo'
  cases hz : Nat.beq z 1 with
  | false => rw [hz] at h; cases h
  | true =>
  rw [hz, cond_true] at h
  cases h
  obtain rfl := Nat.eq_of_beq_eq_true hz
  obtain ⟨v0, h1, h2⟩ := hr
  exact ⟨v0, h1, .inr h2⟩
 ·cases h
theorem qcQ {α : Type} (l l2 : List α) {lo : Nat} (h : lo ≤ l.length) : (qbA l l2 lo).length = l.length := by
 unfold qbA
 simp only [List.length_append, List.length_take, List.length_drop]
 omega
theorem qki {α : Type} (l l2 : List α) {lo : Nat} (h : lo ≤ l.length) (h0 : min l2.length (l.length - lo) = 0) : qbA l l2 lo = l := by
 unfold qbA
 have : l2.take (l.length - lo) = [] := by
  apply List.eq_nil_of_length_eq_zero
  rw [List.length_take]
  omega
 rw [this, h0, List.append_nil, Nat.add_zero, List.take_append_drop]
theorem qe.over {α : Type} {R : α → List Value → List Nat → Prop} (hn : ∀ x c f, R x c f → c.length = 1) {l l2 : List α} {xs ys : List Value} (h1 : qe R l xs []) (h2 : qe R l2 ys []) (lo : Nat) : qe R (qbA l l2 lo) (qbA xs ys lo) [] := by
 have e1 := qe.length hn h1
 have e2 := qe.length hn h2
 rw [Nat.mul_one] at e1 e2
 obtain ⟨f1, a1, g1, b1⟩ := qe.take hn h1 lo
 obtain ⟨f2, a2, g2, b2⟩ := qe.take hn h2 (l.length - lo)
 obtain ⟨f3, a3, g3, b3⟩ := qe.drop hn h1 (lo + min l2.length (l.length - lo))
 obtain ⟨rfl, _⟩ := List.append_eq_nil_iff.1 b1.symm
 obtain ⟨rfl, _⟩ := List.append_eq_nil_iff.1 b2.symm
 obtain ⟨_, rfl⟩ := List.append_eq_nil_iff.1 b3.symm
 rw [Nat.mul_one] at a1 a2 a3
 have := qe.append (qe.append a1 a2) a3
 unfold qbA
 rw [e1, e2]
 exact this
theorem qlu {α : Type} (c ys : List α) (n lo : Nat) (hn : n ≤ c.length) (hlo : lo ≤ n) : (c.take lo ++ ys.take (n - lo) ++ c.drop (lo + min ys.length (n - lo))).take n = qbA (c.take n) ys lo := by
 unfold qbA
 have h1 : (c.take lo ++ ys.take (n - lo)).length = lo + min ys.length (n - lo) := by
  rw [List.length_append, List.length_take, List.length_take]
  omega
 rw [List.length_take, Nat.min_eq_left hn, List.take_take, Nat.min_eq_left hlo, List.drop_take, List.take_append, h1, List.take_of_length_le (by rw [h1]; omega)]
theorem op_copy (hcfg : qA P cfg) (hC : qG C cfg) {c : Call} (hc : c.callee = .builtin .copy) (hs : qk P C s a w H Φ) (hd : qQ cfg.nt dst = true) (h : qO cfg ⟨dst, .call c, ty, pos, after, guard⟩ s k = some r) :
  ∃ s', k s' = some r ∧ qa4 P C ⟨dst, .call c, ty, pos, after, guard⟩ a w s' := by
 simp only [qO, hc] at h
 split at h
 case h_2 => cases h
 rename_i x y T T' hxy hTT
 split at h
 case h_2 => cases h
 rename_i av bv he1 he2
 have hr := qo hs (hcfg.fz T) he1
 have hr2 := qo hs (hcfg.fz T') he2
 have e2 : c = ⟨.builtin .copy, #[x, y], #[T, T']⟩ := by
  obtain ⟨c1, c2, c3⟩ := c
  simp only at hc hxy hTT
  rw [hc, ← Array.toArray_toList (xs := c2), hxy, ← Array.toArray_toList (xs := c3), hTT]
 subst e2
 unfold copyK at h
 split at h
 case h_2 => cases h
 rename_i own tid e hT
 obtain ⟨hty, hfz⟩ := hcfg.ty T _ hT
 obtain ⟨hu, he⟩ := hty.list
 have hef : e.isFz = true := by simp only [Ty.isFz, Bool.and_eq_true] at hfz; exact hfz.2
 cases hfl : e.isFlat && Nat.beq e.size 1 with
 | false => rw [hfl] at h; cases h
 | true =>
 rw [hfl, cond_true] at h
 have hsz : e.size = 1 := Nat.eq_of_beq_eq_true (Bool.and_eq_true_iff.1 hfl).2
 split at h
 case h_2 => cases h
 rename_i id lo hcut
 split at h
 case h_2 => cases h
 rename_i o ho
 cases hrow : o.row with
 | false => rw [hrow] at h; cases h
 | true =>
 rw [hrow, cond_true] at h
 simp only [ql] at h
 replace h := Option.bind_eq_some_iff.1 h
 obtain ⟨l, hl, h⟩ := h
 obtain ⟨l2, h, hel⟩ := qfD hs hr2 hef h
 obtain ⟨v0, hv0, hvv⟩ := cutOf_ok hcut hr
 have hok := (hs.os id o ho).1
 have hob := (hs.os id o ho).2
 obtain ⟨row, τ, ox⟩ := o
 simp only at hrow
 subst hrow
 obtain ⟨hτ, hyl⟩ := qj hl
 simp only at hτ
 subst hτ
 simp only at hyl
 subst hyl
 have hok' := hok
 obtain ⟨q1, q2, _⟩ := hok'
 have hrep := qP.row_list hok
 obtain ⟨hdr, xs, fp', k1, k2, hown, hch⟩ := hrep
 have hf0 := qe.fp_nil (fun _ _ _ hh => qn.fz_fp e hef hh) hch
 subst hf0
 have hhd : (Φ id).hdr = hdr := by simpa using k1
 have hv0' : v0 = hdr := by
  obtain ⟨o', y', p1, _, p3⟩ := hv0
  rw [ho] at p1
  cases p1
  exact p3.trans hhd
 subst hv0'
 have hinfo : ∃ i, P.info? tid = some i ∧ i.size = 1 := by
  obtain ⟨i, hi, hs1, _⟩ := he.info
  exact ⟨i, hi, hs1.trans hsz⟩
 obtain ⟨inf, hi, hi1⟩ := hinfo
 have his : (P.info? tid).map (·.size) = some 1 := by rw [hi]; simp [hi1]
 have hone : ∀ x c f, qn P e w H x c f → c.length = 1 := fun x c f hh => (qn.length e hh).trans hsz
 have hplace : ∃ ad cap, a.eval x = .slice ad (l.length - lo.toNat) cap ∧ lo.toNat ≤ l.length ∧ (∀ g cur, (∃ n c, v0 = .slice (some ⟨g, 0, none⟩) n c) → lo.toNat < l.length → w.heap[g]? = some (.cells cur tid (0, 0)) → ad = some ⟨g, lo.toNat, none⟩) := by
  have hlen : ∃ ad cap, v0 = .slice ad l.length cap ∧ l.length ≤ cap := by
   rcases hown.2 with ⟨rfl, hz⟩ | ⟨g, cap, cur, rfl, _, _, hnc, _⟩
   ·exact ⟨none, 0, by rw [hz], by omega⟩
   ·exact ⟨_, cap, rfl, hnc⟩
  obtain ⟨ad, cap, rfl, hnc⟩ := hlen
  rcases hvv with ⟨rfl, hv⟩ | ⟨ad', n, cap', e1, h0, hn, hv⟩
  ·refine ⟨ad, cap, by rw [hv]; rfl, Nat.zero_le _, ?_⟩
   rintro g cur ⟨n, c, e1⟩ _ _
   cases e1
   rfl
  ·cases e1
   refine ⟨_, _, hv, hn, ?_⟩
   rintro g cur ⟨n, c, e1⟩ hlt _
   cases e1
   rw [if_neg (by omega)]
   simp [Addr.add_none]
 obtain ⟨ad, cap, hva, hlo, had⟩ := hplace
 have hmin : Nat.min l2.length (l.length - lo.toNat) = min l2.length (l.length - lo.toNat) := rfl
 have hsrc : ∃ ad2 cap2, a.eval y = .slice ad2 l2.length cap2 := by
  rcases hel with (⟨rfl, hv⟩ | ⟨b, o2, c2, ys, hv, _⟩) | ⟨rfl, ad2, c2, hv⟩
  ·exact ⟨none, 0, hv⟩
  ·exact ⟨_, _, hv⟩
  ·exact ⟨ad2, c2, hv⟩
 obtain ⟨ad2, cap2, hvb⟩ := hsrc
 by_cases hm0 : min l2.length (l.length - lo.toNat) = 0
 ·have hrun := run_copy_none (P := P) w T T' ty tid ad ad2 (l.length - lo.toNat) cap l2.length cap2 hu his (hmin.trans hm0)
  rw [qki l l2 hlo hm0, hm0] at h
  have hch2 := hs.change ho l (Φ id) rfl rfl (FH.le_refl H) hs.hok hs.hnew hs.mod (Nat.le_refl _) (fun j o' hj hoj b hb => ⟨rfl, ((hs.os j o' hoj).2 b hb).1⟩) hok (fun b hb => ⟨(hob b hb).1, (hob b hb).2.1, (hob b hb).2.2, fun j o' hj hoj hb' => hs.disj id j _ o' (fun e => hj e.symm) ho hoj b hb hb'⟩)
  refine ⟨_, h, qad (w' := w) (v := goInt 0) ?_ ⟨H, _, hch2.setDst (by rw [hC.nt]; exact hd) (qg.mk_int _ _ _ _ _ _)⟩⟩
  simp [execOp, resolve, invoke, builtin, hva, hvb, hrun]
 ·rcases hown.2 with ⟨_, hz⟩ | ⟨g, cap0, cur, rfl, _, hg, hnc, hcm, hcs, htake⟩
  ·exact absurd (by omega) hm0
  rcases hel with (⟨rfl, _⟩ | ⟨b2, o2, c2, ys, hv2, hys, hcells⟩) | ⟨rfl, _⟩
  ·simp at hm0
  ·rw [hv2] at hvb
   have hys1 := qe.length hone hys
   rw [Nat.mul_one] at hys1
   have hxs1 := qe.length hone hch
   rw [Nat.mul_one] at hxs1
   rw [hsz, Nat.mul_one] at hcs htake
   have hcsl : (ys.take (l.length - lo.toNat)).length = min l2.length (l.length - lo.toNat) := by rw [List.length_take, hys1]; omega
   have had' := had g cur ⟨_, _, rfl⟩ (by omega) hg
   have hrun := run_copy_row (P := P) w T T' ty tid g lo.toNat (l.length - lo.toNat) cap ⟨b2, o2, none⟩ l2.length c2 cur tid (ys.take (l.length - lo.toNat)) hu his hg (hcsl.trans hmin.symm)
    (fun j u hj => hcells j u (by
     rw [List.getElem?_take] at hj
     by_cases hjj : j < l.length - lo.toNat
     ·rwa [if_pos hjj] at hj
     ·rw [if_neg hjj] at hj
      cases hj)) (by rw [hcsl, hcs]; omega) (fun u hu => qe.all (fun _ _ _ hh => qn.one e hh) hys u (List.mem_of_mem_take hu))
   rw [hcsl] at hrun
   generalize hnew : (cur.toList.take lo.toNat ++ ys.take (l.length - lo.toNat) ++ cur.toList.drop (lo.toNat + min l2.length (l.length - lo.toNat))).toArray = new at hrun
   have hwb : (w.setRow g new).heap[g]? = some (.cells new tid (0, 0)) := setRow_heap w g cur _ tid _ hg
   have hwo : ∀ k, k ≠ g → (w.setRow g new).heap[k]? = w.heap[k]? := fun k hk => setRow_other w g k _ hk
   have hszw : (w.setRow g new).heap.size = w.heap.size := by simp [World.setRow]
   have hmw : j7 (fun k => k = g) w (w.setRow g new) := ⟨rfl, rfl, rfl, by omega, fun k _ hM => hwo k hM⟩
   have hgin : g ∈ (Φ id).fp := by rw [k2]; simp [Value.ownBlock]
   have hnl : new.size = cap0 := by
    rw [← hnew]
    simp only [List.size_toArray, List.length_append, List.length_take, List.length_drop, Array.length_toList, hys1]
    omega
   have htk : new.toList.take l.length = qbA xs ys lo.toNat := by
    rw [← hnew, ← htake, ← hys1]
    exact qlu cur.toList ys l.length lo.toNat (by have := Array.length_toList (xs := cur); omega) hlo
   have hrep2 : qn P (.list true tid e) (w.setRow g new) H (qbA l l2 lo.toNat) [(Φ id).hdr] (Φ id).fp := by
    refine ⟨_, qbA xs ys lo.toNat, [], by rw [hhd], by rw [k2], ⟨?_, .inr ⟨g, cap0, new, ?_, Nat.zero_le _, hwb, ?_, hcm, ?_, ?_⟩⟩, ?_⟩
    ·rw [qcQ _ _ (by omega), qcQ _ _ hlo, hsz]; omega
    ·rw [qcQ _ _ hlo]
    ·rw [qcQ _ _ hlo]; exact hnc
    ·rw [hnl, hsz, Nat.mul_one]
    ·rw [qcQ _ _ hlo, hsz, Nat.mul_one]; exact htk
    ·refine qe.mono (fun _ _ _ hh => ?_) (qe.over hone hch hys lo.toNat)
     have hf0 := qn.fz_fp e hef hh
     subst hf0
     exact qn.mono e (FH.le_refl _) (by simp) hh
   have hch2 := hs.change ho (qbA l l2 lo.toNat) (Φ id) rfl rfl (FH.le_refl H) (hs.hok.mod hmw (fun k hk => by rw [hk]; exact (hob g hgin).1)) hs.hnew (hs.mod.trans_new hmw (fun k hk => by rw [hk]; exact (hob g hgin).2.1)) (by omega)
    (fun j o' hj hoj b hb => ⟨hwo b (fun e => hs.disj id j _ o' (fun e => hj e.symm) ho hoj g hgin (e ▸ hb)), ((hs.os j o' hoj).2 b hb).1⟩) (qP.of_list q1 q2 hrep2)
    (fun b hb => ⟨(hob b hb).1, (hob b hb).2.1, by rw [hszw]; exact (hob b hb).2.2, fun j o' hj hoj hb' => hs.disj id j _ o' (fun e => hj e.symm) ho hoj b hb hb'⟩)
   refine ⟨_, h, qad (w' := w.setRow g new) (v := goInt (min l2.length (l.length - lo.toNat) : Nat)) ?_ ⟨H, _, hch2.setDst (by rw [hC.nt]; exact hd) (qg.mk_int _ _ _ _ _ _)⟩⟩
   simp [execOp, resolve, invoke, builtin, hva, hv2, had', hrun]
  ·simp at hm0
theorem Ty.flat_noFn : (τ : Ty) → τ.isFlat = true → τ.noFn = true
 | .int _, _ => rfl
 | .bool, _ => rfl
 | .pair a b, h => by
  simp only [Ty.isFlat, Bool.and_eq_true] at h
  simp only [Ty.noFn, Bool.and_eq_true]
  exact ⟨Ty.flat_noFn a h.1, Ty.flat_noFn b h.2⟩
 | .str t, h => Ty.flat_noFn t h
 | .arr _ e, h => Ty.flat_noFn e h
theorem qgK (w : World) (T T2 tid : TypeId) (ad : Option Addr) (cap : Nat) (hu : P.underlying T = some (.slice tid)) : (Builtin.clear_ #[T] T2 #[.slice ad 0 cap]).run P w = .ok (.tuple #[]) w := by
 cases ad <;> simp [Builtin.clear_, run_underlying hu]
theorem qhQ (w : World) (T T2 tid : TypeId) (g o n cap : Nat) (cur : Array Value) (t : TypeId) (z : Value) (cs : List Value) (hu : P.underlying T = some (.slice tid)) (hz : (zeroValue tid).run P w = .ok z w) (hcs : (Builtin.zeroCells z.cells n).toList = cs) (hn : 0 < n)
  (hg : w.heap[g]? = some (.cells cur t (0, 0))) (hfit : o + cs.length ≤ cur.size) (h1 : ∀ v ∈ cs, v.oneCell' = true) :
  (Builtin.clear_ #[T] T2 #[.slice (some ⟨g, o, none⟩) n cap]).run P w = .ok (.tuple #[]) (w.setRow g (cur.toList.take o ++ cs ++ cur.toList.drop (o + cs.length)).toArray) := by
 have hst := run_storeCells_at P g o t cs 0 cur w hg (by simpa using hfit) h1
 obtain ⟨m, rfl⟩ : ∃ m, n = m + 1 := ⟨n - 1, by omega⟩
 simp [Builtin.clear_, run_underlying hu, hz, hcs, hst]
theorem qhA {T tid ty : TypeId} {e : Ty} {v0 v : Value} {f : List Nat} {lo : Int} {l : List e.den} (hu : P.underlying T = some (.slice tid)) (he : qR P tid e) (hfl : e.isFlat = true) (hrep : qn P (.list true tid e) w H l [v0] f) (hvv : CutV v0 e.size lo v) :
  ∃ w'', (Builtin.clear_ #[T] ty #[v]).run P w = .ok (.tuple #[]) w'' ∧ j7 (· ∈ f) w w'' ∧ (∀ k, k ∈ f → ∃ c t, w''.heap[k]? = some (.cells c t (0, 0))) ∧ qn P (.list true tid e) w'' H (l.take lo.toNat ++ List.replicate (l.length - lo.toNat) e.zero) [v0] f := by
 have hn : e.noFn = true := Ty.flat_noFn e hfl
 have hef : e.isFz = true := Ty.flat_fz e hfl
 have hrep0 := hrep
 obtain ⟨hdr, xs, fp', k1, k2, hown, hch⟩ := hrep
 have hf0 := qe.fp_nil (fun _ _ _ hh => qn.fz_fp e hef hh) hch
 subst hf0
 have hv0 : v0 = hdr := by simpa using k1
 subst hv0
 obtain ⟨ad, n, cap, e1, h0, hle, hva⟩ := hvv
 have hlen : n = l.length := by
  rcases hown.2 with ⟨rfl, hz⟩ | ⟨g, cap, cur, rfl, _⟩
  ·cases e1; exact hz.symm
  ·cases e1; rfl
 subst hlen
 subst hva
 obtain ⟨_, _, _, hpos, _, _⟩ := he.info
 have hzc : (jY e e.zeroCells).cells.toList = e.zeroCells := qaA (by rintro x y rfl; exact he.not_pair) (Ty.zero_length e) (Ty.zero_one e)
 have hzs : (jY e e.zeroCells).cells.size = e.size := by rw [← Array.length_toList, hzc, Ty.zero_length]
 by_cases hm0 : l.length - lo.toNat = 0
 ·have hel : l.take lo.toNat ++ List.replicate (l.length - lo.toNat) e.zero = l := by rw [hm0, List.replicate_zero, List.append_nil, List.take_of_length_le (by omega)]
  rw [hel, hm0]
  refine ⟨w, qgK (P := P) w T ty tid (if cap = lo.toNat then ad else ad.map (·.add (lo.toNat * e.size))) (cap - lo.toNat) hu, ⟨rfl, rfl, rfl, Nat.le_refl _, fun _ _ _ => rfl⟩, fun k hk => ?_, hrep0⟩
  rw [k2] at hk
  rcases hown.2 with ⟨rfl, _⟩ | ⟨g, cap, cur, rfl, _, hg, _⟩
  ·simp [Value.ownBlock] at hk
  ·simp only [Value.ownBlock, Option.toList_some, List.append_nil, List.mem_singleton] at hk
   subst hk
   exact ⟨_, _, hg⟩
 ·rcases hown.2 with ⟨_, hz⟩ | ⟨g, cap0, cur, rfl, _, hg, hnc, hcm, hcs, htake⟩
  ·exact absurd (by omega) hm0
  cases e1
  have hxs1 := qe.length (fun _ _ _ hh => qn.length e hh) hch
  have hmc : (Builtin.zeroCells (jY e e.zeroCells).cells (l.length - lo.toNat)).toList = (List.replicate (l.length - lo.toNat) e.zeroCells).flatten := by
   have := qd0 (jY e e.zeroCells).cells (by omega) (l.length - lo.toNat)
   rw [hzc] at this
   exact this
  have hcl : (List.replicate (l.length - lo.toNat) e.zeroCells).flatten.length = (l.length - lo.toNat) * e.size := by simp [Ty.zero_length]
  have hcap : ¬ cap = lo.toNat := by omega
  have hsum : lo.toNat * e.size + (l.length - lo.toNat) * e.size = l.length * e.size := by rw [← Nat.add_mul]; congr 1; omega
  have hcapm : l.length * e.size ≤ cap * e.size := Nat.mul_le_mul_right _ hnc
  rw [if_neg hcap]
  have hrun := qhQ (P := P) w T ty tid g (lo.toNat * e.size) (l.length - lo.toNat) (cap - lo.toNat) cur tid _ _ hu (he.zeroValue w) hmc (by omega) hg (by rw [hcl, hcs]; omega) (by
   intro v hv
   obtain ⟨c, hc1, hc2⟩ := List.mem_flatten.1 hv
   rw [List.eq_of_mem_replicate hc1] at hc2
   exact Ty.zero_one e v hc2)
  rw [hcl] at hrun
  generalize hnew : (cur.toList.take (lo.toNat * e.size) ++ (List.replicate (l.length - lo.toNat) e.zeroCells).flatten ++ cur.toList.drop (lo.toNat * e.size + (l.length - lo.toNat) * e.size)).toArray = new at hrun
  have hwb : (w.setRow g new).heap[g]? = some (.cells new tid (0, 0)) := setRow_heap w g cur _ tid _ hg
  have hwo : ∀ k, k ≠ g → (w.setRow g new).heap[k]? = w.heap[k]? := fun k hk => setRow_other w g k _ hk
  have hszw : (w.setRow g new).heap.size = w.heap.size := by simp [World.setRow]
  have hgin : g ∈ f := by rw [k2]; simp [Value.ownBlock]
  have hmw : j7 (· ∈ f) w (w.setRow g new) := ⟨rfl, rfl, rfl, by omega, fun k _ hM => hwo k (fun e => hM (e ▸ hgin))⟩
  have hlc : cur.toList.length = cap * e.size := by rw [Array.length_toList, hcs]
  have hnl : new.size = cap * e.size := by
   rw [← hnew]
   simp only [List.size_toArray, List.length_append, List.length_take, List.length_drop, hcl, hlc]
   omega
  have hxt : cur.toList.take (lo.toNat * e.size) = xs.take (lo.toNat * e.size) := by
   rw [← htake, List.take_take, Nat.min_eq_left (by omega)]
  have hlt1 : (xs.take (lo.toNat * e.size)).length = lo.toNat * e.size := by rw [List.length_take]; omega
  have htk : new.toList.take (l.length * e.size) = xs.take (lo.toNat * e.size) ++ (List.replicate (l.length - lo.toNat) e.zeroCells).flatten := by
   rw [← hnew, hxt]
   show List.take (l.length * e.size) _ = _
   rw [List.take_append_of_le_length (by rw [List.length_append, hlt1, hcl]; omega), List.take_of_length_le (by rw [List.length_append, hlt1, hcl]; omega)]
  have hll : (l.take lo.toNat ++ List.replicate (l.length - lo.toNat) e.zero).length = l.length := by
   rw [List.length_append, List.length_take, List.length_replicate]
   omega
  obtain ⟨f1, hc1, g1, hfg⟩ := qe.take (n := e.size) (fun _ _ _ hh => qn.length e hh) hch lo.toNat
  obtain ⟨rfl, _⟩ := List.append_eq_nil_iff.1 hfg.symm
  refine ⟨w.setRow g new, by simpa [Addr.add_none] using hrun, hmw, fun k hk => ?_, _, xs.take (lo.toNat * e.size) ++ (List.replicate (l.length - lo.toNat) e.zeroCells).flatten, [], rfl, k2, ⟨?_, .inr ⟨g, cap, new, ?_, Nat.zero_le _, hwb, ?_, hcm, ?_, ?_⟩⟩, ?_⟩
  ·rw [k2] at hk
   simp only [Value.ownBlock, Option.toList_some, List.append_nil, List.mem_singleton] at hk
   subst hk
   exact ⟨_, _, hwb⟩
  ·rw [List.length_append, hlt1, hcl, hll, hsum]
  ·rw [hll]
  ·rw [hll]; exact hnc
  ·exact hnl
  ·rw [hll]; exact htk
  ·refine qe.mono (fun _ _ _ hh => ?_) (qe.append hc1 (qe.replicate (qn.zero e hn) (l.length - lo.toNat)))
   have hf0 := qn.fz_fp e hef hh
   subst hf0
   exact qn.mono e (FH.le_refl _) (by simp) hh
theorem qiJ (hs : qk P C s a w H Φ) {id : Nat} {p : List qs} {o : Obj} (ho : s.obj id = some o) (hrp : (o.row && p.isEmpty) = false) {tid : TypeId} {e : Ty} {l l' : List e.den} (hy : qT o.τ o.x p = some ⟨.list true tid e, l⟩)
  {v0 : Value} (hr : qkU w Φ s.obj id p v0) {z : o.τ.den} (hz : j5 o.τ o.x p (.list true tid e) l' = some z) : ∃ f, qn P (.list true tid e) w H l [v0] f ∧
  ∀ w'', j7 (· ∈ f) w w'' → (∀ k, k ∈ f → ∃ c t, w''.heap[k]? = some (.cells c t (0, 0))) → qn P (.list true tid e) w'' H l' [v0] f → qk P C ((s.killIf (AV.staleV id o.row p)).setObj id (some ⟨o.row, o.τ, z⟩)) a w'' H Φ := by
 obtain ⟨o', y', q1, q2, q3⟩ := hr
 rw [ho] at q1
 cases q1
 rw [hrp] at q3
 rw [hy] at q2
 cases q2
 obtain ⟨b, off, blk, t, hloc, hblk, hv⟩ := q3
 have hok := (hs.os id o ho).1
 have hob := (hs.os id o ho).2
 obtain ⟨b', o', blk', t', pre', c, post', f1, f, f2, e1, e2, e3, e4, e5, e6, hl', e7⟩ := hok.desc2 hy ⟨w, _, _, hloc⟩ hrp
 obtain ⟨rfl, rfl⟩ := j1.det hloc (hl' w (fun _ _ => rfl))
 rw [hblk] at e1
 cases e1
 have e6' := e6
 obtain ⟨hdr, xs, fp', ec, ef, _, _⟩ := e6'
 have hvh : v0 = hdr := by
  rw [hv]
  have : seg blk off (Ty.list true tid e).size = c := by rw [← e3]; exact qV e2 (qn.length _ e6)
  rw [this, ec]; rfl
 subst hvh
 have hnd := hok.2.1
 rw [e4] at hnd
 have hin : ∀ k ∈ f, k ∈ (Φ id).fp := fun k hk => by rw [e4]; simp [hk]
 have hin1 : ∀ k ∈ f1, k ∈ (Φ id).fp := fun k hk => by rw [e4]; simp [hk]
 have hin2 : ∀ k ∈ f2, k ∈ (Φ id).fp := fun k hk => by rw [e4]; simp [hk]
 have hnot1 : ∀ k ∈ f1, k ∉ f := fun k h1 h2 => (List.nodup_append.1 (List.nodup_append.1 hnd).1).2.2 k h1 k h2 rfl
 have hnot2 : ∀ k ∈ f2, k ∉ f := fun k h1 h2 => (List.nodup_append.1 hnd).2.2 k (by simp [h2]) k h1 rfl
 subst ec
 refine ⟨f, e6, ?_⟩
 intro w'' hm' hfw hrep'
 have hokw : HOk H w'' := hs.hok.mod hm' (fun k hk => (hob k (hin k hk)).1)
 have hb1 : b ∉ f := hnot1 b e5
 have hblt : b < w.heap.size := (Array.getElem?_eq_some_iff.1 hblk).1
 have hroot : w''.heap[b]? = w.heap[b]? := hm'.block b hblt hb1
 have hblkw : w''.heap[b]? = some (.cells (pre' ++ [v0] ++ post').toArray t (0, 0)) := by
  rw [hroot, hblk]
  rw [← e2]
 have hobj2 := e7 w'' [v0] f (.list true tid e) l' z hrep' hz hblkw (by
  intro k hk _
  rcases List.mem_append.1 hk with h1 | h1
  ·exact hm'.block k (hob k (hin1 k h1)).2.2 (hnot1 k h1)
  ·exact hm'.block k (hob k (hin2 k h1)).2.2 (hnot2 k h1)) hnd
 rw [← e4] at hobj2
 have hmod2 : j7 C.M0 C.w0 w'' := hs.mod.trans_new hm' (fun k hk => (hob k (hin k hk)).2.1)
 have hchg : Chg P w w'' H b off ⟨.list true tid e, l⟩ := by
  refine ⟨[v0], f, e6, fun i hi => ?_, fun k hk _ hkf => hm'.block k hk hkf, fun i _ => World.cell?_of_block (a := ⟨b, i, none⟩) hroot⟩
  have hi : i < 1 := hi
  obtain rfl : i = 0 := by omega
  rw [qz hblk, ← Array.getElem?_toList, e2, ← e3]
  simp
 have hlive : ∀ q, (o.row && q.isEmpty) = false → qaB p q = true → ∀ y, qT o.τ o.x q = some y → ∀ b2 off2, j1 w o (Φ id) q b2 off2 → j1 w'' ⟨o.row, o.τ, z⟩ (Φ id) q b2 off2 ∧ qaC w w'' b2 off2 (off2 + y.1.size) := by
  intro q _ hwq y2 hy2 b2 off2 hl2
  obtain ⟨q1, q2⟩ := hok.stay (φ' := Φ id) ⟨rfl, rfl⟩ hwq hy hy2 hloc hl2 hchg z
  exact ⟨q1, q2 (.inr hroot)⟩
 have hch := hs.changeF (F := AV.staleV id o.row p) ho z (Φ id) rfl rfl (FH.le_refl H) hokw hs.hnew hmod2 hm'.size (by
  intro j o2 hj hoj k hk
  exact ⟨hm'.block k ((hs.os j o2 hoj).2 k hk).2.2 (fun hkf => hs.disj j id o2 o hj hoj ho k hk (hin k hkf)), ((hs.os j o2 hoj).2 k hk).1⟩) hobj2 (fun k hk => ⟨(hob k hk).1, (hob k hk).2.1, Nat.lt_of_lt_of_le (hob k hk).2.2 hm'.size, fun j o' hj hoj hb' => hs.disj id j o o' (fun e => hj e.symm) ho hoj k hk hb'⟩)
  (fun q hf => by
   simp only [AV.staleV, Nat.beq_refl, Bool.true_and] at hf
   cases hq : q.any qs.isI with
   | false => exact .inl rfl
   | true =>
    rw [hq, Bool.true_and, Bool.not_eq_false'] at hf
    have hqe : (o.row && q.isEmpty) = false := by
     cases q with
     | nil => simp at hq
     | cons _ _ => simp
    exact .inr fun y2 hy2 => ⟨fun b off hl2 => (hlive q hqe hf y2 hy2 b off hl2).1, qbi _ hf hy2 hz⟩)
  (fun _ _ _ _ _ => rfl)
  (fun q hf => by
   simp only [AV.staleV, Nat.beq_refl, Bool.true_and] at hf
   cases hrq : o.row && q.isEmpty with
   | true => exact .inl rfl
   | false =>
    right
    rw [hrq, Bool.not_false, Bool.true_and, Bool.not_eq_false'] at hf
    intro y2 b2 off2 blk2 t2 _ hy2 hl2 he2
    obtain ⟨k1, k2⟩ := hlive q hrq hf y2 hy2 b2 off2 hl2
    obtain ⟨y3, hy3⟩ := qbi _ hf hy2 hz
    obtain ⟨blk3, t3, he3⟩ : ∃ blk3 t3, w''.heap[b2]? = some (.cells blk3 t3 (0, 0)) := by
     by_cases hbo : b2 ∈ f
     ·exact hfw b2 hbo
     ·exact ⟨_, _, (hm'.block b2 (Array.getElem?_eq_some_iff.1 he2).1 hbo).trans he2⟩
    exact ⟨⟨y2.1, y3⟩, b2, off2, _, _, rfl, hy3, k1, he3, qgG k2 he2 he3⟩)
 have hΦ : qax Φ id (Φ id) = Φ := by
  funext j
  unfold qax
  split
  ·rename_i e; rw [e]
  ·rfl
 rw [hΦ] at hch
 exact hch
theorem op_clear (hcfg : qA P cfg) (hC : qG C cfg) {c : Call} (hc : c.callee = .builtin .clear) (hs : qk P C s a w H Φ) (hd : qQ cfg.nt dst = true) (h : qO cfg ⟨dst, .call c, ty, pos, after, guard⟩ s k = some r) :
  ∃ s', k s' = some r ∧ qa4 P C ⟨dst, .call c, ty, pos, after, guard⟩ a w s' := by
 simp only [qO, hc] at h
 split at h
 case h_2 => cases h
 rename_i x T hxy hTT
 split at h
 case h_2 => cases h
 rename_i av he1
 have hr := qo hs (hcfg.fz T) he1
 have e2 : c = ⟨.builtin .clear, #[x], #[T]⟩ := by
  obtain ⟨c1, c2, c3⟩ := c
  simp only at hc hxy hTT
  rw [hc, ← Array.toArray_toList (xs := c2), hxy, ← Array.toArray_toList (xs := c3), hTT]
 subst e2
 unfold clearK at h
 split at h
 case h_2 => cases h
 rename_i own tid e id p z lo hT
 obtain ⟨hty, hfz⟩ := hcfg.ty T _ hT
 obtain ⟨hu, he⟩ := hty.list
 have hef : e.isFz = true := by simp only [Ty.isFz, Bool.and_eq_true] at hfz; exact hfz.2
 split at h
 case h_2 => cases h
 rename_i o ho
 cases hrp : o.row && p.isEmpty with
 | false =>
  rw [hrp, cond_false] at h
  cases hrow : e.isFlat && Nat.beq z e.size with
  | false => rw [hrow] at h; cases h
  | true =>
  rw [hrow, cond_true] at h
  rw [Bool.and_eq_true] at hrow
  obtain ⟨hfl, hz⟩ := hrow
  obtain rfl := Nat.eq_of_beq_eq_true hz
  rw [jJ] at h
  replace h := Option.bind_eq_some_iff.1 h
  obtain ⟨⟨σ, y⟩, hy, h⟩ := h
  rw [ql] at h
  replace h := Option.bind_eq_some_iff.1 h
  obtain ⟨l, hl, h⟩ := h
  obtain ⟨e1, hl⟩ := qj hl
  simp only at e1
  subst e1
  subst hl
  rw [qah] at h
  replace h := Option.bind_eq_some_iff.1 h
  obtain ⟨x', hz, h⟩ := h
  obtain ⟨v0, hv0, hvv⟩ := hr
  obtain ⟨f, hrep, hgo⟩ := qiJ hs ho hrp hy hv0 hz
  obtain ⟨w'', hrun, hm, hfw, hrep'⟩ := qhA (ty := ty) hu he hfl hrep hvv
  refine ⟨_, h, qad (w' := w'') (v := .tuple #[]) ?_ ⟨H, _, (hgo w'' hm hfw hrep').setDst (by rw [hC.nt]; exact hd) rfl⟩⟩
  simp [execOp, resolve, invoke, builtin, hrun]
 | true =>
 rw [hrp, cond_true] at h
 have hpn : p = [] := by
  rw [Bool.and_eq_true] at hrp
  exact List.isEmpty_iff.1 hrp.2
 subst hpn
 cases hrow : o.row && (e.isFlat && Nat.beq z e.size) with
 | false => rw [hrow] at h; cases h
 | true =>
 rw [hrow, cond_true] at h
 rw [Bool.and_eq_true, Bool.and_eq_true] at hrow
 obtain ⟨hrow, hfl, hz⟩ := hrow
 obtain rfl := Nat.eq_of_beq_eq_true hz
 have hn : e.noFn = true := Ty.flat_noFn e hfl
 simp only [ql] at h
 replace h := Option.bind_eq_some_iff.1 h
 obtain ⟨l, hl, h⟩ := h
 obtain ⟨v0, hv0, hvv⟩ := hr
 have hok := (hs.os id o ho).1
 have hob := (hs.os id o ho).2
 obtain ⟨row, τ, ox⟩ := o
 simp only at hrow
 subst hrow
 obtain ⟨hτ, hyl⟩ := qj hl
 simp only at hτ
 subst hτ
 simp only at hyl
 subst hyl
 have hok' := hok
 obtain ⟨q1, q2, _⟩ := hok'
 have hrep := qP.row_list hok
 have hv0' : v0 = (Φ id).hdr := by
  obtain ⟨o', y', p1, _, p3⟩ := hv0
  rw [ho] at p1
  cases p1
  exact p3
 subst hv0'
 obtain ⟨w'', hrun, hm', _, hrep2⟩ := qhA (ty := ty) hu he hfl hrep hvv
 have hch2 := hs.change ho (l.take lo.toNat ++ List.replicate (l.length - lo.toNat) e.zero) (Φ id) rfl rfl (FH.le_refl H) (hs.hok.mod hm' (fun k hk => (hob k hk).1)) hs.hnew (hs.mod.trans_new hm' (fun k hk => (hob k hk).2.1)) hm'.size
  (fun j o' hj hoj b hb => ⟨hm'.block b ((hs.os j o' hoj).2 b hb).2.2 (fun hkf => hs.disj id j _ o' (fun e => hj e.symm) ho hoj b hkf hb), ((hs.os j o' hoj).2 b hb).1⟩) (qP.of_list q1 q2 hrep2)
  (fun b hb => ⟨(hob b hb).1, (hob b hb).2.1, Nat.lt_of_lt_of_le (hob b hb).2.2 hm'.size, fun j o' hj hoj hb' => hs.disj id j _ o' (fun e => hj e.symm) ho hoj b hb hb'⟩)
 refine ⟨_, h, qad (w' := w'') (v := .tuple #[]) ?_ ⟨H, _, hch2.setDst (by rw [hC.nt]; exact hd) rfl⟩⟩
 simp [execOp, resolve, invoke, builtin, hrun]
end
end Go.Vi
namespace Go.Vi
section
variable {P : Program} {C : Ctx} {cfg : jM} {R : Type} {r : R} {s : St} {a : Act} {w : World} {H : FH} {Φ : Nat → qC} {dst : Option Nat} {ty : TypeId} {pos : String} {after : Array Edge} {guard : Option (Nat × Bool)} {k : St → Option R}
theorem qbG : (τ : Ty) → ∀ {x : τ.den} {p : List qs} {σ : Ty} {y : σ.den} {z}, j5 τ x p σ y = some z → qbS τ p = some σ
 | .pair a b, x, p, σ, y, z, h => by
  match p with
  | [] => obtain ⟨e, _⟩ := qj h; subst e; rfl
  | .L :: q => obtain ⟨z', h', _⟩ := Option.map_eq_some_iff.1 h; exact qbG a h'
  | .R :: q => obtain ⟨z', h', _⟩ := Option.map_eq_some_iff.1 h; exact qbG b h'
  | .I _ :: _ => cases h
 | .str t, x, p, σ, y, z, h => by
  match p with
  | [] => obtain ⟨e, _⟩ := qj h; subst e; rfl
  | s :: q => exact qbG t h
 | .list true tid e, x, p, σ, y, z, h => by
  match p with
  | [] => obtain ⟨e, _⟩ := qj h; subst e; rfl
  | .L :: _ => cases h
  | .R :: _ => cases h
  | .I i :: q =>
   simp only [j5] at h
   split at h
   ·replace h := Option.bind_eq_some_iff.1 h
    obtain ⟨z', _, h⟩ := h
    replace h := Option.map_eq_some_iff.1 h
    obtain ⟨_, h, _⟩ := h
    exact qbG e h
   ·cases h
 | .arr n e, x, p, σ, y, z, h => by
  match p with
  | [] => obtain ⟨e, _⟩ := qj h; subst e; rfl
  | .L :: _ => cases h
  | .R :: _ => cases h
  | .I i :: q =>
   simp only [j5] at h
   split at h
   ·replace h := Option.bind_eq_some_iff.1 h
    obtain ⟨z', _, h⟩ := h
    replace h := Option.map_eq_some_iff.1 h
    obtain ⟨_, h, _⟩ := h
    exact qbG e h
   ·cases h
 | .op t, x, p, σ, y, z, h => by
  match p with
  | [] => obtain ⟨e, _⟩ := qj h; subst e; rfl
  | .L :: _ => cases h
  | .R :: _ => cases h
  | .I i :: q =>
   simp only [j5] at h
   replace h := Option.bind_eq_some_iff.1 h
   obtain ⟨z', _, h⟩ := h
   replace h := Option.map_eq_some_iff.1 h
   obtain ⟨_, h, _⟩ := h
   exact qbG t h
 | .int _, _, p, _, _, _, h => by cases p <;> first | (obtain ⟨e, _⟩ := qj h; subst e; rfl) | cases h
 | .bool, _, p, _, _, _, h => by cases p <;> first | (obtain ⟨e, _⟩ := qj h; subst e; rfl) | cases h
 | .list false _ _, _, p, _, _, _, h => by cases p <;> first | (obtain ⟨e, _⟩ := qj h; subst e; rfl) | cases h
 | .ptr _, _, p, _, _, _, h => by cases p <;> first | (obtain ⟨e, _⟩ := qj h; subst e; rfl) | cases h
 | .fn _ _, _, p, _, _, _, h => by cases p <;> first | (obtain ⟨e, _⟩ := qj h; subst e; rfl) | cases h
 | .fn2 _ _ _, _, p, _, _, _, h => by cases p <;> first | (obtain ⟨e, _⟩ := qj h; subst e; rfl) | cases h
theorem qdq {P : Program} {w : World} {H : FH} : (σ : Ty) → ∀ {y : σ.den} {c : List Value} {f : List Nat}, σ.isBare = true → qn P σ w H y c f → ∀ v ∈ c, isHd v = false
 | .int _, y, c, f, _, h, v, hv => by
  obtain ⟨rfl, rfl⟩ := h
  rw [List.mem_singleton.1 hv]
  rfl
 | .bool, y, c, f, _, h, v, hv => by
  obtain ⟨rfl, rfl⟩ := h
  rw [List.mem_singleton.1 hv]
  rfl
 | .pair a b, y, c, f, hb, h, v, hv => by
  simp only [Ty.isBare, Bool.and_eq_true] at hb
  obtain ⟨c1, c2, f1, f2, rfl, rfl, r1, r2⟩ := h
  rcases List.mem_append.1 hv with hv | hv
  ·exact qdq a hb.1 r1 v hv
  ·exact qdq b hb.2 r2 v hv
 | .str t, y, c, f, hb, h, v, hv => qdq t hb h v hv
 | .list _ _ _, _, _, _, hb, _, _, _ => by simp [Ty.isBare] at hb
 | .arr _ _, _, _, _, hb, _, _, _ => by simp [Ty.isBare] at hb
 | .ptr _, _, _, _, hb, _, _, _ => by simp [Ty.isBare] at hb
 | .op _, _, _, _, hb, _, _, _ => by simp [Ty.isBare] at hb
 | .fn _ _, _, _, _, hb, _, _, _ => by simp [Ty.isBare] at hb
 | .fn2 _ _ _, _, _, _, hb, _, _, _ => by simp [Ty.isBare] at hb
theorem qbV : (σ : Ty) → ∀ {x x' : σ.den} {q : List qs} {y}, σ.isBare = true → qT σ x q = some y → ∃ y', qT σ x' q = some ⟨y.1, y'⟩
 | .int _, x, x', q, y, _, h => by
  match q with
  | [] => cases h; exact ⟨x', rfl⟩
  | _ :: _ => cases h
 | .bool, x, x', q, y, _, h => by
  match q with
  | [] => cases h; exact ⟨x', rfl⟩
  | _ :: _ => cases h
 | .pair a b, x, x', q, y, hb, h => by
  simp only [Ty.isBare, Bool.and_eq_true] at hb
  match q with
  | [] => cases h; exact ⟨x', rfl⟩
  | .L :: q => exact qbV a (x' := x'.1) (q := q) hb.1 h
  | .R :: q => exact qbV b (x' := x'.2) (q := q) hb.2 h
  | .I _ :: _ => cases h
 | .str t, x, x', q, y, hb, h => by
  match q with
  | [] => cases h; exact ⟨x', rfl⟩
  | s :: q => exact qbV t (x' := x') (q := s :: q) hb h
 | .list _ _ _, _, _, _, _, hb, _ => by simp [Ty.isBare] at hb
 | .arr _ _, _, _, _, _, hb, _ => by simp [Ty.isBare] at hb
 | .ptr _, _, _, _, _, hb, _ => by simp [Ty.isBare] at hb
 | .op _, _, _, _, _, hb, _ => by simp [Ty.isBare] at hb
 | .fn _ _, _, _, _, _, hb, _ => by simp [Ty.isBare] at hb
 | .fn2 _ _ _, _, _, _, _, hb, _ => by simp [Ty.isBare] at hb
theorem qbM : (τ : Ty) → ∀ {x x' : τ.den} {p q : List qs} {σ : Ty} {v : σ.den} {y}, σ.isBare = true → qT τ x q = some y → j5 τ x p σ v = some x' → ∃ y', qT τ x' q = some ⟨y.1, y'⟩
 | .pair a b, x, x', p, q, σ, v, y, hb, hg, hs => by
  match p, q with
  | [], q =>
   obtain ⟨e, _⟩ := qj (by simpa [j5] using hs)
   subst e
   exact qbV _ hb hg
  | _ :: _, [] => cases hg; exact ⟨x', rfl⟩
  | .L :: p, .L :: q =>
   obtain ⟨z, hz, rfl⟩ := Option.map_eq_some_iff.1 hs
   exact qbM a (p := p) (q := q) hb hg hz
  | .R :: p, .R :: q =>
   obtain ⟨z, hz, rfl⟩ := Option.map_eq_some_iff.1 hs
   exact qbM b (p := p) (q := q) hb hg hz
  | .L :: p, .R :: q =>
   obtain ⟨z, hz, rfl⟩ := Option.map_eq_some_iff.1 hs
   exact ⟨y.2, hg⟩
  | .R :: p, .L :: q =>
   obtain ⟨z, hz, rfl⟩ := Option.map_eq_some_iff.1 hs
   exact ⟨y.2, hg⟩
  | .I _ :: _, _ :: _ => cases hs
  | .L :: _, .I _ :: _ => cases hg
  | .R :: _, .I _ :: _ => cases hg
 | .str t, x, x', p, q, σ, v, y, hb, hg, hs => by
  match p, q with
  | [], q =>
   obtain ⟨e, _⟩ := qj (by simpa [j5] using hs)
   subst e
   exact qbV _ hb hg
  | _ :: _, [] => cases hg; exact ⟨x', rfl⟩
  | s :: p, s' :: q => exact qbM t (p := s :: p) (q := s' :: q) hb hg hs
 | .list true tid e, x, x', p, q, σ, v, y, hb, hg, hs => by
  match p, q with
  | [], q =>
   obtain ⟨e, _⟩ := qj (by simpa [j5] using hs)
   subst e
   simp [Ty.isBare] at hb
  | _ :: _, [] => cases hg; exact ⟨x', rfl⟩
  | .I i :: p, .I j :: q =>
   simp only [j5] at hs
   simp only [qT] at hg ⊢
   split at hs
   case isFalse => cases hs
   split at hg
   case isFalse => cases hg
   rename_i hj
   rw [if_pos hj]
   obtain ⟨z, hz, hs⟩ := Option.bind_eq_some_iff.1 hs
   obtain ⟨z', hz', rfl⟩ := Option.map_eq_some_iff.1 hs
   obtain ⟨u, hu, hg⟩ := Option.bind_eq_some_iff.1 hg
   by_cases hij : i.toNat = j.toNat
   ·rw [hij] at hz ⊢
    rw [hz] at hu
    cases hu
    obtain ⟨y', hy'⟩ := qbM e (p := p) (q := q) hb hg hz'
    have hlt := (List.getElem?_eq_some_iff.1 hz).1
    rw [List.getElem?_set_self hlt]
    exact ⟨y', hy'⟩
   ·rw [List.getElem?_set_ne hij, hu]
    exact ⟨y.2, hg⟩
  | .L :: _, _ :: _ => cases hs
  | .R :: _, _ :: _ => cases hs
  | .I _ :: _, .L :: _ => cases hg
  | .I _ :: _, .R :: _ => cases hg
 | .arr m e, x, x', p, q, σ, v, y, hb, hg, hs => by
  match p, q with
  | [], q =>
   obtain ⟨e, _⟩ := qj (by simpa [j5] using hs)
   subst e
   simp [Ty.isBare] at hb
  | _ :: _, [] => cases hg; exact ⟨x', rfl⟩
  | .I i :: p, .I j :: q =>
   simp only [j5] at hs
   simp only [qT] at hg ⊢
   split at hs
   case isFalse => cases hs
   split at hg
   case isFalse => cases hg
   rename_i hj
   rw [if_pos hj]
   obtain ⟨z, hz, hs⟩ := Option.bind_eq_some_iff.1 hs
   obtain ⟨z', hz', rfl⟩ := Option.map_eq_some_iff.1 hs
   obtain ⟨u, hu, hg⟩ := Option.bind_eq_some_iff.1 hg
   by_cases hij : i.toNat = j.toNat
   ·rw [hij] at hz ⊢
    rw [hz] at hu
    cases hu
    obtain ⟨y', hy'⟩ := qbM e (p := p) (q := q) hb hg hz'
    have hlt := (List.getElem?_eq_some_iff.1 hz).1
    rw [List.getElem?_set_self hlt]
    exact ⟨y', hy'⟩
   ·rw [List.getElem?_set_ne hij, hu]
    exact ⟨y.2, hg⟩
  | .L :: _, _ :: _ => cases hs
  | .R :: _, _ :: _ => cases hs
  | .I _ :: _, .L :: _ => cases hg
  | .I _ :: _, .R :: _ => cases hg
 | .op t, x, x', p, q, σ, v, y, hb, hg, hs => by
  match p, q with
  | [], q =>
   obtain ⟨e, _⟩ := qj (by simpa [j5] using hs)
   subst e
   simp [Ty.isBare] at hb
  | _ :: _, [] => cases hg; exact ⟨x', rfl⟩
  | .I i :: p, .I j :: q =>
   simp only [j5] at hs
   simp only [qT] at hg ⊢
   obtain ⟨z, hz, hs⟩ := Option.bind_eq_some_iff.1 hs
   obtain ⟨z', hz', rfl⟩ := Option.map_eq_some_iff.1 hs
   obtain ⟨u, hu, hg⟩ := Option.bind_eq_some_iff.1 hg
   rw [hz] at hu
   cases hu
   exact qbM t (p := p) (q := q) hb hg hz'
  | .L :: _, _ :: _ => cases hs
  | .R :: _, _ :: _ => cases hs
  | .I _ :: _, .L :: _ => cases hg
  | .I _ :: _, .R :: _ => cases hg
 | .int _, x, x', p, q, σ, v, y, hb, hg, hs => by
  match q with
  | [] => cases hg; exact ⟨x', rfl⟩
  | _ :: _ => cases hg
 | .bool, x, x', p, q, σ, v, y, hb, hg, hs => by
  match q with
  | [] => cases hg; exact ⟨x', rfl⟩
  | _ :: _ => cases hg
 | .list false _ _, x, x', p, q, σ, v, y, hb, hg, hs => by
  match q with
  | [] => cases hg; exact ⟨x', rfl⟩
  | _ :: _ => cases hg
 | .ptr _, x, x', p, q, σ, v, y, hb, hg, hs => by
  match q with
  | [] => cases hg; exact ⟨x', rfl⟩
  | _ :: _ => cases hg
 | .fn _ _, x, x', p, q, σ, v, y, hb, hg, hs => by
  match q with
  | [] => cases hg; exact ⟨x', rfl⟩
  | _ :: _ => cases hg
 | .fn2 _ _ _, x, x', p, q, σ, v, y, hb, hg, hs => by
  match q with
  | [] => cases hg; exact ⟨x', rfl⟩
  | _ :: _ => cases hg
theorem qbY.fp {o : Obj} {φ : qC} {p : List qs} {b : Nat} (hok : qP P w H o φ) (h : qbY P w H o φ p b) : b ∈ φ.fp := by
 unfold qbY at h
 cases hr : o.row && p.isEmpty with
 | true => rw [hr] at h; exact h
 | false =>
  rw [hr] at h
  obtain ⟨⟨σ, y⟩, bb, off, blk, t, f, q1, q2, q3, q4, q5⟩ := h
  obtain ⟨b', o', blk', t', pre', c, post', f1, f', f2, e1, e2, e3, e4, e5, e6, hl', _⟩ := hok.desc2 (y := y) q1 ⟨w, _, _, q2⟩ hr
  obtain ⟨rfl, rfl⟩ := j1.det q2 (hl' w (fun _ _ => rfl))
  rw [e1] at q3
  cases q3
  have hsg := qV e2 (qn.length σ e6)
  rw [e3] at hsg
  simp only [hsg] at q4
  rw [e4, qn.fp_det σ e6 q4]
  simp [q5]
theorem qk.storeAt (hs : qk P C s a w H Φ) {id : Nat} {o : Obj} (ho : s.obj id = some o) {p : List qs} (hp : (o.row && p.isEmpty) = false) {σ : Ty} {y : σ.den} (hg : qT o.τ o.x p = some ⟨σ, y⟩) {b off : Nat} (hl : j1 w o (Φ id) p b off)
  {T : TypeId} (hty : qR P T σ) {y' : σ.den} {c' : List Value} {f' : List Nat} (hr : qn P σ w H y' c' f') (hnd' : f'.Nodup)
  (hf' : ∀ k ∈ f', H k = none ∧ (C.M0 k ∨ C.w0.heap.size ≤ k) ∧ k < w.heap.size ∧ (∀ j o', j ≠ id → s.obj j = some o' → k ∉ (Φ j).fp) ∧ (k ∈ (Φ id).fp → qbY P w H o (Φ id) p k))
  {x' : o.τ.den} (hx : j5 o.τ o.x p σ y' = some x') :
  ∃ w' φ, (Instr.storeAt T (.pointer (some ⟨b, off, none⟩)) (jY σ c')).run P w = .ok () w' ∧ qk P C ((s.killIf (AV.staleP id o.row o.τ p)).setObj id (some ⟨o.row, o.τ, x'⟩)) a w' H (qax Φ id φ) ∧
   (∀ k ∈ φ.fp, k ∈ f' ∨ (k ∈ (Φ id).fp ∧ ¬ qbY P w H o (Φ id) p k)) ∧ ∀ k, qbY P w H o (Φ id) p k → w'.heap[k]? = w.heap[k]? := by
 have hok := (hs.os id o ho).1
 have hob := (hs.os id o ho).2
 obtain ⟨b', o', blk', t', pre', c, post', f1, f, f2, e1, e2, e3, e4, e5, e6, hl', e7⟩ := hok.desc2 (y := y) hg ⟨w, _, _, hl⟩ hp
 obtain ⟨rfl, rfl⟩ := j1.det hl (hl' w (fun _ _ => rfl))
 have hnd := hok.2.1
 rw [e4] at hnd
 have hin : ∀ k ∈ f1, k ∈ (Φ id).fp := fun k hk => by rw [e4]; simp [hk]
 have hin2 : ∀ k ∈ f2, k ∈ (Φ id).fp := fun k hk => by rw [e4]; simp [hk]
 have hold : ∀ k ∈ f', k ∈ (Φ id).fp → k ∈ f := by
  intro k hk hkφ
  have hin := (hf' k hk).2.2.2.2 hkφ
  unfold qbY at hin
  rw [hp] at hin
  obtain ⟨y9, bb, off9, blk9, t9, f9, q1, q2, q3, q4, q5⟩ := hin
  rw [hg] at q1
  cases q1
  obtain ⟨rfl, rfl⟩ := j1.det hl q2
  rw [e1] at q3
  cases q3
  have hsg := qV e2 (qn.length σ e6)
  rw [e3] at hsg
  simp only [hsg] at q4
  rw [qn.fp_det σ e6 q4]
  exact q5
 have hnf1 : ∀ k ∈ f', k ∉ f1 := by
  intro k hk hk1
  have := hold k hk (hin k hk1)
  simp only [List.nodup_append, List.mem_append] at hnd
  exact hnd.1.2.2 k hk1 k this rfl
 have hnf2 : ∀ k ∈ f', k ∉ f2 := by
  intro k hk hk2
  have := hold k hk (hin2 k hk2)
  simp only [List.nodup_append, List.mem_append] at hnd
  exact hnd.2.2 k (.inr this) k hk2 rfl
 have hbin : b ∈ (Φ id).fp := hin b e5
 have hrun := qb7 hty e1 e2 (qn.length σ e6) (qn.length σ hr) (qn.one σ hr)
 rw [e3] at hrun
 have hwb : (w.setRow b (pre' ++ c' ++ post').toArray).heap[b]? = some (.cells (pre' ++ c' ++ post').toArray t' (0, 0)) := setRow_heap w b blk' _ t' _ e1
 have hwo : ∀ k, k ≠ b → (w.setRow b (pre' ++ c' ++ post').toArray).heap[k]? = w.heap[k]? := fun k hk => setRow_other w b k _ hk
 have hsz : (w.setRow b (pre' ++ c' ++ post').toArray).heap.size = w.heap.size := by simp [World.setRow]
 have hmw : j7 (fun k => k = b) w (w.setRow b (pre' ++ c' ++ post').toArray) := ⟨rfl, rfl, rfl, by omega, fun k _ hM => hwo k hM⟩
 have hnd2 : (f1 ++ f' ++ f2).Nodup := by
  simp only [List.nodup_append, List.mem_append] at hnd ⊢
  refine ⟨⟨hnd.1.1, hnd', ?_⟩, hnd.2.1, ?_⟩
  ·rintro k hk _ hk' rfl; exact hnf1 k hk' hk
  ·rintro k (hk | hk) _ hk' rfl
   ·exact hnd.2.2 k (.inl hk) k hk' rfl
   ·exact hnf2 k hk hk'
 have hlc : c'.length = c.length := (qn.length σ hr).trans (qn.length σ e6).symm
 have hchg : Chg P w (w.setRow b (pre' ++ c' ++ post').toArray) H b off ⟨σ, y⟩ := by
  refine ⟨c, f, e6, fun i hi => ?_, fun k _ hk _ => hwo k hk, fun i hi => ?_⟩
  ·rw [qz e1, ← Array.getElem?_toList, e2, ← e3, List.append_assoc, List.getElem?_append_right (by omega), List.getElem?_append_left (by omega)]
   congr 1
   omega
  ·have hl1 := qn.length σ e6
   rw [qz e1, qz hwb, ← Array.getElem?_toList, ← Array.getElem?_toList, e2, List.append_assoc, List.append_assoc]
   simp only at hi
   by_cases h1 : i < pre'.length
   ·rw [List.getElem?_append_left h1, List.getElem?_append_left h1]
   ·rw [List.getElem?_append_right (by omega), List.getElem?_append_right (by omega), List.getElem?_append_right (by omega), List.getElem?_append_right (by omega), hlc]
 have hobj := e7 _ c' f' σ y' x' (qn.mono σ (FH.le_refl H) (fun k hk => hwo k (fun e => hnf1 k hk (by rw [e]; exact e5))) hr) hx hwb (fun k _ hk => hwo k hk) hnd2
 have hfp : ∀ k ∈ f1 ++ f' ++ f2, H k = none ∧ (C.M0 k ∨ C.w0.heap.size ≤ k) ∧ k < w.heap.size ∧ ∀ j o', j ≠ id → s.obj j = some o' → k ∉ (Φ j).fp := by
  intro k hk
  have old : k ∈ (Φ id).fp → H k = none ∧ (C.M0 k ∨ C.w0.heap.size ≤ k) ∧ k < w.heap.size ∧ ∀ j o', j ≠ id → s.obj j = some o' → k ∉ (Φ j).fp := fun hk =>
   ⟨(hob k hk).1, (hob k hk).2.1, (hob k hk).2.2, fun j o' hj hoj => hs.disj id j o o' (fun e => hj e.symm) ho hoj k hk⟩
  simp only [List.mem_append] at hk
  rcases hk with (hk | hk) | hk
  ·exact old (hin k hk)
  ·exact ⟨(hf' k hk).1, (hf' k hk).2.1, (hf' k hk).2.2.1, (hf' k hk).2.2.2.1⟩
  ·exact old (hin2 k hk)
 have hinf : ∀ k, qbY P w H o (Φ id) p k → k ∈ f := by
  intro k hin
  unfold qbY at hin
  rw [hp] at hin
  obtain ⟨y9, bb, off9, blk9, t9, f9, q1, q2, q3, q4, q5⟩ := hin
  rw [hg] at q1
  cases q1
  obtain ⟨rfl, rfl⟩ := j1.det hl q2
  rw [e1] at q3
  cases q3
  have hsg := qV e2 (qn.length σ e6)
  rw [e3] at hsg
  simp only [hsg] at q4
  rw [qn.fp_det σ e6 q4]
  exact q5
 refine ⟨_, ⟨(Φ id).b, (Φ id).hdr, f1 ++ f' ++ f2⟩, ?_, hs.changeF (F := AV.staleP id o.row o.τ p) ho x' _ rfl rfl (FH.le_refl H) (hs.hok.mod hmw (fun k hk => by rw [hk]; exact (hob b hbin).1)) hs.hnew (hs.mod.trans_new hmw (fun k hk => by rw [hk]; exact (hob b hbin).2.1)) (by omega) ?_ hobj ?_ (fun q hf => ?_) (fun _ _ _ _ _ => rfl) ?_, fun k hk => ?_, fun k hk => hwo k (fun e => ?_)⟩
 ·simp [Instr.storeAt, Instr.sureAddr, hrun]
 ·intro j o' hj hoj k hk
  exact ⟨hwo k (fun e => hs.disj id j o o' (fun e => hj e.symm) ho hoj b hbin (e ▸ hk)), ((hs.os j o' hoj).2 k hk).1⟩
 ·intro k hk
  have := hfp k hk
  exact ⟨this.1, this.2.1, by rw [hsz]; exact this.2.2.1, this.2.2.2⟩
 ·simp only [AV.staleP, Nat.beq_refl, Bool.true_and] at hf
  cases hq : q.any qs.isI with
  | false => exact .inl rfl
  | true =>
   rw [hq, Bool.true_and, Bool.not_eq_false', Bool.or_eq_true] at hf
   right
   intro y2 hy2
   rcases hf with hf | hf
   case inr => exact ⟨fun b2 off2 hl2 => (hok.stay ⟨rfl, rfl⟩ hf hg hy2 hl hl2 hchg x').1, qbi _ hf hy2 hx⟩
   unfold bareAt at hf
   rw [jQ _ hg] at hf
   have hbare : σ.isBare = true := hf
   refine ⟨fun b2 off2 hl2 => ?_, qbM _ hbare hy2 hx⟩
   have hk : ∀ a ao v, isHd v = true → w.cell? ⟨a, ao, none⟩ = some v → (w.setRow b (pre' ++ c' ++ post').toArray).cell? ⟨a, ao, none⟩ = some v := by
    intro a ao v hv ha
    by_cases hab : a = b
    ·subst hab
     rw [qz e1, ← Array.getElem?_toList, e2] at ha
     rw [qz hwb, ← Array.getElem?_toList]
     have hlc : c'.length = c.length := (qn.length σ hr).trans (qn.length σ e6).symm
     simp only
     by_cases h1 : ao < pre'.length
     ·rw [List.append_assoc, List.getElem?_append_left h1] at ha ⊢
      exact ha
     ·rw [List.append_assoc, List.getElem?_append_right (by omega)] at ha ⊢
      by_cases h2 : ao - pre'.length < c.length
      ·rw [List.getElem?_append_left h2] at ha
       exact absurd (qdq σ hbare e6 _ (List.mem_of_getElem? ha)) (by rw [hv]; simp)
      ·rw [List.getElem?_append_right (by omega)] at ha
       rw [List.getElem?_append_right (by omega), hlc]
       exact ha
    ·rw [World.cell?_of_block (a := ⟨a, ao, none⟩) (hwo a hab)]
     exact ha
   have := j1.keep hk hl2
   obtain ⟨row, τ, x0⟩ := o
   exact this
 ·intro q hf
  simp only [AV.staleP, Nat.beq_refl, Bool.true_and] at hf
  cases hrq : o.row && q.isEmpty with
  | true => exact .inl rfl
  | false =>
  right
  intro z b2 off2 blk2 t2 _ hg2 hl2 he2
  rw [hrq, Bool.not_false, Bool.true_and, Bool.not_eq_false'] at hf
  obtain ⟨k1, k2⟩ := hok.stay (φ' := ⟨(Φ id).b, (Φ id).hdr, f1 ++ f' ++ f2⟩) ⟨rfl, rfl⟩ (qba _ hf) hg hg2 hl hl2 hchg x'
  obtain ⟨z', hz'⟩ := qbi _ (qba _ hf) hg2 hx
  obtain ⟨blk3, t3, he3⟩ : ∃ blk3 t3, (w.setRow b (pre' ++ c' ++ post').toArray).heap[b2]? = some (.cells blk3 t3 (0, 0)) := by
   by_cases hb2 : b2 = b
   ·rw [hb2]; exact ⟨_, _, hwb⟩
   ·exact ⟨_, _, (hwo _ hb2).trans he2⟩
  exact ⟨⟨z.1, z'⟩, b2, off2, blk3, t3, rfl, hz', k1, he3, qgG (k2 (.inl hf)) he2 he3⟩
 ·simp only [List.nodup_append, List.mem_append] at hnd
  rcases List.mem_append.1 hk with hk | hk
  ·rcases List.mem_append.1 hk with hk | hk
   ·exact .inr ⟨hin k hk, fun hh => hnd.1.2.2 k hk k (hinf k hh) rfl⟩
   ·exact .inl hk
  ·exact .inr ⟨hin2 k hk, fun hh => hnd.2.2 k (.inr (hinf k hh)) k hk rfl⟩
 ·simp only [List.nodup_append, List.mem_append] at hnd
  subst e
  exact hnd.1.2.2 k e5 k (hinf k hk) rfl
theorem qcl {R : Type} : ∀ {p q : List qs} {k : Option R} {r : R}, qgW p q k = some r → p = q ∧ k = some r
 | [], [], _, _, h => ⟨rfl, h⟩
 | .L :: p, .L :: q, _, _, h => by obtain ⟨rfl, h2⟩ := qcl (p := p) (q := q) h; exact ⟨rfl, h2⟩
 | .R :: p, .R :: q, _, _, h => by obtain ⟨rfl, h2⟩ := qcl (p := p) (q := q) h; exact ⟨rfl, h2⟩
 | .I i :: p, .I j :: q, _, _, h => by
  simp only [qgW, eqK] at h
  split at h
  ·rename_i e; subst e; obtain ⟨rfl, h2⟩ := qcl h; exact ⟨rfl, h2⟩
  ·cases h
 | [], _ :: _, _, _, h => by cases h
 | .L :: _, [], _, _, h => by cases h
 | .R :: _, [], _, _, h => by cases h
 | .I _ :: _, [], _, _, h => by cases h
 | .L :: _, .R :: _, _, _, h => by cases h
 | .L :: _, .I _ :: _, _, _, h => by cases h
 | .R :: _, .L :: _, _, _, h => by cases h
 | .R :: _, .I _ :: _, _, _, h => by cases h
 | .I _ :: _, .L :: _, _, _, h => by cases h
 | .I _ :: _, .R :: _, _, _, h => by cases h
theorem qbL {o : Oper} {w' : World} {s' : St} (hrun : (execOp a.eval o).run P w = .ok .skip w') (h : Sim P C s' (a.put o.dst undef) w') : qa4 P C o a w s' := by
 unfold qa4
 rw [hrun]
 exact h
theorem qgR {P : Program} {R : Type} : (τ : Ty) → ∀ {w : World} {H : FH} {x : τ.den} {cs : List Value} {fp : List Nat} {b o : Nat} {p : List qs} {b1 o1 : Nat} {σ : Ty} {y : σ.den} {k : (τ' : Ty) → τ'.den → Option R} {r : R}, reTK τ x p σ y k = some r → qn P τ w H x cs fp → jT w τ b o p b1 o1 →
  ∃ c1 u c2 τ' z, cs = c1 ++ [u] ++ c2 ∧ b1 = b ∧ o1 = o + c1.length ∧ k τ' z = some r ∧ (τ.noFn = true → σ.noFn = true → τ'.noFn = true) ∧ ∀ (w' : World) (v : Value) (f' : List Nat), (∀ b ∈ fp, w'.heap[b]? = w.heap[b]?) → qn P σ w' H y [v] f' → ∃ fp', qn P τ' w' H z (c1 ++ [v] ++ c2) fp' ∧ fp'.Perm (f' ++ fp)
 | .pair u v, w, H, x, cs, fp, b, o, p, b1, o1, σ, y, k, r, h, hr, hl => by
  obtain ⟨d1, d2, f1, f2, rfl, rfl, r1, r2⟩ := hr
  match p with
  | .L :: q =>
   obtain ⟨c1, e, c2, τ', z, rfl, e2, e3, e4, e5, e6⟩ := qgR u (p := q) h r1 hl
   refine ⟨c1, e, c2 ++ d2, .pair τ' v, (z, x.2), by simp, e2, e3, e4, fun hn hs => ?_, fun w' a f' hw ha => ?_⟩
   ·simp only [Ty.noFn, Bool.and_eq_true] at hn ⊢
    exact ⟨e5 hn.1 hs, hn.2⟩
   ·obtain ⟨fp', g1, g2⟩ := e6 w' a f' (fun b hb => hw b (List.mem_append_left _ hb)) ha
    refine ⟨fp' ++ f2, ⟨c1 ++ [a] ++ c2, d2, fp', f2, by simp, rfl, g1, qn.mono v (FH.le_refl _) (fun b hb => hw b (List.mem_append_right _ hb)) r2⟩, ?_⟩
    rw [← List.append_assoc]
    exact g2.append_right f2
  | .R :: q =>
   have hlen := qn.length u r1
   obtain ⟨c1, e, c2, τ', z, rfl, e2, e3, e4, e5, e6⟩ := qgR v (p := q) h r2 hl
   refine ⟨d1 ++ c1, e, c2, .pair u τ', (x.1, z), by simp, e2, by rw [List.length_append, hlen]; omega, e4, fun hn hs => ?_, fun w' a f' hw ha => ?_⟩
   ·simp only [Ty.noFn, Bool.and_eq_true] at hn ⊢
    exact ⟨hn.1, e5 hn.2 hs⟩
   ·obtain ⟨fp', g1, g2⟩ := e6 w' a f' (fun b hb => hw b (List.mem_append_right _ hb)) ha
    refine ⟨f1 ++ fp', ⟨d1, c1 ++ [a] ++ c2, f1, fp', by simp, rfl, qn.mono u (FH.le_refl _) (fun b hb => hw b (List.mem_append_left _ hb)) r1, g1⟩, ?_⟩
    exact (g2.append_left f1).trans (List.perm_append_comm_assoc f1 f' f2)
  | [] => cases h
  | .I _ :: _ => cases h
 | .str t, w, H, x, cs, fp, b, o, p, b1, o1, σ, y, k, r, h, hr, hl => by
  match p with
  | [] => cases h
  | s :: q =>
   obtain ⟨c1, e, c2, τ', z, e1, e2, e3, e4, e5, e6⟩ := qgR t (p := s :: q) h hr hl
   exact ⟨c1, e, c2, .str τ', z, e1, e2, e3, e4, e5, e6⟩
 | .list false tid e, w, H, x, cs, fp, b, o, p, b1, o1, σ, y, k, r, h, hr, hl => by
  match p with
  | [] =>
   obtain ⟨rfl, a, cap, rfl, _⟩ := hr
   obtain ⟨_, rfl, rfl⟩ := hl
   exact ⟨[], _, [], σ, y, rfl, rfl, rfl, h, fun _ hs => hs, fun w' v f' _ hv => ⟨f', hv, by simp⟩⟩
  | _ :: _ => cases h
 | .list true _ _, _, _, _, _, _, _, _, _, _, _, _, _, _, _, h, _, _ => by cases h
 | .arr _ _, _, _, _, _, _, _, _, _, _, _, _, _, _, _, h, _, _ => by cases h
 | .int _, _, _, _, _, _, _, _, _, _, _, _, _, _, _, h, _, _ => by cases h
 | .bool, _, _, _, _, _, _, _, _, _, _, _, _, _, _, h, _, _ => by cases h
 | .ptr _, _, _, _, _, _, _, _, _, _, _, _, _, _, _, h, _, _ => by cases h
 | .op _, _, _, _, _, _, _, _, _, _, _, _, _, _, _, h, _, _ => by cases h
 | .fn _ _, _, _, _, _, _, _, _, _, _, _, _, _, _, _, h, _, _ => by cases h
 | .fn2 _ _ _, _, _, _, _, _, _, _, _, _, _, _, _, _, _, h, _, _ => by cases h
theorem qk.away {w' : World} (hs : qk P C s a w H Φ) {b : Nat} (hb : qao C w H Φ s.obj b) (hm : j7 (fun k => k = b) w w') : qk P C (s.killIf AV.isUpd) a w' H Φ := by
 have hw : ∀ j o, s.obj j = some o → ∀ c ∈ (Φ j).fp, w'.heap[c]? = w.heap[c]? := fun j o ho c hc => hm.block c ((hs.os j o ho).2 c hc).2.2 (fun e => hb.obj j o ho (by rw [← e]; exact hc))
 refine ⟨hs.defers, hs.size, hs.le, hs.hok.mod hm (fun k hk => by rw [hk]; exact hb.fz), hs.hnew, hs.mod.trans_new hm (fun k hk => by rw [hk]; exact hb.may), ?_, ?_, hs.disj, hs.pins⟩
 ·intro t av ht
  rw [St.get_killIf] at ht
  obtain ⟨av0, h0, rfl⟩ := Option.map_eq_some_iff.1 ht
  refine qg.transfer AV.isUpd (FH.le_refl _) ?_ ?_ ?_ av0 _ (hs.ts t av0 h0)
  ·intro j p v hf hr
   exact qg.ptr_stay (fun o ho => ho) rfl (fun o ho => ⟨(hs.os j o ho).1, hw j o ho⟩) hr
  ·intro j p v hf hr
   exact qg.view_stay (fun o ho => ho) rfl (fun o ho => ⟨(hs.os j o ho).1, hw j o ho⟩) hr
  ·intro j p t e l v hf; cases hf
 ·intro j o ho
  exact ⟨(hs.os j o ho).1.frame (FH.le_refl _) (hw j o ho), fun c hc => ⟨((hs.os j o ho).2 c hc).1, ((hs.os j o ho).2 c hc).2.1, Nat.lt_of_lt_of_le ((hs.os j o ho).2 c hc).2.2 hm.size⟩⟩
theorem qkj (hcfg : qA P cfg) (hC : qG C cfg) {T : TypeId} {x z : Operand} (hs : qk P C s a w H Φ) (hd : qQ cfg.nt dst = true) {av bv : AV} (he1 : qg P C w H Φ s.obj av (a.eval x)) (he2 : qg P C w H Φ s.obj bv (a.eval z))
  (h : (reK s (lk cfg.ty T) av bv fun s => k (s.setDst dst .dead)) = some r) : ∃ s', k s' = some r ∧ qa4 P C ⟨dst, .store T x z, ty, pos, after, guard⟩ a w s' := by
 unfold reK at h
 split at h
 case h_2 => cases h
 rename_i id p id2
 obtain ⟨o, y, b, off, h1, h2, h3, h4, hv⟩ := he1
 obtain ⟨o2, y2, q1, q2, q3⟩ := he2
 rw [h1, q1] at h
 simp only at h
 cases hc : (!o.row && (o2.row && (qfo o2.τ && (Nat.blt id 10000000 && (!Nat.beq id id2 && (qdY id (s.get id) && decide (lk cfg.ty T = some o2.τ.fz))))))) with
 | false => rw [hc] at h; cases h
 | true =>
 rw [hc, cond_true] at h
 simp only [Bool.and_eq_true, Bool.not_eq_true', decide_eq_true_eq] at hc
 obtain ⟨c1, c2, c3, c4, c5, c6, c7⟩ := hc
 have hne : id ≠ id2 := Nat.ne_of_beq_eq_false c5
 have hlt : id < 10000000 := Eq.mp Nat.blt_eq c4
 have hty : qR P T o2.τ := qR.unfz (hcfg.ty T _ c7).1
 obtain ⟨row2, τ2, x2⟩ := o2
 obtain ⟨row, τ, xo⟩ := o
 simp only at c1 c2 c3 h hty
 subst c1
 subst c2
 have hid := hs.os id _ h1
 have hid2 := hs.os id2 _ q1
 obtain ⟨hn, hnd, blk, t, fp0, hblk, hrep, hfp⟩ := hid.1
 obtain ⟨hn2, hnd2, _, cs2, hhdr, hrep2⟩ := hid2.1
 have h4' : jT w τ (Φ id).b 0 p b off := h4
 obtain ⟨d1, u, d2, τ', z', e1, rfl, rfl, e4, e5, e6⟩ := qgR τ h hrep h4'
 obtain ⟨v, rfl, hsz⟩ : ∃ v, cs2 = [v] ∧ τ2.size = 1 := by
  unfold qfo at c3
  split at c3
  ·obtain ⟨hdr, _, _, e, _⟩ := hrep2
   exact ⟨hdr, e, rfl⟩
  ·cases c3
 have hvz : a.eval z = jY τ2 [v] := by
  have : a.eval z = (Φ id2).hdr := q3
  rw [this, hhdr]
 have hbid : (Φ id).b ∈ (Φ id).fp := by rw [hfp]; exact List.mem_cons_self
 have hnb2 : (Φ id).b ∉ (Φ id2).fp := hs.disj id id2 _ _ hne h1 q1 _ hbid
 have hrun := qb7 hty hblk e1 (c' := [v]) (by rw [hsz]; rfl) (by rw [hsz]; rfl) (qn.one τ2 hrep2)
 have hwb : (w.setRow (Φ id).b (d1 ++ [v] ++ d2).toArray).heap[(Φ id).b]? = some (.cells (d1 ++ [v] ++ d2).toArray t (0, 0)) := setRow_heap w (Φ id).b blk _ t _ hblk
 have hwo : ∀ k, k ≠ (Φ id).b → (w.setRow (Φ id).b (d1 ++ [v] ++ d2).toArray).heap[k]? = w.heap[k]? := fun k hk => setRow_other w (Φ id).b k _ hk
 have hsize : (w.setRow (Φ id).b (d1 ++ [v] ++ d2).toArray).heap.size = w.heap.size := by simp [World.setRow]
 have hmw : j7 (fun k => k = (Φ id).b) w (w.setRow (Φ id).b (d1 ++ [v] ++ d2).toArray) := ⟨rfl, rfl, rfl, by omega, fun k _ hM => hwo k hM⟩
 have hndc := hnd
 rw [hfp, List.nodup_cons] at hndc
 obtain ⟨fp', hrep', hperm⟩ := e6 _ v (Φ id2).fp (fun k hk => hwo k (fun e => hndc.1 (e ▸ hk))) (qn.mono τ2 (FH.le_refl H) (fun k hk => hwo k (fun e => hnb2 (e ▸ hk))) hrep2)
 have hmem : ∀ k, k ∈ fp' ↔ k ∈ (Φ id2).fp ∨ k ∈ fp0 := fun k => by rw [hperm.mem_iff, List.mem_append]
 have hobs : ∀ j o', ((((s.kill id2).setObj id2 none).kill id).setObj id none).obj j = some o' → j ≠ id ∧ j ≠ id2 ∧ s.obj j = some o' := by
  intro j o' hj
  rw [St.obj_setObj] at hj
  split at hj
  ·cases hj
  ·rename_i n1
   have hj : ((s.kill id2).setObj id2 none).obj j = some o' := hj
   rw [St.obj_setObj] at hj
   split at hj
   ·cases hj
   ·rename_i n2
    exact ⟨fun e => n1 e.symm, fun e => n2 e.symm, hj⟩
 have hb := hid.2 _ hbid
 have hs2 := ((hs.remove id2).remove id).away (b := (Φ id).b) ⟨hb.1, fun j o' hj => by
  obtain ⟨n1, _, n3⟩ := hobs j o' hj
  exact hs.disj id j _ o' (fun e => n1 e.symm) h1 n3 _ hbid, hb.2.1, hb.2.2⟩ hmw
 have hs3 := hs2.newObj (j7.refl _ _) (hC.pin id hlt) (row := false) (τ := τ') (x := z') (φ := ⟨(Φ id).b, (Φ id).hdr, (Φ id).b :: fp'⟩) (hs.pins.2 id)
  ⟨e5 hn hn2, by
   rw [List.nodup_cons, hperm.nodup_iff, List.nodup_append]
   refine ⟨fun hk => ?_, hnd2, hndc.2, fun k hk k' hk' e => ?_⟩
   ·rcases (hmem _).1 hk with hk | hk
    ·exact hnb2 hk
    ·exact hndc.1 hk
   ·subst e
    exact hs.disj id id2 _ _ hne h1 q1 k (by rw [hfp]; exact List.mem_cons_of_mem _ hk') hk, _, t, fp', hwb, hrep', rfl⟩
  (by
   intro k hk
   have hold : (k ∈ (Φ id).fp ∨ k ∈ (Φ id2).fp) := by
    rcases List.mem_cons.1 hk with rfl | hk
    ·exact .inl hbid
    ·rcases (hmem k).1 hk with hk | hk
     ·exact .inr hk
     ·exact .inl (by rw [hfp]; exact List.mem_cons_of_mem _ hk)
   rcases hold with hk | hk
   ·obtain ⟨g1, g2, g3⟩ := hid.2 k hk
    exact ⟨g1, g2, by rw [hsize]; exact g3, fun j o' hj hoj => by
     obtain ⟨n1, _, n3⟩ := hobs j o' hoj
     exact hs.disj id j _ o' (fun e => n1 e.symm) h1 n3 k hk⟩
   ·obtain ⟨g1, g2, g3⟩ := hid2.2 k hk
    exact ⟨g1, g2, by rw [hsize]; exact g3, fun j o' hj hoj => by
     obtain ⟨_, n2, n3⟩ := hobs j o' hoj
     exact hs.disj id2 j _ o' (fun e => n2 e.symm) q1 n3 k hk⟩)
 have hs4 := hs3.setAV (t := id) (av := .ptr id []) (by
  unfold qdY at c6
  split at c6
  case h_2 => cases c6
  rename_i j hj
  obtain rfl := Nat.eq_of_beq_eq_true c6
  obtain ⟨o', y', b', off', g1, g2, g3, g4, g5⟩ := hs.ts _ _ hj
  rw [h1] at g1
  cases g1
  obtain ⟨rfl, rfl⟩ := jT.det _ (show jT w τ (Φ j).b 0 [] b' off' from g4) (jV w τ (Φ j).b 0)
  refine ⟨⟨false, τ', z'⟩, ⟨τ', z'⟩, (Φ j).b, 0, ?_, rfl, qN _ _, ?_, g5⟩
  ·rw [St.newObj, St.obj_setObj, if_pos rfl]
  ·rw [qr]
   exact jV _ _ _ _)
 refine ⟨_, e4, qbL (w' := w.setRow (Φ id).b (d1 ++ [v] ++ d2).toArray) ?_ ⟨H, _, hs4.setDst (by rw [hC.nt]; exact hd) trivial⟩⟩
 rw [Nat.zero_add] at hv
 simp [execOp, hv, hvz, Instr.storeAt, Instr.sureAddr, hrun]
theorem op_reNil (hcfg : qA P cfg) (hC : qG C cfg) {T : TypeId} {x z : Operand} (hs : qk P C s a w H Φ) (hd : qQ cfg.nt dst = true) {av : AV} (he1 : qg P C w H Φ s.obj av (a.eval x)) (hvz : a.eval z = .slice none 0 0)
  (h : (qke s (lk cfg.ty T) av fun s => k (s.setDst dst .dead)) = some r) : ∃ s', k s' = some r ∧ qa4 P C ⟨dst, .store T x z, ty, pos, after, guard⟩ a w s' := by
 unfold qke at h
 split at h
 case h_2 => cases h
 rename_i id p o2 tid e _
 obtain ⟨o, y, b, off, h1, h2, h3, h4, hv⟩ := he1
 rw [h1] at h
 simp only at h
 cases hc : (!o.row && (Nat.blt id 10000000 && (qdY id (s.get id) && (e.noFn && decide (lk cfg.ty T = some (Ty.list true tid e).fz))))) with
 | false => rw [hc] at h; cases h
 | true =>
 rw [hc, cond_true] at h
 simp only [Bool.and_eq_true, Bool.not_eq_true', decide_eq_true_eq] at hc
 obtain ⟨c1, c4, c6, c8, c7⟩ := hc
 have hlt : id < 10000000 := Eq.mp Nat.blt_eq c4
 have hty : qR P T (Ty.list true tid e) := qR.unfz (hcfg.ty T _ c7).1
 obtain ⟨row, τ, xo⟩ := o
 simp only at c1 h
 subst c1
 have hid := hs.os id _ h1
 obtain ⟨hn, hnd, blk, t, fp0, hblk, hrep, hfp⟩ := hid.1
 have h4' : jT w τ (Φ id).b 0 p b off := h4
 obtain ⟨d1, u, d2, τ', z', e1, rfl, rfl, e4, e5, e6⟩ := qgR τ h hrep h4'
 have hrep2 : ∀ w' : World, qn P (.list true tid e) w' H ([] : List e.den) [Value.slice none 0 0] [] := fun w' => ⟨_, [], [], rfl, rfl, ⟨by simp, .inl ⟨rfl, rfl⟩⟩, rfl, rfl⟩
 have hbid : (Φ id).b ∈ (Φ id).fp := by rw [hfp]; exact List.mem_cons_self
 have hrun := qb7 hty hblk e1 (c' := [Value.slice none 0 0]) rfl rfl (qn.one (.list true tid e) (hrep2 w))
 have hwb : (w.setRow (Φ id).b (d1 ++ [Value.slice none 0 0] ++ d2).toArray).heap[(Φ id).b]? = some (.cells (d1 ++ [Value.slice none 0 0] ++ d2).toArray t (0, 0)) := setRow_heap w (Φ id).b blk _ t _ hblk
 have hwo : ∀ k, k ≠ (Φ id).b → (w.setRow (Φ id).b (d1 ++ [Value.slice none 0 0] ++ d2).toArray).heap[k]? = w.heap[k]? := fun k hk => setRow_other w (Φ id).b k _ hk
 have hsize : (w.setRow (Φ id).b (d1 ++ [Value.slice none 0 0] ++ d2).toArray).heap.size = w.heap.size := by simp [World.setRow]
 have hmw : j7 (fun k => k = (Φ id).b) w (w.setRow (Φ id).b (d1 ++ [Value.slice none 0 0] ++ d2).toArray) := ⟨rfl, rfl, rfl, by omega, fun k _ hM => hwo k hM⟩
 have hndc := hnd
 rw [hfp, List.nodup_cons] at hndc
 obtain ⟨fp', hrep', hperm⟩ := e6 _ (Value.slice none 0 0) [] (fun k hk => hwo k (fun e => hndc.1 (e ▸ hk))) (hrep2 _)
 have hmem : ∀ k, k ∈ fp' ↔ k ∈ fp0 := fun k => by rw [hperm.mem_iff, List.nil_append]
 have hobs : ∀ j o', ((s.kill id).setObj id none).obj j = some o' → j ≠ id ∧ s.obj j = some o' := by
  intro j o' hj
  rw [St.obj_setObj] at hj
  split at hj
  ·cases hj
  ·rename_i n1
   exact ⟨fun e => n1 e.symm, hj⟩
 have hb := hid.2 _ hbid
 have hs2 := (hs.remove id).away (b := (Φ id).b) ⟨hb.1, fun j o' hj => by
  obtain ⟨n1, n3⟩ := hobs j o' hj
  exact hs.disj id j _ o' (fun e => n1 e.symm) h1 n3 _ hbid, hb.2.1, hb.2.2⟩ hmw
 have hs3 := hs2.newObj (j7.refl _ _) (hC.pin id hlt) (row := false) (τ := τ') (x := z') (φ := ⟨(Φ id).b, (Φ id).hdr, (Φ id).b :: fp'⟩) (hs.pins.2 id)
  ⟨e5 hn (by simpa [Ty.noFn] using c8), by
   rw [List.nodup_cons, hperm.nodup_iff, List.nil_append]
   exact ⟨fun hk => hndc.1 ((hmem _).1 hk), hndc.2⟩, _, t, fp', hwb, hrep', rfl⟩
  (by
   intro k hk
   have hold : k ∈ (Φ id).fp := by
    rcases List.mem_cons.1 hk with rfl | hk
    ·exact hbid
    ·rw [hfp]; exact List.mem_cons_of_mem _ ((hmem k).1 hk)
   obtain ⟨g1, g2, g3⟩ := hid.2 k hold
   exact ⟨g1, g2, by rw [hsize]; exact g3, fun j o' hj hoj => by
    obtain ⟨n1, n3⟩ := hobs j o' hoj
    exact hs.disj id j _ o' (fun e => n1 e.symm) h1 n3 k hold⟩)
 have hs4 := hs3.setAV (t := id) (av := .ptr id []) (by
  unfold qdY at c6
  split at c6
  case h_2 => cases c6
  rename_i j hj
  obtain rfl := Nat.eq_of_beq_eq_true c6
  obtain ⟨o', y', b', off', g1, g2, g3, g4, g5⟩ := hs.ts _ _ hj
  rw [h1] at g1
  cases g1
  obtain ⟨rfl, rfl⟩ := jT.det _ (show jT w τ (Φ j).b 0 [] b' off' from g4) (jV w τ (Φ j).b 0)
  refine ⟨⟨false, τ', z'⟩, ⟨τ', z'⟩, (Φ j).b, 0, ?_, rfl, qN _ _, ?_, g5⟩
  ·rw [St.newObj, St.obj_setObj, if_pos rfl]
  ·rw [qr]
   exact jV _ _ _ _)
 refine ⟨_, e4, qbL (w' := w.setRow (Φ id).b (d1 ++ [Value.slice none 0 0] ++ d2).toArray) ?_ ⟨H, _, hs4.setDst (by rw [hC.nt]; exact hd) trivial⟩⟩
 rw [Nat.zero_add] at hv
 replace hrun : (storeVar T ⟨(Φ id).b, d1.length, none⟩ (Value.slice none 0 0)).run P w = .ok () (w.setRow (Φ id).b (d1 ++ [Value.slice none 0 0] ++ d2).toArray) := hrun
 simp [execOp, hv, hvz, Instr.storeAt, Instr.sureAddr, hrun]
theorem qk.frzFree (hs : qk P C s a w H Φ) {fp : List Nat} (hfp : ∀ b ∈ fp, qao C w H Φ s.obj b) : qk P C (s.killIf AV.isUpd) a w (frz w H fp) Φ := by
 have hle := qfw (w := w) (fun b hb => (hfp b hb).fz)
 refine ⟨hs.defers, hs.size, FH.le_trans hs.le hle, qlk hs.hok, ?_, hs.mod, ?_, ?_, hs.disj, hs.pins⟩
 ·intro b c hb
  rcases qi2 hb with hb | hb
  ·exact hs.hnew b c hb
  ·exact .inr (hfp b hb).may
 ·intro t av ht
  rw [St.get_killIf] at ht
  obtain ⟨av0, h0, rfl⟩ := Option.map_eq_some_iff.1 ht
  refine qg.transfer AV.isUpd hle ?_ ?_ ?_ av0 _ (hs.ts t av0 h0)
  ·intro j p v hf hr
   exact qg.ptr_stay (fun o ho => ho) rfl (fun o ho => ⟨(hs.os j o ho).1, fun _ _ => rfl⟩) hr
  ·intro j p v hf hr
   exact qg.view_stay (fun o ho => ho) rfl (fun o ho => ⟨(hs.os j o ho).1, fun _ _ => rfl⟩) hr
  ·intro j p t e l v hf; cases hf
 ·intro j o ho
  refine ⟨(hs.os j o ho).1.frame hle (fun _ _ => rfl), fun b hb => ⟨?_, ((hs.os j o ho).2 b hb).2⟩⟩
  unfold frz
  rw [if_neg (fun hh => (hfp b hh).obj j o ho hb)]
  exact ((hs.os j o ho).2 b hb).1
theorem op_take (hcfg : qA P cfg) (hC : qG C cfg) {T : TypeId} {x z : Operand} {t0 : Nat} (hs : qk P C s a w H Φ) (hd : qQ cfg.nt dst = true) {av : AV} (he1 : qg P C w H Φ s.obj av (a.eval x)) (hvz : a.eval z = .slice none 0 0)
  (h : (qet s (lk cfg.ty T) av t0 fun s => k (s.setDst dst .dead)) = some r) : ∃ s', k s' = some r ∧ qa4 P C ⟨dst, .store T x z, ty, pos, after, guard⟩ a w s' := by
 unfold qet at h
 split at h
 case h_2 => cases h
 rename_i id p id' p' hg0
 obtain ⟨o, y, b, off, h1, h2, h3, h4, hv⟩ := he1
 rw [h1] at h
 simp only at h
 cases hid : Nat.beq id id' with
 | false => rw [hid] at h; cases h
 | true =>
 rw [hid, cond_true] at h
 obtain rfl := Nat.eq_of_beq_eq_true hid
 replace h := qcl h
 obtain ⟨rfl, h⟩ := h
 rw [jJ, h3] at h
 obtain ⟨σ, y⟩ := y
 simp only [Option.bind_some] at h
 split at h
 case h_2 => cases h
 rename_i tid e l
 cases hT : e.isFz && (e.noFn && decide (lk cfg.ty T = some (.list false tid e))) with
 | false => rw [hT] at h; cases h
 | true =>
 rw [hT, cond_true, qah] at h
 simp only [Bool.and_eq_true, decide_eq_true_eq] at hT
 obtain ⟨hef, hnf, hT⟩ := hT
 replace h := Option.bind_eq_some_iff.1 h
 obtain ⟨x', hx, h⟩ := h
 have hty : qR P T (.list true tid e) := qR.unfz (τ := .list true tid e) (by simpa [Ty.fz, Ty.fz_of_isFz e hef] using (hcfg.ty T _ hT).1)
 obtain ⟨w', φ, hrun, hsim, k1, k2⟩ := hs.storeAt h1 h2 h3 h4 hty (y' := ([] : List e.den)) (c' := [.slice none 0 0]) (f' := []) ⟨.slice none 0 0, [], [], rfl, rfl, World.ownsRow_nil w 0 tid e.size, rfl, rfl⟩ List.nodup_nil (by simp) hx
 obtain ⟨cs, fp, hvv, hrep, hsub, _⟩ := qa5 (hs.ts t0 _ hg0) h1 (hs.os id o h1).1 h3
 replace hrep : qn P (.list true tid e) w H l cs fp := hrep
 replace hvv : a.tmps.getD t0 undef = jY (.list true tid e) cs := hvv
 obtain ⟨hdr, xs, fp', rfl, rfl, how, hch⟩ := hrep
 have hf0 := qe.fp_nil (fun _ _ _ hh => qn.fz_fp e hef hh) hch
 subst hf0
 have hinp : ∀ g, hdr.ownBlock = some g → qbY P w H o (Φ id) p g := by
  intro g hg
  unfold qbY
  rw [h2]
  obtain ⟨o', y', q1, q2, q3⟩ := hs.ts t0 _ hg0
  rw [h1] at q1
  cases q1
  rw [h3] at q2
  cases q2
  rw [h2] at q3
  obtain ⟨b2, off2, blk, t, q4, q5, q6⟩ := q3
  obtain ⟨rfl, rfl⟩ := j1.det h4 q4
  obtain ⟨b', o', blk', t', pre', c, post', f1, f, f2, e1, e2, e3, e4, e5, e6, hl', _⟩ := (hs.os id o h1).1.desc2 h3 ⟨w, _, _, h4⟩ h2
  obtain ⟨rfl, rfl⟩ := j1.det h4 (hl' w (fun _ _ => rfl))
  have hsg := qV e2 (qn.length _ e6)
  rw [e3] at hsg
  refine ⟨_, b, off, _, t', f, h3, h4, e1, by simp only [hsg]; exact e6, ?_⟩
  rw [e1] at q5
  cases q5
  have hc : c = [hdr] := by
   have hlc := qn.length _ e6
   match c, hlc with
   | [u], _ =>
    have e9 : jY (.list true tid e) [u] = jY (.list true tid e) [hdr] := by
     rw [← hvv, q6]
     exact (congrArg (jY (.list true tid e)) hsg).symm
    have : u = hdr := e9
    rw [this]
  subst hc
  rw [qn.fp_det _ e6 ⟨hdr, xs, [], rfl, rfl, how, hch⟩, hg]
  simp
 have hfree : ∀ g ∈ hdr.ownBlock.toList, qao C w' H (qax Φ id φ) ((s.killIf (AV.staleP id o.row o.τ p)).setObj id (some ⟨o.row, o.τ, x'⟩)).obj g := by
  intro g hg
  have hg' : hdr.ownBlock = some g := by simpa using hg
  have hi := hinp g hg'
  have hin : g ∈ (Φ id).fp := qbY.fp (hs.os id o h1).1 hi
  obtain ⟨p1, p2, p3⟩ := (hs.os id o h1).2 g hin
  refine ⟨p1, fun j o' hj hbj => ?_, p2, by
   have := (k2 g hi)
   obtain ⟨c, t, f, e⟩ := (hs.os id o h1).1.cells g hin
   rw [e] at this
   exact (Array.getElem?_eq_some_iff.1 this).1⟩
  rw [St.obj_setObj] at hj
  split at hj
  ·rename_i e1
   subst e1
   rw [qr] at hbj
   rcases k1 g hbj with hb | ⟨_, hb⟩
   ·cases hb
   ·exact hb hi
  ·rename_i e1
   rw [qZ _ _ (fun e => e1 e.symm)] at hbj
   exact hs.disj id j o o' e1 h1 hj g hin hbj
 have hs3 := hsim.frzFree hfree
 have hval : qg P C w' (frz w' H hdr.ownBlock.toList) (qax Φ id φ) ((((s.killIf (AV.staleP id o.row o.τ p)).setObj id (some ⟨o.row, o.τ, x'⟩))).killIf AV.isUpd).obj (.val (.list false tid e) l) (a.tmps.getD t0 undef) := by
  refine ⟨by simp [Ty.isFz, hef], [hdr], hvv, ?_⟩
  rcases how.2 with ⟨rfl, h0⟩ | ⟨g, cap, cur, rfl, _, hg, hcap, _, hsz, htake⟩
  ·exact ⟨rfl, none, 0, by rw [h0], by rw [h0]; exact Nat.le_refl _, .inl (List.length_eq_zero_iff.1 h0)⟩
  ·refine ⟨rfl, some ⟨g, 0, none⟩, cap, rfl, hcap, .inr ⟨g, 0, cur, rfl, ?_, ?_⟩⟩
   ·refine qkG g (by simp [Value.ownBlock]) cur tid (0, 0) ?_
    rw [k2 g (hinp g rfl)]
    exact hg
   ·rw [qcM, htake]
    exact qe.mono_fp (Q := fun _ => False) (fun _ _ _ hf hh => qn.mono e (qfw fun b hb => (hfree b hb).fz) (fun k hk => (hf k hk).elim) hh) (by simp) hch
 have hs4 := hs3.setAV (t := t0) hval
 have hrun' : (Instr.storeAt T (.pointer (some ⟨b, off, none⟩)) (.slice none 0 0)).run P w = .ok () w' := hrun
 refine ⟨_, h, qbL (w' := w') ?_ ⟨_, _, hs4.setDst (by rw [hC.nt]; exact hd) trivial⟩⟩
 simp [execOp, hv, hvz, hrun']
theorem qlF (hcfg : qA P cfg) (hC : qG C cfg) {T : TypeId} {x z : Operand} (hs : qk P C s a w H Φ) (hd : qQ cfg.nt dst = true) (h : qiC cfg s dst T x z k = some r) :
  ∃ s', k s' = some r ∧ qa4 P C ⟨dst, .store T x z, ty, pos, after, guard⟩ a w s' := by
 unfold qiC at h
 split at h
 case h_2 => cases h
 rename_i av bv he1 he2
 have hr := qo hs qD he1
 have hr2 := qo hs (hcfg.fz T) he2
 cases hre : reHint cfg x with
 | true =>
  rw [hre, cond_true] at h
  cases hn0 : qb9 z with
  | true =>
   rw [hn0, cond_true] at h
   have hzv : a.eval z = .slice none 0 0 := by
    unfold qb9 at hn0
    split at hn0
    ·rfl
    ·cases hn0
   exact op_reNil hcfg hC hs hd hr hzv h
  | false =>
   rw [hn0, cond_false] at h
   exact qkj hcfg hC hs hd hr hr2 h
 | false =>
 rw [hre, cond_false] at h
 cases hnil : qb9 z && qjv s av with
 | true =>
  rw [hnil, cond_true] at h
  rw [Bool.and_eq_true] at hnil
  have hzv : a.eval z = .slice none 0 0 := by
   have := hnil.1
   unfold qb9 at this
   split at this
   ·rfl
   ·cases this
  split at h
  ·exact op_take hcfg hC hs hd hr hzv h
  unfold qh1 at h
  split at h
  case h_2 => cases h
  rename_i id p
  obtain ⟨o, y, b, off, h1, h2, h3, h4, hv⟩ := hr
  rw [h1] at h
  have hyt := jQ _ h3
  simp only [hyt] at h
  obtain ⟨σ, y⟩ := y
  simp only at h hyt
  split at h
  case h_2 => cases h
  rename_i tid e hσ
  cases hσ
  cases hT : decide (lk cfg.ty T = some (.list false tid e.fz)) with
  | false => rw [hT] at h; cases h
  | true =>
  rw [hT, cond_true, qah] at h
  replace h := Option.bind_eq_some_iff.1 h
  obtain ⟨x', hx, h⟩ := h
  have hty := qR.unfz (τ := .list true tid e) (hcfg.ty T _ (of_decide_eq_true hT)).1
  obtain ⟨w', φ, hrun, hsim, _⟩ := hs.storeAt h1 h2 h3 h4 hty (y' := ([] : List e.den)) (c' := [.slice none 0 0]) (f' := []) ⟨.slice none 0 0, [], [], rfl, rfl, World.ownsRow_nil w 0 tid e.size, rfl, rfl⟩ List.nodup_nil (by simp) hx
  have hrun' : (Instr.storeAt T (.pointer (some ⟨b, off, none⟩)) (.slice none 0 0)).run P w = .ok () w' := hrun
  refine ⟨_, h, qbL (w' := w') ?_ ⟨H, _, hsim.setDst (by rw [hC.nt]; exact hd) trivial⟩⟩
  simp [execOp, hv, hzv, hrun']
 | false =>
 rw [hnil, cond_false] at h
 unfold storeK at h
 split at h
 case h_2 => cases h
 rename_i id p
 obtain ⟨o, y, b, off, h1, h2, h3, h4, hv⟩ := hr
 rw [h1] at h
 have hyt := jQ _ h3
 simp only [h2, cond_false, hyt] at h
 obtain ⟨σ, y⟩ := y
 simp only at h hyt
 cases hT : decide (lk cfg.ty T = some σ.fz) with
 | false => rw [hT] at h; cases h
 | true =>
 rw [hT, cond_true] at h
 have hty := qR.unfz (hcfg.ty T _ (of_decide_eq_true hT)).1
 have fin : ∀ {s2 : St} {H2 : FH} {v : Value} (hs2 : qk P C s2 a w H2 Φ) (ho : s2.obj id = some o) {τ : Ty} {y' : τ.den} {c' : List Value} {f' : List Nat}, qn P τ w H2 y' c' f' → v = jY τ c' → f'.Nodup →
   (∀ k ∈ f', H2 k = none ∧ (C.M0 k ∨ C.w0.heap.size ≤ k) ∧ k < w.heap.size ∧ (∀ j o', j ≠ id → s2.obj j = some o' → k ∉ (Φ j).fp) ∧ (k ∈ (Φ id).fp → qbY P w H2 o (Φ id) p k)) →
   ∀ {x'}, j5 o.τ o.x p τ y' = some x' → a.eval z = v →
   qa4 P C ⟨dst, .store T x z, ty, pos, after, guard⟩ a w (((s2.killIf (AV.staleP id o.row o.τ p)).setObj id (some ⟨o.row, o.τ, x'⟩)).setDst dst .dead) := by
  intro s2 H2 v hs2 ho τ y' c' f' hrep hv' hnd hf x' hx hz
  have := qbG _ hx
  rw [hyt] at this
  cases this
  obtain ⟨w', φ, hrun, hsim, _⟩ := hs2.storeAt ho h2 h3 h4 hty hrep hnd hf hx
  refine qbL (w' := w') ?_ ⟨H2, _, hsim.setDst (by rw [hC.nt]; exact hd) trivial⟩
  simp [execOp, hv, hz, hv', hrun]
 split at h
 ·-- a pending row
  rename_i id' p' tid e l
  cases hid : Nat.beq id id' with
  | false => rw [hid] at h; cases h
  | true =>
  rw [hid, cond_true] at h
  obtain rfl := Nat.eq_of_beq_eq_true hid
  replace h := qcl h
  obtain ⟨rfl, h⟩ := h
  rw [qah] at h
  replace h := Option.bind_eq_some_iff.1 h
  obtain ⟨x', hx, h⟩ := h
  obtain ⟨o', q1, q3, q4, fp, q0, q5, q6⟩ := hr2
  rw [h1] at q1
  cases q1
  refine ⟨_, h, fin hs h1 q5 rfl q0 ?_ hx rfl⟩
  intro b2 hb2
  obtain ⟨hlt, hh⟩ := q6 b2 hb2
  rcases hh with hh | k1
  ·exact ⟨hh.fz, hh.may, hlt, fun j o' _ hj => hh.obj j o' hj, fun hk => absurd hk (hh.obj id o h1)⟩
  ·have hb2' : b2 ∈ (Φ id).fp := qbY.fp (hs.os id o h1).1 k1
   obtain ⟨g1, g2, g3⟩ := (hs.os id o h1).2 b2 hb2'
   exact ⟨g1, g2, g3, fun j o' hj hoj => hs.disj id j o o' (fun e => hj e.symm) h1 hoj b2 hb2', fun _ => k1⟩
 ·-- a row
  rename_i id2
  cases hid : Nat.beq id id2 with
  | true => rw [hid] at h; cases h
  | false =>
  rw [hid, cond_false] at h
  have hne := Nat.ne_of_beq_eq_false hid
  split at h
  case h_2 => cases h
  rename_i o2 ho2
  cases hrow : o2.row with
  | false => rw [hrow] at h; cases h
  | true =>
  rw [hrow, cond_true] at h
  obtain ⟨o2', y2, q1, q2, q3⟩ := hr2
  rw [ho2] at q1
  cases q1
  rw [hrow] at q3
  simp only [List.isEmpty_nil, Bool.and_self] at q3
  obtain ⟨hn2, hnd2, g3⟩ := (hs.os id2 o2 ho2).1
  rw [hrow] at g3
  obtain ⟨_, cs2, hcs2, hrep2⟩ := g3
  cases hfz : σ.isFz with
  | true =>
   rw [hfz, cond_true] at h
   simp only [qah] at h
   replace h := Option.bind_eq_some_iff.1 h
   obtain ⟨x', hx, h⟩ := h
   obtain ⟨H', hle, hnew, hin, hs2⟩ := hs.freeze id2
   have hob : (s.freeze id2).obj id = some o := by
    unfold St.freeze
    rw [ho2]
    show (St.setObj s id2 none).obj id = some o
    rw [St.obj_setObj, if_neg (fun e => hne e.symm)]
    exact h1
   refine ⟨_, h, fin hs2 hob (qn.freeze o2.τ hn2 w hle (hin o2 ho2) hrep2 _) ?_ (by simp) (by simp) hx q3⟩
   rw [qgs]; exact hcs2
  | false =>
   rw [hfz, cond_false, qah] at h
   replace h := Option.bind_eq_some_iff.1 h
   obtain ⟨x', hx, h⟩ := h
   have hs2 := hs.remove id2
   have hob : ((s.kill id2).setObj id2 none).obj id = some o := by
    rw [St.obj_setObj, if_neg (fun e => hne e.symm)]
    exact h1
   refine ⟨_, h, fin hs2 hob hrep2 ?_ hnd2 ?_ hx q3⟩
   ·exact hcs2
   ·intro k hk
    obtain ⟨k1, k2, k3⟩ := (hs.os id2 o2 ho2).2 k hk
    refine ⟨k1, k2, k3, fun j o' hj hoj => ?_, fun hk2 => absurd hk2 (hs.disj id2 id o2 o (fun e => hne e.symm) ho2 h1 k hk)⟩
    rw [St.obj_setObj] at hoj
    split at hoj
    ·cases hoj
    ·rename_i e
     exact hs.disj id2 j o2 o' e ho2 hoj k hk
 ·-- a value
  rename_i τ y'
  cases hf : τ.isFz with
  | false => rw [hf] at h; cases h
  | true =>
  rw [hf, cond_true, qah] at h
  replace h := Option.bind_eq_some_iff.1 h
  obtain ⟨x', hx, h⟩ := h
  obtain ⟨_, cs, hv2, hrep⟩ := hr2
  exact ⟨_, h, fin hs h1 hrep rfl (by simp) (by simp) hx hv2⟩
 ·rename_i τ y'
  cases hf : τ.isFz with
  | false => rw [hf] at h; cases h
  | true =>
  rw [hf, cond_true, qah] at h
  replace h := Option.bind_eq_some_iff.1 h
  obtain ⟨x', hx, h⟩ := h
  obtain ⟨_, b2, o2, blk, hv2, hH, hrep⟩ := hr2
  have hrep' : qn P (.ptr τ) w H (some y') [.pointer (some ⟨b2, o2, none⟩)] [] := ⟨rfl, b2, o2, blk, rfl, hH, hrep⟩
  exact ⟨_, h, fin hs h1 hrep' rfl (by simp) (by simp) hx hv2⟩
 ·cases h
theorem qbZ : ∀ {p q : List qs}, qS p q = true → p.any qs.isI = false
 | [], _, _ => rfl
 | .L :: p, .L :: q, h => by simpa [qs.isI] using qbZ (p := p) (q := q) (by simpa [qS, qs.same] using h)
 | .R :: p, .R :: q, h => by simpa [qs.isI] using qbZ (p := p) (q := q) (by simpa [qS, qs.same] using h)
 | .L :: _, .R :: _, h => by simp [qS, qs.same] at h
 | .L :: _, .I _ :: _, h => by simp [qS, qs.same] at h
 | .R :: _, .L :: _, h => by simp [qS, qs.same] at h
 | .R :: _, .I _ :: _, h => by simp [qS, qs.same] at h
 | .I _ :: _, .L :: _, h => by simp [qS, qs.same] at h
 | .I _ :: _, .R :: _, h => by simp [qS, qs.same] at h
 | .I _ :: _, .I _ :: _, h => by simp [qS, qs.same] at h
 | _ :: _, [], h => by simp [qS] at h
theorem qbq : ∀ {p q : List qs}, qS p q = true → p = q
 | [], [], _ => rfl
 | .L :: p, .L :: q, h => by rw [qbq (p := p) (q := q) (by simpa [qS, qs.same] using h)]
 | .R :: p, .R :: q, h => by rw [qbq (p := p) (q := q) (by simpa [qS, qs.same] using h)]
 | .L :: _, .R :: _, h => by simp [qS, qs.same] at h
 | .L :: _, .I _ :: _, h => by simp [qS, qs.same] at h
 | .R :: _, .L :: _, h => by simp [qS, qs.same] at h
 | .R :: _, .I _ :: _, h => by simp [qS, qs.same] at h
 | .I _ :: _, .L :: _, h => by simp [qS, qs.same] at h
 | .I _ :: _, .R :: _, h => by simp [qS, qs.same] at h
 | .I _ :: _, .I _ :: _, h => by simp [qS, qs.same] at h
 | [], _ :: _, h => by simp [qS] at h
 | _ :: _, [], h => by simp [qS] at h
theorem setRow_self {w : World} {b : Nat} {blk : Array Value} {t : TypeId} {f : Nat × Nat} (h : w.heap[b]? = some (.cells blk t f)) : w.setRow b blk = w := by
 obtain ⟨hlt, he⟩ := Array.getElem?_eq_some_iff.1 h
 have e : (w.setRow b blk).heap = w.heap := by
  unfold World.setRow
  apply Array.ext
  ·simp
  ·intro i h1 h2
   simp only [Array.getElem_modify]
   split
   ·rename_i hbi
    subst hbi
    rw [he]
   ·rfl
 calc w.setRow b blk = { w with heap := (w.setRow b blk).heap } := rfl
  _ = w := by rw [e]
theorem op_self (hcfg : qA P cfg) (hC : qG C cfg) {T : TypeId} {x z : Operand} {id : Nat} {p : List qs} (hs : qk P C s a w H Φ) (hd : qQ cfg.nt dst = true) (hself : qgF s x z = some (id, p)) (h : selfK s (lk cfg.ty T) id p (fun s => k (s.setDst dst .dead)) = some r) :
  ∃ s', k s' = some r ∧ qa4 P C ⟨dst, .store T x z, ty, pos, after, guard⟩ a w s' := by
 unfold qgF at hself
 split at hself
 case h_2 => cases hself
 rename_i id1 p1 id2 q he1 he2
 cases hq : Nat.beq id1 id2 && qS p1 q with
 | false => rw [hq] at hself; cases hself
 | true =>
 rw [hq, cond_true] at hself
 cases hself
 rw [Bool.and_eq_true] at hq
 obtain rfl := Nat.eq_of_beq_eq_true hq.1
 obtain rfl := qbq hq.2
 obtain ⟨o, y, b, off, h1, h2, h3, h4, hv⟩ := qo hs qD he1
 obtain ⟨o', y', k1, k2, k3⟩ := qo hs qD he2
 rw [h1] at k1
 cases k1
 rw [h3] at k2
 cases k2
 rw [h2] at k3
 obtain ⟨b', off', blk, t, k4, k5, k6⟩ := k3
 obtain ⟨rfl, rfl⟩ := j1.det h4 k4
 unfold selfK at h
 rw [h1] at h
 have hyt := jQ _ h3
 simp only [h2, cond_false, hyt] at h
 obtain ⟨σ, y⟩ := y
 simp only at h hyt k6
 split at h
 case h_3 => cases h
 case h_2 =>
  rename_i τ hne hσ
  cases hσ
  cases hT : decide (lk cfg.ty T = some σ.fz) with
  | false => rw [hT] at h; cases h
  | true =>
  rw [hT, cond_true] at h
  have hty := qR.unfz (τ := σ) (hcfg.ty T _ (of_decide_eq_true hT)).1
  obtain ⟨b', o', blk', t', pre', c, post', f1, f, f2, e1, e2, e3, e4, e5, e6, hl', _⟩ := (hs.os id o h1).1.desc2 h3 ⟨w, _, _, h4⟩ h2
  obtain ⟨rfl, rfl⟩ := j1.det h4 (hl' w (fun _ _ => rfl))
  rw [k5] at e1
  cases e1
  have hlen := qn.length _ e6
  have hseg : seg blk off σ.size = c := by rw [← e3]; exact qV e2 hlen
  have hzv : a.eval z = jY σ c := by rw [k6, hseg]
  have hrun := qb7 hty k5 e2 hlen hlen (qn.one _ e6)
  rw [← e2, Array.toArray_toList, e3, setRow_self k5] at hrun
  have hrun' : (Instr.storeAt T (.pointer (some ⟨b, off, none⟩)) (jY σ c)).run P w = .ok () w := hrun
  refine ⟨_, h, qbL (w' := w) ?_ ⟨H, _, hs.setDst (by rw [hC.nt]; exact hd) trivial⟩⟩
  simp [execOp, hv, hzv, hrun']
 rename_i tid e hσ
 cases hσ
 cases hT : e.isFz && decide (lk cfg.ty T = some (.list false tid e.fz)) with
 | false => rw [hT] at h; cases h
 | true =>
 rw [hT, cond_true, jJ, h3] at h
 rw [Bool.and_eq_true] at hT
 simp only [Option.bind_some, qah] at h
 replace h := Option.bind_eq_some_iff.1 h
 obtain ⟨x', hx, h⟩ := h
 have hty := qR.unfz (τ := .list true tid e) (hcfg.ty T _ (of_decide_eq_true hT.2)).1
 obtain ⟨b', o', blk', t', pre', c, post', f1, f, f2, e1, e2, e3, e4, e5, e6, hl', _⟩ := (hs.os id o h1).1.desc2 h3 ⟨w, _, _, h4⟩ h2
 obtain ⟨rfl, rfl⟩ := j1.det h4 (hl' w (fun _ _ => rfl))
 rw [k5] at e1
 cases e1
 obtain ⟨hdr, xs, fp', rfl, hf, ho, hch⟩ := e6
 have hf0 := qe.fp_nil (fun _ _ _ hh => qn.fz_fp e hT.1 hh) hch
 subst hf0
 rw [List.append_nil] at hf
 subst hf
 have hrep : qn P (.list true tid e) w H y [hdr] hdr.ownBlock.toList := ⟨hdr, xs, [], rfl, by simp, ho, hch⟩
 have hseg : seg blk off (Ty.list true tid e).size = [hdr] := by rw [← e3]; exact qV e2 rfl
 have hzv : a.eval z = hdr := by rw [k6, hseg]; rfl
 have hcell : w.cell? ⟨b, off, none⟩ = some hdr := by
  rw [qz k5, ← Array.getElem?_toList, e2, ← e3]
  simp
 obtain ⟨w', φ, hrun, hsim, _⟩ := hs.storeAt h1 h2 h3 h4 hty (y' := y) (c' := [hdr]) hrep (by cases hdr.ownBlock <;> simp) (by
  intro k hk
  have hk' : k ∈ (Φ id).fp := by rw [e4]; simp [hk]
  obtain ⟨g1, g2, g3⟩ := (hs.os id o h1).2 k hk'
  exact ⟨g1, g2, g3, fun j o' hj hoj => hs.disj id j o o' (fun e => hj e.symm) h1 hoj k hk', fun _ => by
   unfold qbY
   rw [h2]
   exact ⟨⟨.list true tid e, y⟩, b, off, _, _, hdr.ownBlock.toList, h3, h4, k5, by simp only [hseg]; exact hrep, hk⟩⟩) hx
 have hrun' : (Instr.storeAt T (.pointer (some ⟨b, off, none⟩)) hdr).run P w = .ok () w' := hrun
 refine ⟨_, h, qbL (w' := w') ?_ ⟨H, _, hsim.setDst (by rw [hC.nt]; exact hd) trivial⟩⟩
 simp [execOp, hv, hzv, hrun']
theorem op_store (hcfg : qA P cfg) (hC : qG C cfg) {T : TypeId} {x z : Operand} (hs : qk P C s a w H Φ) (hd : qQ cfg.nt dst = true) (h : qO cfg ⟨dst, .store T x z, ty, pos, after, guard⟩ s k = some r) :
  ∃ s', k s' = some r ∧ qa4 P C ⟨dst, .store T x z, ty, pos, after, guard⟩ a w s' := by
 simp only [qO] at h
 split at h
 ·rename_i id p hself
  exact op_self hcfg hC hs hd hself h
 ·obtain ⟨H', hs'⟩ := hs.frzOp z
  exact qlF hcfg hC hs' hd h
end
end Go.Vi
namespace Go.Vi
section
variable {P : Program} {C : Ctx} {cfg : jM} {R : Type} {r : R} {s : St} {a : Act} {w : World} {H : FH} {Φ : Nat → qC} {dst : Option Nat} {ty : TypeId} {pos : String} {after : Array Edge} {guard : Option (Nat × Bool)} {k : St → Option R}
def qcc (css : List (List Value)) : List (Nat × Value) → List (List Value)
 | [] => css
 | (i, v) :: r => qcc (css.set i v.cells.toList) r
theorem qfY {α : Type} : ∀ (css : List (List α)) (i : Nat) (c d : List α), css[i]? = some c → ∃ pre post, css.flatten = pre ++ c ++ post ∧ (css.set i d).flatten = pre ++ d ++ post ∧ pre.length = ((css.take i).map List.length).sum
 | [], i, c, d, h => by simp at h
 | x :: css, 0, c, d, h => by
  simp only [List.getElem?_cons_zero, Option.some.injEq] at h
  subst h
  exact ⟨[], css.flatten, by simp, by simp, by simp⟩
 | x :: css, i + 1, c, d, h => by
  obtain ⟨pre, post, e1, e2, e3⟩ := qfY css i c d (by simpa using h)
  exact ⟨x ++ pre, post, by simp [e1], by simp [e2], by simp [e3]⟩
theorem qhl (pre mid post : List Value) (l : Array Value) (cells : Array Value) (h : cells.toList = pre ++ mid ++ post) (hl : l.size = mid.length) :
  (l.zipIdx.foldl (fun cs (x : Value × Nat) => cs.setIfInBounds (pre.length + x.2) x.1) cells).toList = pre ++ l.toList ++ post := by
 rw [← Array.foldl_toList, Array.toList_zipIdx]
 obtain ⟨h1, h2⟩ := Great.foldl_set pre.length l.toList 0 cells
 have hsz : cells.size = pre.length + mid.length + post.length := by rw [← Array.length_toList, h]; simp [Nat.add_assoc]
 apply List.ext_getElem?
 intro k
 rw [Array.getElem?_toList, h2 k, ← Array.getElem?_toList, h]
 simp only [Nat.add_zero, Array.length_toList]
 by_cases hk : pre.length ≤ k ∧ k < pre.length + l.size ∧ k < cells.size
 ·rw [if_pos hk, List.append_assoc, List.getElem?_append_right hk.1, List.getElem?_append_left (by rw [Array.length_toList (xs := l)]; omega)]
 ·rw [if_neg hk]
  by_cases hk1 : k < pre.length
  ·rw [List.append_assoc, List.append_assoc, List.getElem?_append_left hk1, List.getElem?_append_left hk1]
  ·rw [List.getElem?_append_right (by simp; omega), List.getElem?_append_right (by simp; omega)]
   simp [hl]
theorem qf1 (place : Nat → Option (Nat × Nat)) (szs : List Nat) (hplace : ∀ i n, szs[i]? = some n → place i = some ((szs.take i).sum, n)) :
  ∀ (parts : List (Nat × Value)) (css : List (List Value)) (cells : Array Value), css.map List.length = szs → cells.toList = css.flatten → (∀ x ∈ parts, szs[x.1]? = some x.2.cells.size) →
   ∃ cells', Instr.fill place cells parts = some cells' ∧ cells'.toList = (qcc css parts).flatten
 | [], css, cells, _, h, _ => ⟨cells, rfl, h⟩
 | (i, v) :: rest, css, cells, hs, h, hp => by
  have hi := hp (i, v) List.mem_cons_self
  simp only at hi
  have hc : ∃ c, css[i]? = some c ∧ c.length = v.cells.size := by
   rw [← hs, List.getElem?_map] at hi
   obtain ⟨c, h1, h2⟩ := Option.map_eq_some_iff.1 hi
   exact ⟨c, h1, h2⟩
  obtain ⟨c, hc, hl⟩ := hc
  obtain ⟨pre, post, e1, e2, e3⟩ := qfY css i c v.cells.toList hc
  have hpre : pre.length = (szs.take i).sum := by rw [e3, ← hs, List.map_take]
  have hfold := qhl pre c post v.cells cells (by rw [h, e1]) hl.symm
  have hsz : cells.size = pre.length + c.length + post.length := by rw [← Array.length_toList, h, e1]; simp [Nat.add_assoc]
  unfold Instr.fill
  rw [hplace i _ hi]
  simp only
  rw [if_neg (by simp; omega), ← hpre]
  refine qf1 place szs hplace rest (css.set i v.cells.toList) _ ?_ (by rw [e2]; exact hfold) (fun x hx => hp x (List.mem_cons_of_mem _ hx))
  rw [List.map_set, Array.length_toList, ← hs]
  apply List.ext_getElem?
  intro j
  rw [List.getElem?_set]
  split
  ·rename_i e
   subst e
   split
   ·rw [List.getElem?_map, hc, Option.map_some, hl]
   ·rename_i hn
    simp only [List.length_map, Nat.not_lt] at hn
    rw [List.getElem?_eq_none (by simpa using hn)]
  ·rfl
theorem qaD {n : Nat} : ∀ {l : List Nat}, qap n l = true ↔ n ∈ l
 | [] => by simp [qap]
 | m :: r => by
  simp only [qap, Bool.or_eq_true, List.mem_cons, qaD (l := r)]
  constructor
  ·rintro (h | h)
   ·exact .inl (Nat.eq_of_beq_eq_true h).symm
   ·exact .inr h
  ·rintro (h | h)
   ·subst h; exact .inl (Nat.beq_refl _)
   ·exact .inr h
theorem qbW : ∀ {l r : List Nat}, apart l r = true → l.Nodup ∧ ∀ x ∈ l, x ∉ r
 | [], _, _ => by simp
 | m :: l, r, h => by
  simp only [apart, Bool.and_eq_true, Bool.not_eq_true'] at h
  obtain ⟨⟨h1, h2⟩, h3⟩ := h
  obtain ⟨h4, h5⟩ := qbW h3
  have h1' : m ∉ l := fun hm => by rw [qaD.2 hm] at h1; cases h1
  have h2' : m ∉ r := fun hm => by rw [qaD.2 hm] at h2; cases h2
  refine ⟨List.nodup_cons.2 ⟨h1', h4⟩, ?_⟩
  intro x hx
  rcases List.mem_cons.1 hx with rfl | hx
  ·exact h2'
  ·exact h5 x hx
theorem jD {α : Type} (m n : Nat) (a : α) (r : List (Nat × α)) : lk ((m, a) :: r) n = bif Nat.beq m n then some a else lk r n := rfl
theorem qde {α : Type} {n : Nat} : ∀ {l : List (Nat × α)}, n ∉ l.map (·.1) → lk l n = none
 | [], _ => rfl
 | (m, a) :: l, h => by
  simp only [List.map_cons, List.mem_cons, not_or] at h
  unfold lk
  have : Nat.beq m n = false := by
   cases hb : Nat.beq m n with
   | false => rfl
   | true => exact absurd (Nat.eq_of_beq_eq_true hb).symm h.1
  rw [this]
  exact qde h.2
theorem qee : ∀ (parts : List (Nat × Value)) (css : List (List Value)), (parts.map (·.1)).Nodup → ∀ i, i < css.length → (qcc css parts)[i]? = match lk parts i with | some v => some v.cells.toList | none => css[i]?
 | [], css, _, i, _ => rfl
 | (j, v) :: rest, css, hnd, i, hi => by
  simp only [List.map_cons, List.nodup_cons] at hnd
  unfold qcc
  rw [qee rest _ hnd.2 i (by simpa using hi)]
  rw [jD]
  cases hb : Nat.beq j i with
  | true =>
   obtain rfl := Nat.eq_of_beq_eq_true hb
   rw [qde hnd.1]
   simp [hi]
  | false =>
   have := Nat.ne_of_beq_eq_false hb
   simp [List.getElem?_set_ne this]
theorem qcL : ∀ (parts : List (Nat × Value)) (css : List (List Value)), (qcc css parts).length = css.length
 | [], _ => rfl
 | (j, v) :: rest, css => by unfold qcc; rw [qcL rest]; simp
theorem qdm (place : Nat → Option (Nat × Nat)) (parts : List (Nat × Value)) (zs css : List (List Value)) (cells : Array Value) (hplace : ∀ i z, zs[i]? = some z → place i = some (((zs.take i).map List.length).sum, z.length)) (hcells : cells.toList = zs.flatten)
  (hnd : (parts.map (·.1)).Nodup) (hin : ∀ x ∈ parts, x.1 < zs.length) (hlen : css.length = zs.length) (hcs : ∀ i c, css[i]? = some c → (∀ z, zs[i]? = some z → c.length = z.length) ∧ match lk parts i with | some v => v.cells.toList = c | none => zs[i]? = some c) :
  ∃ cells', Instr.fill place cells parts = some cells' ∧ cells'.toList = css.flatten := by
 have hlk : ∀ {l : List (Nat × Value)}, (l.map (·.1)).Nodup → ∀ x ∈ l, lk l x.1 = some x.2 := by
  intro l
  induction l with
  | nil => intro _ x hx; cases hx
  | cons y l ih =>
   intro hnd x hx
   simp only [List.map_cons, List.nodup_cons] at hnd
   obtain ⟨j, v⟩ := y
   unfold lk
   rcases List.mem_cons.1 hx with rfl | hx
   ·simp [Nat.beq_refl]
   ·have : Nat.beq j x.1 = false := by
     cases hb : Nat.beq j x.1 with
     | false => rfl
     | true =>
      have := Nat.eq_of_beq_eq_true hb
      exact absurd (List.mem_map.2 ⟨x, hx, this.symm⟩) hnd.1
    rw [this]
    exact ih hnd.2 x hx
 obtain ⟨cells', h1, h2⟩ := qf1 place (zs.map List.length) (fun i n hn => by
  rw [List.getElem?_map] at hn
  obtain ⟨z, h3, h4⟩ := Option.map_eq_some_iff.1 hn
  rw [hplace i z h3, ← List.map_take, h4]) parts zs cells rfl hcells (fun x hx => by
  have hlt := hin x hx
  have hlt2 : x.1 < css.length := by omega
  obtain ⟨h3, h4⟩ := hcs x.1 css[x.1] (List.getElem?_eq_getElem hlt2)
  rw [hlk hnd x hx] at h4
  simp only at h4
  rw [List.getElem?_map, List.getElem?_eq_getElem hlt, Option.map_some, ← h3 _ (List.getElem?_eq_getElem hlt), ← h4, Array.length_toList])
 refine ⟨cells', h1, ?_⟩
 rw [h2]
 congr 1
 apply List.ext_getElem?
 intro i
 by_cases hi : i < zs.length
 ·rw [qee parts zs hnd i hi]
  have hi2 : i < css.length := by omega
  obtain ⟨_, h4⟩ := hcs i css[i] (List.getElem?_eq_getElem hi2)
  rw [List.getElem?_eq_getElem hi2]
  cases hv : lk parts i with
  | some v => rw [hv] at h4; simp only at h4 ⊢; rw [h4]
  | none => rw [hv] at h4; exact h4
 ·rw [List.getElem?_eq_none (by rw [qcL]; omega), List.getElem?_eq_none (by omega)]
theorem qda {s0 : St} {H0 : FH} {parts : List (Nat × AV)} {vals : List (Nat × Value)} (hparts : ∀ n, (lk parts n = none ∧ lk vals n = none) ∨ ∃ av v, lk parts n = some av ∧ lk vals n = some v ∧ qg P C w H0 Φ s0.obj av v)
  (hs : qk P C s a w H Φ) (hle : H0.le H) (hsub : ∀ id o, s.obj id = some o → s0.obj id = some o) {τ : Ty} (hn : τ.noFn = true) {n : Nat} {s' : St} {x : τ.den} (h : qdb s parts τ n = some (s', x)) :
  ∃ H' c, H.le H' ∧ qk P C s' a w H' Φ ∧ (∀ id o, s'.obj id = some o → s.obj id = some o) ∧ qn P τ w H' x c [] ∧ (∀ b c, H' b = some c → H b = some c ∨ ∃ id o, s.obj id = some o ∧ b ∈ (Φ id).fp) ∧ (match lk vals n with | some v => v = jY τ c | none => c = τ.zeroCells) := by
 unfold qdb at h
 rcases hparts n with ⟨h1, h2⟩ | ⟨av, v, h1, h2, hr⟩
 ·rw [h1] at h
  cases h
  exact ⟨H, _, FH.le_refl _, hs, fun _ _ h => h, qn.zero τ hn, fun _ _ h => .inl h, by rw [h2]⟩
 ·rw [h1] at h
  rw [h2]
  split at h
  ·rename_i e; cases e
  ·rename_i σ y e
   cases e
   split at h
   ·rename_i y' hy
    cases h
    obtain ⟨e, hy⟩ := qj hy
    subst e
    subst hy
    obtain ⟨_, cs, hv, hrep⟩ := hr
    exact ⟨H, cs, FH.le_refl _, hs, fun _ _ h => h, qn.mono _ hle (by simp) hrep, fun _ _ h => .inl h, hv⟩
   ·cases h
  ·rename_i σ y e
   cases e
   split at h
   ·rename_i y' hy
    cases h
    obtain ⟨e, hy⟩ := qj hy
    subst e
    subst hy
    obtain ⟨_, b, o, blk, hv, hH, hrep⟩ := hr
    exact ⟨H, [v], FH.le_refl _, hs, fun _ _ h => h, ⟨rfl, b, o, blk, by rw [hv], hle _ _ hH, qn.mono _ hle (by simp) hrep⟩, fun _ _ h => .inl h, rfl⟩
   ·cases h
  ·rename_i id e
   cases e
   split at h
   ·rename_i o ho
    cases hrow : o.row with
    | false => rw [hrow] at h; cases h
    | true =>
     rw [hrow, cond_true] at h
     split at h
     ·rename_i y' hy
      cases h
      obtain ⟨e, hy⟩ := qj hy
      subst e
      subst hy
      obtain ⟨o', y2, q1, q2, q3⟩ := hr
      rw [hsub id o ho] at q1
      cases q1
      rw [hrow] at q3
      simp only [List.isEmpty_nil, Bool.and_self] at q3
      obtain ⟨hn2, _, g3⟩ := (hs.os id o ho).1
      rw [hrow] at g3
      obtain ⟨_, cs, hcs, hrep⟩ := g3
      obtain ⟨H', hle', hnw, hin, hs'⟩ := hs.freeze id
      refine ⟨H', cs, hle', hs', ?_, qn.freeze o.τ hn2 w hle' (hin o ho) hrep _, fun b c hb => (hnw b c hb).imp_right (fun hh => ⟨id, hh⟩), ?_⟩
      ·intro j o2 hj
       unfold St.freeze at hj
       rw [ho] at hj
       have hj' : (St.setObj s id none).obj j = some o2 := hj
       rw [St.obj_setObj] at hj'
       split at hj'
       ·cases hj'
       ·exact hj'
      ·simp only [q3]
       rw [qgs]
       exact hcs
     ·cases h
   ·cases h
  ·cases h
def fts : Ty → List Ty
 | .pair a b => a :: fts b
 | t => [t]
theorem qlj : (τ : Ty) → ∀ {i}, qan τ i = true → i < (fts τ).length
 | .pair a b, 0, _ => by simp [fts]
 | .pair a b, i + 1, h => by simpa [fts] using qlj b h
 | .int _, i, h => by have := Nat.eq_of_beq_eq_true h; subst this; simp [fts]
 | .bool, i, h => by have := Nat.eq_of_beq_eq_true h; subst this; simp [fts]
 | .list _ _ _, i, h => by have := Nat.eq_of_beq_eq_true h; subst this; simp [fts]
 | .str _, i, h => by have := Nat.eq_of_beq_eq_true h; subst this; simp [fts]
 | .ptr _, i, h => by have := Nat.eq_of_beq_eq_true h; subst this; simp [fts]
 | .op _, i, h => by have := Nat.eq_of_beq_eq_true h; subst this; simp [fts]
 | .arr _ _, i, h => by have := Nat.eq_of_beq_eq_true h; subst this; simp [fts]
 | .fn _ _, i, h => by have := Nat.eq_of_beq_eq_true h; subst this; simp [fts]
 | .fn2 _ _ _, i, h => by have := Nat.eq_of_beq_eq_true h; subst this; simp [fts]
theorem qjN : (τ : Ty) → τ.zeroCells = ((fts τ).map Ty.zeroCells).flatten
 | .pair a b => by simp [fts, Ty.zeroCells, qjN b]
 | .int _ => by simp [fts]
 | .bool => by simp [fts]
 | .list _ _ _ => by simp [fts]
 | .str _ => by simp [fts]
 | .ptr _ => by simp [fts]
 | .op _ => by simp [fts]
 | .arr _ _ => by simp [fts]
 | .fn _ _ => by simp [fts]
 | .fn2 _ _ _ => by simp [fts]
theorem qbD (τ : Ty) (h1 : fts τ = [τ]) (h2 : ∀ l o, (tyB P τ).2 l o = (match l with | [x] => Nat.beq x.offset o && (tyB P τ).1 x.type | _ => false)) {l : List Field} {o : Nat} (h : j4 P τ l o) :
  (∀ σ ∈ fts τ, ∃ t, qR P t σ) ∧ l.mapM (fun f => (P.info? f.type).map fun i => (f.offset, i.size)) = some ((List.range (fts τ).length).map fun i => (o + (((fts τ).take i).map Ty.size).sum, (((fts τ)[i]?).map Ty.size).getD 0)) := by
 unfold j4 at h
 rw [h2] at h
 split at h
 ·rename_i f
  rw [Bool.and_eq_true] at h
  have e := Nat.eq_of_beq_eq_true h.1
  have ht : qR P f.type τ := h.2
  obtain ⟨i, hi, hsz, _⟩ := ht.info
  rw [h1]
  refine ⟨fun σ hσ => ⟨f.type, by rw [List.mem_singleton.1 hσ]; exact ht⟩, ?_⟩
  simp [hi, hsz, e]
 ·cases h
theorem qhj : (τ : Ty) → ∀ {l : List Field} {o : Nat}, j4 P τ l o →
  (∀ σ ∈ fts τ, ∃ t, qR P t σ) ∧ l.mapM (fun f => (P.info? f.type).map fun i => (f.offset, i.size)) = some ((List.range (fts τ).length).map fun i => (o + (((fts τ).take i).map Ty.size).sum, (((fts τ)[i]?).map Ty.size).getD 0))
 | .pair a b, l, o, h => by
  unfold j4 tyB at h
  simp only at h
  split at h
  ·rename_i f g rest
   simp only [Bool.and_eq_true] at h
   obtain ⟨⟨h1, h2⟩, h3⟩ := h
   have e := Nat.eq_of_beq_eq_true h1
   have ht : qR P f.type a := h2
   obtain ⟨i, hi, hsz, _⟩ := ht.info
   obtain ⟨k1, k2⟩ := qhj b (l := g :: rest) (o := o + a.size) h3
   refine ⟨?_, ?_⟩
   ·intro σ hσ
    rcases List.mem_cons.1 hσ with rfl | hσ
    ·exact ⟨f.type, ht⟩
    ·exact k1 σ hσ
   ·rw [List.mapM_cons, k2]
    simp only [hi, fts, List.length_cons, List.range_succ_eq_map, Option.map_some]
    simp [e, hsz, Nat.add_assoc, Function.comp_def]
  ·cases h
 | .int k, _, _, h => qbD (.int k) rfl (fun _ _ => rfl) h
 | .bool, _, _, h => qbD (.bool) rfl (fun _ _ => rfl) h
 | .list a b c, _, _, h => qbD (.list a b c) rfl (fun _ _ => rfl) h
 | .str t, _, _, h => qbD (.str t) rfl (fun _ _ => rfl) h
 | .ptr t, _, _, h => qbD (.ptr t) rfl (fun _ _ => rfl) h
 | .op t, _, _, h => qbD (.op t) rfl (fun _ _ => rfl) h
 | .arr n e, _, _, h => qbD (.arr n e) rfl (fun _ _ => rfl) h
 | .fn a b, _, _, h => qbD (.fn a b) rfl (fun _ _ => rfl) h
 | .fn2 a b c, _, _, h => qbD (.fn2 a b c) rfl (fun _ _ => rfl) h
theorem qa1 {s0 : St} {H0 : FH} {parts : List (Nat × AV)} {vals : List (Nat × Value)} (hparts : ∀ n, (lk parts n = none ∧ lk vals n = none) ∨ ∃ av v, lk parts n = some av ∧ lk vals n = some v ∧ qg P C w H0 Φ s0.obj av v)
  (τ : Ty) (h1 : fts τ = [τ]) (h2 : ∀ s n, qig s parts τ n = qdb s parts τ n) {s : St} {H : FH} {n : Nat} {s' : St} {x : τ.den} (hs : qk P C s a w H Φ) (hle : H0.le H) (hsub : ∀ id o, s.obj id = some o → s0.obj id = some o) (hn : τ.noFn = true) (h : qig s parts τ n = some (s', x)) :
  ∃ (H' : FH) (css : List (List Value)), H.le H' ∧ qk P C s' a w H' Φ ∧ (∀ id o, s'.obj id = some o → s.obj id = some o) ∧ qn P τ w H' x css.flatten [] ∧ css.length = (fts τ).length ∧
   ∀ i σ, (fts τ)[i]? = some σ → ∃ c, css[i]? = some c ∧ c.length = σ.size ∧ (∀ v ∈ c, v.oneCell' = true) ∧ match lk vals (n + i) with | some v => v = jY σ c | none => c = σ.zeroCells := by
 rw [h2] at h
 obtain ⟨H', c, k1, k2, k3, k4, _, k5⟩ := qda hparts hs hle hsub hn h
 rw [h1]
 refine ⟨H', [c], k1, k2, k3, by simpa using k4, rfl, ?_⟩
 intro i σ hi
 match i with
 | 0 =>
  simp only [List.getElem?_cons_zero, Option.some.injEq] at hi
  subst hi
  exact ⟨c, rfl, qn.length _ k4, qn.one _ k4, k5⟩
 | i + 1 => simp at hi
theorem qjD {s0 : St} {H0 : FH} {parts : List (Nat × AV)} {vals : List (Nat × Value)} (hparts : ∀ n, (lk parts n = none ∧ lk vals n = none) ∨ ∃ av v, lk parts n = some av ∧ lk vals n = some v ∧ qg P C w H0 Φ s0.obj av v) :
  (τ : Ty) → ∀ {s : St} {H : FH} {n : Nat} {s' : St} {x : τ.den}, qk P C s a w H Φ → H0.le H → (∀ id o, s.obj id = some o → s0.obj id = some o) → τ.noFn = true → qig s parts τ n = some (s', x) →
  ∃ (H' : FH) (css : List (List Value)), H.le H' ∧ qk P C s' a w H' Φ ∧ (∀ id o, s'.obj id = some o → s.obj id = some o) ∧ qn P τ w H' x css.flatten [] ∧ css.length = (fts τ).length ∧
   ∀ i σ, (fts τ)[i]? = some σ → ∃ c, css[i]? = some c ∧ c.length = σ.size ∧ (∀ v ∈ c, v.oneCell' = true) ∧ match lk vals (n + i) with | some v => v = jY σ c | none => c = σ.zeroCells
 | .pair t1 t2, s, H, n, s', x, hs, hle, hsub, hn, h => by
  simp only [Ty.noFn, Bool.and_eq_true] at hn
  unfold qig at h
  split at h
  ·rename_i s1 x1 h1
   split at h
   ·rename_i s2 x2 h2
    cases h
    obtain ⟨H1, c, k1, k2, k3, k4, _, k5⟩ := qda hparts hs hle hsub hn.1 h1
    obtain ⟨H2, css, m1, m2, m3, m4, m5, m6⟩ := qjD hparts t2 k2 (FH.le_trans hle k1) (fun id o ho => hsub id o (k3 id o ho)) hn.2 h2
    refine ⟨H2, c :: css, FH.le_trans k1 m1, m2, fun id o ho => k3 id o (m3 id o ho), ⟨c, css.flatten, [], [], by simp, rfl, qn.mono _ m1 (by simp) k4, m4⟩, by simp [fts, m5], ?_⟩
    intro i σ hi
    match i with
    | 0 =>
     simp only [fts, List.getElem?_cons_zero, Option.some.injEq] at hi
     subst hi
     exact ⟨c, rfl, qn.length _ k4, qn.one _ k4, k5⟩
    | i + 1 =>
     obtain ⟨c', q1, q2, q3, q4⟩ := m6 i σ (by simpa [fts] using hi)
     exact ⟨c', by simpa using q1, q2, q3, by rw [show n + (i + 1) = n + 1 + i by omega]; exact q4⟩
   ·cases h
  ·cases h
 | .int k, _, _, _, _, _, hs, hle, hsub, hn, h => qa1 hparts (.int k) rfl (fun _ _ => rfl) hs hle hsub hn h
 | .bool, _, _, _, _, _, hs, hle, hsub, hn, h => qa1 hparts (.bool) rfl (fun _ _ => rfl) hs hle hsub hn h
 | .list a b c, _, _, _, _, _, hs, hle, hsub, hn, h => qa1 hparts (.list a b c) rfl (fun _ _ => rfl) hs hle hsub hn h
 | .str t, _, _, _, _, _, hs, hle, hsub, hn, h => qa1 hparts (.str t) rfl (fun _ _ => rfl) hs hle hsub hn h
 | .ptr t, _, _, _, _, _, hs, hle, hsub, hn, h => qa1 hparts (.ptr t) rfl (fun _ _ => rfl) hs hle hsub hn h
 | .op t, _, _, _, _, _, hs, hle, hsub, hn, h => qa1 hparts (.op t) rfl (fun _ _ => rfl) hs hle hsub hn h
 | .arr n e, _, _, _, _, _, hs, hle, hsub, hn, h => qa1 hparts (.arr n e) rfl (fun _ _ => rfl) hs hle hsub hn h
 | .fn a b, _, _, _, _, _, hs, hle, hsub, hn, h => qa1 hparts (.fn a b) rfl (fun _ _ => rfl) hs hle hsub hn h
 | .fn2 a b c, _, _, _, _, _, hs, hle, hsub, hn, h => qa1 hparts (.fn2 a b c) rfl (fun _ _ => rfl) hs hle hsub hn h
theorem qgX {s0 : St} {H0 : FH} {parts : List (Nat × AV)} {vals : List (Nat × Value)} (hparts : ∀ n, (lk parts n = none ∧ lk vals n = none) ∨ ∃ av v, lk parts n = some av ∧ lk vals n = some v ∧ qg P C w H0 Φ s0.obj av v)
  (hs : qk P C s a w H Φ) (hle : H0.le H) (hsub : ∀ id o, s.obj id = some o → s0.obj id = some o) {τ : Ty} (hn : τ.noFn = true) {n : Nat} {s' : St} {x : τ.den} (h : qeT s parts τ n = some (s', x)) :
  ∃ H' c fp, H.le H' ∧ qk P C s' a w H' Φ ∧ (∀ id o, s'.obj id = some o → s.obj id = some o) ∧ qn P τ w H' x c fp ∧ fp.Nodup ∧ (∀ b ∈ fp, qao C w H' Φ s'.obj b ∧ ¬ qao C w H Φ s.obj b) ∧ (∀ b, qao C w H Φ s.obj b → qao C w H' Φ s'.obj b) ∧ (match lk vals n with | some v => v = jY τ c | none => c = τ.zeroCells) := by
 unfold qeT at h
 cases hf : τ.isFz with
 | true =>
  rw [hf, cond_true] at h
  obtain ⟨H', c, k1, k2, k3, k4, k5, k6⟩ := qda hparts hs hle hsub hn h
  refine ⟨H', c, [], k1, k2, k3, k4, List.nodup_nil, by simp, fun b hb => ⟨?_, fun id o ho => hb.obj id o (k3 id o ho), hb.may, hb.lt⟩, k6⟩
  cases hq : H' b with
  | none => rfl
  | some c =>
   rcases k5 b c hq with h1 | ⟨id, o, ho, hb'⟩
   ·rw [hb.fz] at h1; cases h1
   ·exact absurd hb' (hb.obj id o ho)
 | false =>
  rw [hf, cond_false] at h
  rcases hparts n with ⟨h1, h2⟩ | ⟨av, v, h1, h2, hr⟩
  ·rw [h1] at h
   cases h
   exact ⟨H, _, [], FH.le_refl _, hs, fun _ _ h => h, qn.zero τ hn, List.nodup_nil, by simp, fun _ h => h, by rw [h2]⟩
  ·rw [h1] at h
   rw [h2]
   split at h
   ·rename_i e; cases e
   ·rename_i id e
    cases e
    split at h
    ·rename_i o ho
     cases hrow : o.row with
     | false => rw [hrow] at h; cases h
     | true =>
      rw [hrow, cond_true] at h
      split at h
      ·rename_i y' hy
       cases h
       obtain ⟨e, hy⟩ := qj hy
       obtain ⟨row, σ, ox⟩ := o
       simp only at e hrow
       subst e
       subst hrow
       subst hy
       obtain ⟨o', y2, q1, q2, q3⟩ := hr
       rw [hsub id _ ho] at q1
       cases q1
       simp only [List.isEmpty_nil, Bool.and_self] at q3
       obtain ⟨hn2, hnd, g3⟩ := (hs.os id _ ho).1
       obtain ⟨_, cs, hcs, hrep⟩ := g3
       have hfr := (hs.os id _ ho).2
       refine ⟨H, cs, (Φ id).fp, FH.le_refl _, hs.remove id, ?_, hrep, hnd, ?_, ?_, ?_⟩
       ·intro j o2 hj
        rw [St.obj_setObj] at hj
        split at hj
        ·cases hj
        ·exact hj
       ·intro b hb
        obtain ⟨p1, p2, p3⟩ := hfr b hb
        refine ⟨⟨p1, fun j o2 hj => ?_, p2, p3⟩, fun hh => hh.obj id _ ho hb⟩
        rw [St.obj_setObj] at hj
        split at hj
        ·cases hj
        ·rename_i hne
         exact hs.disj id j _ o2 hne ho hj b hb
       ·intro b hb
        refine ⟨hb.fz, fun j o2 hj => ?_, hb.may, hb.lt⟩
        rw [St.obj_setObj] at hj
        split at hj
        ·cases hj
        ·exact hb.obj j o2 hj
       ·simp only [q3]
        exact hcs
      ·cases h
    ·cases h
   ·cases h
theorem qa0 {s0 : St} {H0 : FH} {parts : List (Nat × AV)} {vals : List (Nat × Value)} (hparts : ∀ n, (lk parts n = none ∧ lk vals n = none) ∨ ∃ av v, lk parts n = some av ∧ lk vals n = some v ∧ qg P C w H0 Φ s0.obj av v)
  (τ : Ty) (h1 : fts τ = [τ]) (h2 : ∀ s n, qif s parts τ n = qeT s parts τ n) {s : St} {H : FH} {n : Nat} {s' : St} {x : τ.den} (hs : qk P C s a w H Φ) (hle : H0.le H) (hsub : ∀ id o, s.obj id = some o → s0.obj id = some o) (hn : τ.noFn = true) (h : qif s parts τ n = some (s', x)) :
  ∃ (H' : FH) (css : List (List Value)) (fp : List Nat), H.le H' ∧ qk P C s' a w H' Φ ∧ (∀ id o, s'.obj id = some o → s.obj id = some o) ∧ qn P τ w H' x css.flatten fp ∧ css.length = (fts τ).length ∧ fp.Nodup ∧ (∀ b ∈ fp, qao C w H' Φ s'.obj b ∧ ¬ qao C w H Φ s.obj b) ∧ (∀ b, qao C w H Φ s.obj b → qao C w H' Φ s'.obj b) ∧
   ∀ i σ, (fts τ)[i]? = some σ → ∃ c, css[i]? = some c ∧ c.length = σ.size ∧ (∀ v ∈ c, v.oneCell' = true) ∧ match lk vals (n + i) with | some v => v = jY σ c | none => c = σ.zeroCells := by
 rw [h2] at h
 obtain ⟨H', c, fp, k1, k2, k3, k4, k6, k7, k8, k5⟩ := qgX hparts hs hle hsub hn h
 rw [h1]
 refine ⟨H', [c], fp, k1, k2, k3, by simpa using k4, rfl, k6, k7, k8, ?_⟩
 intro i σ hi
 match i with
 | 0 =>
  simp only [List.getElem?_cons_zero, Option.some.injEq] at hi
  subst hi
  exact ⟨c, rfl, qn.length _ k4, qn.one _ k4, k5⟩
 | i + 1 => simp at hi
theorem qjC {s0 : St} {H0 : FH} {parts : List (Nat × AV)} {vals : List (Nat × Value)} (hparts : ∀ n, (lk parts n = none ∧ lk vals n = none) ∨ ∃ av v, lk parts n = some av ∧ lk vals n = some v ∧ qg P C w H0 Φ s0.obj av v) :
  (τ : Ty) → ∀ {s : St} {H : FH} {n : Nat} {s' : St} {x : τ.den}, qk P C s a w H Φ → H0.le H → (∀ id o, s.obj id = some o → s0.obj id = some o) → τ.noFn = true → qif s parts τ n = some (s', x) →
  ∃ (H' : FH) (css : List (List Value)) (fp : List Nat), H.le H' ∧ qk P C s' a w H' Φ ∧ (∀ id o, s'.obj id = some o → s.obj id = some o) ∧ qn P τ w H' x css.flatten fp ∧ css.length = (fts τ).length ∧ fp.Nodup ∧ (∀ b ∈ fp, qao C w H' Φ s'.obj b ∧ ¬ qao C w H Φ s.obj b) ∧ (∀ b, qao C w H Φ s.obj b → qao C w H' Φ s'.obj b) ∧
   ∀ i σ, (fts τ)[i]? = some σ → ∃ c, css[i]? = some c ∧ c.length = σ.size ∧ (∀ v ∈ c, v.oneCell' = true) ∧ match lk vals (n + i) with | some v => v = jY σ c | none => c = σ.zeroCells
 | .pair t1 t2, s, H, n, s', x, hs, hle, hsub, hn, h => by
  simp only [Ty.noFn, Bool.and_eq_true] at hn
  unfold qif at h
  split at h
  ·rename_i s1 x1 h1
   split at h
   ·rename_i s2 x2 h2
    cases h
    obtain ⟨H1, c, fp1, k1, k2, k3, k4, k6, k7, k8, k5⟩ := qgX hparts hs hle hsub hn.1 h1
    obtain ⟨H2, css, fp2, m1, m2, m3, m4, m5, m7, m8, m9, m6⟩ := qjC hparts t2 k2 (FH.le_trans hle k1) (fun id o ho => hsub id o (k3 id o ho)) hn.2 h2
    refine ⟨H2, c :: css, fp1 ++ fp2, FH.le_trans k1 m1, m2, fun id o ho => k3 id o (m3 id o ho), ⟨c, css.flatten, fp1, fp2, by simp, rfl, qn.mono _ m1 (fun _ _ => rfl) k4, m4⟩, by simp [fts, m5], ?_, ?_, fun b hb => m9 b (k8 b hb), ?_⟩
    ·rw [List.nodup_append]
     refine ⟨k6, m7, ?_⟩
     rintro b hb1 _ hb2 rfl
     exact (m8 b hb2).2 (k7 b hb1).1
    ·intro b hb
     rcases List.mem_append.1 hb with hb | hb
     ·exact ⟨m9 b (k7 b hb).1, (k7 b hb).2⟩
     ·exact ⟨(m8 b hb).1, fun hh => (m8 b hb).2 (k8 b hh)⟩
    ·intro i σ hi
     match i with
     | 0 =>
      simp only [fts, List.getElem?_cons_zero, Option.some.injEq] at hi
      subst hi
      exact ⟨c, rfl, qn.length _ k4, qn.one _ k4, k5⟩
     | i + 1 =>
      obtain ⟨c', q1, q2, q3, q4⟩ := m6 i σ (by simpa [fts] using hi)
      exact ⟨c', by simpa using q1, q2, q3, by rw [show n + (i + 1) = n + 1 + i by omega]; exact q4⟩
   ·cases h
  ·cases h
 | .int k, _, _, _, _, _, hs, hle, hsub, hn, h => qa0 hparts (.int k) rfl (fun _ _ => rfl) hs hle hsub hn h
 | .bool, _, _, _, _, _, hs, hle, hsub, hn, h => qa0 hparts (.bool) rfl (fun _ _ => rfl) hs hle hsub hn h
 | .list a b c, _, _, _, _, _, hs, hle, hsub, hn, h => qa0 hparts (.list a b c) rfl (fun _ _ => rfl) hs hle hsub hn h
 | .str t, _, _, _, _, _, hs, hle, hsub, hn, h => qa0 hparts (.str t) rfl (fun _ _ => rfl) hs hle hsub hn h
 | .ptr t, _, _, _, _, _, hs, hle, hsub, hn, h => qa0 hparts (.ptr t) rfl (fun _ _ => rfl) hs hle hsub hn h
 | .op t, _, _, _, _, _, hs, hle, hsub, hn, h => qa0 hparts (.op t) rfl (fun _ _ => rfl) hs hle hsub hn h
 | .arr n e, _, _, _, _, _, hs, hle, hsub, hn, h => qa0 hparts (.arr n e) rfl (fun _ _ => rfl) hs hle hsub hn h
 | .fn a b, _, _, _, _, _, hs, hle, hsub, hn, h => qa0 hparts (.fn a b) rfl (fun _ _ => rfl) hs hle hsub hn h
 | .fn2 a b c, _, _, _, _, _, hs, hle, hsub, hn, h => qa0 hparts (.fn2 a b c) rfl (fun _ _ => rfl) hs hle hsub hn h
theorem qfl {s0 : St} {H0 : FH} {parts : List (Nat × AV)} {vals : List (Nat × Value)} (hparts : ∀ n, (lk parts n = none ∧ lk vals n = none) ∨ ∃ av v, lk parts n = some av ∧ lk vals n = some v ∧ qg P C w H0 Φ s0.obj av v)
  {e : Ty} (hn : e.noFn = true) : ∀ (len : Nat) {s : St} {H : FH} {n : Nat} {s' : St} {x : List e.den}, qk P C s a w H Φ → H0.le H → (∀ id o, s.obj id = some o → s0.obj id = some o) → qg4 s parts e n len = some (s', x) →
  ∃ (H' : FH) (css : List (List Value)), H.le H' ∧ qk P C s' a w H' Φ ∧ (∀ id o, s'.obj id = some o → s.obj id = some o) ∧ qe (qn P e w H') x css.flatten [] ∧ css.length = len ∧ x.length = len ∧
   ∀ i, i < len → ∃ c, css[i]? = some c ∧ c.length = e.size ∧ (∀ v ∈ c, v.oneCell' = true) ∧ match lk vals (n + i) with | some v => v = jY e c | none => c = e.zeroCells
 | 0, s, H, n, s', x, hs, hle, hsub, h => by
  cases h
  exact ⟨H, [], FH.le_refl _, hs, fun _ _ h => h, ⟨rfl, rfl⟩, rfl, rfl, fun i hi => by omega⟩
 | len + 1, s, H, n, s', x, hs, hle, hsub, h => by
  unfold qg4 at h
  split at h
  ·rename_i s1 x1 h1
   split at h
   ·rename_i s2 x2 h2
    cases h
    obtain ⟨H1, c, k1, k2, k3, k4, _, k5⟩ := qda hparts hs hle hsub hn h1
    obtain ⟨H2, css, m1, m2, m3, m4, m5, m6, m7⟩ := qfl hparts hn len k2 (FH.le_trans hle k1) (fun id o ho => hsub id o (k3 id o ho)) h2
    refine ⟨H2, c :: css, FH.le_trans k1 m1, m2, fun id o ho => k3 id o (m3 id o ho), ⟨c, css.flatten, [], [], by simp, rfl, qn.mono _ m1 (by simp) k4, m4⟩, by simp [m5], by simp [m6], ?_⟩
    intro i hi
    match i with
    | 0 => exact ⟨c, rfl, qn.length _ k4, qn.one _ k4, k5⟩
    | i + 1 =>
     obtain ⟨c', q1, q2, q3, q4⟩ := m7 i (by omega)
     exact ⟨c', by simpa using q1, q2, q3, by rw [show n + (i + 1) = n + 1 + i by omega]; exact q4⟩
   ·cases h
  ·cases h
theorem qdZ (hs : qk P C s a w H Φ) : ∀ (parts : List (Nat × Operand)) {l : List AV}, qbg s (fun _ => none) (parts.map (·.2)) 0 = some l →
  ∀ n, (lk ((parts.map (·.1)).zip l) n = none ∧ lk (parts.map fun x => (x.1, a.eval x.2)) n = none) ∨ ∃ av v, lk ((parts.map (·.1)).zip l) n = some av ∧ lk (parts.map fun x => (x.1, a.eval x.2)) n = some v ∧ qg P C w H Φ s.obj av v := by
 intro parts l h
 have hr := jW hs (fun _ => qD) h
 clear h
 induction parts generalizing l with
 | nil => intro n; exact .inl ⟨rfl, rfl⟩
 | cons x parts ih =>
  match l, hr with
  | [], hr => exact hr.elim
  | av :: l, hr =>
   intro n
   simp only [List.map_cons, List.zip_cons_cons, jD]
   cases hb : Nat.beq x.1 n with
   | true => exact .inr ⟨av, _, rfl, rfl, hr.1⟩
   | false => exact ih hr.2 n
theorem qef {T : TypeId} {τ : Ty} (hty : qR P T (.str τ)) {parts : Array (Nat × Operand)} (hap : apart (parts.toList.map (·.1)) [] = true) (hin : (parts.toList.map (·.1)).all (qan τ) = true) {css : List (List Value)} (m5 : css.length = (fts τ).length)
  (m6 : ∀ i σ, (fts τ)[i]? = some σ → ∃ c, css[i]? = some c ∧ c.length = σ.size ∧ (∀ v ∈ c, v.oneCell' = true) ∧ match lk (parts.toList.map fun x => (x.1, a.eval x.2)) (0 + i) with | some v => v = jY σ c | none => c = σ.zeroCells) :
  ∃ cells', (Instr.build T (parts.map fun x => (x.1, a.eval x.2))).run P w = .ok (.agg cells') w ∧ cells'.toList = css.flatten := by
 obtain ⟨fs, hu, hfs⟩ := hty.str
 obtain ⟨k1, k2⟩ := qhj τ hfs
 obtain ⟨it, hit, hsz, hpos, _, hz⟩ := hty.info
 have hzc : (jY (.str τ) τ.zeroCells).cells.toList = τ.zeroCells := rfl
 obtain ⟨cells', g1, g2⟩ := qdm (((List.range (fts τ).length).map fun i => (0 + (((fts τ).take i).map Ty.size).sum, (((fts τ)[i]?).map Ty.size).getD 0)).toArray[·]?) (parts.toList.map fun x => (x.1, a.eval x.2)) ((fts τ).map Ty.zeroCells) css
  (jY (.str τ) τ.zeroCells).cells (by
   intro i z hi
   rw [List.getElem?_map] at hi
   obtain ⟨σ, h1, rfl⟩ := Option.map_eq_some_iff.1 hi
   have hlt := (List.getElem?_eq_some_iff.1 h1).1
   simp only [List.getElem?_toArray, List.getElem?_map, List.getElem?_range hlt, Option.map_some, Nat.zero_add, h1, Option.getD_some, Option.some.injEq, Prod.mk.injEq]
   refine ⟨?_, (Ty.zero_length σ).symm⟩
   rw [← List.map_take, List.map_map]
   congr 1
   apply List.map_congr_left
   intro t _
   exact (Ty.zero_length t).symm)
  (by rw [hzc]; exact qjN τ) (by
   rw [List.map_map]
   exact (qbW hap).1)
  (by
   intro x hx
   obtain ⟨y, hy, rfl⟩ := List.mem_map.1 hx
   rw [List.length_map]
   exact qlj τ (List.all_eq_true.1 hin _ (List.mem_map.2 ⟨y, hy, rfl⟩)))
  (by rw [m5, List.length_map]) (by
   intro i c hc
   have hlt : i < (fts τ).length := by rw [← m5]; exact (List.getElem?_eq_some_iff.1 hc).1
   obtain ⟨c', q1, q2, q3, q4⟩ := m6 i (fts τ)[i] (List.getElem?_eq_getElem hlt)
   rw [hc] at q1
   cases q1
   rw [List.getElem?_map, List.getElem?_eq_getElem hlt]
   refine ⟨fun z hz => ?_, ?_⟩
   ·simp only [Option.map_some, Option.some.injEq] at hz
    rw [← hz, Ty.zero_length, q2]
   ·rw [Nat.zero_add] at q4
    split
    ·rename_i v hv
     rw [hv] at q4
     simp only at q4
     obtain ⟨t, ht⟩ := k1 (fts τ)[i] (List.getElem_mem hlt)
     rw [q4]
     exact qaA (by rintro x y e; rw [e] at ht; exact ht.not_pair) q2 q3
    ·rename_i hv
     rw [hv] at q4
     simp only at q4
     rw [q4]; rfl)
 refine ⟨cells', ?_, g2⟩
 refine run_build w T _ cells' ?_
 unfold Program.built
 rw [hit, hu]
 simp only [hz, k2, Array.toList_map]
 exact g1
theorem op_build (hcfg : qA P cfg) (hC : qG C cfg) {T : TypeId} {parts : Array (Nat × Operand)} (hs : qk P C s a w H Φ) (hd : qQ cfg.nt dst = true) (h : qO cfg ⟨dst, .build T parts, ty, pos, after, guard⟩ s k = some r) :
  ∃ s', k s' = some r ∧ qa4 P C ⟨dst, .build T parts, ty, pos, after, guard⟩ a w s' := by
 simp only [qO] at h
 split at h
 ·rename_i τ σ l hsite hT hl
  split at h
  case h_2 => cases h
  rename_i d
  cases hq : τ.noFn && decide ((Ty.str τ).fz = σ) && apart (parts.toList.map (·.1)) [] && (parts.toList.map (·.1)).all (qan τ) with
  | false => rw [hq] at h; cases h
  | true =>
  rw [hq, cond_true] at h
  simp only [Bool.and_eq_true] at hq
  obtain ⟨⟨⟨hn, hfz⟩, hap⟩, hin⟩ := hq
  have hfz := of_decide_eq_true hfz
  subst hfz
  split at h
  case h_2 => cases h
  rename_i s1 x1 hm
  have hty := qR.unfz (τ := .str τ) (hcfg.ty T _ hT).1
  obtain ⟨H1, css, fp, m1, m2, m3, m4, m5, m7, m8, m9, m6⟩ := qjC (qdZ hs parts.toList hl) τ hs (FH.le_refl _) (fun _ _ h => h) hn hm
  obtain ⟨cells', hrun, hcells⟩ := qef (w := w) hty hap hin m5 m6
  have hd' : d < C.nt := by rw [hC.nt]; exact Eq.mp Nat.blt_eq hd
  have hd2 : d < 4000000 := Nat.lt_of_lt_of_le hd' (by rw [hC.nt]; exact Nat.le_trans hcfg.small (by decide))
  have hno := m2.newObj (j7.refl _ _) (hC.pin d (Nat.lt_trans hd2 (by decide))) (qa2 hd2) (row := true) (τ := .str τ) (x := x1) (φ := ⟨0, .agg cells', fp⟩)
   ⟨hn, m7, rfl, css.flatten, by show _ = Value.agg _; rw [← hcells], m4⟩ (fun b hb => ⟨(m8 b hb).1.fz, (m8 b hb).1.may, (m8 b hb).1.lt, fun j o' _ hj => (m8 b hb).1.obj j o' hj⟩)
  refine ⟨_, h, qad (w' := w) (v := .agg cells') ?_ ⟨H1, _, hno.set hd' (v := .agg cells') ⟨⟨true, .str τ, x1⟩, ⟨.str τ, x1⟩, ?_, qN _ _, ?_⟩⟩⟩
  ·simp [execOp, hrun]
  ·rw [St.newObj, St.obj_setObj, if_pos rfl]
  ·simp only [List.isEmpty_nil, Bool.and_self, qr]
 ·rename_i τ l hsite hT hl
  cases hq : τ.noFn && apart (parts.toList.map (·.1)) [] && (parts.toList.map (·.1)).all (qan τ) with
  | false => rw [hq] at h; cases h
  | true =>
  rw [hq, cond_true] at h
  simp only [Bool.and_eq_true] at hq
  obtain ⟨⟨hn, hap⟩, hin⟩ := hq
  split at h
  case h_2 => cases h
  rename_i s1 x1 hm
  obtain ⟨hty, hfz⟩ := hcfg.ty T _ hT
  obtain ⟨H1, css, m1, m2, m3, m4, m5, m6⟩ := qjD (qdZ hs parts.toList hl) τ hs (FH.le_refl _) (fun _ _ h => h) hn hm
  obtain ⟨cells', hrun, hcells⟩ := qef (w := w) hty hap hin m5 m6
  refine ⟨_, h, qad (w' := w) (v := .agg cells') ?_ ⟨H1, Φ, m2.setDst (by rw [hC.nt]; exact hd) ⟨hfz, css.flatten, ?_, m4⟩⟩⟩
  ·simp [execOp, hrun]
  ·show _ = Value.agg _
   rw [← hcells]
 ·rename_i len e l hsite hT hl
  cases hq : e.noFn && apart (parts.toList.map (·.1)) [] && (parts.toList.map (·.1)).all (fun i => Nat.blt i len) with
  | false => rw [hq] at h; cases h
  | true =>
  rw [hq, cond_true] at h
  simp only [Bool.and_eq_true] at hq
  obtain ⟨⟨hn, hap⟩, hin⟩ := hq
  split at h
  case h_2 => cases h
  rename_i s1 x1 hm
  obtain ⟨hty, hfz⟩ := hcfg.ty T _ hT
  obtain ⟨u, hu, he⟩ := hty.arr
  obtain ⟨it, hit, _, _, _, hzt⟩ := hty.info
  obtain ⟨ie, hie, hsz, _, _, _⟩ := he.info
  have hnp : ∀ x y, e ≠ .pair x y := by rintro x y rfl; exact he.not_pair
  obtain ⟨H1, css, m1, m2, m3, m4, m5, m6, m7⟩ := qfl (qdZ hs parts.toList hl) hn len hs (FH.le_refl _) (fun _ _ h => h) hm
  have hzc : (jY (.arr len e) (Ty.arr len e).zeroCells).cells.toList = (List.replicate len e.zeroCells).flatten := rfl
  obtain ⟨cells', g1, g2⟩ := qdm (fun i => some (i * e.size, e.size)) (parts.toList.map fun x => (x.1, a.eval x.2)) (List.replicate len e.zeroCells) css
   (jY (.arr len e) (Ty.arr len e).zeroCells).cells (by
    intro i z hi
    have hlt := (List.getElem?_eq_some_iff.1 hi).1
    rw [List.length_replicate] at hlt
    obtain rfl : e.zeroCells = z := by simpa [List.getElem?_replicate, hlt] using hi
    have hmin : min i len = i := by omega
    simp only [List.take_replicate, hmin, List.map_replicate, List.sum_replicate_nat, Ty.zero_length])
   hzc (by
    rw [List.map_map]
    exact (qbW hap).1)
   (by
    intro x hx
    obtain ⟨y, hy, rfl⟩ := List.mem_map.1 hx
    rw [List.length_replicate]
    exact Eq.mp Nat.blt_eq (List.all_eq_true.1 hin _ (List.mem_map.2 ⟨y, hy, rfl⟩)))
   (by rw [m5, List.length_replicate]) (by
    intro i c hc
    have hlt : i < len := by rw [← m5]; exact (List.getElem?_eq_some_iff.1 hc).1
    obtain ⟨c', q1, q2, q3, q4⟩ := m7 i hlt
    rw [hc] at q1
    cases q1
    have hrep : (List.replicate len e.zeroCells)[i]? = some e.zeroCells := by simp [hlt]
    rw [hrep]
    refine ⟨fun z hz => ?_, ?_⟩
    ·simp only [Option.some.injEq] at hz
     rw [← hz, Ty.zero_length, q2]
    ·rw [Nat.zero_add] at q4
     split
     ·rename_i v hv
      rw [hv] at q4
      simp only at q4
      rw [q4]
      exact qaA hnp q2 q3
     ·rename_i hv
      rw [hv] at q4
      simp only at q4
      rw [q4])
  have hrun : (Instr.build T (parts.map fun x => (x.1, a.eval x.2))).run P w = .ok (.agg cells') w := by
   refine run_build w T _ cells' ?_
   unfold Program.built
   rw [hit, hu]
   simp only [hzt, hie, hsz, Array.toList_map]
   exact g1
  refine ⟨_, h, qad (w' := w) (v := .agg cells') ?_ ⟨H1, Φ, m2.setDst (by rw [hC.nt]; exact hd) ⟨hfz, css.flatten, ?_, m6, ?_⟩⟩⟩
  ·simp [execOp, hrun]
  ·show _ = Value.agg _
   rw [← g2]
  ·exact m4
 ·cases h
theorem qkn (hcfg : qA P cfg) (hC : qG C cfg) {T : TypeId} {len tid : Nat} {t : Ty} {parts : Array (Nat × Operand)} (hs : qk P C s a w H Φ) (hd : qQ cfg.nt dst = true) (h : qhD s dst (lk cfg.ty T) tid t len parts.toList k = some r) :
  ∃ s', k s' = some r ∧ qa4 P C ⟨dst, .buildSlice T len parts, ty, pos, after, guard⟩ a w s' := by
 unfold qhD at h
 split at h
 case h_2 => cases h
 rename_i d x hp
 split at h
 case h_2 => cases h
 rename_i id he
 split at h
 case h_2 => cases h
 rename_i ob ho
 cases hq : !ob.row && (Nat.beq len 1 && decide (lk cfg.ty T = some (.list false tid (.ptr t.fz)))) with
 | false => rw [hq] at h; cases h
 | true =>
 rw [hq, cond_true, ql] at h
 simp only [Bool.and_eq_true, Bool.not_eq_true', decide_eq_true_eq] at hq
 obtain ⟨hrow, hlen, hT⟩ := hq
 obtain rfl := Nat.eq_of_beq_eq_true hlen
 replace h := Option.bind_eq_some_iff.1 h
 obtain ⟨y, hy, h⟩ := h
 obtain ⟨row, τ, x0⟩ := ob
 simp only at hrow hy
 subst hrow
 obtain ⟨e0, hy⟩ := qj hy
 subst e0
 subst hy
 obtain ⟨o', y', b, off, q1, q2, q3, q4, hv⟩ := qo hs qD he
 rw [ho] at q1
 cases q1
 obtain ⟨rfl, rfl⟩ := jT.det _ (show jT w τ (Φ id).b 0 [] b off from q4) (jV w τ (Φ id).b 0)
 obtain ⟨⟨hn, hnd, blk, tt, fp', hh, hrep, hfp⟩, hos2⟩ := hs.os id _ ho
 obtain ⟨hty, hfz⟩ := hcfg.ty T _ hT
 obtain ⟨hu, he0⟩ := hty.list
 obtain ⟨ie, hie, hsz, hpos, hby, hz⟩ := he0.info
 have e2 : parts = #[(0, x)] := by rw [← Array.toArray_toList (xs := parts), hp]
 subst e2
 have hml : ((Array.range (1 * 1)).map ((jY (Ty.ptr τ.fz) (Ty.ptr τ.fz).zeroCells).cells[· % (jY (Ty.ptr τ.fz) (Ty.ptr τ.fz).zeroCells).cells.size]!)).toList = [[Value.pointer none]].flatten := by
  rw [show (1 * 1) = 0 + 1 from rfl, Array.toList_map, Array.toList_range]
  rfl
 obtain ⟨cells', g1, g2⟩ := qdm (fun i => some (i * 1, 1)) [(0, a.eval x)] [[.pointer none]] [[a.eval x]]
  ((Array.range (1 * 1)).map ((jY (Ty.ptr τ.fz) (Ty.ptr τ.fz).zeroCells).cells[· % (jY (Ty.ptr τ.fz) (Ty.ptr τ.fz).zeroCells).cells.size]!)) (by
   intro i z hi
   match i, hi with
   | 0, hi => cases hi; rfl
   | i + 1, hi => simp at hi)
  hml (by simp) (by simp) rfl (by
   intro i c hc
   match i, hc with
   | 0, hc =>
    cases hc
    refine ⟨fun z hz => by cases hz; rfl, ?_⟩
    show (a.eval x).cells.toList = [a.eval x]
    rw [hv]
    rfl
   | i + 1, hc => simp at hc)
 have hc' : cells' = #[a.eval x] := by rw [← Array.toArray_toList (xs := cells'), g2]; rfl
 subst hc'
 have hs1 : ie.size = 1 := hsz
 have hrun : (Instr.buildSlice T 1 #[(0, a.eval x)]).run P w = .ok (.slice (some ⟨w.heap.size, 0, none⟩) 1 1) (w.alloc (.cells #[a.eval x] tid)) := by
  refine run_buildSlice w T tid 1 _ _ ie _ hu hie hz (by omega) (by omega) ?_
  rw [hs1]
  exact g1
 have hm2 := qbt w (.cells #[a.eval x] tid)
 have hob : ∀ j o', ((s.kill id).setObj id none).obj j = some o' → s.obj j = some o' ∧ j ≠ id := by
  intro j o' hj
  rw [St.obj_setObj] at hj
  split at hj
  ·cases hj
  ·rename_i hne; exact ⟨hj, fun e => hne e.symm⟩
 have hnone : H w.heap.size = none := by
  cases hq : H w.heap.size with
  | none => rfl
  | some c => obtain ⟨t, f, h⟩ := hs.hok _ _ hq; exact absurd (Array.getElem?_eq_some_iff.1 h).1 (by omega)
 have hold : ∀ k, k < w.heap.size → (w.alloc (.cells #[a.eval x] tid)).heap[k]? = w.heap[k]? := fun k hk => heap_alloc_old w _ hk
 have hdl : d < cfg.nt := Eq.mp Nat.blt_eq hd
 have hd4 := hcfg.low hdl
 have h4 := (hs.remove id).newObj hm2 (hC.pin d (Nat.lt_trans hd4 (by decide))) (row := true) (τ := .list true tid (.op τ)) (x := [some y]) (φ := ⟨0, .slice (some ⟨w.heap.size, 0, none⟩) 1 1, w.heap.size :: (Φ id).fp⟩) (qa2 hd4)
  ⟨by simpa [Ty.noFn] using hn, List.nodup_cons.2 ⟨fun hh => by have := (hos2 _ hh).2.2; omega, hnd⟩, rfl, [.slice (some ⟨w.heap.size, 0, none⟩) 1 1], rfl,
   .slice (some ⟨w.heap.size, 0, none⟩) 1 1, [a.eval x], (Φ id).fp, rfl, by simp [Value.ownBlock], ⟨rfl, .inr ⟨w.heap.size, 1, _, rfl, Nat.zero_le _, heap_alloc_new w _, Nat.le_refl _, by unfold maxLen; omega, rfl, rfl⟩⟩,
   qe.one ⟨(Φ id).b, blk, tt, fp', by rw [hv], hfp, (hold _ (hos2 _ (by rw [hfp]; simp)).2.2).trans hh, qn.mono _ (FH.le_refl _) (fun k hk => hold k (hos2 _ (by rw [hfp]; simp [hk])).2.2) hrep⟩⟩
  (by
   intro k hk
   rcases List.mem_cons.1 hk with rfl | hk
   ·exact ⟨hnone, .inr hs.mod.size, by simp, fun j o' _ hj hbj => by have := ((hs.os j o' (hob j o' hj).1).2 _ hbj).2.2; omega⟩
   ·obtain ⟨k1, k2, k3⟩ := hos2 k hk
    exact ⟨k1, k2, Nat.lt_of_lt_of_le k3 hm2.size, fun j o' _ hj hbj => hs.disj id j _ o' (fun e => (hob j o' hj).2 e.symm) ho (hob j o' hj).1 k hk hbj⟩)
 have h5 := h4.set (d := d) (av := .view d []) (v := .slice (some ⟨w.heap.size, 0, none⟩) 1 1) (by rw [hC.nt]; exact hdl) ⟨⟨true, .list true tid (.op τ), [some y]⟩, ⟨.list true tid (.op τ), [some y]⟩, by rw [St.newObj, St.obj_setObj, if_pos rfl], qN _ _, by simp only [List.isEmpty_nil, Bool.and_self, qr]⟩
 refine ⟨_, h, qad (w' := w.alloc (.cells #[a.eval x] tid)) (v := .slice (some ⟨w.heap.size, 0, none⟩) 1 1) ?_ ⟨H, _, h5⟩⟩
 simp [execOp, hrun]
theorem qhT (hcfg : qA P cfg) (hC : qG C cfg) {T : TypeId} {len : Nat} {parts : Array (Nat × Operand)} (hs : qk P C s a w H Φ) (hd : qQ cfg.nt dst = true) (h : qO cfg ⟨dst, .buildSlice T len parts, ty, pos, after, guard⟩ s k = some r) :
  ∃ s', k s' = some r ∧ qa4 P C ⟨dst, .buildSlice T len parts, ty, pos, after, guard⟩ a w s' := by
 simp only [qO] at h
 split at h
 ·exact qkn hcfg hC hs hd h
 rename_i hsite
 clear hsite
 split at h
 case h_2 => cases h
 rename_i d own tid e l hT hl
 cases hq : e.noFn && Nat.ble (len * e.size) 16777216 && apart (parts.toList.map (·.1)) [] && (parts.toList.map (·.1)).all (fun i => Nat.blt i len) with
 | false => rw [hq] at h; cases h
 | true =>
 rw [hq, cond_true] at h
 simp only [Bool.and_eq_true] at hq
 obtain ⟨⟨⟨hn, hsm⟩, hap⟩, hin⟩ := hq
 have hsm := Nat.le_of_ble_eq_true hsm
 split at h
 case h_2 => cases h
 rename_i s1 x1 hm
 obtain ⟨hty, hfz⟩ := hcfg.ty T _ hT
 obtain ⟨hu, he⟩ := hty.list
 obtain ⟨ie, hie, hsz, hpos, hby, hz⟩ := he.info
 have hnp : ∀ x y, e ≠ .pair x y := by rintro x y rfl; exact he.not_pair
 obtain ⟨H1, css, m1, m2, m3, m4, m5, m6, m7⟩ := qfl (qdZ hs parts.toList hl) hn len hs (FH.le_refl _) (fun _ _ h => h) hm
 have hzc : (jY e e.zeroCells).cells.toList = e.zeroCells := qaA hnp (Ty.zero_length e) (Ty.zero_one e)
 have hzs : (jY e e.zeroCells).cells.size = e.size := by rw [← Array.length_toList, hzc, Ty.zero_length]
 have hml : ((Array.range (len * e.size)).map ((jY e e.zeroCells).cells[· % (jY e e.zeroCells).cells.size]!)).toList = (List.replicate len e.zeroCells).flatten := by
  have := qd0 (jY e e.zeroCells).cells (by omega) len
  rw [hzs, hzc] at this
  rw [← this, hzs]
  simp [madeCells, hzs]
 obtain ⟨cells', g1, g2⟩ := qdm (fun i => some (i * e.size, e.size)) (parts.toList.map fun x => (x.1, a.eval x.2)) (List.replicate len e.zeroCells) css
  ((Array.range (len * e.size)).map ((jY e e.zeroCells).cells[· % (jY e e.zeroCells).cells.size]!)) (by
   intro i z hi
   have hlt := (List.getElem?_eq_some_iff.1 hi).1
   rw [List.length_replicate] at hlt
   obtain rfl : e.zeroCells = z := by simpa [List.getElem?_replicate, hlt] using hi
   have hmin : min i len = i := by omega
   simp only [List.take_replicate, hmin, List.map_replicate, List.sum_replicate_nat, Ty.zero_length])
  hml (by
   rw [List.map_map]
   exact (qbW hap).1)
  (by
   intro x hx
   obtain ⟨y, hy, rfl⟩ := List.mem_map.1 hx
   rw [List.length_replicate]
   exact Eq.mp Nat.blt_eq (List.all_eq_true.1 hin _ (List.mem_map.2 ⟨y, hy, rfl⟩)))
  (by rw [m5, List.length_replicate]) (by
   intro i c hc
   have hlt : i < len := by rw [← m5]; exact (List.getElem?_eq_some_iff.1 hc).1
   obtain ⟨c', q1, q2, q3, q4⟩ := m7 i hlt
   rw [hc] at q1
   cases q1
   have hrep : (List.replicate len e.zeroCells)[i]? = some e.zeroCells := by simp [hlt]
   rw [hrep]
   refine ⟨fun z hz => ?_, ?_⟩
   ·simp only [Option.some.injEq] at hz
    rw [← hz, Ty.zero_length, q2]
   ·rw [Nat.zero_add] at q4
    split
    ·rename_i v hv
     rw [hv] at q4
     simp only at q4
     rw [q4]
     exact qaA hnp q2 q3
    ·rename_i hv
     rw [hv] at q4
     simp only at q4
     rw [q4])
 have hrun : (Instr.buildSlice T len (parts.map fun x => (x.1, a.eval x.2))).run P w = .ok (.slice (some ⟨w.heap.size, 0, none⟩) len len) (w.alloc (.cells cells' tid)) := by
  by_cases hl0 : len = 0
  ·subst hl0
   have hp : parts = #[] := by
    rw [← Array.toArray_toList (xs := parts)]
    match hpl : parts.toList, hin with
    | [], _ => rfl
    | x :: r, hin => simp [Nat.blt] at hin
   subst hp
   have : cells' = #[] := by
    rw [← Array.toArray_toList (xs := cells'), g2, List.eq_nil_of_length_eq_zero m5]; rfl
   subst this
   have e0 : ∀ f : Nat → Value, Array.map f (Array.range 0) = #[] := fun f => Array.eq_empty_of_size_eq_zero (by simp)
   simp [Instr.buildSlice, run_underlying hu, sizeOf, typeInfo, hie, Instr.fill, newRow, e0]
  ·refine run_buildSlice w T tid len _ cells' ie _ hu hie hz (by rw [hsz]; omega) ?_ ?_
   ·rw [hsz]
    have := Nat.mul_pos (Nat.pos_of_ne_zero hl0) hpos
    omega
   ·rw [hsz, Array.toList_map]; exact g1
 have hsize : cells'.size = len * e.size := by
  rw [← Array.length_toList, g2, qe.length (fun _ _ _ hh => qn.length e hh) m4, m6]
 have hm2 := qbt w (.cells cells' tid)
 obtain ⟨Φ', h4⟩ := m2.newRow (w' := w.alloc (.cells cells' tid)) (tid := tid) (e := e) (l := x1) (v := .slice (some ⟨w.heap.size, 0, none⟩) len len) (xs := css.flatten) hcfg hC (Eq.mp Nat.blt_eq hd) (Nat.lt_trans (hcfg.low (Eq.mp Nat.blt_eq hd)) (by decide)) (qa2 (hcfg.low (Eq.mp Nat.blt_eq hd))) hn hm2
  ⟨by rw [qe.length (fun _ _ _ hh => qn.length e hh) m4], .inr ⟨w.heap.size, len, cells', by rw [m6], Nat.zero_le _, heap_alloc_new w _, by omega, by
   have := Nat.mul_le_mul_left len (show 1 ≤ e.size from hpos)
   unfold maxLen; omega, hsize, by rw [m6, g2, List.take_of_length_le]; rw [qe.length (fun _ _ _ hh => qn.length e hh) m4, m6]; exact Nat.le_refl _⟩⟩
  (qe.mono (fun _ _ _ hh => by
   have hf0 := qn.fz_fp e (by simp only [Ty.isFz, Bool.and_eq_true] at hfz; exact hfz.2) hh
   subst hf0
   exact qn.mono e (FH.le_refl _) (by simp) hh) m4)
  (by intro b hb; simp only [Value.ownBlock, Option.some.injEq] at hb; subst hb; exact ⟨Nat.le_refl _, by simp⟩)
 refine ⟨_, h, qad (w' := w.alloc (.cells cells' tid)) (v := .slice (some ⟨w.heap.size, 0, none⟩) len len) ?_ ⟨H1, Φ', h4⟩⟩
 simp [execOp, hrun]
end
end Go.Vi
namespace Go.Vi
section
variable {P : Program} {C : Ctx} {cfg : jM} {R : Type} {r : R} {s : St} {a : Act} {w : World} {H : FH} {Φ : Nat → qC} {dst : Option Nat} {ty : TypeId} {pos : String} {after : Array Edge} {guard : Option (Nat × Bool)} {k : St → Option R}
def Fzn (w : World) (Hf : FH) (Φ : Nat → qC) (os : Nat → Option Obj) (ids : List Nat) : Prop :=
 ∀ id ∈ ids, ∀ o, os id = some o → ∀ b ∈ (Φ id).fp, ∀ c t f, w.heap[b]? = some (.cells c t f) → Hf b = some c
def RepX (P : Program) (C : Ctx) (w : World) (H : FH) (Φ : Nat → qC) (os : Nat → Option Obj) (w' : World) (H' : FH) (av : AV) (v : Value) : Prop :=
 qg P C w H Φ os av v ∨ ∃ τ x cs, av = .val τ x ∧ τ.isFz = true ∧ v = jY τ cs ∧ qn P τ w' H' x cs []
def RepV (P : Program) (w : World) (H : FH) (τ : Ty) (x : τ.den) (v : Value) : Prop := ∃ cs, v = jY τ cs ∧ qn P τ w H x cs []
def qfM (P : Program) (w : World) (H : FH) (τ : Ty) (x : τ.den) (v : Value) : Prop := ∃ b o blk, v = .pointer (some ⟨b, o, none⟩) ∧ H b = some blk ∧ qn P τ w H x (seg blk o τ.size) []
theorem RepV.mono {w w' : World} {H H' : FH} (hH : H.le H') {τ : Ty} {x : τ.den} {v : Value} (h : RepV P w H τ x v) : RepV P w' H' τ x v := by
 obtain ⟨cs, h1, h2⟩ := h
 exact ⟨cs, h1, qn.mono _ hH (by simp) h2⟩
theorem qfM.mono {w w' : World} {H H' : FH} (hH : H.le H') {τ : Ty} {x : τ.den} {v : Value} (h : qfM P w H τ x v) : qfM P w' H' τ x v := by
 obtain ⟨b, o, blk, h1, h2, h3⟩ := h
 exact ⟨b, o, blk, h1, hH _ _ h2, qn.mono _ hH (by simp) h3⟩
theorem qfM.ptr {w : World} {H : FH} {τ : Ty} {x : τ.den} {v : Value} (h : qfM P w H τ x v) : RepV P w H (.ptr τ) (some x) v := by
 obtain ⟨b, o, blk, h1, h2, h3⟩ := h
 exact ⟨[v], rfl, rfl, b, o, blk, by rw [h1], h2, h3⟩
theorem qck (hs : qk P C s a w H Φ) {Hf : FH} (hle : H.le Hf) {w' : World} {H' : FH} (hle' : Hf.le H') {av : AV} {v : Value} (hf : Fzn w Hf Φ s.obj av.touches) (hr : RepX P C w H Φ s.obj w' H' av v) {τ : Ty} {kk : τ.den → Option R} (h : qbz s av τ kk = some r) :
  τ.isFz = true ∧ ∃ x, kk x = some r ∧ RepV P w' H' τ x v := by
 rcases hr with hr | ⟨σ, x, cs, rfl, hfz, hv, hrep⟩
 ·unfold qbz at h
  split at h
  ·rw [ql] at h
   replace h := Option.bind_eq_some_iff.1 h
   obtain ⟨y, hy, h⟩ := h
   obtain ⟨e, hy⟩ := qj hy
   subst e
   subst hy
   obtain ⟨hfz, cs, hv, hrep⟩ := hr
   exact ⟨hfz, _, h, cs, hv, qn.mono _ (FH.le_trans hle hle') (by simp) hrep⟩
  ·rename_i id p
   split at h
   case h_2 => cases h
   rename_i o ho
   rw [jJ] at h
   replace h := Option.bind_eq_some_iff.1 h
   obtain ⟨y, hy, h⟩ := h
   rw [ql] at h
   replace h := Option.bind_eq_some_iff.1 h
   obtain ⟨z, hz, h⟩ := h
   obtain ⟨e, hz⟩ := qj hz
   subst e
   subst hz
   have hok := (hs.os id o ho).1
   obtain ⟨cs, fp, hv, hrep, hsub, _⟩ := qa5 hr ho hok hy
   refine ⟨Ty.isFz_fz _, _, h, cs, by rw [qgs]; exact hv, ?_⟩
   exact qn.freeze y.1 (qaj _ hok.1 hy) w' (FH.le_trans hle hle') (fun b hb c t f hc => hle' _ _ (hf id (by simp [AV.touches]) o ho b (hsub b hb) c t f hc)) hrep _
  ·rename_i σ x
   rw [ql] at h
   replace h := Option.bind_eq_some_iff.1 h
   obtain ⟨y, hy, h⟩ := h
   obtain ⟨e, hy⟩ := qj hy
   subst e
   subst hy
   obtain ⟨hfz, hr⟩ := hr
   exact ⟨by simpa [Ty.isFz] using hfz, _, h, qfM.ptr (qfM.mono (FH.le_trans hle hle') hr)⟩
  ·rename_i id p
   split at h
   case h_2 => cases h
   rename_i o ho
   cases hrow : o.row with
   | true => rw [hrow] at h; cases h
   | false =>
   rw [hrow, cond_false] at h
   split at h
   case h_2 => cases h
   rename_i y hy
   rw [ql] at h
   replace h := Option.bind_eq_some_iff.1 h
   obtain ⟨z, hz, h⟩ := h
   obtain ⟨e, hz⟩ := qj hz
   subst e
   subst hz
   have := qg.frozen (H' := Hf) (os' := s.obj) ho hle (hf id (by simp [AV.touches]) o ho) (fun j o hj => (hs.os j o hj).1) (fun _ _ _ h => h) _ _ hr
   simp only [AV.frozen, Nat.beq_refl, cond_true, hrow, cond_false, hy] at this
   obtain ⟨hfz, this⟩ := this
   exact ⟨by simpa [Ty.isFz] using hfz, _, h, qfM.ptr (qfM.mono hle' this)⟩
  ·cases h
 ·simp only [qbz, ql] at h
  replace h := Option.bind_eq_some_iff.1 h
  obtain ⟨y, hy, h⟩ := h
  obtain ⟨e, hy⟩ := qj hy
  subst e
  subst hy
  exact ⟨hfz, _, h, cs, hv, hrep⟩
theorem qfQ (hs : qk P C s a w H Φ) {Hf : FH} (hle : H.le Hf) {w' : World} {H' : FH} (hle' : Hf.le H') {av : AV} {v : Value} (hf : Fzn w Hf Φ s.obj av.touches) (hr : RepX P C w H Φ s.obj w' H' av v) {τ : Ty} {kk : τ.den → Option R} (h : qgk s av τ kk = some r) :
  τ.isFz = true ∧ ∃ x, kk x = some r ∧ qfM P w' H' τ x v := by
 unfold qgk at h
 split at h
 ·rw [ql] at h
  replace h := Option.bind_eq_some_iff.1 h
  obtain ⟨y, hy, h⟩ := h
  obtain ⟨e, hy⟩ := qj hy
  subst e
  subst hy
  rcases hr with hr | ⟨_, _, _, he, _⟩
  ·obtain ⟨hfz, hr⟩ := hr
   exact ⟨hfz, _, h, qfM.mono (FH.le_trans hle hle') hr⟩
  ·cases he
 ·rename_i id p
  split at h
  case h_2 => cases h
  rename_i o ho
  cases hrow : o.row with
  | true => rw [hrow] at h; cases h
  | false =>
  rw [hrow, cond_false] at h
  split at h
  case h_2 => cases h
  rename_i y hy
  rw [ql] at h
  replace h := Option.bind_eq_some_iff.1 h
  obtain ⟨z, hz, h⟩ := h
  obtain ⟨e, hz⟩ := qj hz
  subst e
  subst hz
  rcases hr with hr | ⟨_, _, _, he, _⟩
  ·have := qg.frozen (H' := Hf) (os' := s.obj) ho hle (hf id (by simp [AV.touches]) o ho) (fun j o hj => (hs.os j o hj).1) (fun _ _ _ h => h) _ _ hr
   simp only [AV.frozen, Nat.beq_refl, cond_true, hrow, cond_false, hy] at this
   obtain ⟨hfz, this⟩ := this
   exact ⟨hfz, _, h, qfM.mono hle' this⟩
  ·cases he
 ·rename_i σ x
  rw [ql] at h
  replace h := Option.bind_eq_some_iff.1 h
  obtain ⟨x2, hx2, h⟩ := h
  subst hx2
  rw [ql] at h
  replace h := Option.bind_eq_some_iff.1 h
  obtain ⟨y, hy, h⟩ := h
  obtain ⟨e, hy⟩ := qj hy
  subst e
  subst hy
  have hv : σ.isFz = true ∧ RepV P w' H' (.ptr σ) (some y) v := by
   rcases hr with hr | ⟨τ', x', cs, he, hfz, hv, hrep⟩
   ·obtain ⟨hfz, cs, hv, hrep⟩ := hr
    exact ⟨by simpa [Ty.isFz] using hfz, cs, hv, qn.mono _ (FH.le_trans hle hle') (by simp) hrep⟩
   ·cases he
    exact ⟨by simpa [Ty.isFz] using hfz, cs, hv, hrep⟩
  obtain ⟨hfz, cs, hv, _, b, o, blk, e1, e2, e3⟩ := hv
  exact ⟨hfz, _, h, b, o, blk, by rw [hv, e1]; rfl, e2, e3⟩
 ·cases h
def qM : qC := ⟨0, .nilFunc, []⟩
theorem qeR (hs : qk P C s a w H Φ) {Hf : FH} (hle : H.le Hf) {w' : World} {H' : FH} (hle' : Hf.le H') :
  ∀ {ps : List jZ} {l : List AV} {vs : List Value} {kk : PDens ps → Option R}, ps.all jZ.reads = true → (∀ av ∈ l, Fzn w Hf Φ s.obj av.touches) → j6 (RepX P C w H Φ s.obj w' H') l vs → qgQ s ps l kk = some r →
   ∃ d, kk d = some r ∧ ∃ Φs, jU P w' H' ps d vs Φs ∧ qd Φs = []
 | [], l, vs, kk, _, _, hrel, h => by
  match l, vs, hrel with
  | [], [], _ => exact ⟨(), h, [], ⟨rfl, rfl⟩, rfl⟩
  | _ :: _, _, hrel => cases h
 | .v τ :: ps, l, vs, kk, hp, hf, hrel, h => by
  match l, vs, hrel with
  | [], _, _ => cases h
  | av :: l, v :: vs, hrel =>
   simp only [qgQ] at h
   obtain ⟨hfz, x, h, hv⟩ := qck hs hle hle' (hf av (by simp)) hrel.1 h
   obtain ⟨d, h, Φs, h2, h3⟩ := qeR hs hle hle' (by simpa [jZ.reads] using hp) (fun av ha => hf av (by simp [ha])) hrel.2 h
   exact ⟨(x, d), h, qM :: Φs, ⟨v, vs, qM, Φs, rfl, rfl, hfz, rfl, hv, h2⟩, by simpa [qd, qM] using h3⟩
  | _ :: _, [], hrel => exact hrel.elim
 | .r τ :: ps, l, vs, kk, hp, hf, hrel, h => by
  match l, vs, hrel with
  | [], _, _ => cases h
  | av :: l, v :: vs, hrel =>
   simp only [qgQ] at h
   obtain ⟨hfz, x, h, hv⟩ := qfQ hs hle hle' (hf av (by simp)) hrel.1 h
   obtain ⟨d, h, Φs, h2, h3⟩ := qeR hs hle hle' (by simpa [jZ.reads] using hp) (fun av ha => hf av (by simp [ha])) hrel.2 h
   exact ⟨(x, d), h, qM :: Φs, ⟨v, vs, qM, Φs, rfl, rfl, hfz, rfl, hv, h2⟩, by simpa [qd, qM] using h3⟩
  | _ :: _, [], hrel => exact hrel.elim
 | .c _ :: _, _, _, _, hp, _, _, _ => by simp [jZ.reads] at hp
 | .m _ :: _, _, _, _, hp, _, _, _ => by simp [jZ.reads] at hp
 | .mr _ _ :: _, _, _, _, hp, _, _, _ => by simp [jZ.reads] at hp
 | .t _ _ :: _, _, _, _, hp, _, _, _ => by simp [jZ.reads] at hp
 | .gm _ :: _, _, _, _, hp, _, _, _ => by simp [jZ.reads] at hp
 | .cm _ _ :: _, _, _, _, hp, _, _, _ => by simp [jZ.reads] at hp
theorem j6.append {α β : Type} {Q : α → β → Prop} : ∀ {l1 : List α} {r1 : List β} {l2 r2}, j6 Q l1 r1 → j6 Q l2 r2 → j6 Q (l1 ++ l2) (r1 ++ r2)
 | [], [], _, _, _, h => h
 | _ :: _, _ :: _, _, _, h1, h2 => ⟨h1.1, j6.append h1.2 h2⟩
 | [], _ :: _, _, _, h1, _ => h1.elim
 | _ :: _, [], _, _, h1, _ => h1.elim
theorem j6.imp {α β : Type} {Q S : α → β → Prop} (h : ∀ x y, Q x y → S x y) : ∀ {l : List α} {r : List β}, j6 Q l r → j6 S l r
 | [], [], _ => trivial
 | _ :: _, _ :: _, h1 => ⟨h _ _ h1.1, j6.imp h h1.2⟩
 | [], _ :: _, h1 => h1.elim
 | _ :: _, [], h1 => h1.elim
theorem qai {os : Nat → Option Obj} : ∀ {av : AV} {vs : List Value}, av.isTup = true → qg P C w H Φ os av (.tuple vs.toArray) → j6 (qg P C w H Φ os) av.list vs
 | .nil, vs, _, h => by
  have : vs = [] := by simpa [qg] using h
  subst this; trivial
 | .cons a b, vs, ht, h => by
  obtain ⟨u, us, h1, h2, h3⟩ := h
  obtain rfl : vs = u :: us := by simpa using h1
  exact ⟨h2, qai (by simpa [AV.isTup] using ht) h3⟩
 | .dead, _, ht, _ => by cases ht
 | .val _ _, _, ht, _ => by cases ht
 | .ref _ _, _, ht, _ => by cases ht
 | .ptr _ _, _, ht, _ => by cases ht
 | .view _ _, _, ht, _ => by cases ht
 | .upd _ _ _ _ _, _, ht, _ => by cases ht
 | .cut _ _ _ _, _, ht, _ => by cases ht
 | .fn _ _ _, _, ht, _ => by cases ht
 | .gh _ _, _, ht, _ => by cases ht
 | .cv _ _ _, _, ht, _ => by cases ht
theorem qby {id : Nat} : ∀ {av : AV}, av.isTup = true → ∀ x ∈ av.list, id ∈ x.touches → id ∈ av.touches
 | .nil, _, x, hx, _ => by simp [AV.list] at hx
 | .cons a b, ht, x, hx, hi => by
  simp only [AV.touches, List.mem_append]
  rcases List.mem_cons.1 hx with rfl | hx
  ·exact .inl hi
  ·exact .inr (qby (by simpa [AV.isTup] using ht) x hx hi)
 | .dead, ht, _, _, _ => by cases ht
 | .val _ _, ht, _, _, _ => by cases ht
 | .ref _ _, ht, _, _, _ => by cases ht
 | .ptr _ _, ht, _, _, _ => by cases ht
 | .view _ _, ht, _, _, _ => by cases ht
 | .upd _ _ _ _ _, ht, _, _, _ => by cases ht
 | .cut _ _ _ _, ht, _, _, _ => by cases ht
 | .fn _ _ _, ht, _, _, _ => by cases ht
 | .gh _ _, ht, _, _, _ => by cases ht
 | .cv _ _ _, ht, _, _, _ => by cases ht
theorem qic {r : Ty} {rs : List RTy} {d : RDens rs} {y : r.den} (h : qiP r rs d = some y) {w : World} {H : FH} {us : List Value} {Ψs : List qC} (hr : qac P w H rs d us Ψs) : ∃ cs, qaa us = jY r cs ∧ qn P r w H y cs [] := by
 unfold qiP at h
 split at h
 ·rename_i τ d'
  obtain ⟨e, hy⟩ := qj h
  subst e
  subst hy
  obtain ⟨v, vs', φ, Φs', rfl, _, _, _, ⟨cs, hv, hrep⟩, rfl, _⟩ := hr
  exact ⟨cs, hv, hrep⟩
 ·cases h
theorem qiS {w w' : World} {Φs : List qC} (h : qd Φs = []) (hm : j7 (· ∈ qd Φs) w w') : j7 jP w w' := hm.mono (fun i hi => by rw [h] at hi; cases hi)
theorem clos1_ok (hcfg : qA P cfg) (hs : qk P C s a w H Φ) {Hf : FH} (hle : H.le Hf) {f : Nat} {first caps : AV} {vs us : Array Value} (hr1 : qg P C w H Φ s.obj first (.tuple vs)) (hr2 : qg P C w H Φ s.obj caps (.tuple us))
  (hf : Fzn w Hf Φ s.obj (first.touches ++ caps.touches)) {b r : Ty} (hb : b.isFz = true) {x : b.den} {y : r.den} (h : clos1 cfg s f first caps b r x = some y)
  {H' : FH} {w' : World} {cx : List Value} (hle' : Hf.le H') (hok' : HOk H' w') (hx : qn P b w' H' x cx []) :
  Calls P f (vs ++ #[jY b cx] ++ us) w' fun e w'' => ∃ cy, e = .returned (jY r cy) ∧ j7 jP w' w'' ∧ qn P r w'' H' y cy [] := by
 unfold clos1 at h
 split at h
 case h_2 => cases h
 rename_i p hp
 obtain ⟨_, hsound⟩ := hcfg.prims f p hp
 cases hq : p.ps.all jZ.reads && r.isFlat && first.isTup && caps.isTup with
 | false => rw [hq] at h; cases h
 | true =>
 rw [hq, cond_true] at h
 simp only [Bool.and_eq_true] at hq
 obtain ⟨⟨⟨hps, hrf⟩, ht1⟩, ht2⟩ := hq
 have l1 := qai (vs := vs.toList) ht1 (by simpa using hr1)
 have l2 := qai (vs := us.toList) ht2 (by simpa using hr2)
 have hrel : j6 (RepX P C w H Φ s.obj w' H') (first.list ++ .val b x :: caps.list) (vs.toList ++ jY b cx :: us.toList) :=
  j6.append (j6.imp (fun _ _ h => .inl h) l1) ⟨.inr ⟨b, x, cx, rfl, hb, rfl, hx⟩, j6.imp (fun _ _ h => .inl h) l2⟩
 obtain ⟨d, h, Φs, hargs, hfps⟩ := qeR hs hle hle' hps (by
  intro av hav id hid
  rcases List.mem_append.1 hav with h1 | h1
  ·exact hf id (List.mem_append.2 (.inl (qby ht1 av h1 hid)))
  ·rcases List.mem_cons.1 h1 with rfl | h1
   ·cases hid
   ·exact hf id (List.mem_append.2 (.inr (qby ht2 av h1 hid)))) hrel h
 rw [ql] at h
 replace h := Option.bind_eq_some_iff.1 h
 obtain ⟨y', hy', h⟩ := h
 have hc := hsound d y' hy' w' H' _ Φs hok' hargs (by rw [hfps]; simp) (by rw [hfps]; simp)
 have e : (vs.toList ++ jY b cx :: us.toList).toArray = vs ++ #[jY b cx] ++ us := by
  apply Array.toList_inj.1; simp
 rw [e] at hc
 refine hc.mono ?_
 rintro e w'' ⟨us', H2, Φs', Ψs, he, hm, hl2, _, _, hres, _⟩
 obtain ⟨cy, h1, h2⟩ := qic h hres
 exact ⟨cy, by rw [he, h1], qiS hfps hm, qn.closed r (Ty.flat_closed r hrf) h2⟩
theorem clos2_ok (hcfg : qA P cfg) (hs : qk P C s a w H Φ) {Hf : FH} (hle : H.le Hf) {f : Nat} {first caps : AV} {vs us : Array Value} (hr1 : qg P C w H Φ s.obj first (.tuple vs)) (hr2 : qg P C w H Φ s.obj caps (.tuple us))
  (hf : Fzn w Hf Φ s.obj (first.touches ++ caps.touches)) {b c r : Ty} (hb : b.isFz = true) (hc0 : c.isFz = true) {x : b.den} {z : c.den} {y : r.den} (h : clos2 cfg s f first caps b c r x z = some y)
  {H' : FH} {w' : World} {cx cz : List Value} (hle' : Hf.le H') (hok' : HOk H' w') (hx : qn P b w' H' x cx []) (hz : qn P c w' H' z cz []) :
  Calls P f (vs ++ #[jY b cx, jY c cz] ++ us) w' fun e w'' => ∃ cy, e = .returned (jY r cy) ∧ j7 jP w' w'' ∧ qn P r w'' H' y cy [] := by
 unfold clos2 at h
 split at h
 case h_2 => cases h
 rename_i p hp
 obtain ⟨_, hsound⟩ := hcfg.prims f p hp
 cases hq : p.ps.all jZ.reads && r.isFlat && first.isTup && caps.isTup with
 | false => rw [hq] at h; cases h
 | true =>
 rw [hq, cond_true] at h
 simp only [Bool.and_eq_true] at hq
 obtain ⟨⟨⟨hps, hrf⟩, ht1⟩, ht2⟩ := hq
 have l1 := qai (vs := vs.toList) ht1 (by simpa using hr1)
 have l2 := qai (vs := us.toList) ht2 (by simpa using hr2)
 have hrel : j6 (RepX P C w H Φ s.obj w' H') (first.list ++ .val b x :: .val c z :: caps.list) (vs.toList ++ jY b cx :: jY c cz :: us.toList) :=
  j6.append (j6.imp (fun _ _ h => .inl h) l1) ⟨.inr ⟨b, x, cx, rfl, hb, rfl, hx⟩, .inr ⟨c, z, cz, rfl, hc0, rfl, hz⟩, j6.imp (fun _ _ h => .inl h) l2⟩
 obtain ⟨d, h, Φs, hargs, hfps⟩ := qeR hs hle hle' hps (by
  intro av hav id hid
  rcases List.mem_append.1 hav with h1 | h1
  ·exact hf id (List.mem_append.2 (.inl (qby ht1 av h1 hid)))
  ·rcases List.mem_cons.1 h1 with rfl | h1
   ·cases hid
   rcases List.mem_cons.1 h1 with rfl | h1
   ·cases hid
   ·exact hf id (List.mem_append.2 (.inr (qby ht2 av h1 hid)))) hrel h
 rw [ql] at h
 replace h := Option.bind_eq_some_iff.1 h
 obtain ⟨y', hy', h⟩ := h
 have hc := hsound d y' hy' w' H' _ Φs hok' hargs (by rw [hfps]; simp) (by rw [hfps]; simp)
 have e : (vs.toList ++ jY b cx :: jY c cz :: us.toList).toArray = vs ++ #[jY b cx, jY c cz] ++ us := by
  apply Array.toList_inj.1; simp
 rw [e] at hc
 refine hc.mono ?_
 rintro e w'' ⟨us', H2, Φs', Ψs, he, hm, hl2, _, _, hres, _⟩
 obtain ⟨cy, h1, h2⟩ := qic h hres
 exact ⟨cy, by rw [he, h1], qiS hfps hm, qn.closed r (Ty.flat_closed r hrf) h2⟩
theorem snapF_ok (hcfg : qA P cfg) (hs : qk P C s a w H Φ) {Hf : FH} (hle : H.le Hf) {av : AV} {v : Value} (hf : Fzn w Hf Φ s.obj av.touches) (hr : qg P C w H Φ s.obj av v) {τ : Ty} {kk : τ.den → Option R} (h : snapF cfg s av τ kk = some r) :
  τ.isFz = true ∧ ∃ x, kk x = some r ∧ RepV P w Hf τ x v := by
 unfold snapF at h
 split at h
 ·rename_i f first caps
  obtain ⟨vs, us, hv, hr1, hr2⟩ := hr
  split at h
  ·rename_i b r2 kk
   cases hq : (lk cfg.prims f).isSome && b.isFz && r2.isFz with
   | false => rw [hq] at h; cases h
   | true =>
   rw [hq, cond_true] at h
   simp only [Bool.and_eq_true] at hq
   obtain ⟨⟨hq, hb⟩, hr3⟩ := hq
   obtain ⟨p, hp⟩ := Option.isSome_iff_exists.1 hq
   obtain ⟨hcal, _⟩ := hcfg.prims f p hp
   refine ⟨by simp [Ty.isFz, hb, hr3], _, h, [v], rfl, rfl, f, vs, us, by rw [hv], hcal, ?_⟩
   intro x y hxy H' w' cx hle' hok' hx
   exact clos1_ok hcfg hs hle hr1 hr2 hf hb hxy hle' hok' hx
  ·rename_i b c r2 kk
   cases hq : (lk cfg.prims f).isSome && b.isFz && c.isFz && r2.isFz with
   | false => rw [hq] at h; cases h
   | true =>
   rw [hq, cond_true] at h
   simp only [Bool.and_eq_true] at hq
   obtain ⟨⟨⟨hq, hb⟩, hc⟩, hr3⟩ := hq
   obtain ⟨p, hp⟩ := Option.isSome_iff_exists.1 hq
   obtain ⟨hcal, _⟩ := hcfg.prims f p hp
   refine ⟨by simp [Ty.isFz, hb, hc, hr3], _, h, [v], rfl, rfl, f, vs, us, by rw [hv], hcal, ?_⟩
   intro x z y hxy H' w' cx cz hle' hok' hx hz
   exact clos2_ok hcfg hs hle hr1 hr2 hf hb hc hxy hle' hok' hx hz
  ·cases h
 ·exact qck hs hle (FH.le_refl _) hf (.inl hr) h
def qdt (os : Nat → Option Obj) (Φ : Nat → qC) : List jZ → List AV → List qC → Prop
 | [], l, Φs => l = [] ∧ Φs = []
 | .v _ :: ps, l, Φs => ∃ av l' φ Φs', l = av :: l' ∧ Φs = φ :: Φs' ∧ φ.fp = [] ∧ qdt os Φ ps l' Φs'
 | .r _ :: ps, l, Φs => ∃ av l' φ Φs', l = av :: l' ∧ Φs = φ :: Φs' ∧ φ.fp = [] ∧ qdt os Φ ps l' Φs'
 | .c _ :: ps, l, Φs => ∃ av l' φ Φs', l = av :: l' ∧ Φs = φ :: Φs' ∧ φ.fp = [] ∧ qdt os Φ ps l' Φs'
 | .m τ :: ps, l, Φs => ∃ id l' Φs' x, l = .ptr id [] :: l' ∧ Φs = Φ id :: Φs' ∧ os id = some ⟨false, τ, x⟩ ∧ qdt os Φ ps l' Φs'
 | .gm τ :: ps, l, Φs => ∃ id l' Φs' x, l = .ptr id [] :: l' ∧ Φs = Φ id :: Φs' ∧ os id = some ⟨false, τ, x⟩ ∧ qdt os Φ ps l' Φs'
 | .mr tid e :: ps, l, Φs => ∃ id l' Φs' x, l = .view id [] :: l' ∧ Φs = Φ id :: Φs' ∧ os id = some ⟨true, .list true tid e, x⟩ ∧ qdt os Φ ps l' Φs'
 | .t tid e :: ps, l, Φs => ∃ id l' Φs' x, l = .view id [] :: l' ∧ Φs = Φ id :: Φs' ∧ os id = some ⟨true, .list true tid e, x⟩ ∧ qdt os Φ ps l' Φs'
 | .cm f τ :: ps, l, Φs => ∃ id l' Φs' x, l = .fn f .nil (.cons (.ptr id []) .nil) :: l' ∧ Φs = Φ id :: Φs' ∧ os id = some ⟨false, τ, x⟩ ∧ qdt os Φ ps l' Φs'
theorem qaT (hcfg : qA P cfg) (hs : qk P C s a w H Φ) {Hf : FH} (hle : H.le Hf) :
  ∀ {ps : List jZ} {l : List AV} {vs : List Value} {kk : PDens ps → Option R}, Fzn w Hf Φ s.obj (qx ps l) → j6 (qg P C w H Φ s.obj) l vs → qbe cfg s ps l kk = some r →
   ∃ d, kk d = some r ∧ ∃ Φs, jU P w Hf ps d vs Φs ∧ qdt s.obj Φ ps l Φs
 | [], l, vs, kk, _, hrel, h => by
  match l, vs, hrel with
  | [], [], _ => exact ⟨(), h, [], ⟨rfl, rfl⟩, rfl, rfl⟩
  | _ :: _, _, hrel => cases h
 | .v τ :: ps, l, vs, kk, hf, hrel, h => by
  match l, vs, hrel with
  | [], _, _ => cases h
  | av :: l, v :: vs, hrel =>
   simp only [qbe] at h
   obtain ⟨hfz, x, h, hv⟩ := snapF_ok hcfg hs hle (fun id hid => hf id (by simp [qx, hid])) hrel.1 h
   obtain ⟨d, h, Φs, h2, h3⟩ := qaT hcfg hs hle (fun id hid => hf id (by simp [qx, hid])) hrel.2 h
   exact ⟨(x, d), h, qM :: Φs, ⟨v, vs, qM, Φs, rfl, rfl, hfz, rfl, hv, h2⟩, av, l, qM, Φs, rfl, rfl, rfl, h3⟩
  | _ :: _, [], hrel => exact hrel.elim
 | .r τ :: ps, l, vs, kk, hf, hrel, h => by
  match l, vs, hrel with
  | [], _, _ => cases h
  | av :: l, v :: vs, hrel =>
   simp only [qbe] at h
   obtain ⟨hfz, x, h, hv⟩ := qfQ hs hle (FH.le_refl _) (fun id hid => hf id (by simp [qx, hid])) (.inl hrel.1) h
   obtain ⟨d, h, Φs, h2, h3⟩ := qaT hcfg hs hle (fun id hid => hf id (by simp [qx, hid])) hrel.2 h
   exact ⟨(x, d), h, qM :: Φs, ⟨v, vs, qM, Φs, rfl, rfl, hfz, rfl, hv, h2⟩, av, l, qM, Φs, rfl, rfl, rfl, h3⟩
  | _ :: _, [], hrel => exact hrel.elim
 | .c f :: ps, l, vs, kk, hf, hrel, h => by
  match l, vs, hrel with
  | [], _, _ => cases h
  | av :: l, v :: vs, hrel =>
   simp only [qbe] at h
   split at h
   case h_2 => cases h
   rename_i g
   cases hg : Nat.beq g f with
   | false => rw [hg] at h; cases h
   | true =>
   rw [hg, cond_true] at h
   obtain rfl := Nat.eq_of_beq_eq_true hg
   obtain ⟨d, h, Φs, h2, h3⟩ := qaT hcfg hs hle (fun id hid => hf id (by simp [qx, hid])) hrel.2 h
   obtain ⟨v1, v2, e1, e2, e3⟩ := hrel.1
   have e2 : v1 = #[] := by simpa [qg] using e2
   have e3 : v2 = #[] := by simpa [qg] using e3
   subst e2; subst e3
   exact ⟨((), d), h, qM :: Φs, ⟨v, vs, qM, Φs, rfl, rfl, trivial, rfl, e1, h2⟩, _, l, qM, Φs, rfl, rfl, rfl, h3⟩
  | _ :: _, [], hrel => exact hrel.elim
 | .m τ :: ps, l, vs, kk, hf, hrel, h => by
  match l, vs, hrel with
  | [], _, _ => cases h
  | av :: l, v :: vs, hrel =>
   simp only [qbe] at h
   split at h
   case h_2 => cases h
   rename_i id
   split at h
   case h_2 => cases h
   rename_i o ho
   obtain ⟨row, σ, x⟩ := o
   cases row with
   | true => cases h
   | false =>
   simp only [cond_false, ql] at h
   replace h := Option.bind_eq_some_iff.1 h
   obtain ⟨y, hy, h⟩ := h
   obtain ⟨e, hy⟩ := qj hy
   subst e
   subst hy
   obtain ⟨d, h, Φs, h2, h3⟩ := qaT hcfg hs hle (fun id hid => hf id (by simp [qx, hid])) hrel.2 h
   obtain ⟨o2, y2, b, off, q1, _, _, q4, q5⟩ := hrel.1
   rw [ho] at q1
   cases q1
   obtain ⟨rfl, rfl⟩ := jT.det _ q4 (jV w σ (Φ id).b 0)
   exact ⟨(_, d), h, Φ id :: Φs, ⟨v, vs, Φ id, Φs, rfl, rfl, q5, (hs.os id _ ho).1.frame hle (fun _ _ => rfl), h2⟩, id, l, Φs, _, rfl, rfl, ho, h3⟩
  | _ :: _, [], hrel => exact hrel.elim
 | .gm τ :: ps, l, vs, kk, hf, hrel, h => by
  match l, vs, hrel with
  | [], _, _ => cases h
  | av :: l, v :: vs, hrel =>
   simp only [qbe] at h
   split at h
   case h_2 => cases h
   rename_i id
   split at h
   case h_2 => cases h
   rename_i o ho
   obtain ⟨row, σ, x⟩ := o
   cases row with
   | true => cases h
   | false =>
   simp only [cond_false, ql] at h
   replace h := Option.bind_eq_some_iff.1 h
   obtain ⟨y, hy, h⟩ := h
   obtain ⟨e, hy⟩ := qj hy
   subst e
   subst hy
   obtain ⟨d, h, Φs, h2, h3⟩ := qaT hcfg hs hle (fun id hid => hf id (by simp [qx, hid])) hrel.2 h
   obtain ⟨o2, y2, b, off, q1, _, _, q4, q5⟩ := hrel.1
   rw [ho] at q1
   cases q1
   obtain ⟨rfl, rfl⟩ := jT.det _ q4 (jV w σ (Φ id).b 0)
   exact ⟨(_, d), h, Φ id :: Φs, ⟨v, vs, Φ id, Φs, rfl, rfl, q5, (hs.os id _ ho).1.frame hle (fun _ _ => rfl), h2⟩, id, l, Φs, _, rfl, rfl, ho, h3⟩
  | _ :: _, [], hrel => exact hrel.elim
 | .mr tid e :: ps, l, vs, kk, hf, hrel, h => by
  match l, vs, hrel with
  | [], _, _ => cases h
  | av :: l, v :: vs, hrel =>
   simp only [qbe] at h
   split at h
   case h_2 => cases h
   rename_i id
   split at h
   case h_2 => cases h
   rename_i o ho
   obtain ⟨row, σ, x⟩ := o
   cases row with
   | false => cases h
   | true =>
   simp only [cond_true, ql] at h
   replace h := Option.bind_eq_some_iff.1 h
   obtain ⟨y, hy, h⟩ := h
   obtain ⟨e, hy⟩ := qj hy
   subst e
   subst hy
   obtain ⟨d, h, Φs, h2, h3⟩ := qaT hcfg hs hle (fun id hid => hf id (by simp [qx, hid])) hrel.2 h
   obtain ⟨o2, y2, q1, _, q5⟩ := hrel.1
   rw [ho] at q1
   cases q1
   exact ⟨(_, d), h, Φ id :: Φs, ⟨v, vs, Φ id, Φs, rfl, rfl, q5, (hs.os id _ ho).1.frame hle (fun _ _ => rfl), h2⟩, id, l, Φs, _, rfl, rfl, ho, h3⟩
  | _ :: _, [], hrel => exact hrel.elim
 | .t tid e :: ps, l, vs, kk, hf, hrel, h => by
  match l, vs, hrel with
  | [], _, _ => cases h
  | av :: l, v :: vs, hrel =>
   simp only [qbe] at h
   split at h
   case h_2 => cases h
   rename_i id
   split at h
   case h_2 => cases h
   rename_i o ho
   obtain ⟨row, σ, x⟩ := o
   cases row with
   | false => cases h
   | true =>
   simp only [cond_true, ql] at h
   replace h := Option.bind_eq_some_iff.1 h
   obtain ⟨y, hy, h⟩ := h
   obtain ⟨e, hy⟩ := qj hy
   subst e
   subst hy
   obtain ⟨d, h, Φs, h2, h3⟩ := qaT hcfg hs hle (fun id hid => hf id (by simp [qx, hid])) hrel.2 h
   obtain ⟨o2, y2, q1, _, q5⟩ := hrel.1
   rw [ho] at q1
   cases q1
   exact ⟨(_, d), h, Φ id :: Φs, ⟨v, vs, Φ id, Φs, rfl, rfl, q5, (hs.os id _ ho).1.frame hle (fun _ _ => rfl), h2⟩, id, l, Φs, _, rfl, rfl, ho, h3⟩
  | _ :: _, [], hrel => exact hrel.elim
 | .cm f τ :: ps, l, vs, kk, hf, hrel, h => by
  match l, vs, hrel with
  | [], _, _ => cases h
  | av :: l, v :: vs, hrel =>
   simp only [qbe] at h
   split at h
   case h_2 => cases h
   rename_i g id
   cases hg : Nat.beq g f with
   | false => rw [hg] at h; cases h
   | true =>
   rw [hg, cond_true] at h
   obtain rfl := Nat.eq_of_beq_eq_true hg
   split at h
   case h_2 => cases h
   rename_i o ho
   obtain ⟨row, σ, x⟩ := o
   cases row with
   | true => cases h
   | false =>
   simp only [cond_false, ql] at h
   replace h := Option.bind_eq_some_iff.1 h
   obtain ⟨y, hy, h⟩ := h
   obtain ⟨e, hy⟩ := qj hy
   subst e
   subst hy
   obtain ⟨d, h, Φs, h2, h3⟩ := qaT hcfg hs hle (fun id hid => hf id (by simp [qx, hid])) hrel.2 h
   obtain ⟨v1, v2, e1, e2, e3⟩ := hrel.1
   have e2 : v1 = #[] := by simpa [qg] using e2
   obtain ⟨u, us, e4, ⟨o2, y2, b, off, q1, _, _, q4, q5⟩, e5⟩ := e3
   have e5 : us = [] := by simpa [qg] using e5
   have e4 : v2 = #[u] := by simpa [e5] using e4
   rw [ho] at q1
   cases q1
   obtain ⟨rfl, rfl⟩ := jT.det _ q4 (jV w σ (Φ id).b 0)
   exact ⟨(_, d), h, Φ id :: Φs, ⟨v, vs, Φ id, Φs, rfl, rfl, by rw [e1, e2, e4, q5], (hs.os id _ ho).1.frame hle (fun _ _ => rfl), h2⟩, id, l, Φs, _, rfl, rfl, ho, h3⟩
  | _ :: _, [], hrel => exact hrel.elim
end
end Go.Vi
namespace Go.Vi
section
variable {P : Program} {C : Ctx} {cfg : jM} {R : Type} {r : R} {s : St} {a : Act} {w : World} {H : FH} {Φ : Nat → qC} {dst : Option Nat} {ty : TypeId} {pos : String} {after : Array Edge} {guard : Option (Nat × Bool)} {k : St → Option R}
def qff (id : Nat) : Option Obj → AV → Bool
 | some o => AV.stale id o.row
 | none => AV.names id
def qdL (ch : Nat → Option (Option Obj × List Nat)) (Φ : Nat → qC) (id : Nat) : qC :=
 match ch id with
 | some x => ⟨(Φ id).b, (Φ id).hdr, x.2⟩
 | none => Φ id
theorem qk.changes {s s' : St} {a : Act} {w w' : World} {H H' : FH} {Φ : Nat → qC} (h : qk P C s a w H Φ) {ch : Nat → Option (Option Obj × List Nat)} {F : AV → Bool}
  (hch : ∀ id x, ch id = some x → ∃ o, s.obj id = some o ∧ ∀ ob, x.1 = some ob → ob.row = o.row ∧ ob.τ = o.τ ∧ qP P w' H' ob ⟨(Φ id).b, (Φ id).hdr, x.2⟩)
  (hobj : ∀ id, s'.obj id = match ch id with | some x => x.1 | none => s.obj id)
  (hget : ∀ t, s'.get t = (s.get t).map (AV.killIf F)) (hF : ∀ id x, ch id = some x → ∀ av, qff id x.1 av = true → F av = true) (hFu : ∀ av, AV.isUpd av = true → F av = true)
  (hH : H.le H') (hok' : HOk H' w') (hnew : ∀ b c, H' b = some c → C.H0 b = some c ∨ C.M0 b ∨ C.w0.heap.size ≤ b) (hmod : j7 C.M0 C.w0 w') (hsz : w.heap.size ≤ w'.heap.size)
  (hw : ∀ j o', ch j = none → s.obj j = some o' → ∀ b ∈ (Φ j).fp, w'.heap[b]? = w.heap[b]? ∧ H' b = none)
  (hfp : ∀ id x, ch id = some x → ∀ b ∈ x.2, H' b = none ∧ (C.M0 b ∨ C.w0.heap.size ≤ b) ∧ b < w'.heap.size ∧ ∀ j o', ch j = none → s.obj j = some o' → b ∉ (Φ j).fp)
  (hdisj : ∀ i j x y, i ≠ j → ch i = some x → ch j = some y → ∀ b ∈ x.2, b ∉ y.2) :
  qk P C s' a w' H' (qdL ch Φ) := by
 have hsame : ∀ j, ch j = none → qdL ch Φ j = Φ j := fun j hj => by unfold qdL; rw [hj]
 have hthat : ∀ j x, ch j = some x → qdL ch Φ j = ⟨(Φ j).b, (Φ j).hdr, x.2⟩ := fun j x hj => by unfold qdL; rw [hj]
 have hos : ∀ j o', ch j = none → s.obj j = some o' → s'.obj j = some o' := by
  intro j o' hj hoj
  rw [hobj, hj]; exact hoj
 refine ⟨h.defers, h.size, FH.le_trans h.le hH, hok', hnew, hmod, ?_, ?_, ?_, ?_⟩
 ·intro t av ht
  rw [hget] at ht
  obtain ⟨av0, h0, rfl⟩ := Option.map_eq_some_iff.1 ht
  refine qg.transfer F hH ?_ ?_ ?_ av0 _ (h.ts t av0 h0)
  ·intro j p v hf hr
   cases hj : ch j with
   | some x =>
    obtain ⟨xo, xf⟩ := x
    cases xo with
    | none =>
     have := hF j _ hj (.ptr j p) (by simp [qff, AV.names, Nat.beq_refl])
     rw [hf] at this; cases this
    | some xo =>
    obtain ⟨o, ho, hall⟩ := hch j _ hj
    obtain ⟨hrow, hτ, _⟩ := hall xo rfl
    obtain ⟨o1, y, b, off, h1, h2, h3, h4, h5⟩ := hr
    rw [ho] at h1
    cases h1
    have hp : p.any qs.isI = false := by
     cases hpp : p.any qs.isI with
     | false => rfl
     | true =>
      have := hF j _ hj (.ptr j p) (by simp [qff, AV.stale, Nat.beq_refl, hpp])
      rw [hf] at this; cases this
    have hrow0 : o.row = false := by
     cases hr : o.row with
     | false => rfl
     | true =>
      exfalso
      obtain ⟨row, τ, x⟩ := o
      simp only at hr
      subst hr
      unfold j1 at h4
      simp only at h4
      split at h4
      ·simp [qs.isI] at hp
      ·exact h4
    obtain ⟨xrow, xτ, xx⟩ := xo
    obtain ⟨row, τ, ox⟩ := o
    simp only at hrow hτ hrow0
    subst hτ
    subst hrow
    subst hrow0
    obtain ⟨y', hy'⟩ := qbv xτ xx hp (jQ _ h3)
    refine ⟨⟨false, xτ, xx⟩, ⟨y.1, y'⟩, b, off, ?_, rfl, hy', ?_, h5⟩
    ·rw [hobj, hj]
    ·rw [hthat j _ hj]
     exact jT.static _ hp h4
   | none => exact qg.ptr_stay (fun o ho => hos j o hj ho) (hsame j hj) (fun o1 ho1 => ⟨(h.os j o1 ho1).1, fun b hb => (hw j o1 hj ho1 b hb).1⟩) hr
  ·intro j p v hf hr
   cases hj : ch j with
   | some x =>
    obtain ⟨xo, xf⟩ := x
    cases xo with
    | none =>
     have := hF j _ hj (.view j p) (by simp [qff, AV.names, Nat.beq_refl])
     rw [hf] at this; cases this
    | some xo =>
    obtain ⟨o, ho, hall⟩ := hch j _ hj
    obtain ⟨hrow, hτ, _⟩ := hall xo rfl
    have hp : (o.row && p.isEmpty) = true := by
     cases hpp : o.row && p.isEmpty with
     | true => rfl
     | false =>
      have := hF j _ hj (.view j p) (by simp [qff, AV.stale, Nat.beq_refl, hrow, hpp])
      rw [hf] at this; cases this
    obtain ⟨o1, y, h1, h2, h3⟩ := hr
    rw [ho] at h1
    cases h1
    rw [hp] at h3
    simp only [Bool.and_eq_true, List.isEmpty_iff] at hp
    obtain ⟨hrow0, rfl⟩ := hp
    refine ⟨xo, ⟨xo.τ, xo.x⟩, by rw [hobj, hj], qN _ _, ?_⟩
    simp only [hrow, hrow0, List.isEmpty_nil, Bool.and_self, hthat j _ hj]
    exact h3
   | none => exact qg.view_stay (fun o ho => hos j o hj ho) (hsame j hj) (fun o1 ho1 => ⟨(h.os j o1 ho1).1, fun b hb => (hw j o1 hj ho1 b hb).1⟩) hr
  ·intro j p t e l v hf
   rw [hFu _ rfl] at hf; cases hf
 ·intro j o1 hj
  rw [hobj] at hj
  cases hc : ch j with
  | some x =>
   rw [hc] at hj
   obtain ⟨o, ho, hall⟩ := hch j x hc
   obtain ⟨_, _, hok⟩ := hall o1 hj
   rw [hthat j x hc]
   exact ⟨hok, fun b hb => ⟨(hfp j x hc b hb).1, (hfp j x hc b hb).2.1, (hfp j x hc b hb).2.2.1⟩⟩
  | none =>
   rw [hc] at hj
   rw [hsame j hc]
   obtain ⟨h1, h2⟩ := h.os j o1 hj
   exact ⟨h1.frame hH (fun b hb => (hw j o1 hc hj b hb).1), fun b hb => ⟨(hw j o1 hc hj b hb).2, (h2 b hb).2.1, Nat.lt_of_lt_of_le (h2 b hb).2.2 hsz⟩⟩
 ·intro i j o1 o2 hij h1 h2 b hb
  rw [hobj] at h1 h2
  cases hi : ch i with
  | some x =>
   rw [hthat i x hi] at hb
   cases hj : ch j with
   | some y =>
    rw [hthat j y hj]
    exact hdisj i j x y hij hi hj b hb
   | none =>
    rw [hj] at h2
    rw [hsame j hj]
    exact (hfp i x hi b hb).2.2.2 j o2 hj h2
  | none =>
   rw [hi] at h1
   rw [hsame i hi] at hb
   cases hj : ch j with
   | some y =>
    rw [hthat j y hj]
    intro hb'
    exact (hfp j y hj b hb').2.2.2 i o1 hi h1 hb
   | none =>
    rw [hj] at h2
    rw [hsame j hj]
    exact h.disj i j o1 o2 hij h1 h2 b hb
 ·refine ⟨fun j φ' hj => ?_, fun j => ?_⟩
  ·have := h.pins.1 j φ' hj
   cases hc : ch j with
   | some x => rw [hthat j x hc]; exact this
   | none => rw [hsame j hc]; exact this
  ·have := h.pins.2 j
   cases hc : ch j with
   | some x => rw [hthat j x hc]; exact this
   | none => rw [hsame j hc]; exact this
theorem j3 (f g : AV → Bool) : ∀ av : AV, (av.killIf f).killIf g = av.killIf (fun x => f x || g x)
 | .dead => by simp only [AV.killIf]; cases f .dead <;> simp [AV.killIf]
 | .val τ x => by simp only [AV.killIf]; cases f (.val τ x) <;> simp [AV.killIf]
 | .ref τ x => by simp only [AV.killIf]; cases f (.ref τ x) <;> simp [AV.killIf]
 | .ptr i p => by simp only [AV.killIf]; cases f (.ptr i p) <;> simp [AV.killIf]
 | .view i p => by simp only [AV.killIf]; cases f (.view i p) <;> simp [AV.killIf]
 | .upd i p t e l => by simp only [AV.killIf]; cases f (.upd i p t e l) <;> simp [AV.killIf]
 | .cut i p z lo => by simp only [AV.killIf]; cases hf : f (.view i p) <;> simp [AV.killIf]
 | .fn h a b => by simp only [AV.killIf, j3 f g a, j3 f g b]
 | .nil => by simp only [AV.killIf]; cases f .nil <;> simp [AV.killIf]
 | .gh n a => by simp only [AV.killIf, j3 f g a]
 | .cv i h n => by simp only [AV.killIf]; cases f (.cv i h n) <;> simp [AV.killIf]
 | .cons a b => by simp only [AV.killIf, j3 f g a, j3 f g b]
theorem qbf {os : Nat → Option Obj} {w' : World} {H' : FH} {Hf : FH} : ∀ {ps : List jZ} {l : List AV} {vs : List Value} {Φs Φs' : List qC} {d : PDens ps} {md : MDens ps}, qdt os Φ ps l Φs → jU P w Hf ps d vs Φs → jN P w' H' ps md vs Φs' →
  ∃ ML : List (Nat × Option Obj × List Nat), ML.map (·.1) = qJ ps l ∧ qd Φs' = ML.flatMap (·.2.2) ∧ qd Φs = ML.flatMap (fun x => (Φ x.1).fp) ∧
   (∀ x ∈ ML, ∃ o, os x.1 = some o ∧ ∀ ob, x.2.1 = some ob → ob.row = o.row ∧ ob.τ = o.τ ∧ qP P w' H' ob ⟨(Φ x.1).b, (Φ x.1).hdr, x.2.2⟩) ∧
   ∀ s0 : St, ∃ F, (∀ t, (qu s0 ps l md).get t = (s0.get t).map (AV.killIf F)) ∧ (∀ x ∈ ML, ∀ av, qff x.1 x.2.1 av = true → F av = true) ∧ ((ML.map (·.1)).Nodup → ∀ j, (qu s0 ps l md).obj j = match lk ML j with | some x => x.1 | none => s0.obj j)
 | [], l, vs, Φs, Φs', d, md, hm, ha, hmu => by
  obtain ⟨rfl, rfl⟩ := hm
  obtain ⟨rfl, _⟩ := ha
  obtain ⟨_, rfl⟩ := hmu
  refine ⟨[], rfl, rfl, rfl, by simp, fun s0 => ⟨fun _ => false, fun t => ?_, by simp, fun _ j => rfl⟩⟩
  simp only [qu]
  cases s0.get t with
  | none => rfl
  | some av => simp [qg.id_kill]
 | .v τ :: ps, l, vs, Φs, Φs', d, md, hm, ha, hmu => by
  obtain ⟨av, l', φ, Φs1, rfl, rfl, hφ, hm⟩ := hm
  obtain ⟨v, vs', φ', Φs1', rfl, e1, _, hφ', _, ha⟩ := ha
  obtain ⟨rfl, rfl⟩ : φ = φ' ∧ Φs1 = Φs1' := by simpa using e1
  obtain ⟨v2, vs2, φ2, Φs2, e2, rfl, hφ2, hmu⟩ := hmu
  obtain ⟨rfl, rfl⟩ : v = v2 ∧ vs' = vs2 := by simpa using e2
  obtain ⟨ML, h1, h2, h3, h4, h5⟩ := qbf hm ha hmu
  exact ⟨ML, h1, by simpa [qd, hφ2] using h2, by simpa [qd, hφ] using h3, h4, h5⟩
 | .r τ :: ps, l, vs, Φs, Φs', d, md, hm, ha, hmu => by
  obtain ⟨av, l', φ, Φs1, rfl, rfl, hφ, hm⟩ := hm
  obtain ⟨v, vs', φ', Φs1', rfl, e1, _, hφ', _, ha⟩ := ha
  obtain ⟨rfl, rfl⟩ : φ = φ' ∧ Φs1 = Φs1' := by simpa using e1
  obtain ⟨v2, vs2, φ2, Φs2, e2, rfl, hφ2, hmu⟩ := hmu
  obtain ⟨rfl, rfl⟩ : v = v2 ∧ vs' = vs2 := by simpa using e2
  obtain ⟨ML, h1, h2, h3, h4, h5⟩ := qbf hm ha hmu
  exact ⟨ML, h1, by simpa [qd, hφ2] using h2, by simpa [qd, hφ] using h3, h4, h5⟩
 | .c _ :: ps, l, vs, Φs, Φs', d, md, hm, ha, hmu => by
  obtain ⟨av, l', φ, Φs1, rfl, rfl, hφ, hm⟩ := hm
  obtain ⟨v, vs', φ', Φs1', rfl, e1, _, hφ', _, ha⟩ := ha
  obtain ⟨rfl, rfl⟩ : φ = φ' ∧ Φs1 = Φs1' := by simpa using e1
  obtain ⟨v2, vs2, φ2, Φs2, e2, rfl, hφ2, hmu⟩ := hmu
  obtain ⟨rfl, rfl⟩ : v = v2 ∧ vs' = vs2 := by simpa using e2
  obtain ⟨ML, h1, h2, h3, h4, h5⟩ := qbf hm ha hmu
  exact ⟨ML, h1, by simpa [qd, hφ2] using h2, by simpa [qd, hφ] using h3, h4, h5⟩
 | .m τ :: ps, l, vs, Φs, Φs', d, md, hm, ha, hmu => by
  obtain ⟨id, l', Φs1, x, rfl, rfl, ho, hm⟩ := hm
  obtain ⟨v, vs', φ', Φs1', rfl, e1, hv, _, ha⟩ := ha
  obtain ⟨rfl, rfl⟩ : Φ id = φ' ∧ Φs1 = Φs1' := by simpa using e1
  obtain ⟨v2, vs2, φ2, Φs2, e2, rfl, hv2, hok2, hmu⟩ := hmu
  obtain ⟨rfl, rfl⟩ : v = v2 ∧ vs' = vs2 := by simpa using e2
  obtain ⟨ML, h1, h2, h3, h4, h5⟩ := qbf hm ha hmu
  have hb : φ2.b = (Φ id).b := by
   rw [hv] at hv2
   simpa using hv2.symm
  refine ⟨(id, some ⟨false, τ, md.1⟩, φ2.fp) :: ML, by simp [qJ, AV.name, h1], by simpa [qd] using h2, by simpa [qd] using h3, ?_, ?_⟩
  ·intro y hy
   rcases List.mem_cons.1 hy with rfl | hy
   ·refine ⟨_, ho, fun ob hob => ?_⟩
    cases hob
    refine ⟨rfl, rfl, ?_⟩
    obtain ⟨k1, k2, blk, t, fp', k3, k4, k5⟩ := hok2
    exact ⟨k1, k2, blk, t, fp', by rw [← hb]; exact k3, k4, by rw [← hb]; exact k5⟩
   ·exact h4 y hy
  ·intro s0
   obtain ⟨F, g1, g2, g3⟩ := h5 ((s0.killIf (AV.stale id false)).setObj id (some ⟨false, τ, md.1⟩))
   refine ⟨fun av => AV.stale id false av || F av, ?_, ?_, ?_⟩
   ·intro t
    show (qu ((s0.killIf (AV.stale id false)).setObj id (some ⟨false, τ, md.1⟩)) ps l' md.2).get t = _
    rw [g1, St.get_setObj, St.get_killIf]
    cases s0.get t with
    | none => rfl
    | some av => simp [j3]
   ·intro y hy av hst
    rcases List.mem_cons.1 hy with rfl | hy
    ·have hst : AV.stale id false av = true := hst
     simp [hst]
    ·simp [g2 y hy av hst]
   ·intro hnd j
    simp only [List.map_cons, List.nodup_cons] at hnd
    show (qu ((s0.killIf (AV.stale id false)).setObj id (some ⟨false, τ, md.1⟩)) ps l' md.2).obj j = _
    rw [g3 hnd.2 j, jD, St.obj_setObj, St.obj_killIf]
    cases hb : Nat.beq id j with
    | true =>
     obtain rfl := Nat.eq_of_beq_eq_true hb
     rw [qde hnd.1, if_pos rfl]
     rfl
    | false =>
     rw [if_neg (Nat.ne_of_beq_eq_false hb)]
     rfl
 | .mr tid e :: ps, l, vs, Φs, Φs', d, md, hm, ha, hmu => by
  obtain ⟨id, l', Φs1, x, rfl, rfl, ho, hm⟩ := hm
  obtain ⟨v, vs', φ', Φs1', rfl, e1, hv, _, ha⟩ := ha
  obtain ⟨rfl, rfl⟩ : Φ id = φ' ∧ Φs1 = Φs1' := by simpa using e1
  obtain ⟨v2, vs2, φ2, Φs2, e2, rfl, hv2, hok2, hmu⟩ := hmu
  obtain ⟨rfl, rfl⟩ : v = v2 ∧ vs' = vs2 := by simpa using e2
  obtain ⟨ML, h1, h2, h3, h4, h5⟩ := qbf hm ha hmu
  have hb : φ2.hdr = (Φ id).hdr := by rw [← hv, hv2]
  refine ⟨(id, some ⟨true, .list true tid e, md.1⟩, φ2.fp) :: ML, by simp [qJ, AV.name, h1], by simpa [qd] using h2, by simpa [qd] using h3, ?_, ?_⟩
  ·intro y hy
   rcases List.mem_cons.1 hy with rfl | hy
   ·refine ⟨_, ho, fun ob hob => ?_⟩
    cases hob
    refine ⟨rfl, rfl, ?_⟩
    obtain ⟨k1, k2, k3, k4⟩ := hok2
    exact ⟨k1, k2, k3, by rw [← hb]; exact k4⟩
   ·exact h4 y hy
  ·intro s0
   obtain ⟨F, g1, g2, g3⟩ := h5 ((s0.killIf (AV.stale id true)).setObj id (some ⟨true, .list true tid e, md.1⟩))
   refine ⟨fun av => AV.stale id true av || F av, ?_, ?_, ?_⟩
   ·intro t
    show (qu ((s0.killIf (AV.stale id true)).setObj id (some ⟨true, .list true tid e, md.1⟩)) ps l' md.2).get t = _
    rw [g1, St.get_setObj, St.get_killIf]
    cases s0.get t with
    | none => rfl
    | some av => simp [j3]
   ·intro y hy av hst
    rcases List.mem_cons.1 hy with rfl | hy
    ·have hst : AV.stale id true av = true := hst
     simp [hst]
    ·simp [g2 y hy av hst]
   ·intro hnd j
    simp only [List.map_cons, List.nodup_cons] at hnd
    show (qu ((s0.killIf (AV.stale id true)).setObj id (some ⟨true, .list true tid e, md.1⟩)) ps l' md.2).obj j = _
    rw [g3 hnd.2 j, jD, St.obj_setObj, St.obj_killIf]
    cases hb : Nat.beq id j with
    | true =>
     obtain rfl := Nat.eq_of_beq_eq_true hb
     rw [qde hnd.1, if_pos rfl]
     rfl
    | false =>
     rw [if_neg (Nat.ne_of_beq_eq_false hb)]
     rfl
 | .t tid e :: ps, l, vs, Φs, Φs', d, md, hm, ha, hmu => by
  obtain ⟨id, l', Φs1, x, rfl, rfl, ho, hm⟩ := hm
  obtain ⟨v, vs', φ', Φs1', rfl, e1, hv, _, ha⟩ := ha
  obtain ⟨rfl, rfl⟩ : Φ id = φ' ∧ Φs1 = Φs1' := by simpa using e1
  obtain ⟨v2, vs2, φ2, Φs2, e2, rfl, hφ2, hmu⟩ := hmu
  obtain ⟨rfl, rfl⟩ : v = v2 ∧ vs' = vs2 := by simpa using e2
  obtain ⟨ML, h1, h2, h3, h4, h5⟩ := qbf hm ha hmu
  refine ⟨(id, none, []) :: ML, by simp [qJ, AV.name, h1], by simpa [qd, hφ2] using h2, by simpa [qd] using h3, ?_, ?_⟩
  ·intro y hy
   rcases List.mem_cons.1 hy with rfl | hy
   ·exact ⟨_, ho, fun ob hob => by cases hob⟩
   ·exact h4 y hy
  ·intro s0
   obtain ⟨F, g1, g2, g3⟩ := h5 ((s0.kill id).setObj id none)
   refine ⟨fun av => AV.names id av || F av, ?_, ?_, ?_⟩
   ·intro t
    show (qu ((s0.kill id).setObj id none) ps l' md).get t = _
    rw [g1, St.get_setObj, St.kill, St.get_killIf]
    cases s0.get t with
    | none => rfl
    | some av => simp [j3]
   ·intro y hy av hst
    rcases List.mem_cons.1 hy with rfl | hy
    ·have hst : AV.names id av = true := hst
     simp [hst]
    ·simp [g2 y hy av hst]
   ·intro hnd j
    simp only [List.map_cons, List.nodup_cons] at hnd
    show (qu ((s0.kill id).setObj id none) ps l' md).obj j = _
    rw [g3 hnd.2 j, jD, St.obj_setObj, St.kill, St.obj_killIf]
    cases hb : Nat.beq id j with
    | true =>
     obtain rfl := Nat.eq_of_beq_eq_true hb
     rw [qde hnd.1, if_pos rfl]
     rfl
    | false =>
     rw [if_neg (Nat.ne_of_beq_eq_false hb)]
     rfl
 | .gm τ :: ps, l, vs, Φs, Φs', d, md, hm, ha, hmu => by
  obtain ⟨id, l', Φs1, x, rfl, rfl, ho, hm⟩ := hm
  obtain ⟨v, vs', φ', Φs1', rfl, e1, hv, _, ha⟩ := ha
  obtain ⟨rfl, rfl⟩ : Φ id = φ' ∧ Φs1 = Φs1' := by simpa using e1
  obtain ⟨v2, vs2, φ2, Φs2, e2, rfl, hφ2, hmu⟩ := hmu
  obtain ⟨rfl, rfl⟩ : v = v2 ∧ vs' = vs2 := by simpa using e2
  obtain ⟨ML, h1, h2, h3, h4, h5⟩ := qbf hm ha hmu
  refine ⟨(id, none, []) :: ML, by simp [qJ, AV.name, h1], by simpa [qd, hφ2] using h2, by simpa [qd] using h3, ?_, ?_⟩
  ·intro y hy
   rcases List.mem_cons.1 hy with rfl | hy
   ·exact ⟨_, ho, fun ob hob => by cases hob⟩
   ·exact h4 y hy
  ·intro s0
   obtain ⟨F, g1, g2, g3⟩ := h5 ((s0.kill id).setObj id none)
   refine ⟨fun av => AV.names id av || F av, ?_, ?_, ?_⟩
   ·intro t
    show (qu ((s0.kill id).setObj id none) ps l' md).get t = _
    rw [g1, St.get_setObj, St.kill, St.get_killIf]
    cases s0.get t with
    | none => rfl
    | some av => simp [j3]
   ·intro y hy av hst
    rcases List.mem_cons.1 hy with rfl | hy
    ·have hst : AV.names id av = true := hst
     simp [hst]
    ·simp [g2 y hy av hst]
   ·intro hnd j
    simp only [List.map_cons, List.nodup_cons] at hnd
    show (qu ((s0.kill id).setObj id none) ps l' md).obj j = _
    rw [g3 hnd.2 j, jD, St.obj_setObj, St.kill, St.obj_killIf]
    cases hb : Nat.beq id j with
    | true =>
     obtain rfl := Nat.eq_of_beq_eq_true hb
     rw [qde hnd.1, if_pos rfl]
     rfl
    | false =>
     rw [if_neg (Nat.ne_of_beq_eq_false hb)]
     rfl
 | .cm f τ :: ps, l, vs, Φs, Φs', d, md, hm, ha, hmu => by
  obtain ⟨id, l', Φs1, x, rfl, rfl, ho, hm⟩ := hm
  obtain ⟨v, vs', φ', Φs1', rfl, e1, hv, _, ha⟩ := ha
  obtain ⟨rfl, rfl⟩ : Φ id = φ' ∧ Φs1 = Φs1' := by simpa using e1
  obtain ⟨v2, vs2, φ2, Φs2, e2, rfl, hv2, hok2, hmu⟩ := hmu
  obtain ⟨rfl, rfl⟩ : v = v2 ∧ vs' = vs2 := by simpa using e2
  obtain ⟨ML, h1, h2, h3, h4, h5⟩ := qbf hm ha hmu
  have hb : φ2.b = (Φ id).b := by
   rw [hv] at hv2
   simpa using hv2.symm
  refine ⟨(id, some ⟨false, τ, md.1⟩, φ2.fp) :: ML, by simp [qJ, AV.capName, AV.name, h1], by simpa [qd] using h2, by simpa [qd] using h3, ?_, ?_⟩
  ·intro y hy
   rcases List.mem_cons.1 hy with rfl | hy
   ·refine ⟨_, ho, fun ob hob => ?_⟩
    cases hob
    refine ⟨rfl, rfl, ?_⟩
    obtain ⟨k1, k2, blk, t, fp', k3, k4, k5⟩ := hok2
    exact ⟨k1, k2, blk, t, fp', by rw [← hb]; exact k3, k4, by rw [← hb]; exact k5⟩
   ·exact h4 y hy
  ·intro s0
   obtain ⟨F, g1, g2, g3⟩ := h5 ((s0.killIf (AV.stale id false)).setObj id (some ⟨false, τ, md.1⟩))
   refine ⟨fun av => AV.stale id false av || F av, ?_, ?_, ?_⟩
   ·intro t
    show (qu ((s0.killIf (AV.stale id false)).setObj id (some ⟨false, τ, md.1⟩)) ps l' md.2).get t = _
    rw [g1, St.get_setObj, St.get_killIf]
    cases s0.get t with
    | none => rfl
    | some av => simp [j3]
   ·intro y hy av hst
    rcases List.mem_cons.1 hy with rfl | hy
    ·have hst : AV.stale id false av = true := hst
     simp [hst]
    ·simp [g2 y hy av hst]
   ·intro hnd j
    simp only [List.map_cons, List.nodup_cons] at hnd
    show (qu ((s0.killIf (AV.stale id false)).setObj id (some ⟨false, τ, md.1⟩)) ps l' md.2).obj j = _
    rw [g3 hnd.2 j, jD, St.obj_setObj, St.obj_killIf]
    cases hb : Nat.beq id j with
    | true =>
     obtain rfl := Nat.eq_of_beq_eq_true hb
     rw [qde hnd.1, if_pos rfl]
     rfl
    | false =>
     rw [if_neg (Nat.ne_of_beq_eq_false hb)]
     rfl
end
end Go.Vi
