/- The abstract interpreter 'Vi', twenty-second part: the call operation. No condition beyond those typed in each theorem. -/
import Derived.Test.YtjhphibadndkcaaVi21
namespace Go.Vi

/-- The cells of a flat value. -/
def flatCells : (τ : Ty) → τ.den → List Value
  | .int k, x => [.int k x]
  | .bool, x => [.bool x]
  | .pair a b, x => flatCells a x.1 ++ flatCells b x.2
  | .str t, x => flatCells t x
  | .arr _ e, l => (l.map fun x => flatCells e x).flatten
  | _, _ => []

def RTy.isV : RTy → Bool
  | .v τ => τ.isFlat
  | _ => false

/-- A callee that reads alone, and whose results are numbers and bools. -/
def quietP (p : Prim) : Bool := p.ps.all PTy.reads && p.rs.all RTy.isV && Nat.blt p.rs.length 1000

def flatUs : (rs : List RTy) → RDens rs → List Value
  | [], _ => []
  | .v τ :: rs, d => toV τ (flatCells τ d.1) :: flatUs rs d.2
  | .own _ _ :: rs, d => undef :: flatUs rs d.2
  | .optr _ :: rs, d => undef :: flatUs rs d.2

section
variable {P : Program} {C : Ctx} {cfg : Cfg} {R : Type} {r : R} {s : St} {a : Act} {w : World} {H : FH} {Φ : Nat → Info} {dst : Option Nat} {ty : TypeId} {pos : String} {after : Array Edge} {guard : Option (Nat × Bool)} {k : St → Option R}

theorem Chunks.flat {α : Type} {Q : α → List Value → List Nat → Prop} {f : α → List Value} (h : ∀ x c fp, Q x c fp → c = f x) : ∀ {l : List α} {xs fp}, Chunks Q l xs fp → xs = (l.map f).flatten
  | [], _, _, hh => by simp [hh.1]
  | x :: l, _, _, ⟨c, xs', g, fp', e1, _, h2, h3⟩ => by rw [e1, h _ _ _ h2, Chunks.flat h h3]; simp

theorem Rep.flat : (τ : Ty) → τ.isFlat = true → ∀ {w H x cs fp}, Rep P τ w H x cs fp → cs = flatCells τ x
  | .int _, _, _, _, _, _, _, h => h.1
  | .bool, _, _, _, _, _, _, h => h.1
  | .list _ _ _, hf, _, _, _, _, _, _ => by simp [Ty.isFlat] at hf
  | .pair a b, hf, _, _, _, _, _, h => by
    simp only [Ty.isFlat, Bool.and_eq_true] at hf
    obtain ⟨c1, c2, f1, f2, e, _, h1, h2⟩ := h
    rw [e, Rep.flat a hf.1 h1, Rep.flat b hf.2 h2]; rfl
  | .str t, hf, _, _, _, _, _, h => Rep.flat t (by simpa [Ty.isFlat] using hf) h
  | .ptr _, hf, _, _, _, _, _, _ => by simp [Ty.isFlat] at hf
  | .arr _ e, hf, _, _, _, _, _, h => Chunks.flat (fun _ _ _ hh => Rep.flat e (by simpa [Ty.isFlat] using hf) hh) h.2
  | .fn _ _, hf, _, _, _, _, _, _ => by simp [Ty.isFlat] at hf
  | .fn2 _ _ _, hf, _, _, _, _, _, _ => by simp [Ty.isFlat] at hf

theorem Rep.flat_any : (τ : Ty) → τ.isFlat = true → ∀ {w H x cs fp}, Rep P τ w H x cs fp → ∀ w' H', Rep P τ w' H' x cs []
  | τ, hf, w, H, x, cs, fp, h => by
    intro w' H'
    have hfp := Rep.fz_fp τ (Ty.flat_fz τ hf) h
    subst hfp
    exact Rep.closed τ (Ty.flat_closed τ hf) (Rep.mono τ (FH.le_refl H) (by simp) h)

theorem res_flat : ∀ {rs : List RTy} {d : RDens rs} {us : List Value} {Ψs : List Info}, rs.all RTy.isV = true → ResOK P w H rs d us Ψs → us = flatUs rs d ∧
    ∀ {w' H' Φ' os} (s : St) (n : Nat), (resAVs s n rs d).1 = s ∧ (resAVs s n rs d).2.isTup = true ∧ RepA P C w' H' Φ' os (resAVs s n rs d).2 (.tuple us.toArray)
  | [], _, us, Ψs, _, h => by
    obtain ⟨rfl, rfl⟩ := h
    exact ⟨rfl, fun s n => ⟨rfl, rfl, rfl⟩⟩
  | .v τ :: rs, d, us, Ψs, hf, h => by
    simp only [List.all_cons, Bool.and_eq_true] at hf
    obtain ⟨v, vs', φ, Φs', rfl, rfl, hfz, _, ⟨cs, hv, hrep⟩, h⟩ := h
    obtain ⟨h1, h2⟩ := res_flat hf.2 h
    have hcs := Rep.flat τ hf.1 hrep
    refine ⟨by rw [hv, hcs, h1]; rfl, fun s n => ?_⟩
    obtain ⟨k1, k2, k3⟩ := h2 s (n + 1)
    exact ⟨k1, k2, v, vs', rfl, ⟨hfz, cs, hv, Rep.flat_any τ hf.1 hrep _ _⟩, k3⟩
  | .own _ _ :: rs, _, _, _, hf, _ => by simp [RTy.isV] at hf
  | .optr _ :: rs, _, _, _, hf, _ => by simp [RTy.isV] at hf

theorem args_reads {w' : World} : ∀ {ps : List PTy} {d : PDens ps} {vs : List Value} {Φs : List Info}, ps.all PTy.reads = true → ArgsOK P w H ps d vs Φs → ArgsOK P w' H ps d vs Φs ∧ fpsOf Φs = []
  | [], _, _, _, _, h => ⟨h, by rw [h.2]; rfl⟩
  | .v τ :: ps, d, vs, Φs, hp, h => by
    obtain ⟨v, vs', φ, Φs', e1, e2, e3, e4, e5, h⟩ := h
    obtain ⟨h1, h2⟩ := args_reads (by simpa [PTy.reads] using hp) h
    exact ⟨⟨v, vs', φ, Φs', e1, e2, e3, e4, RepV.mono (FH.le_refl H) e5, h1⟩, by rw [e2]; simpa [fpsOf, e4] using h2⟩
  | .r τ :: ps, d, vs, Φs, hp, h => by
    obtain ⟨v, vs', φ, Φs', e1, e2, e3, e4, e5, h⟩ := h
    obtain ⟨h1, h2⟩ := args_reads (by simpa [PTy.reads] using hp) h
    exact ⟨⟨v, vs', φ, Φs', e1, e2, e3, e4, RepR.mono (FH.le_refl H) e5, h1⟩, by rw [e2]; simpa [fpsOf, e4] using h2⟩
  | .m _ :: _, _, _, _, hp, _ => by simp [PTy.reads] at hp
  | .mr _ _ :: _, _, _, _, hp, _ => by simp [PTy.reads] at hp

theorem muts_reads : ∀ {ps : List PTy} (l : List AV) (md : MDens ps) (s : St), ps.all PTy.reads = true → afterMuts s ps l md = s
  | [], l, _, _, _ => by cases l <;> rfl
  | .v _ :: ps, [], _, _, _ => rfl
  | .v _ :: ps, _ :: l, md, s, hp => muts_reads (ps := ps) l md s (by simpa [PTy.reads] using hp)
  | .r _ :: ps, [], _, _, _ => rfl
  | .r _ :: ps, _ :: l, md, s, hp => muts_reads (ps := ps) l md s (by simpa [PTy.reads] using hp)
  | .m _ :: _, _, _, _, hp => by simp [PTy.reads] at hp
  | .mr _ _ :: _, _, _, _, hp => by simp [PTy.reads] at hp

theorem isV_closed : ∀ {rs : List RTy}, rs.all RTy.isV = true → rs.all RTy.closed = true
  | [], _ => rfl
  | .v τ :: rs, h => by
    simp only [List.all_cons, Bool.and_eq_true] at h ⊢
    exact ⟨h.1, isV_closed h.2⟩
  | .own _ _ :: rs, h => by simp [RTy.isV] at h
  | .optr _ :: rs, h => by simp [RTy.isV] at h
theorem reads_closed : ∀ {ps : List PTy}, ps.all PTy.reads = true → ps.all PTy.closed = true
  | [], _ => rfl
  | .v _ :: ps, h => by simpa [PTy.closed] using reads_closed (ps := ps) (by simpa [PTy.reads] using h)
  | .r _ :: ps, h => by simpa [PTy.closed] using reads_closed (ps := ps) (by simpa [PTy.reads] using h)
  | .m _ :: _, hp => by simp [PTy.reads] at hp
  | .mr _ _ :: _, hp => by simp [PTy.reads] at hp

/-- A call that reads alone. -/
theorem callK_quiet (hcfg : CfgOK P cfg) (hC : CtxOK C cfg) {f : Nat} {p : Prim} (hp : lk cfg.prims f = some p) (hqp : quietP p = true) {l : List AV} {vs : List Value} (hs : SimB P C s a w H Φ) (hd : dstOK cfg.nt dst = true) (hrel : Rel2 (RepA P C w H Φ s.obj) l vs)
    (h : callK cfg s dst p l k = some r) : ∃ s', k s' = some r ∧ ∃ v, Sim P C s' (a.put dst v) w ∧ ∀ w', Mod noBlock w w' → Calls P f vs.toArray w' fun e w'' => e = .returned v ∧ Mod noBlock w w'' := by
  obtain ⟨_, hsound⟩ := hcfg.prims f p hp
  simp only [quietP, Bool.and_eq_true] at hqp
  obtain ⟨⟨hps, hrv⟩, _⟩ := hqp
  unfold callK at h
  cases hq : apart (mutsOf p.ps l) (touchesOf p.ps l) && Nat.blt p.rs.length 1000 with
  | false => rw [hq] at h; cases h
  | true =>
  rw [hq, cond_true] at h
  obtain ⟨Hf, m1, m2, m3, m4, m5⟩ := SimB.freezeAll (touchesOf p.ps l) hs
  obtain ⟨d, h, Φs, hargs, hmr⟩ := argsK_ok hcfg hs m1 m3 hrel h
  rw [derefK_eq] at h
  replace h := Option.bind_eq_some_iff.1 h
  obtain ⟨y, hy, h⟩ := h
  rw [isV_closed hrv, reads_closed hps, Bool.and_self, cond_true] at h
  dsimp only at h
  rw [muts_reads l _ _ hps] at h
  have hcall : ∀ w', Mod noBlock w w' → Calls P f vs.toArray w' fun e w'' => (∃ us Ψs H', e = .returned (resultV us) ∧ ResOK P w'' H' p.rs y.1 us Ψs) ∧ Mod noBlock w w'' := by
    intro w' hm
    obtain ⟨ha, hfp⟩ := args_reads (w' := w') hps hargs
    have hok' : HOk Hf w' := m4.hok.mod hm (fun _ hb => hb.elim)
    refine (hsound d y hy w' Hf vs Φs hok' ha (by rw [hfp]; simp) (by rw [hfp]; simp)).mono ?_
    rintro e w'' ⟨us, H', Φs', Ψs, he, hm2, _, _, _, hres, _⟩
    exact ⟨⟨us, Ψs, H', he, hres⟩, hm.trans (mod_nil hfp hm2)⟩
  obtain ⟨_, w0, _, ⟨⟨us, Ψs, H', _, hres⟩, _⟩, _⟩ := hcall w (Mod.refl _ _) []
  obtain ⟨hus, htup⟩ := res_flat (C := C) hrv hres
  obtain ⟨k1, k2, k3⟩ := htup (w' := w) (H' := H) (Φ' := Φ) (os := s.obj) (s.killIf AV.isUpd) (1000 * (dst.getD 0 + 1))
  refine ⟨_, h, resultV us, ?_, ?_⟩
  · rw [k1]
    exact ⟨H, Φ, (hs.killIf AV.isUpd).setDst (by rw [hC.nt]; exact hd) (lone_ok k2 k3)⟩
  · intro w' hm
    refine (hcall w' hm).mono ?_
    rintro e w'' ⟨⟨us2, Ψs2, H2, he, hres2⟩, hm2⟩
    refine ⟨?_, hm2⟩
    rw [he, (res_flat (C := C) hrv hres2).1, hus]

theorem run_enter {f : Nat} (hcal : Callable P f) (args : Array Value) (w : World) : (callFunc f args).run P w = .ok (.enter f args) w := by
  obtain ⟨fn, hf, hn, hb⟩ := hcal
  have hb' : ¬ fn.body = none := by intro h; rw [h] at hb; cases hb
  have hn' : ¬ fn.name = "runtime.NumGoroutine" := by simpa using hn
  simp [callFunc, hf, hn', hb']

theorem run_callOp {c : Call} {fop : Operand} (hc : c.callee = .value fop) {f : Nat} {vs us : Array Value} (hv : a.eval fop = .func (.func f) vs us) (hcal : Callable P f) (w : World) :
    (execOp a.eval ⟨dst, .call c, ty, pos, after, guard⟩).run P w = .ok (.enter f (vs ++ c.args.map a.eval ++ us)) w := by
  simp [execOp, resolve, hc, hv, Deferred.ofValue, invoke, run_enter hcal]

theorem goes_enter {o : Oper} {f : Nat} {args : Array Value} {s' : St} (hrun : (execOp a.eval o).run P w = .ok (.enter f args) w) (h : Calls P f args w fun e w'' => ∃ v, e = .returned v ∧ Sim P C s' (a.put o.dst v) w'') : Goes P C o a w s' := by
  unfold Goes
  rw [hrun]
  exact h

theorem map_list {β : Type} (f : Operand → β) (c : Array Operand) : (c.map f).toList = c.toList.map f := by simp

theorem rel_map {s : St} {avs : List AV} : ∀ {l : List Operand}, Rel2 (fun av x => RepA P C w H Φ s.obj av (a.eval x)) avs l → Rel2 (RepA P C w H Φ s.obj) avs (l.map a.eval)
  | l, h => by
    induction l generalizing avs with
    | nil => cases avs <;> first | trivial | exact h.elim
    | cons x l ih => cases avs <;> first | exact h.elim | exact ⟨h.1, ih h.2⟩

/-- A call that changes a row which lies in an object. -/
theorem callPath_ok (hcfg : CfgOK P cfg) (hC : CtxOK C cfg) {f : Nat} {p : Prim} (hp : lk cfg.prims f = some p) {id : Nat} {path : List Step} {v : Value} (hs : SimB P C s a w H Φ) (hd : dstOK cfg.nt dst = true) (hr : RepA P C w H Φ s.obj (.view id path) v) (hne : path ≠ [])
    (h : callPathK s dst p id path k = some r) : ∃ s', k s' = some r ∧ Calls P f #[v] w fun e w'' => ∃ v, e = .returned v ∧ Sim P C s' (a.put dst v) w'' := by
  obtain ⟨_, hsound⟩ := hcfg.prims f p hp
  unfold callPathK at h
  split at h
  case h_2 => cases h
  rename_i tid e g
  split at h
  case h_2 => cases h
  rename_i o ho
  cases hfl : e.isFlat with
  | false => rw [hfl] at h; cases h
  | true =>
  rw [hfl, cond_true, getPK_eq] at h
  replace h := Option.bind_eq_some_iff.1 h
  obtain ⟨⟨σ, y⟩, hy, h⟩ := h
  rw [derefK_eq] at h
  replace h := Option.bind_eq_some_iff.1 h
  obtain ⟨l, hl, h⟩ := h
  obtain ⟨e1, hl⟩ := castTy_self hl
  simp only at e1
  subst e1
  subst hl
  rw [derefK_eq] at h
  replace h := Option.bind_eq_some_iff.1 h
  obtain ⟨⟨u0, l', u1⟩, hg, h⟩ := h
  rw [setPK_eq] at h
  replace h := Option.bind_eq_some_iff.1 h
  obtain ⟨z, hz, h⟩ := h
  simp only at hz h hg
  obtain ⟨o', y', q1, q2, q3⟩ := hr
  rw [ho] at q1
  cases q1
  have hrp : (o.row && path.isEmpty) = false := by
    cases path with
    | nil => exact absurd rfl hne
    | cons _ _ => simp
  rw [hrp] at q3
  rw [hy] at q2
  cases q2
  obtain ⟨b, off, blk, t, hloc, hblk, hv⟩ := q3
  have hok := (hs.os id o ho).1
  have hob := (hs.os id o ho).2
  obtain ⟨b', o', blk', t', pre', c, post', f1, f, f2, e1, e2, e3, e4, e5, e6, hl', e7⟩ := hok.desc2 hy ⟨w, _, _, hloc⟩ hrp
  obtain ⟨rfl, rfl⟩ := LocO.det hloc (hl' w (fun _ _ => rfl))
  rw [hblk] at e1
  cases e1
  have e6' := e6
  obtain ⟨hdr, xs, fp', ec, ef, _, _⟩ := e6'
  have hvh : v = hdr := by
    rw [hv]
    have : seg blk off (Ty.list true tid e).size = c := by rw [← e3]; exact seg_of_split e2 (Rep.length _ e6)
    rw [this, ec]; rfl
  subst hvh
  have hnd := hok.2.1
  rw [e4] at hnd
  have hndf : f.Nodup := (List.nodup_append.1 (List.nodup_append.1 hnd).1).2.1
  have hin : ∀ k ∈ f, k ∈ (Φ id).fp := fun k hk => by rw [e4]; simp [hk]
  have hin1 : ∀ k ∈ f1, k ∈ (Φ id).fp := fun k hk => by rw [e4]; simp [hk]
  have hin2 : ∀ k ∈ f2, k ∈ (Φ id).fp := fun k hk => by rw [e4]; simp [hk]
  have hnot1 : ∀ k ∈ f1, k ∉ f := fun k h1 h2 => (List.nodup_append.1 (List.nodup_append.1 hnd).1).2.2 k h1 k h2 rfl
  have hnot2 : ∀ k ∈ f2, k ∉ f := fun k h1 h2 => (List.nodup_append.1 hnd).2.2 k (by simp [h2]) k h1 rfl
  have hne2 : (Ty.list true tid e).noFn = true := getV_noFn _ hok.1 hy
  subst ec
  have hc := hsound (l, ()) (u0, l', u1) hg w H [v] [⟨0, v, f⟩] hs.hok ⟨v, [], _, [], rfl, rfl, rfl, ObjOK.of_list hne2 hndf e6, rfl, rfl⟩ (by simpa [fpsOf] using hndf) (by
    intro k hk
    have hk' : k ∈ f := by simpa [fpsOf] using hk
    exact ⟨(hob k (hin k hk')).1, (hob k (hin k hk')).2.2⟩)
  refine ⟨_, h, hc.mono ?_⟩
  rintro ev w'' ⟨us, H', Φs', Ψs, he, hm, hle, hok', hnew, hres, hmu, hnd2, hall⟩
  obtain ⟨rfl, rfl⟩ := hres
  obtain ⟨v2, vs2, φ', Φs2, ea, eb, ev2, hobj', hmt⟩ := hmu
  cases ea
  subst eb
  obtain ⟨_, rfl⟩ := hmt
  have hmf : ∀ k, (k ∈ fpsOf [(⟨0, v, f⟩ : Info)]) ↔ k ∈ f := fun k => by simp [fpsOf]
  have hm' : Mod (· ∈ f) w w'' := hm.mono (fun k hk => (hmf k).1 hk)
  have hfp' : ∀ k ∈ φ'.fp, (k ∈ f ∨ w.heap.size ≤ k) ∧ k < w''.heap.size := by
    intro k hk
    obtain ⟨_, p2, p3⟩ := hall k (by simp [fpsOf, hk])
    exact ⟨p2.imp_left (hmf k).1, p3⟩
  have hcl : (Ty.list true tid e).isClosed = true := by simpa [Ty.isClosed] using Ty.flat_closed e hfl
  have hrep' : Rep P (.list true tid e) w'' H l' [v] φ'.fp := by
    have := (ObjOK.closed (H' := H) hcl hobj').row_list
    rw [← ev2] at this
    exact this
  have hokw : HOk H w'' := hs.hok.mod hm' (fun k hk => (hob k (hin k hk)).1)
  have hb1 : b ∉ f := hnot1 b e5
  have hblt : b < w.heap.size := (Array.getElem?_eq_some_iff.1 hblk).1
  have hblkw : w''.heap[b]? = some (.cells (pre' ++ [v] ++ post').toArray t (0, 0)) := by
    rw [hm'.block b hblt hb1, hblk]
    rw [← e2]
  have hnd3 : (f1 ++ φ'.fp ++ f2).Nodup := by
    have k1 := List.nodup_append.1 hnd
    have k2 := List.nodup_append.1 k1.1
    have hφ : φ'.fp.Nodup := hobj'.2.1
    rw [List.nodup_append, List.nodup_append]
    refine ⟨⟨k2.1, hφ, ?_⟩, k1.2.1, ?_⟩
    · rintro x hx _ hx2 rfl
      rcases (hfp' x hx2).1 with h1 | h1
      · exact hnot1 x hx h1
      · have := (hob x (hin1 x hx)).2.2; omega
    · rintro x hx _ hx2 rfl
      rcases List.mem_append.1 hx with h1 | h1
      · exact k1.2.2 x (by simp [h1]) x hx2 rfl
      · rcases (hfp' x h1).1 with h1 | h1
        · exact hnot2 x hx2 h1
        · have := (hob x (hin2 x hx2)).2.2; omega
  have hobj2 := e7 w'' [v] φ'.fp (.list true tid e) l' z hrep' hz hblkw (by
    intro k hk _
    rcases List.mem_append.1 hk with h1 | h1
    · exact hm'.block k (hob k (hin1 k h1)).2.2 (hnot1 k h1)
    · exact hm'.block k (hob k (hin2 k h1)).2.2 (hnot2 k h1)) hnd3
  have hmod2 : Mod C.M0 C.w0 w'' := hs.mod.trans_new hm' (fun k hk => (hob k (hin k hk)).2.1)
  have hch := hs.change ho z ⟨(Φ id).b, (Φ id).hdr, f1 ++ φ'.fp ++ f2⟩ rfl rfl (FH.le_refl _) hokw hs.hnew hmod2 hm'.size (by
    intro j o2 hj hoj k hk
    refine ⟨hm'.block k ((hs.os j o2 hoj).2 k hk).2.2 (fun hkf => hs.disj j id o2 o hj hoj ho k hk (hin k hkf)), ((hs.os j o2 hoj).2 k hk).1⟩) hobj2 (by
    intro k hk
    have hk' : k ∈ f1 ++ φ'.fp ++ f2 := hk
    have old : ∀ k, k ∈ (Φ id).fp → H k = none ∧ (C.M0 k ∨ C.w0.heap.size ≤ k) ∧ k < w''.heap.size ∧ ∀ j o2, j ≠ id → s.obj j = some o2 → k ∉ (Φ j).fp := fun k hk => by
      obtain ⟨p1, p2, p3⟩ := hob k hk
      exact ⟨p1, p2, Nat.lt_of_lt_of_le p3 hm'.size, fun j o2 hj hoj => hs.disj id j o o2 (fun e => hj e.symm) ho hoj k hk⟩
    rcases List.mem_append.1 hk' with h1 | h1
    · rcases List.mem_append.1 h1 with h1 | h1
      · exact old k (hin1 k h1)
      · obtain ⟨p1, p2⟩ := hfp' k h1
        rcases p1 with p1 | p1
        · exact old k (hin k p1)
        · refine ⟨?_, .inr (Nat.le_trans hs.mod.size p1), p2, fun j o2 _ hoj hkj => ?_⟩
          · cases hq : H k with
            | none => rfl
            | some c => obtain ⟨t2, f2, hh⟩ := hs.hok _ _ hq; exact absurd (Array.getElem?_eq_some_iff.1 hh).1 (by omega)
          · have := ((hs.os j o2 hoj).2 k hkj).2.2
            omega
    · exact old k (hin2 k h1))
  exact ⟨_, he, H, _, hch.setDst (by rw [hC.nt]; exact hd) rfl⟩

theorem deepArg_some {ps : List PTy} {x y : AV} {l : List AV} {id : Nat} {path : List Step} (h : deepArg ps x y l = some (id, path)) : x = .nil ∧ y = .nil ∧ l = [.view id path] ∧ path ≠ [] := by
  unfold deepArg at h
  split at h
  · cases h; exact ⟨rfl, rfl, rfl, by simp⟩
  · cases h
theorem deepArg_reads {ps : List PTy} (h : ps.all PTy.reads = true) (x y : AV) (l : List AV) : deepArg ps x y l = none := by
  unfold deepArg
  split
  · simp [PTy.reads] at h
  · rfl

theorem op_callv0 (hcfg : CfgOK P cfg) (hC : CtxOK C cfg) {c : Call} {fop : Operand} (hc : c.callee = .value fop) (hs : SimB P C s a w H Φ) (hd : dstOK cfg.nt dst = true) (h : callVK cfg s dst fop c k = some r) :
    ∃ s', k s' = some r ∧ Goes P C ⟨dst, .call c, ty, pos, after, guard⟩ a w s' := by
  unfold callVK at h
  have hfz : ∀ i t, (fun i : Nat => (c.argTypes[i]?).bind (lk cfg.ty)) i = some t → t.isFz = true := by
    intro i t ht
    obtain ⟨T, _, ht⟩ := Option.bind_eq_some_iff.1 ht
    exact hcfg.fz T t ht
  split at h
  · rename_i f first caps l he1 he2
    split at h
    case h_2 => cases h
    rename_i p hp
    split at h
    · rename_i id path hda
      obtain ⟨rfl, rfl, rfl, hne⟩ := deepArg_some hda
      obtain ⟨vs, us, hv, hr1, hr2⟩ := evalA_ok hs none_fz he1
      have lm := rel_map (evalAll_ok hs hfz he2)
      have hvs : vs = #[] := by have : Value.tuple vs = .tuple #[] := hr1; injection this
      have hus : us = #[] := by have : Value.tuple us = .tuple #[] := hr2; injection this
      subst hvs
      subst hus
      match hal : c.args.toList.map a.eval, lm with
      | [v], lm =>
        obtain ⟨s', h, hcalls⟩ := callPath_ok hcfg hC hp hs hd lm.1 hne h
        have e : (#[v] : Array Value) = #[] ++ c.args.map a.eval ++ #[] := by
          apply Array.toList_inj.1
          simp [map_list, hal]
        rw [e] at hcalls
        exact ⟨s', h, goes_enter (run_callOp hc hv (hcfg.prims f p hp).1 w) hcalls⟩
      | [], lm => exact lm.elim
      | _ :: _ :: _, lm => exact lm.2.elim
    rename_i hda
    cases ht : first.isTup && caps.isTup with
    | false => rw [ht] at h; cases h
    | true =>
    rw [ht, cond_true] at h
    rw [Bool.and_eq_true] at ht
    obtain ⟨vs, us, hv, hr1, hr2⟩ := evalA_ok hs none_fz he1
    have l1 := list_rel (vs := vs.toList) ht.1 (by simpa using hr1)
    have l2 := list_rel (vs := us.toList) ht.2 (by simpa using hr2)
    have lm := rel_map (evalAll_ok hs hfz he2)
    obtain ⟨s', h, hcalls⟩ := callK_ok hcfg hC hp hs hd (Rel2.append (Rel2.append l1 lm) l2) h
    have e : (vs.toList ++ c.args.toList.map a.eval ++ us.toList).toArray = vs ++ c.args.map a.eval ++ us := by
      apply Array.toList_inj.1; simp
    rw [e] at hcalls
    exact ⟨s', h, goes_enter (run_callOp hc hv (hcfg.prims f p hp).1 w) hcalls⟩
  · rename_i b r2 g xav he1 he2
    cases hrf : r2.isFlat with
    | false => rw [hrf] at h; cases h
    | true =>
    rw [hrf, cond_true] at h
    obtain ⟨hfz2, cs, hv, hrep⟩ := evalA_ok hs none_fz he1
    have lm := rel_map (evalAll_ok hs hfz he2)
    obtain ⟨_, f, vs, us, rfl, hcal, hg⟩ := hrep
    obtain ⟨Hf, m1, m2, m3, m4, m5⟩ := SimB.freezeAll xav.touches hs
    match hal : c.args.toList.map a.eval, lm with
    | [v], lm =>
      obtain ⟨hbz, x, h, cx, hvx, hrx⟩ := snapX_ok hs m1 (FH.le_refl Hf) m3 (.inl lm.1) h
      rw [derefK_eq] at h
      replace h := Option.bind_eq_some_iff.1 h
      obtain ⟨y, hy, h⟩ := h
      have hcalls := hg x y hy Hf w cx m1 m4.hok hrx
      have e : vs ++ #[toV b cx] ++ us = vs ++ c.args.map a.eval ++ us := by
        congr 2
        apply Array.toList_inj.1
        rw [map_list, hal, hvx]
      rw [e] at hcalls
      refine ⟨_, h, goes_enter (run_callOp hc (by rw [hv]; rfl) hcal w) (hcalls.mono ?_)⟩
      rintro e w'' ⟨cy, he, hm, hry⟩
      exact ⟨_, he, H, Φ, (hs.grow hm).setDst (by rw [hC.nt]; exact hd) ⟨Ty.flat_fz r2 hrf, cy, rfl, Rep.flat_any r2 hrf hry _ _⟩⟩
    | [], lm => exact lm.elim
    | _ :: _ :: _, lm => exact lm.2.elim
  · rename_i b b2 r2 g xav yav he1 he2
    cases hrf : r2.isFlat with
    | false => rw [hrf] at h; cases h
    | true =>
    rw [hrf, cond_true] at h
    obtain ⟨hfz2, cs, hv, hrep⟩ := evalA_ok hs none_fz he1
    have lm := rel_map (evalAll_ok hs hfz he2)
    obtain ⟨_, f, vs, us, rfl, hcal, hg⟩ := hrep
    obtain ⟨Hf, m1, m2, m3, m4, m5⟩ := SimB.freezeAll (xav.touches ++ yav.touches) hs
    match hal : c.args.toList.map a.eval, lm with
    | [v, u], lm =>
      obtain ⟨hbz, x, h, cx, hvx, hrx⟩ := snapX_ok hs m1 (FH.le_refl Hf) (fun id hid => m3 id (by simp [hid])) (.inl lm.1) h
      obtain ⟨hbz2, z, h, cz, hvz, hrz⟩ := snapX_ok hs m1 (FH.le_refl Hf) (fun id hid => m3 id (by simp [hid])) (.inl lm.2.1) h
      rw [derefK_eq] at h
      replace h := Option.bind_eq_some_iff.1 h
      obtain ⟨y, hy, h⟩ := h
      have hcalls := hg x z y hy Hf w cx cz m1 m4.hok hrx hrz
      have e : vs ++ #[toV b cx, toV b2 cz] ++ us = vs ++ c.args.map a.eval ++ us := by
        congr 2
        apply Array.toList_inj.1
        rw [map_list, hal, hvx, hvz]
      rw [e] at hcalls
      refine ⟨_, h, goes_enter (run_callOp hc (by rw [hv]; rfl) hcal w) (hcalls.mono ?_)⟩
      rintro e w'' ⟨cy, he, hm, hry⟩
      exact ⟨_, he, H, Φ, (hs.grow hm).setDst (by rw [hC.nt]; exact hd) ⟨Ty.flat_fz r2 hrf, cy, rfl, Rep.flat_any r2 hrf hry _ _⟩⟩
    | [], lm => exact lm.elim
    | [_], lm => exact lm.2.elim
    | _ :: _ :: _ :: _, lm => exact lm.2.2.elim
  · cases h

theorem SimB.commitT (hs : SimB P C s a w H Φ) (hC : CtxOK C cfg) (x : Operand) : ∃ Φ', SimB P C (s.commitT x) a w H Φ' := by
  unfold St.commitT
  split
  · rename_i t
    split
    · rename_i id tid e l hg
      split
      · rename_i o ho
        cases hq : o.row && Nat.blt id 10000000 with
        | false => exact ⟨Φ, hs⟩
        | true =>
          rw [Bool.and_eq_true] at hq
          rw [cond_true]
          have hid : id < 10000000 := Eq.mp Nat.blt_eq hq.2
          have h1 := hs.commit hC (hs.ts t _ hg) ho hq.1 hid
          refine ⟨_, h1.weaken (fun _ _ h => h) ?_⟩
          intro u av hu
          rw [St.get_set] at hu
          split at hu
          · rename_i e1
            subst e1
            cases hu
            refine ⟨⟨true, .list true tid e, l⟩, ⟨.list true tid e, l⟩, ?_, getV_nil _ _, ?_⟩
            · rw [St.obj_set, St.newObj, St.obj_setObj, if_pos rfl]
            · simp only [List.isEmpty_nil, Bool.and_self, putInfo_same]
          · exact h1.ts u av hu
      · exact ⟨Φ, hs⟩
    · exact ⟨Φ, hs⟩
  · exact ⟨Φ, hs⟩
theorem SimB.commitAll (hC : CtxOK C cfg) : ∀ (l : List Operand) {s : St} {Φ : Nat → Info}, SimB P C s a w H Φ → ∃ Φ', SimB P C (commitAll s l) a w H Φ'
  | [], _, Φ, hs => ⟨Φ, hs⟩
  | x :: r, _, _, hs => by
    obtain ⟨Φ', h⟩ := hs.commitT hC x
    exact SimB.commitAll hC r h

theorem op_callv (hcfg : CfgOK P cfg) (hC : CtxOK C cfg) {c : Call} {fop : Operand} (hc : c.callee = .value fop) (hs : SimB P C s a w H Φ) (hd : dstOK cfg.nt dst = true) (h : absOp cfg ⟨dst, .call c, ty, pos, after, guard⟩ s k = some r) :
    ∃ s', k s' = some r ∧ Goes P C ⟨dst, .call c, ty, pos, after, guard⟩ a w s' := by
  simp only [absOp, hc] at h
  obtain ⟨Φ', hs'⟩ := hs.commitAll hC c.args.toList
  exact op_callv0 hcfg hC hc hs' hd h

/-- The same, of a function by its name that reads alone. -/
theorem op_callq (hcfg : CfgOK P cfg) (hC : CtxOK C cfg) {c : Call} {f : Nat} (hc : c.callee = .value (.func f)) {p : Prim} (hp : lk cfg.prims f = some p) (hqp : quietP p = true) (hs : SimB P C s a w H Φ) (hd : dstOK cfg.nt dst = true)
    (h : absOp cfg ⟨dst, .call c, ty, pos, after, guard⟩ s k = some r) : ∃ s', k s' = some r ∧ Quiet P C ⟨dst, .call c, ty, pos, after, guard⟩ a w s' := by
  simp only [absOp, hc] at h
  obtain ⟨Φ', hs⟩ := hs.commitAll hC c.args.toList
  simp only [callVK, evalA] at h
  have hfz : ∀ i t, (fun i : Nat => (c.argTypes[i]?).bind (lk cfg.ty)) i = some t → t.isFz = true := by
    intro i t ht
    obtain ⟨T, _, ht⟩ := Option.bind_eq_some_iff.1 ht
    exact hcfg.fz T t ht
  split at h
  · rename_i f' first caps l he1 he2
    cases he1
    have hrd : p.ps.all PTy.reads = true := by
      unfold quietP at hqp
      rw [Bool.and_eq_true, Bool.and_eq_true] at hqp
      exact hqp.1.1
    rw [hp] at h
    simp only [deepArg_reads hrd, AV.isTup, Bool.and_self, cond_true, AV.list, List.nil_append, List.append_nil] at h
    have lm := rel_map (evalAll_ok hs hfz he2)
    obtain ⟨s', h, v, hsim, hcalls⟩ := callK_quiet hcfg hC hp hqp hs hd lm h
    refine ⟨s', h, v, fun w' hm => ?_, hsim⟩
    unfold Oper.quietAt
    rw [run_callOp hc (f := f) (vs := #[]) (us := #[]) rfl (hcfg.prims f p hp).1 w']
    refine ⟨rfl, ?_⟩
    have e : (c.args.toList.map a.eval).toArray = #[] ++ c.args.map a.eval ++ #[] := by
      apply Array.toList_inj.1; simp
    rw [← e]
    exact hcalls w' hm
  · rename_i he1 _; cases he1
  · rename_i he1 _; cases he1
  · cases h
end
end Go.Vi
