/- The abstract interpreter 'Vi', forty-fifth part: a function that defers a closure over its changed parameter. No condition beyond those typed in each theorem. -/
import Derived.Test.YtdecnbepmnjeiaaVi44
namespace Go.Vi
noncomputable def qfC (cfg2 : jN) (n : Nat) (fn fnd : Func) (ps : List jR) (rs : List RTy) (x : X) (s : St) : Option (RDens rs × MDens ps) :=
 match x with
 | .exit _ => none
 | _ => qhz s (run cfg2 n (body fnd) ⟨[(0, .cv 2 0 1000)], s.os, none⟩ (qc5 cfg2 fn ps rs))
def joinD {R : Type} (sk : qdv) (T : sk.Den → Option R) (k : X → St → Option R) (x : X) (s : St) : Option R :=
 match x with
 | .norm => qa (sk.get s) T
 | x => k x s
noncomputable def absFnD (cfg cfg2 : jN) (n : Nat) (fn fnd : Func) (l : List Code) (E : Code) (tb tf t5 fs : Nat) (fr : List Nat) (τ5 : Ty) (ps : List jR) (rs : List RTy) (sk : qdv) (T : sk.Den → Option (RDens rs × MDens ps)) (d : PDens ps) : Option (RDens rs × MDens ps) :=
 runL cfg n l (((qbs ps d).set tb (.cv 2 0 1000)).set tf .dead)
  (fun s => qhz s (snapF cfg s (.fn fs .nil .nil) τ5 fun x5 => run cfg n E ((s.freezeAll fr).set t5 (.ref τ5 x5)) (joinD sk T (qfC cfg2 n fn fnd ps rs))))
  (qfC cfg2 n fn fnd ps rs)
section
variable {P : Program} {cfg cfg2 : jN} {s s' : St} {a a' : Act} {w : World} {H : FH} {Φ : Nat → qA}
theorem qg.recon {C C' : Ctx} (hs : qg P C s a w H Φ) (hH : C'.H0 = C.H0) (hM : C'.M0 = C.M0) (hw : C'.w0 = C.w0) (hp : C'.pin = C.pin) (hd : a'.defers = C'.ds) (hn : a'.tmps.size = C'.nt) (hos : s'.os = s.os)
  (hts : ∀ t av, s'.get t = some av → qi P C' w H Φ s.obj av (a'.tmps.getD t undef)) : qg P C' s' a' w H Φ := by
 have ho : s'.obj = s.obj := by funext id; unfold St.obj; rw [hos]
 refine ⟨hd, hn, by rw [hH]; exact hs.le, hs.hok, ?_, by rw [hM, hw]; exact hs.mod, ?_, ?_, ?_, ?_⟩
 ·intro b c hb
  rw [hH, hM, hw]
  exact hs.hnew b c hb
 ·intro t av ht
  rw [ho]
  exact hts t av ht
 ·intro id o h
  rw [ho] at h
  rw [hM, hw]
  exact hs.os id o h
 ·rw [ho]
  exact hs.disj
 ·rw [hp]
  exact hs.pins
theorem qi.recon {C C' : Ctx} {os : Nat → Option Obj} (hg : C'.gh = C.gh) (hM : C'.M0 = C.M0) (hw : C'.w0 = C.w0) (hp : C'.pin = C.pin) {av : AV} {v : Value} (h : qi P C w H Φ os av v) : qi P C' w H Φ os av v :=
 qi.ctx hg hp (fun b hb _ => ⟨hb.fz, hb.obj, by rw [hM, hw]; exact hb.may, hb.lt⟩) h
theorem qfA {fn : Func} (h : fn.results = #[]) (t : Array Value) (w : World) : (results fn t).run P w = .ok (.tuple #[]) w := by
 unfold results
 rw [h]
 simp
theorem qeL : ∀ (l : List Nat) (s : St), (s.freezeAll l).mp = s.mp
 | [], _ => rfl
 | i :: r, s => by
  have h : (s.freeze i).mp = s.mp := by
   unfold St.freeze
   split <;> rfl
  exact (qeL r _).trans h
theorem fn_doneD (hm : P.follows .mixedOrders = true) (hcfg : qy P cfg) (hcfg2 : qy P cfg2) {f fd fs : FuncId} {fn fnd : Func} (hf : P.funcs[f]? = some fn) (hnt : fn.ntmps = cfg.nt) (hname : (fn.name == "runtime.NumGoroutine") = false)
  (hfd : P.funcs[fd]? = some fnd) (hbd : fnd.body.isSome = true) (hntd : fnd.ntmps = cfg2.nt) (hnamed : (fnd.name == "runtime.NumGoroutine") = false) (hr : fn.results = #[]) (hrd : fnd.results = #[]) (h2 : 1 ≤ cfg2.nt)
  {p : qY} {τ0 : Ty} (hp0 : p.ps[0]? = some (.m τ0)) (hps : Nat.ble p.ps.length cfg.nt = true) {l : List Code} {E E2 : Code} (hl : ∀ c ∈ l, qab cfg c ∧ qr cfg c = true) (hlE : qab cfg E) (hdE : qr cfg E = true) (hlE2 : qab cfg E2) (hdE2 : qr cfg E2 = true) {sk : qdv}
  (hld : qab cfg2 (body fnd)) (hdd : qr cfg2 (body fnd) = true) {T0 TF : TypeId}
  (hz : ∀ w, (Go.zeroValue TF).run P w = .ok .nilFunc w) (hS : ∀ w, (Go.sizeOf TF).run P w = .ok 1 w)
  {fr : List Nat} {α β : Ty} {i0 i1 i6 tb tf t5 : Nat} {ty1 ty2 ty3 ty4 ty5 : TypeId} {po1 po2 po3 po4 po5 : String} {af1 af2 af3 af4 af5 : Array Edge}
  (hb : fn.body = some (.seq (.region i0 #[⟨some tb, .box T0 (.tmp 0), ty1, po1, af1, none⟩] false)
   (.seq (.region i1 #[⟨some tf, .makeFunc (.func fd) #[] #[.tmp tb], ty2, po2, af2, none⟩, ⟨none, .defer { callee := .value (.tmp tf), args := #[], argTypes := #[] }, ty3, po3, af3, none⟩] false)
    (seqs l (.seq (.region i6 #[⟨some t5, .alloc TF, ty4, po4, af4, none⟩, ⟨none, .store TF (.tmp t5) (.func fs), ty5, po5, af5, none⟩] false) (.seq E E2))))))
  (hts : (Nat.blt tb cfg.nt && (Nat.blt tf cfg.nt && Nat.blt t5 cfg.nt)) = true)
  (hg : ∀ d y, p.g d = some y → ∃ n T, (∀ e, T e = run cfg n E2 (sk.fill e) (qfC cfg2 n fn fnd p.ps p.rs)) ∧ absFnD cfg cfg2 n fn fnd l E tb tf t5 fs fr (.fn α β) p.ps p.rs sk T d = some y) : qP P f p := by
 refine ⟨qaS hf hb hname, ?_⟩
 intro d y hy w H vs Φs hok hargs hnd hfr
 obtain ⟨n, T, hT, hn⟩ := hg d y hy
 refine calls_of_wp_defers hf hb ?_
 rw [hnt]
 simp only [Bool.and_eq_true] at hts
 have htb : tb < cfg.nt := Eq.mp Nat.blt_eq hts.1
 have htf : tf < cfg.nt := Eq.mp Nat.blt_eq hts.2.1
 have ht5 : t5 < cfg.nt := Eq.mp Nat.blt_eq hts.2.2
 have hsim := qc2 hok hargs hnd hfr (Nat.le_of_ble_eq_true hps)
 have hC := qc3 (cfg := cfg) hargs
 obtain ⟨hvl, _, _, hnodup, _⟩ := qaA (C := qaL w H cfg.nt p.ps Φs) 0 hargs
 have hbd2 : fnd.body = some (body fnd) := by
  unfold body
  cases h : fnd.body with
  | none => rw [h] at hbd; cases hbd
  | some c => rfl
 have hcald : jT P fd := qaS hfd hbd2 hnamed
 have hps1 : 0 < p.ps.length := (List.getElem?_eq_some_iff.1 hp0).1
 obtain ⟨vp, hvp⟩ : ∃ vp, vs[0]? = some vp := ⟨vs[0]'(by omega), List.getElem?_eq_getElem _⟩
 obtain ⟨φ, hφ1, hφ2⟩ := args_m 0 hargs 0 τ0 vp hp0 hvp
 have hpin : lk (jX p.ps Φs 0) 10000000 = some φ := qdM hnodup hφ1
 obtain ⟨a0, ha0⟩ : ∃ a0 : Act, a0 = { tmps := vs.toArray ++ Array.replicate (cfg.nt - vs.toArray.size) undef, defers := [] } := ⟨_, rfl⟩
 rw [← ha0] at hsim ⊢
 have sz0 : a0.tmps.size = cfg.nt := hsim.size
 have e0 : a0.eval (.tmp 0) = vp := by
  show a0.tmps.getD 0 undef = vp
  rw [ha0]
  rw [Array.getD_eq_getD_getElem?, Array.getElem?_append_left (by simp; omega)]
  simp [hvp]
 obtain ⟨b0, hb0⟩ : ∃ b0, b0 = w.heap.size := ⟨_, rfl⟩
 obtain ⟨ptr, hptr⟩ : ∃ ptr, ptr = Value.pointer (some ⟨b0, 0, none⟩) := ⟨_, rfl⟩
 obtain ⟨w1, hw1⟩ : ∃ w1, w1 = w.alloc (.cells #[vp] T0) := ⟨_, rfl⟩
 have hb1 : w1.heap[w.heap.size]? = some (.cells #[vp] T0 (0, 0)) := by rw [hw1]; exact heap_alloc_new w _
 have hm1 : Mod jM w w1 := by rw [hw1]; exact qbD w _
 obtain ⟨H1, hle1, hHb, hsim1, hgrow1⟩ := hsim.newFixed hm1 hb1
 obtain ⟨a1, ha1⟩ : ∃ a1, a1 = a0.put (some tb) ptr := ⟨_, rfl⟩
 obtain ⟨clo, hclo⟩ : ∃ clo, clo = Value.func (.func fd) #[] #[ptr] := ⟨_, rfl⟩
 obtain ⟨a2, ha2⟩ : ∃ a2, a2 = a1.put (some tf) clo := ⟨_, rfl⟩
 obtain ⟨D, hD⟩ : ∃ D : Deferred, D = ⟨.fn (.func fd) #[ptr], #[]⟩ := ⟨_, rfl⟩
 have sz1 : a1.tmps.size = cfg.nt := by rw [ha1, qgp, sz0]
 have sz2 : a2.tmps.size = cfg.nt := by rw [ha2, qgp, sz1]
 obtain ⟨C1, hC1⟩ : ∃ C1 : Ctx, C1 = ⟨w, (· ∈ qb Φs), H, cfg.nt, lk (jX p.ps Φs 0), [D], fun _ => none⟩ := ⟨_, rfl⟩
 obtain ⟨a3, ha3⟩ : ∃ a3 : Act, a3 = { a2 with defers := D :: a2.defers } := ⟨_, rfl⟩
 have hdef2 : a2.defers = [] := by rw [ha2, ha1]; exact hsim.defers
 have hcv : ∀ (C : Ctx) (w' : World) (H' : FH) (Φ' : Nat → qA) (os : Nat → Option Obj), C.pin = lk (jX p.ps Φs 0) → H' b0 = some #[vp] → qi P C w' H' Φ' os (.cv 2 0 1000) ptr := by
  intro C w' H' Φ' os hp h
  refine ⟨b0, [vp], h, ⟨rfl, fun j u hj => ?_⟩, hptr⟩
  cases j with
  | zero =>
   obtain rfl : vp = u := by simpa using hj
   exact ⟨φ, by rw [hp]; exact hpin, hφ2⟩
  | succ j => simp at hj
 have hsim3 : qg P C1 (((qbs p.ps d).set tb (.cv 2 0 1000)).set tf .dead) a3 w1 H1 (fun id => (lk (jX p.ps Φs 0) id).getD (nilI id)) := by
  have k1 := hsim1.set (d := tb) (av := .cv 2 0 1000) (v := ptr) (by exact htb) (hcv _ _ _ _ _ rfl (by rw [hb0]; exact hHb))
  have k2 := k1.set (d := tf) (av := .dead) (v := clo) (by exact htf) trivial
  rw [← ha1, ← ha2] at k2
  subst hC1
  refine k2.recon (C' := ⟨w, (· ∈ qb Φs), H, cfg.nt, lk (jX p.ps Φs 0), [D], fun _ => none⟩) rfl rfl rfl rfl ?_ ?_ rfl ?_
  ·rw [ha3, hdef2]
  ·rw [ha3]; exact sz2
  ·intro t av ht
   rw [ha3]
   exact qi.recon (C := qaL w H cfg.nt p.ps Φs) (C' := ⟨w, (· ∈ qb Φs), H, cfg.nt, lk (jX p.ps Φs 0), [D], fun _ => none⟩) rfl rfl rfl rfl (k2.ts t av ht)
 have hC1ok : qF C1 cfg := by
  rw [hC1]
  exact ⟨rfl, hC.pin⟩
 obtain ⟨C2, hC2⟩ : ∃ C2, C2 = reC C1 w1 H1 := ⟨_, rfl⟩
 have hC2ok : qF C2 cfg := by rw [hC2]; exact qe1 hC1ok
 have hbase : qg P C2 (((qbs p.ps d).set tb (.cv 2 0 1000)).set tf .dead) a3 w1 H1 (fun id => (lk (jX p.ps Φs 0) id).getD (nilI id)) := by
  rw [hC2]; exact hsim3.rebase
 obtain ⟨R, hR⟩ : ∃ R : Ending → World → Prop, R = fun e w' => ∃ us H' Φs' Ψs, e = .returned (qap us) ∧ Mod (· ∈ qb Φs) w w' ∧ H.le H' ∧ HOk H' w' ∧ (∀ b c, H' b = some c → H b = some c ∨ b ∈ qb Φs ∨ w.heap.size ≤ b) ∧
  qak P w' H' p.rs y.1 us Ψs ∧ jQ P w' H' p.ps y.2 vs Φs' ∧ (qb (Ψs ++ Φs')).Nodup ∧ ∀ b ∈ qb (Ψs ++ Φs'), H' b = none ∧ (b ∈ qb Φs ∨ w.heap.size ≤ b) ∧ b < w'.heap.size := ⟨_, rfl⟩
 rw [← hR]
 have hbody : (seqs l (.seq (.region i6 #[⟨some t5, .alloc TF, ty4, po4, af4, none⟩, ⟨none, .store TF (.tmp t5) (.func fs), ty5, po5, af5, none⟩] false) (.seq E E2))).wp P (Post P C2 (qfC cfg2 n fn fnd p.ps p.rs) y) a3 w1 := by
  refine qkf hm hcfg hC2ok (fun s a w hs h => ?_) l hl ⟨H1, _, hbase, trivial⟩ hn
  obtain ⟨hmp, h⟩ := qgu h
  obtain ⟨H4, Φ4, hs4⟩ := hs.sim
  obtain ⟨hfz5, x5, h, hv5⟩ := qiO hcfg hs4 (FH.le_refl _) (av := .fn fs .nil .nil) (v := .func (.func fs) #[] #[]) (by intro id hid; simp [AV.touches] at hid) ⟨#[], #[], rfl, rfl, rfl⟩ h
  obtain ⟨Hf, f1, _, _, hs5, _⟩ := qg.freezeAll fr hs4
  have sz : a.tmps.size = cfg.nt := by rw [hs4.size, hC2ok.nt]
  obtain ⟨v5, hv5e⟩ : ∃ v5, v5 = Value.func (.func fs) #[] #[] := ⟨_, rfl⟩
  obtain ⟨u1, hu1⟩ : ∃ u1, u1 = w.alloc (.cells #[.nilFunc] TF) := ⟨_, rfl⟩
  obtain ⟨u2, hu2⟩ : ∃ u2, u2 = u1.setRow w.heap.size #[v5] := ⟨_, rfl⟩
  have g1 : u1.heap[w.heap.size]? = some (.cells #[.nilFunc] TF (0, 0)) := by rw [hu1]; exact heap_alloc_new w _
  have g2 : u2.heap[w.heap.size]? = some (.cells #[v5] TF (0, 0)) := by rw [hu2]; exact setRow_heap u1 _ _ _ _ _ g1
  have gm1 := qbD w (.cells #[Value.nilFunc] TF)
  have gsz : u2.heap.size = u1.heap.size := by rw [hu2]; simp [World.setRow]
  have gm : Mod jM w u2 := by
   rw [← hu1] at gm1
   refine ⟨?_, ?_, ?_, by rw [gsz]; exact gm1.size, fun k hk _ => ?_⟩
   ·rw [hu2]; exact gm1.os
   ·rw [hu2]; exact gm1.tape
   ·rw [hu2]; exact gm1.output
   ·rw [hu2, setRow_other u1 _ k _ (by omega)]
    exact gm1.block k hk (fun h => h)
  obtain ⟨H5, k1, k2, k3, _⟩ := hs5.newFixed gm g2
  have hsim6 : qg P C2 ((s.freezeAll fr).set t5 (.ref (.fn α β) x5)) (a.put (some t5) (.pointer (some ⟨w.heap.size, 0, none⟩))) u2 H5 Φ4 := by
   refine k3.set (d := t5) (by rw [hC2ok.nt]; exact ht5) ⟨hfz5, w.heap.size, 0, #[v5], rfl, k2, ?_⟩
   obtain ⟨cs, c1, c2⟩ := hv5
   have hlen : cs.length = 1 := qp.length (.fn α β) c2
   obtain ⟨c, rfl⟩ : ∃ c, cs = [c] := by
    match cs, hlen with
    | [c], _ => exact ⟨c, rfl⟩
   have hc : c = v5 := by
    rw [hv5e, c1]
    rfl
   show qp P (.fn α β) u2 H5 x5 [v5] []
   rw [← hc]
   exact qp.mono (.fn α β) (FH.le_trans f1 k1) (by simp) c2
  have hE := qbX hm hcfg hC2ok E hlE hdE ⟨H5, Φ4, hsim6, by
   have : ((s.freezeAll fr).set t5 (.ref (.fn α β) x5)).mp = none := (qeL fr s).trans hmp
   rw [this]; trivial⟩ h
  have hE : (Code.seq E E2).wp P (Post P C2 (qfC cfg2 n fn fnd p.ps p.rs) y) _ _ := wp_seq (wp_mono hE (fun e a w hp => by
   cases e with
   | normal =>
    obtain ⟨s2, hs2, h2⟩ := hp
    simp only [joinD, ql] at h2
    obtain ⟨e, he, h2⟩ := Option.bind_eq_some_iff.1 h2
    rw [hT] at h2
    exact qbX hm hcfg hC2ok E2 hlE2 hdE2 (qbK he hs2) h2
   | exit i => obtain ⟨s2, hs2, h2⟩ := hp; exact ⟨s2, hs2, h2⟩
   | ret => obtain ⟨s2, hs2, h2⟩ := hp; exact ⟨s2, hs2, h2⟩
   | _ => exact hp.elim))
  refine wp_seq (wp_region_list (wpList_plain rfl fun K hK => ?_))
  have r1 : (execOp a.eval ⟨some t5, .alloc TF, ty4, po4, af4, none⟩).run P w = .ok (.value (.pointer (some ⟨w.heap.size, 0, none⟩))) u1 := by
   rw [hu1]
   simp [execOp, Instr.alloc, hz, qbz, Value.cells]
  unfold Oper.wp
  rw [r1, Oper.upon_value]
  refine hK _ _ (wpList_plain rfl fun K hK => ?_)
  have r2 : (execOp (a.put (some t5) (.pointer (some ⟨w.heap.size, 0, none⟩))).eval ⟨none, .store TF (.tmp t5) (.func fs), ty5, po5, af5, none⟩).run P u1 = .ok .skip u2 := by
   have e6 : (a.put (some t5) (.pointer (some ⟨w.heap.size, 0, none⟩))).eval (.tmp t5) = .pointer (some ⟨w.heap.size, 0, none⟩) := by
    show (a.put (some t5) (.pointer (some ⟨w.heap.size, 0, none⟩))).tmps.getD t5 undef = _
    rw [qb5 (by rw [sz]; exact ht5), if_pos rfl]
   have := qiS (P := P) (f := .func fs) (xs := #[]) (ys := #[]) hS g1
   simp only [execOp, e6]
   rw [hu2, hv5e]
   have e7 : (a.put (some t5) (.pointer (some ⟨w.heap.size, 0, none⟩))).eval (.func fs) = .func (.func fs) #[] #[] := rfl
   rw [e7]
   simp [this]
  unfold Oper.wp
  rw [r2, Oper.upon_skip]
  exact hK _ _ (wpList_nil hE)
 have hend : ∀ s' a' w', jW P C2 s' a' w' → qfC cfg2 n fn fnd p.ps p.rs .ret s' = some y → Leaves P fn a'.tmps R a'.defers .returning w' := by
  intro s' a' w' hs' h
  obtain ⟨hmp, h⟩ := qgu h
  obtain ⟨H3, Φ3, hs3⟩ := hs'.sim
  have hHb3 : H3 b0 = some #[vp] := by
   have := hs3.le
   rw [hC2] at this
   exact this _ _ (by rw [hb0]; exact hHb)
  have hdef : a'.defers = [D] := by
   have := hs3.defers
   rw [hC2, hC1] at this
   exact this
  have hs1 : qg P C1 s' a' w' H3 Φ3 := by
   rw [hC2] at hs3
   exact (hsim3.unbase hs3).1
  obtain ⟨aD, haD⟩ : ∃ aD : Act, aD = { tmps := #[ptr] ++ Array.replicate (fnd.ntmps - (#[ptr] : Array Value).size) undef, defers := [] } := ⟨_, rfl⟩
  have hsD : qg P (qaL w H cfg2.nt p.ps Φs) ⟨[(0, .cv 2 0 1000)], s'.os, none⟩ aD w' H3 Φ3 := by
   subst hC1
   refine hs1.recon rfl rfl rfl rfl (by rw [haD]; rfl) ?_ rfl ?_
   ·rw [haD, hntd]
    simp
    show 1 + (cfg2.nt - 1) = cfg2.nt
    omega
   ·intro t av ht
    have ht' : lk [(0, AV.cv 2 0 1000)] t = some av := ht
    cases t with
    | zero =>
     have : AV.cv 2 0 1000 = av := by simpa [lk] using ht'
     rw [← this, haD]
     have e : ({ tmps := #[ptr] ++ Array.replicate (fnd.ntmps - (#[ptr] : Array Value).size) undef, defers := [] } : Act).tmps.getD 0 undef = ptr := by
      show (#[ptr] ++ Array.replicate (fnd.ntmps - (#[ptr] : Array Value).size) undef : Array Value).getD 0 undef = ptr
      rw [Array.getD_eq_getD_getElem?, Array.getElem?_append_left (by simp)]
      simp
     rw [e]
     exact hcv (qaL w H cfg2.nt p.ps Φs) _ _ _ _ rfl hHb3
    | succ t =>
     have : lk [(0, AV.cv 2 0 1000)] (t + 1) = none := rfl
     rw [this] at ht'
     cases ht'
  have hCD := qc3 (cfg := cfg2) hargs
  rw [hdef, hD]
  refine leaves_cons (f := fd) (args := #[ptr]) (by simp) (by simp [invoke, qeZ hcald]) ?_
  refine CallsD.mono (callsD_of_wp (R := fun e w' => ∃ v0, e = .returned v0 ∧ Leaves P fn a'.tmps R [] .returning w') hfd hbd2 ?_) ?_
  ·rw [← haD]
   refine wp_mono (qbX hm hcfg2 hCD (body fnd) hld hdd ⟨H3, Φ3, hsD, trivial⟩ h) ?_
   have fin : ∀ (s : St) (a : Act) (u : World), Sim P (qaL w H cfg2.nt p.ps Φs) s a u → qc5 cfg2 fn p.ps p.rs .ret s = some y → a.defers = [] ∧ ∃ v, (results fnd a.tmps).run P u = .ok v u ∧ ∃ v0, Ending.returned v = .returned v0 ∧ Leaves P fn a'.tmps R [] .returning u := by
    rintro s a u ⟨H6, Φ6, h6⟩ hd
    obtain ⟨q1, v, q2, q3⟩ := fin_ok (gh := fun _ => none) hcfg2 hargs h6 hd
    refine ⟨q1, _, qfA hrd _ _, _, rfl, v, ?_, ?_⟩
    ·rw [qfA hr] at q2 ⊢
     exact q2
    ·rw [hR]
     exact q3
   intro e a u hp
   cases e with
   | normal => obtain ⟨s, hs, h⟩ := hp; exact fin s a u hs.sim h
   | ret => obtain ⟨s, hs, h⟩ := hp; exact fin s a u hs.sim h
   | exit i => obtain ⟨s, hs, h⟩ := hp; cases h
   | _ => exact hp.elim
  ·rintro e u' u ⟨rfl, v0, rfl, hl⟩
   exact hl
 have hpost : ∀ e a' w', Post P C2 (qfC cfg2 n fn fnd p.ps p.rs) y e a' w' → bodyPostD P fn R e a' w' := by
  intro e a' w' hp
  cases e with
  | normal => obtain ⟨s, hs, h⟩ := hp; exact hend s a' w' hs h
  | ret => obtain ⟨s, hs, h⟩ := hp; exact hend s a' w' hs h
  | exit i => obtain ⟨s, hs, h⟩ := hp; cases h
  | _ => exact hp.elim
 refine wp_seq (wp_region_list (wpList_plain rfl fun K hK => ?_))
 have r1 : (execOp a0.eval ⟨some tb, .box T0 (.tmp 0), ty1, po1, af1, none⟩).run P w = .ok (.value ptr) w1 := by
  have hcl : vp.cells = #[vp] := by rw [hφ2]; rfl
  rw [hw1, hptr, hb0]
  simp [execOp, Instr.box, qbz, e0, hcl]
 unfold Oper.wp
 rw [r1, Oper.upon_value]
 refine hK _ _ (wpList_nil ?_)
 show Code.wp P (.seq _ _) _ (a0.put (some tb) ptr) w1
 rw [← ha1]
 refine wp_seq (wp_region_list (wpList_plain rfl fun K hK => ?_))
 have g1 : a1.eval (.tmp tb) = ptr := by
  show a1.tmps.getD tb undef = ptr
  rw [ha1, qb5 (by rw [sz0]; exact htb), if_pos rfl]
 have r2 : (execOp a1.eval ⟨some tf, .makeFunc (.func fd) #[] #[.tmp tb], ty2, po2, af2, none⟩).run P w1 = .ok (.value clo) w1 := by
  rw [hclo]
  simp [execOp, Instr.makeFunc, g1]
 unfold Oper.wp
 rw [r2, Oper.upon_value]
 refine hK _ _ (wpList_plain rfl fun K hK => ?_)
 rw [show a1.put (some tf) clo = a2 from ha2.symm]
 have g2 : a2.eval (.tmp tf) = clo := by
  show a2.tmps.getD tf undef = clo
  rw [ha2, qb5 (by rw [sz1]; exact htf), if_pos rfl]
 have r3 : (execOp a2.eval ⟨none, .defer { callee := .value (.tmp tf), args := #[], argTypes := #[] }, ty3, po3, af3, none⟩).run P w1 = .ok (.defer D) w1 := by
  rw [hD]
  simp [execOp, resolve, g2, hclo, Deferred.ofValue]
 unfold Oper.wp
 rw [r3, Oper.upon_defer]
 refine hK _ _ (wpList_nil ?_)
 show Code.wp P _ _ { a2 with defers := D :: a2.defers } w1
 rw [← ha3]
 exact wp_mono hbody hpost
end
end Go.Vi
