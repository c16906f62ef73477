/- The abstract interpreter 'Vi': functions that change rows; functions that call themselves. No condition beyond those typed in each theorem. -/
import Derived.Test.YtealdoeaafoemaaGreatViC
namespace Go.Vi
def entM : (ps : List jL) → Nat → Nat → PDens ps → List (Nat × AV)
 | .v τ :: ps, i, pos, d => (bif Nat.blt i pos then i else i + 1, .val τ d.1) :: entM ps (i + 1) pos d.2
 | .r τ :: ps, i, pos, d => (bif Nat.blt i pos then i else i + 1, .ref τ d.1) :: entM ps (i + 1) pos d.2
 | _, _, _, _ => []
def qfP (mp : qee) (d : PDens mp.rest) (x : mp.τ.den) : St :=
 ⟨(ghId, .gh 0 (.view (pid mp.pos) [])) :: (mp.pos, .view (pid mp.pos) []) :: entM mp.rest 0 mp.pos d, [(pid mp.pos, some ⟨true, mp.τ, x⟩)], none⟩
def qkE (τ : Ty) (e : X) (s : St) : Option τ.den :=
 match e with
 | .exit _ => none
 | _ => match s.get ghId with
  | some (.gh _ (.view id [])) => match s.obj id with
   | some o => qL o.τ τ o.x
   | none => none
  | _ => none
noncomputable def qkO (cfg : qS) (n : Nat) (c : Code) (mp : qee) (d : PDens mp.rest) (x : mp.τ.den) : Option mp.τ.den :=
 run cfg n c (qfP mp d x) (qkE mp.τ)
section
variable {P : Program} {cfg : qS} {w : World} {H : FH}
theorem qiW {C : Ctx} {Φ : Nat → qF} {os : Nat → Option Obj} : ∀ {ps : List jL} {d : PDens ps} {vs : List Value} {Φs : List qF} (i pos : Nat), ps.all jL.reads = true → jR P w H ps d vs Φs →
  vs.length = ps.length ∧ ∀ t av, lk (entM ps i pos d) t = some av → ∃ j v, vs[j]? = some v ∧ t = (if i + j < pos then i + j else i + j + 1) ∧ qn P C w H Φ os av v
 | [], _, vs, _, _, _, _, h => by
  obtain ⟨rfl, _⟩ := h
  exact ⟨rfl, fun t av ht => by cases ht⟩
 | .v τ :: ps, d, vs, Φs, i, pos, hr, h => by
  obtain ⟨v, vs', φ, Φs', rfl, rfl, hfz, hφ, hv, h⟩ := h
  obtain ⟨h1, h2⟩ := qiW (i + 1) pos (by simpa [jL.reads] using hr) h
  refine ⟨by simp [h1], fun t av ht => ?_⟩
  rw [entM, jP] at ht
  cases hb : Nat.beq (bif Nat.blt i pos then i else i + 1) t with
  | true =>
   rw [hb] at ht
   cases ht
   obtain rfl := Nat.eq_of_beq_eq_true hb
   refine ⟨0, v, rfl, ?_, hfz, hv⟩
   cases hlt : Nat.blt i pos with
   | true => rw [if_pos (by have : i < pos := Eq.mp Nat.blt_eq hlt; omega)]; rfl
   | false => rw [if_neg (fun h => by have := Eq.mpr Nat.blt_eq (show i < pos by omega); rw [hlt] at this; cases this)]; rfl
  | false =>
   rw [hb] at ht
   obtain ⟨j, u, e1, e2, e3⟩ := h2 t av ht
   refine ⟨j + 1, u, by simpa using e1, ?_, e3⟩
   rw [e2]
   have : i + 1 + j = i + (j + 1) := by omega
   rw [this]
 | .r τ :: ps, d, vs, Φs, i, pos, hr, h => by
  obtain ⟨v, vs', φ, Φs', rfl, rfl, hfz, hφ, hv, h⟩ := h
  obtain ⟨h1, h2⟩ := qiW (i + 1) pos (by simpa [jL.reads] using hr) h
  refine ⟨by simp [h1], fun t av ht => ?_⟩
  rw [entM, jP] at ht
  cases hb : Nat.beq (bif Nat.blt i pos then i else i + 1) t with
  | true =>
   rw [hb] at ht
   cases ht
   obtain rfl := Nat.eq_of_beq_eq_true hb
   refine ⟨0, v, rfl, ?_, hfz, hv⟩
   cases hlt : Nat.blt i pos with
   | true => rw [if_pos (by have : i < pos := Eq.mp Nat.blt_eq hlt; omega)]; rfl
   | false => rw [if_neg (fun h => by have := Eq.mpr Nat.blt_eq (show i < pos by omega); rw [hlt] at this; cases this)]; rfl
  | false =>
   rw [hb] at ht
   obtain ⟨j, u, e1, e2, e3⟩ := h2 t av ht
   refine ⟨j + 1, u, by simpa using e1, ?_, e3⟩
   rw [e2]
   have : i + 1 + j = i + (j + 1) := by omega
   rw [this]
 | .c _ :: _, _, _, _, _, _, h, _ => by simp [jL.reads] at h
 | .m _ :: _, _, _, _, _, _, h, _ => by simp [jL.reads] at h
 | .mr _ _ :: _, _, _, _, _, _, h, _ => by simp [jL.reads] at h
 | .t _ _ :: _, _, _, _, _, _, h, _ => by simp [jL.reads] at h
 | .gm _ :: _, _, _, _, _, _, h, _ => by simp [jL.reads] at h
 | .cm _ _ :: _, _, _, _, _, _, h, _ => by simp [jL.reads] at h
theorem ins_get {α : Type} {vs : List α} {v : α} {pos j : Nat} (hp : pos ≤ vs.length) {x : α} (h : vs[j]? = some x) : (vs.take pos ++ v :: vs.drop pos)[if j < pos then j else j + 1]? = some x := by
 have hlen : (vs.take pos).length = pos := by rw [List.length_take]; omega
 by_cases hj : j < pos
 ·rw [if_pos hj, List.getElem?_append_left (by omega), List.getElem?_take, if_pos hj]
  exact h
 ·rw [if_neg hj, List.getElem?_append_right (by omega), hlen]
  have : j + 1 - pos = (j - pos) + 1 := by omega
  rw [this, List.getElem?_cons_succ, List.getElem?_drop]
  have : pos + (j - pos) = j := by omega
  rw [this]
  exact h
theorem qlC (hm : P.follows .mixedOrders = true) (hcfg : qB P cfg) {f : FuncId} {fn : Func} {c : Code} (hf : P.funcs[f]? = some fn) (hb : fn.body = some c) (hnt : fn.ntmps = cfg.nt) (hl : qac cfg c) (hd : ql cfg c = true) (hres : fn.results = #[])
  {mp : qee} (hreads : mp.rest.all jL.reads = true) (hpos : mp.pos ≤ mp.rest.length) (hps : mp.rest.length + 1 ≤ cfg.nt) (hrow : qeA mp.τ = true) (hg : ∀ d x y, mp.g d x = some y → ∃ n, qkO cfg n c mp d x = some y) : qhA P f mp := by
 intro d x x' hx w H vs Φs φ hok hargs hfs hobj hfr
 obtain ⟨n, hn⟩ := hg d x x' hx
 refine calls_of_wp hf hb ?_
 rw [hnt]
 obtain ⟨C, hCd⟩ : ∃ C : Ctx, C = ⟨w, (· ∈ φ.fp), H, cfg.nt, fun _ => none, [], fun _ => some φ.hdr⟩ := ⟨_, rfl⟩
 obtain ⟨Φ0, hΦ⟩ : ∃ Φ0 : Nat → qF, Φ0 = fun id => if id = pid mp.pos then φ else nilI id := ⟨_, rfl⟩
 have hΦp : Φ0 (pid mp.pos) = φ := by rw [hΦ]; simp
 obtain ⟨hlen, hent⟩ := qiW (C := C) (Φ := Φ0) (os := (qfP mp d x).obj) 0 mp.pos hreads hargs
 have hlenI : (vs.take mp.pos ++ φ.hdr :: vs.drop mp.pos).length = mp.rest.length + 1 := by
  rw [List.length_append, List.length_cons, List.length_take, List.length_drop]; omega
 have hfr0 : ∀ t v, (vs.take mp.pos ++ φ.hdr :: vs.drop mp.pos)[t]? = some v → ((vs.take mp.pos ++ φ.hdr :: vs.drop mp.pos).toArray ++ Array.replicate (cfg.nt - (vs.take mp.pos ++ φ.hdr :: vs.drop mp.pos).toArray.size) undef).getD t undef = v := by
  intro t v hv
  have hlt := (List.getElem?_eq_some_iff.1 hv).1
  rw [Array.getD_eq_getD_getElem?, Array.getElem?_append_left (by simpa using hlt)]
  rw [List.getElem?_toArray, hv]
  rfl
 have hobjD : ∀ id o, (qfP mp d x).obj id = some o → id = pid mp.pos ∧ o = ⟨true, mp.τ, x⟩ := by
  intro id o ho
  have ho' : (lk [(pid mp.pos, some (⟨true, mp.τ, x⟩ : Obj))] id).join = some o := ho
  rw [jP] at ho'
  cases hbq : Nat.beq (pid mp.pos) id with
  | true => rw [hbq] at ho'; cases ho'; exact ⟨(Nat.eq_of_beq_eq_true hbq).symm, rfl⟩
  | false => rw [hbq] at ho'; cases ho'
 have hobjP : (qfP mp d x).obj (pid mp.pos) = some ⟨true, mp.τ, x⟩ := by
  show (lk [(pid mp.pos, some (⟨true, mp.τ, x⟩ : Obj))] (pid mp.pos)).join = _
  rw [jP, Nat.beq_refl]
  rfl
 have hview : qn P C w H Φ0 (qfP mp d x).obj (.view (pid mp.pos) []) φ.hdr := by
  refine ⟨_, ⟨mp.τ, x⟩, hobjP, qO _ _, ?_⟩
  simp only [List.isEmpty_nil, Bool.and_self]
  rw [hΦp]
 have hsim : qm P C (qfP mp d x) { tmps := (vs.take mp.pos ++ φ.hdr :: vs.drop mp.pos).toArray ++ Array.replicate (cfg.nt - (vs.take mp.pos ++ φ.hdr :: vs.drop mp.pos).toArray.size) undef, defers := [] } w H Φ0 := by
  subst hCd
  refine ⟨rfl, ?_, FH.le_refl _, hok, fun b c hb => .inl hb, j9.refl _ _, ?_, ?_, ?_, fun id φ' h => (by cases h), fun id => ?_⟩
  ·simp only [Array.size_append, List.size_toArray, Array.size_replicate]
   omega
  ·intro t av ht
   have ht' : lk ((ghId, .gh 0 (.view (pid mp.pos) [])) :: (mp.pos, .view (pid mp.pos) []) :: entM mp.rest 0 mp.pos d) t = some av := ht
   rw [jP] at ht'
   cases h1 : Nat.beq ghId t with
   | true =>
    rw [h1] at ht'
    cases ht'
    exact ⟨φ.hdr, rfl, hview⟩
   | false =>
    rw [h1, cond_false, jP] at ht'
    cases h2 : Nat.beq mp.pos t with
    | true =>
     rw [h2] at ht'
     cases ht'
     obtain rfl := Nat.eq_of_beq_eq_true h2
     rw [hfr0 mp.pos φ.hdr (by
      have hlt : (vs.take mp.pos).length = mp.pos := by rw [List.length_take]; omega
      rw [List.getElem?_append_right (by omega), hlt, Nat.sub_self]; rfl)]
     exact hview
    | false =>
     rw [h2, cond_false] at ht'
     obtain ⟨j, v, k1, k2, k3⟩ := hent t av ht'
     rw [k2, Nat.zero_add, hfr0 _ v (ins_get (by omega) k1)]
     exact k3
  ·intro id o ho
   obtain ⟨rfl, rfl⟩ := hobjD id o ho
   rw [hΦp]
   exact ⟨hobj, fun b hb => ⟨(hfr b hb).1, .inl hb, (hfr b hb).2⟩⟩
  ·intro i j o o' hij hi hj
   exact absurd ((hobjD i o hi).1.trans (hobjD j o' hj).1.symm) hij
  ·rw [hΦ]
   by_cases h : id = pid mp.pos
   ·simp only [h, if_true]
    exact qjY (by unfold pid; omega)
   ·simp only [h, if_false]
    exact qjB id
 have hC : qM C cfg := by subst hCd; exact ⟨rfl, fun _ _ => rfl⟩
 refine wp_mono (qch hm hcfg hC c hl hd ⟨H, _, hsim, trivial⟩ hn) ?_
 have fin : ∀ (s : St) (a' : Act) (w' : World), Sim P C s a' w' → qkE mp.τ .ret s = some x' →
   a'.defers = [] ∧ ∃ v', (results fn a'.tmps).run P w' = .ok v' w' ∧ ∃ H' fp', Ending.returned v' = .returned (qah []) ∧ j9 (· ∈ φ.fp) w w' ∧ H.le H' ∧ HOk H' w' ∧ (∀ b c, H' b = some c → H b = some c ∨ b ∈ φ.fp ∨ w.heap.size ≤ b) ∧
    qX P w' H' ⟨true, mp.τ, x'⟩ ⟨φ.b, φ.hdr, fp'⟩ ∧ ∀ b ∈ fp', H' b = none ∧ (b ∈ φ.fp ∨ w.heap.size ≤ b) ∧ b < w'.heap.size := by
  rintro s a' w' ⟨H2, Φ2, hs⟩ h
  subst hCd
  simp only [qkE] at h
  split at h
  case h_2 => cases h
  rename_i m id hgh
  split at h
  case h_2 => cases h
  rename_i o ho
  obtain ⟨u2, hu2, o2, y2, g1, g2, g3⟩ := hs.ts ghId _ hgh
  cases hu2
  rw [ho] at g1
  cases g1
  obtain ⟨hok1, hok2⟩ := hs.os id o ho
  obtain ⟨row, τ, x1⟩ := o
  obtain ⟨e1, hx1⟩ := qj h
  simp only at e1
  subst e1
  subst hx1
  rw [qO] at g2
  cases g2
  have hr : (results fn a'.tmps).run P w' = .ok (qah []) w' := qcR (us := []) (by rw [hres]; trivial)
  cases row with
  | true =>
   simp only [List.isEmpty_nil, Bool.and_self] at g3
   obtain ⟨p1, p2, p3, cs, p4, p5⟩ := hok1
   exact ⟨hs.defers, _, hr, H2, (Φ2 id).fp, rfl, hs.mod, hs.le, hs.hok, hs.hnew, ⟨p1, p2, p3, cs, by rw [g3]; exact p4, p5⟩, fun b hb => hok2 b hb⟩
  | false =>
   simp only [Bool.false_and] at g3
   obtain ⟨b3, o3, blk3, t3, g4, g5, g6⟩ := g3
   obtain ⟨p1, p2, blk, t, fp', p3, p4, p5⟩ := hok1
   obtain ⟨rfl, rfl⟩ := Loc.det _ g4 (jU w' mp.τ (Φ2 id).b 0)
   rw [p3] at g5
   cases g5
   have hsub : ∀ b ∈ fp', b ∈ (Φ2 id).fp := fun b hb => by rw [p5]; exact List.mem_cons_of_mem _ hb
   refine ⟨hs.defers, _, hr, H2, fp', rfl, hs.mod, hs.le, hs.hok, hs.hnew, ⟨p1, ?_, hrow, blk3.toList, ?_, p4⟩, fun b hb => hok2 b (hsub b hb)⟩
   ·rw [p5] at p2
    exact (List.nodup_cons.1 p2).2
   ·rw [g6, qdV, List.take_of_length_le (by rw [qx.length _ p4]; exact Nat.le_refl _)]
 intro e a' w' hp
 cases e with
 | normal => obtain ⟨s, hs, h⟩ := hp; exact fin s a' w' hs.sim h
 | ret => obtain ⟨s, hs, h⟩ := hp; exact fin s a' w' hs.sim h
 | exit i => obtain ⟨s, hs, h⟩ := hp; cases h
 | _ => exact hp.elim
def GoodK (P : Program) (f : Nat) (kp : qef) : Prop := jJ P f ∧ qhB P f kp
def GoodM (P : Program) (f : Nat) (mp : qee) : Prop := jJ P f ∧ qhA P f mp
theorem GoodK.good {f : Nat} {kp : qef} (h : GoodK P f kp) : qw P f kp.prim := ⟨h.1, h.2.sound⟩
theorem masOne {f : Nat} {mp : qee} (h : GoodM P f mp) : ∀ g m, lk [(f, mp)] g = some m → jJ P g ∧ qhA P g m := by
 intro g m hm
 rw [jP] at hm
 cases hb : Nat.beq f g with
 | true => rw [hb] at hm; cases hm; rw [← Nat.eq_of_beq_eq_true hb]; exact h
 | false => rw [hb] at hm; cases hm
theorem qim {fn : Func} (hb : fn.body.isSome = true) : fn.body = some (body fn) := by
 unfold body
 cases h : fn.body with
 | none => rw [h] at hb; cases hb
 | some c => rfl
theorem fn_doneM (hm : P.follows .mixedOrders = true) (hcfg : qB P cfg) {f : FuncId} {fn : Func} (hf : P.funcs[f]? = some fn) (hb : fn.body.isSome = true) (hnt : fn.ntmps = cfg.nt) (hname : (fn.name == "runtime.NumGoroutine") = false) (hres : fn.results = #[])
  {mp : qee} (hreads : mp.rest.all jL.reads = true) (hpos : Nat.ble mp.pos mp.rest.length = true) (hps : Nat.ble (mp.rest.length + 1) cfg.nt = true) (hrow : qeA mp.τ = true) (hl : ∀ b ∈ qe (body fn), qc2 cfg b) (hd : ql cfg (body fn) = true) (hg : ∀ d x y, mp.g d x = some y → ∃ n, qkO cfg n (body fn) mp d x = some y) : GoodM P f mp :=
 ⟨qab hf (qim hb) hname, qlC hm hcfg hf (qim hb) hnt (qam hl) hd hres hreads (Nat.le_of_ble_eq_true hpos) (Nat.le_of_ble_eq_true hps) hrow hg⟩
end
section
variable {P : Program} {cfg : qS} {w : World} {H : FH}
end
section
variable {P : Program} {C : Ctx} {cfg : qS} {R : Type} {r : R} {s : St} {a : Act} {w : World} {H : FH} {Φ : Nat → qF}
theorem qm.newFixed (hs : qm P C s a w H Φ) {w2 : World} (hm : j9 jO w w2) {T : TypeId} {arr : Array Value} (hh : w2.heap[w.heap.size]? = some (.cells arr T (0, 0))) :
  ∃ H' : FH, H.le H' ∧ H' w.heap.size = some arr ∧ qm P C s a w2 H' Φ ∧ ∀ av v, qn P C w H Φ s.obj av v → qn P C w2 H' Φ s.obj av v := by
 have hnone : H w.heap.size = none := by
  cases hq : H w.heap.size with
  | none => rfl
  | some c => obtain ⟨t, f, h⟩ := hs.hok _ _ hq; exact absurd (Array.getElem?_eq_some_iff.1 h).1 (by omega)
 obtain ⟨H', hH'⟩ : ∃ H' : FH, H' = fun b => if b = w.heap.size then some arr else H b := ⟨_, rfl⟩
 have hold : ∀ b, b ≠ w.heap.size → H' b = H b := fun b hb => by rw [hH']; simp only [if_neg hb]
 have hnew : H' w.heap.size = some arr := by rw [hH']; exact if_pos rfl
 have hle : H.le H' := fun b c hb => by
  rw [hold b (by rintro rfl; rw [hnone] at hb; cases hb)]
  exact hb
 have hw : ∀ b, b < w.heap.size → w2.heap[b]? = w.heap[b]? := fun b hb => hm.block b hb (fun h => h)
 have hgrow : ∀ av v, qn P C w H Φ s.obj av v → qn P C w2 H' Φ s.obj av v := fun av v h =>
  qn.grow hle (fun id o ho => ⟨(hs.os id o ho).1, fun b hb => ((hs.os id o ho).2 b hb).2.2⟩) hw hm.size (fun b hb => by rw [hold b (by have := hb.lt; omega)]; exact hb.fz) h
 refine ⟨H', hle, hnew, ⟨hs.defers, hs.size, FH.le_trans hs.le hle, ?_, ?_, hs.mod.trans (hm.mono (fun _ hb => hb.elim)), fun t av ht => hgrow av _ (hs.ts t av ht), ?_, hs.disj, hs.pins⟩, hgrow⟩
 ·intro b c hb
  by_cases e : b = w.heap.size
  ·subst e
   rw [hnew] at hb
   cases hb
   exact ⟨T, (0, 0), hh⟩
  ·rw [hold b e] at hb
   obtain ⟨t, f, h⟩ := hs.hok b c hb
   exact ⟨t, f, (hw b (Array.getElem?_eq_some_iff.1 h).1).trans h⟩
 ·intro b c hb
  by_cases e : b = w.heap.size
  ·subst e; exact .inr (.inr hs.mod.size)
  ·rw [hold b e] at hb; exact hs.hnew b c hb
 ·intro id o ho
  obtain ⟨h1, h2⟩ := hs.os id o ho
  exact ⟨h1.frame hle (fun b hb => hw b (h2 b hb).2.2), fun b hb => ⟨by rw [hold b (by have := (h2 b hb).2.2; omega)]; exact (h2 b hb).1, (h2 b hb).2.1, Nat.lt_of_lt_of_le (h2 b hb).2.2 hm.size⟩⟩
theorem qjj {f : Fn} {xs ys : Array Value} {T : TypeId} (hS : ∀ w, (Go.sizeOf T).run P w = .ok 1 w) {b : Nat} {v0 : Value} (hb : w.heap[b]? = some (.cells #[v0] T (0, 0))) :
  (Instr.storeAt T (.pointer (some ⟨b, 0, none⟩)) (.func f xs ys)).run P w = .ok () (w.setRow b #[.func f xs ys]) := by
 have := run_storeCells_at P b 0 T [Value.func f xs ys] 0 #[v0] w hb (by simp) (by intro v hv; simp at hv; subst hv; rfl)
 simp [Instr.storeAt, Instr.sureAddr, storeVar, hS, Value.cells] at this ⊢
 simpa using this
end
def seqs : List Code → Code → Code
 | [], D => D
 | c :: l, D => .seq c (seqs l D)
noncomputable def runL {R : Type} (cfg : qS) (n : Nat) : List Code → St → (St → Option R) → (X → St → Option R) → Option R
 | [], s, kD, _ => kD s
 | c :: l, s, kD, k => run cfg n c s fun x s' => match x with
  | .norm => runL cfg n l s' kD k
  | .ret => k .ret s'
  | .exit i => k (.exit i) s'
def qjA {R : Type} (s : St) (k : Option R) : Option R :=
 match s.mp with
 | none => k
 | some _ => none
def qgk : Code → Code
 | .seq a _ => a
 | c => c
def qbo : Code → Code
 | .seq _ b => b
 | c => c
def regI : Code → Nat
 | .region i _ _ => i
 | _ => 0
def opC (c : Code) (i : Nat) : Oper :=
 match c with
 | .region _ ops _ => match ops[i]? with
  | some o => o
  | none => ⟨none, .move (.tmp 0), 0, "", #[], none⟩
 | _ => ⟨none, .move (.tmp 0), 0, "", #[], none⟩
section
variable {P : Program} {C : Ctx} {cfg : qS} {R : Type} {r : R}
theorem linesOK {l : List Code} (h : (l.all fun c => (qe c).isEmpty && ql cfg c) = true) : ∀ c ∈ l, qac cfg c ∧ ql cfg c = true := by
 intro c hc
 have := List.all_eq_true.1 h c hc
 rw [Bool.and_eq_true] at this
 refine ⟨qam (fun b hb => ?_), this.2⟩
 rw [List.isEmpty_iff.1 this.1] at hb
 cases hb
theorem qkT (hm : P.follows .mixedOrders = true) (hcfg : qB P cfg) (hC : qM C cfg) {n : Nat} {D : Code} {kD : St → Option R} {k : X → St → Option R} (hD : ∀ s a w, jY P C s a w → kD s = some r → D.wp P (Post P C k r) a w) :
  ∀ (l : List Code) {s : St} {a : Act} {w : World}, (∀ c ∈ l, qac cfg c ∧ ql cfg c = true) → jY P C s a w → runL cfg n l s kD k = some r → (seqs l D).wp P (Post P C k r) a w
 | [], s, a, w, _, hs, h => hD s a w hs h
 | c :: l, s, a, w, hl, hs, h => by
  have hc := hl c List.mem_cons_self
  refine wp_seq (wp_mono (qch hm hcfg hC c hc.1 hc.2 hs h) ?_)
  intro e a w hp
  cases e with
  | normal =>
   obtain ⟨s', hs', h'⟩ := hp
   exact qkT hm hcfg hC hD l (fun c hc => hl c (List.mem_cons_of_mem _ hc)) hs' h'
  | exit i => obtain ⟨s', hs', h'⟩ := hp; exact ⟨s', hs', h'⟩
  | ret => obtain ⟨s', hs', h'⟩ := hp; exact ⟨s', hs', h'⟩
  | _ => exact hp.elim
theorem qko {s : St} {k : Option R} (h : qjA s k = some r) : s.mp = none ∧ k = some r := by
 unfold qjA at h
 split at h
 ·rename_i e; exact ⟨e, h⟩
 ·cases h
end
noncomputable def absFnV (cfg : qS) (n : Nat) (fn : Func) (l : List Code) (o1 : Oper) (E : Code) (tv t : Nat) (τ : Ty) (ps : List jL) (rs : List RTy) (d : PDens ps) : Option (RDens rs × MDens ps) :=
 runL cfg n l (qbB ps d) (fun s => bif qU cfg.nt o1.dst then qb3 cfg o1 s (fun s1 => qjA s1 (match s1.get t with
  | some av => snapF cfg s1 av τ fun x => run cfg n E ((s1.freezeAll av.touches).set tv (.ref τ x)) (qcP cfg fn ps rs)
  | none => none)) else none) (qcP cfg fn ps rs)
section
variable {P : Program} {cfg : qS}
theorem qeD : ∀ (l : List Nat) (s : St), (s.freezeAll l).mp = s.mp
 | [], _ => rfl
 | i :: r, s => by
  have h : (s.freeze i).mp = s.mp := by
   unfold St.freeze
   split <;> rfl
  exact (qeD r _).trans h
theorem fn_doneV (hm : P.follows .mixedOrders = true) (hcfg : qB P cfg) {f : FuncId} {fn : Func} (hf : P.funcs[f]? = some fn) (hnt : fn.ntmps = cfg.nt) (hname : (fn.name == "runtime.NumGoroutine") = false)
  {p : qE} (hps : Nat.ble p.ps.length cfg.nt = true) {l : List Code} {E : Code} (hl : ∀ c ∈ l, qac cfg c ∧ ql cfg c = true) (hlE : qac cfg E) (hdE : ql cfg E = true) {TF : TypeId}
  (hz : ∀ w, (Go.zeroValue TF).run P w = .ok .nilFunc w) (hS : ∀ w, (Go.sizeOf TF).run P w = .ok 1 w)
  {α β : Ty} {o1 : Oper} {i t tv : Nat} {ty2 ty3 : TypeId} {po2 po3 : String} {af2 af3 : Array Edge} (hg1 : o1.guard = none) (hne : t ≠ tv)
  (hb : fn.body = some (seqs l (.seq (.region i #[o1, ⟨some tv, .alloc TF, ty2, po2, af2, none⟩, ⟨none, .store TF (.tmp tv) (.tmp t), ty3, po3, af3, none⟩] false) E)))
  (hts : Nat.blt tv cfg.nt = true)
  (hg : ∀ d y, p.g d = some y → ∃ n, absFnV cfg n fn l o1 E tv t (.fn α β) p.ps p.rs d = some y) : qw P f p := by
 refine ⟨qab hf hb hname, ?_⟩
 intro d y hy w H vs Φs hok hargs hnd hfr
 obtain ⟨n, hn⟩ := hg d y hy
 refine calls_of_wp hf hb ?_
 rw [hnt]
 have htv : tv < cfg.nt := Eq.mp Nat.blt_eq hts
 have hsim := qdi hok hargs hnd hfr (Nat.le_of_ble_eq_true hps)
 have hC := qev (cfg := cfg) hargs
 refine wp_mono (qkT hm hcfg hC (fun s a w hs h => ?_) l hl ⟨H, _, hsim, trivial⟩ hn) ?_
 ·cases hd : qU cfg.nt o1.dst with
  | false => rw [hd] at h; cases h
  | true =>
  rw [hd, cond_true] at h
  obtain ⟨s1, h, hg⟩ := qce hcfg hC hs hd h
  refine wp_seq (wp_region_list (wpList_plain hg1 fun K hK => qcQ hg fun a w hs => hK a w ?_))
  obtain ⟨hmp, h⟩ := qko h
  split at h
  case h_2 => cases h
  rename_i av hav
  obtain ⟨H4, Φ4, hs4⟩ := hs.sim
  obtain ⟨Hf, f1, _, f3, hs5, _⟩ := qm.freezeAll av.touches hs4
  obtain ⟨hfz5, x5, h, hv5⟩ := qjf hcfg hs4 f1 (fun id hid => f3 id hid) (hs4.ts t av hav) h
  have sz : a.tmps.size = cfg.nt := by rw [hs4.size, hC.nt]
  obtain ⟨v5, hv5e⟩ : ∃ v5, v5 = a.tmps.getD t undef := ⟨_, rfl⟩
  rw [← hv5e] at hv5
  obtain ⟨cs, c1, c2⟩ := hv5
  have c2' := c2
  obtain ⟨_, g, fst, caps, hcs, _, _⟩ := c2'
  have hv5f : v5 = .func (.func g) fst caps := by rw [c1, hcs]; rfl
  obtain ⟨u1, hu1⟩ : ∃ u1, u1 = w.alloc (.cells #[.nilFunc] TF) := ⟨_, rfl⟩
  obtain ⟨u2, hu2⟩ : ∃ u2, u2 = u1.setRow w.heap.size #[v5] := ⟨_, rfl⟩
  have g1 : u1.heap[w.heap.size]? = some (.cells #[.nilFunc] TF (0, 0)) := by rw [hu1]; exact heap_alloc_new w _
  have g2 : u2.heap[w.heap.size]? = some (.cells #[v5] TF (0, 0)) := by rw [hu2]; exact setRow_heap u1 _ _ _ _ _ g1
  have gm1 := qb0 w (.cells #[Value.nilFunc] TF)
  have gsz : u2.heap.size = u1.heap.size := by rw [hu2]; simp [World.setRow]
  have gm : j9 jO w u2 := by
   rw [← hu1] at gm1
   refine ⟨?_, ?_, ?_, by rw [gsz]; exact gm1.size, fun k hk _ => ?_⟩
   ·rw [hu2]; exact gm1.os
   ·rw [hu2]; exact gm1.tape
   ·rw [hu2]; exact gm1.output
   ·rw [hu2, setRow_other u1 _ k _ (by omega)]
    exact gm1.block k hk (fun h => h)
  obtain ⟨H5, k1, k2, k3, _⟩ := hs5.newFixed gm g2
  have hsim6 := k3.set (d := tv) (av := .ref (.fn α β) x5) (v := .pointer (some ⟨w.heap.size, 0, none⟩)) (by rw [hC.nt]; exact htv) ⟨hfz5, w.heap.size, 0, #[v5], rfl, k2, by
   have hc : cs = [v5] := by rw [hv5f]; exact hcs
   show qx P (.fn α β) u2 H5 x5 [v5] []
   rw [← hc]
   exact qx.mono (.fn α β) k1 (by simp) c2⟩
  have hE := qch hm hcfg hC E hlE hdE ⟨H5, Φ4, hsim6, by
   have : ((s1.freezeAll av.touches).set tv (.ref (.fn α β) x5)).mp = none := (qeD av.touches s1).trans hmp
   rw [this]; trivial⟩ h
  refine wpList_plain rfl fun K hK => ?_
  have r1 : (execOp a.eval ⟨some tv, .alloc TF, ty2, po2, af2, none⟩).run P w = .ok (.value (.pointer (some ⟨w.heap.size, 0, none⟩))) u1 := by
   rw [hu1]
   simp [execOp, Instr.alloc, hz, qbX, Value.cells]
  unfold Oper.wp
  rw [r1, Oper.upon_value]
  refine hK _ _ (wpList_plain rfl fun K hK => ?_)
  have r2 : (execOp (a.put (some tv) (.pointer (some ⟨w.heap.size, 0, none⟩))).eval ⟨none, .store TF (.tmp tv) (.tmp t), ty3, po3, af3, none⟩).run P u1 = .ok .skip u2 := by
   have e6 : (a.put (some tv) (.pointer (some ⟨w.heap.size, 0, none⟩))).eval (.tmp tv) = .pointer (some ⟨w.heap.size, 0, none⟩) := by
    show (a.put (some tv) (.pointer (some ⟨w.heap.size, 0, none⟩))).tmps.getD tv undef = _
    rw [qcN (by rw [sz]; exact htv), if_pos rfl]
   have e7 : (a.put (some tv) (.pointer (some ⟨w.heap.size, 0, none⟩))).eval (.tmp t) = v5 := by
    show (a.put (some tv) (.pointer (some ⟨w.heap.size, 0, none⟩))).tmps.getD t undef = _
    rw [qcN (by rw [sz]; exact htv), if_neg (fun e => hne e.symm), hv5e]
   have := qjj (P := P) (f := .func g) (xs := fst) (ys := caps) hS g1
   simp only [execOp, e6, e7]
   rw [hu2, hv5f]
   simp [this]
  unfold Oper.wp
  rw [r2, Oper.upon_skip]
  exact hK _ _ (wpList_nil hE)
 have fin : ∀ (s : St) (a' : Act) (w' : World), Sim P (qa8 w H cfg.nt p.ps Φs) s a' w' → qcP cfg fn p.ps p.rs .ret s = some y →
   a'.defers = [] ∧ ∃ v, (results fn a'.tmps).run P w' = .ok v w' ∧ ∃ us H' Φs' Ψs, Ending.returned v = .returned (qah us) ∧ j9 (· ∈ qf Φs) w w' ∧ H.le H' ∧ HOk H' w' ∧ (∀ b c, H' b = some c → H b = some c ∨ b ∈ qf Φs ∨ w.heap.size ≤ b) ∧
    qai P w' H' p.rs y.1 us Ψs ∧ jQ P w' H' p.ps y.2 vs Φs' ∧ (qf (Ψs ++ Φs')).Nodup ∧ ∀ b ∈ qf (Ψs ++ Φs'), H' b = none ∧ (b ∈ qf Φs ∨ w.heap.size ≤ b) ∧ b < w'.heap.size := by
  rintro s a' w' ⟨H2, Φ2, hs⟩ h
  exact fin_ok (gh := fun _ => none) hcfg hargs hs h
 intro e a' w' hp
 cases e with
 | normal => obtain ⟨s, hs, h⟩ := hp; exact fin s a' w' hs.sim h
 | ret => obtain ⟨s, hs, h⟩ := hp; exact fin s a' w' hs.sim h
 | exit i => obtain ⟨s, hs, h⟩ := hp; cases h
 | _ => exact hp.elim
end
end Go.Vi
