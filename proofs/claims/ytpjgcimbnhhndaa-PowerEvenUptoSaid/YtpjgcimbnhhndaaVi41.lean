/- The abstract interpreter 'Vi', forty-first part: contracts that say that a place stays: of a function that keeps what lies at a path of its parameter; of a function that changes what the rows of a value hold. No condition beyond those typed in each theorem. -/
import Derived.Test.YtpjgcimbnhhndaaViC
namespace Go.Vi

def doneKK (cfg : Cfg) (fn : Func) (τ : Ty) (rs : List RTy) (q : List Step) (e : X) (s : St) : Option (RDens rs × MDens [.m τ]) :=
  match s.get ghId with
  | some (.gh _ (.view id p)) => bif Nat.beq id (pid 0) && samePath p q then doneK cfg fn [.m τ] rs e s else none
  | _ => none
noncomputable def absFnK (cfg : Cfg) (n : Nat) (fn : Func) (c : Code) (kp : KPrim) (d : kp.τ.den × Unit) : Option (RDens kp.rs × (kp.τ.den × Unit)) :=
  run cfg n c ((entrySt [.m kp.τ] d).set ghId (.gh 0 (.view (pid 0) kp.q))) (doneKK cfg fn kp.τ kp.rs kp.q)

/-- The other parameters, where the value stands among them. -/
def entM : (ps : List PTy) → Nat → Nat → PDens ps → List (Nat × AV)
  | .v τ :: ps, i, pos, d => (bif Nat.blt i pos then i else i + 1, .val τ d.1) :: entM ps (i + 1) pos d.2
  | .r τ :: ps, i, pos, d => (bif Nat.blt i pos then i else i + 1, .ref τ d.1) :: entM ps (i + 1) pos d.2
  | _, _, _, _ => []
def entryM (mp : MPrim) (d : PDens mp.rest) (x : mp.τ.den) : St :=
  ⟨(ghId, .gh 0 (.view (pid mp.pos) [])) :: (mp.pos, .view (pid mp.pos) []) :: entM mp.rest 0 mp.pos d, [(pid mp.pos, some ⟨true, mp.τ, x⟩)], none⟩
def doneMK (τ : Ty) (e : X) (s : St) : Option τ.den :=
  match e with
  | .exit _ => none
  | _ => match s.get ghId with
    | some (.gh _ (.view id [])) => match s.obj id with
      | some o => castTy o.τ τ o.x
      | none => none
    | _ => none
noncomputable def absFnM (cfg : Cfg) (n : Nat) (c : Code) (mp : MPrim) (d : PDens mp.rest) (x : mp.τ.den) : Option mp.τ.den :=
  run cfg n c (entryM mp d x) (doneMK mp.τ)

section
variable {P : Program} {cfg : Cfg} {w : World} {H : FH}

theorem fn_soundK (hm : P.follows .mixedOrders = true) (hcfg : CfgOK P cfg) {f : FuncId} {fn : Func} {c : Code} (hf : P.funcs[f]? = some fn) (hb : fn.body = some c) (hnt : fn.ntmps = cfg.nt) (hl : LoopsOK cfg c) (hd : drawOK cfg c = true)
    {kp : KPrim} (hps : 1 ≤ cfg.nt) (hq : (tyAt kp.τ kp.q).isSome = true) (hqs : kp.q.any Step.isI = false) (hg : ∀ d y, kp.g d = some y → ∃ n, absFnK cfg n fn c kp d = some y) : SoundK P f kp := by
  intro d y hy w H vs Φs hok hargs hnd hfr
  obtain ⟨n, hn⟩ := hg d y hy
  refine calls_of_wp hf hb ?_
  rw [hnt]
  have hsim := entry_sim hok hargs hnd hfr (nt := cfg.nt) hps
  have hctx := entry_ctx (cfg := cfg) hargs
  have hargs2 := hargs
  obtain ⟨v, vs', φ, Φs', rfl, rfl, hv, hobj, hrest⟩ := hargs2
  obtain ⟨rfl, rfl⟩ := hrest
  obtain ⟨σ, hσ⟩ := Option.isSome_iff_exists.1 hq
  obtain ⟨y0, hy0⟩ := getV_static kp.τ d.1 hqs hσ
  obtain ⟨_, hndo, blk, t, fp', hh, hrep, hfp⟩ := hobj
  obtain ⟨b', o', blk', t', pre', c', post', f1, f0, f2, e1, e2, e3, e4, e5, e6, hl', e7⟩ := Rep.desc kp.τ (pre := []) (post := []) hy0 hrep hh (by simp) (by rw [← hfp]; exact hndo)
  have hloc : Loc w kp.τ φ.b 0 kp.q b' o' := hl' w (fun _ _ => rfl)
  obtain ⟨u0, hu0⟩ : ∃ u0, u0 = toV σ (seg blk' o' σ.size) := ⟨_, rfl⟩
  have huniq : ∀ u, PlaceV w kp.τ φ.b kp.q u → u = u0 := by
    rintro u ⟨σ', b2, o2, blk2, t2, g1, g2, g3, rfl⟩
    obtain ⟨rfl, rfl⟩ := Loc.det _ g2 hloc
    rw [hσ] at g1
    cases g1
    rw [e1] at g3
    cases g3
    exact hu0.symm
  have hsim1 : SimB P (entryCG (fun _ => some u0) w H cfg.nt kp.prim.ps [φ]) ((entrySt kp.prim.ps d).set ghId (.gh 0 (.view (pid 0) kp.q))) { tmps := [v].toArray ++ Array.replicate (cfg.nt - [v].toArray.size) undef, defers := [] } w H (fun id => (lk (pinL kp.prim.ps [φ] 0) id).getD (nilI id)) := by
    refine ⟨hsim.defers, hsim.size, hsim.le, hsim.hok, hsim.hnew, hsim.mod, ?_, hsim.os, hsim.disj, hsim.pins⟩
    intro t av ht
    rw [St.get_set] at ht
    split at ht
    · cases ht
      refine ⟨u0, rfl, ⟨false, kp.τ, d.1⟩, ⟨σ, y0⟩, rfl, hy0, ?_⟩
      simp only [Bool.false_and]
      exact ⟨b', o', blk', t', hloc, e1, hu0⟩
    · have h := hsim.ts t av ht
      cases t with
      | zero => cases ht; exact h
      | succ t => cases ht
  have hC : CtxOK (entryCG (fun _ => some u0) w H cfg.nt kp.prim.ps [φ]) cfg := ⟨rfl, hctx.pin⟩
  refine wp_mono (run_ok hm hcfg hC c hl hd ⟨H, _, hsim1, trivial⟩ hn) ?_
  have fin : ∀ (s : St) (a' : Act) (w' : World), Sim P (entryCG (fun _ => some u0) w H cfg.nt kp.prim.ps [φ]) s a' w' → doneKK cfg fn kp.τ kp.rs kp.q .ret s = some y →
      a'.defers = [] ∧ ∃ v', (results fn a'.tmps).run P w' = .ok v' w' ∧ ((∃ us H' Φs' Ψs, Ending.returned v' = .returned (resultV us) ∧ Mod (· ∈ fpsOf [φ]) w w' ∧ H.le H' ∧ HOk H' w' ∧ (∀ b c, H' b = some c → H b = some c ∨ b ∈ fpsOf [φ] ∨ w.heap.size ≤ b) ∧
        ResOK P w' H' kp.prim.rs y.1 us Ψs ∧ MutsOK P w' H' kp.prim.ps y.2 [v] Φs' ∧ (fpsOf (Ψs ++ Φs')).Nodup ∧ ∀ b ∈ fpsOf (Ψs ++ Φs'), H' b = none ∧ (b ∈ fpsOf [φ] ∨ w.heap.size ≤ b) ∧ b < w'.heap.size) ∧
        ∀ φ' ∈ [φ], ∀ u, PlaceV w kp.τ φ'.b kp.q u → PlaceV w' kp.τ φ'.b kp.q u) := by
    rintro s a' w' ⟨H2, Φ2, hs⟩ h
    unfold doneKK at h
    split at h
    case h_2 => cases h
    rename_i m id p hgh
    cases hc : Nat.beq id (pid 0) && samePath p kp.q with
    | false => rw [hc] at h; cases h
    | true =>
    rw [hc, cond_true] at h
    rw [Bool.and_eq_true] at hc
    obtain rfl := Nat.eq_of_beq_eq_true hc.1
    obtain rfl := samePath_eq hc.2
    obtain ⟨k1, v', k2, k3⟩ := fin_ok (p := kp.prim) hcfg hargs hs h
    refine ⟨k1, v', k2, k3, ?_⟩
    intro φ' hφ' u hu
    obtain rfl := List.mem_singleton.1 hφ'
    obtain rfl := huniq u hu
    obtain ⟨u2, hu2, o, y2, g1, g2, g3⟩ := hs.ts ghId _ hgh
    cases hu2
    have hpin : (Φ2 (pid 0)).b = φ'.b := (hs.pins.1 (pid 0) φ' rfl).1
    have hob : o.row = false ∧ o.τ = kp.τ := by
      simp only [doneK, outMuts, g1] at h
      obtain ⟨row, τ, x⟩ := o
      cases row with
      | true => cases h
      | false =>
        simp only [cond_false] at h
        split at h
        case h_2 => cases h
        rename_i md hmd
        split at hmd
        case h_2 => cases hmd
        rename_i x1 d1 hx1 _
        exact ⟨rfl, (castTy_self hx1).1⟩
    obtain ⟨row, τ, x⟩ := o
    obtain ⟨hr1, hr2⟩ := hob
    simp only at hr1 hr2
    subst hr1
    subst hr2
    simp only [Bool.false_and] at g3
    obtain ⟨b3, o3, blk3, t3, g4, g5, g6⟩ := g3
    refine ⟨y2.1, b3, o3, blk3, t3, getV_tyAt _ g2, ?_, g5, g6⟩
    have g4 : Loc w' kp.τ (Φ2 (pid 0)).b 0 kp.q b3 o3 := g4
    rwa [hpin] at g4
  intro e a' w' hp
  have hex : ∀ i s, doneKK cfg fn kp.τ kp.rs kp.q (.exit i) s = some y → False := by
    intro i s h
    unfold doneKK at h
    split at h
    case h_2 => cases h
    rename_i m id p hgh
    cases hc : Nat.beq id (pid 0) && samePath p kp.q with
    | false => rw [hc] at h; cases h
    | true => rw [hc] at h; cases h
  cases e with
  | normal => obtain ⟨s, hs, h⟩ := hp; exact fin s a' w' hs.sim h
  | ret => obtain ⟨s, hs, h⟩ := hp; exact fin s a' w' hs.sim h
  | exit i => obtain ⟨s, hs, h⟩ := hp; exact (hex i s h).elim
  | _ => exact hp.elim

theorem entM_ok {C : Ctx} {Φ : Nat → Info} {os : Nat → Option Obj} : ∀ {ps : List PTy} {d : PDens ps} {vs : List Value} {Φs : List Info} (i pos : Nat), ps.all PTy.reads = true → ArgsOK P w H ps d vs Φs →
    vs.length = ps.length ∧ ∀ t av, lk (entM ps i pos d) t = some av → ∃ j v, vs[j]? = some v ∧ t = (if i + j < pos then i + j else i + j + 1) ∧ RepA P C w H Φ os av v
  | [], _, vs, _, _, _, _, h => by
    obtain ⟨rfl, _⟩ := h
    exact ⟨rfl, fun t av ht => by cases ht⟩
  | .v τ :: ps, d, vs, Φs, i, pos, hr, h => by
    obtain ⟨v, vs', φ, Φs', rfl, rfl, hfz, hφ, hv, h⟩ := h
    obtain ⟨h1, h2⟩ := entM_ok (i + 1) pos (by simpa [PTy.reads] using hr) h
    refine ⟨by simp [h1], fun t av ht => ?_⟩
    rw [entM, lk_cons] at ht
    cases hb : Nat.beq (bif Nat.blt i pos then i else i + 1) t with
    | true =>
      rw [hb] at ht
      cases ht
      obtain rfl := Nat.eq_of_beq_eq_true hb
      refine ⟨0, v, rfl, ?_, hfz, hv⟩
      cases hlt : Nat.blt i pos with
      | true => rw [if_pos (by have : i < pos := Eq.mp Nat.blt_eq hlt; omega)]; rfl
      | false => rw [if_neg (fun h => by have := Eq.mpr Nat.blt_eq (show i < pos by omega); rw [hlt] at this; cases this)]; rfl
    | false =>
      rw [hb] at ht
      obtain ⟨j, u, e1, e2, e3⟩ := h2 t av ht
      refine ⟨j + 1, u, by simpa using e1, ?_, e3⟩
      rw [e2]
      have : i + 1 + j = i + (j + 1) := by omega
      rw [this]
  | .r τ :: ps, d, vs, Φs, i, pos, hr, h => by
    obtain ⟨v, vs', φ, Φs', rfl, rfl, hfz, hφ, hv, h⟩ := h
    obtain ⟨h1, h2⟩ := entM_ok (i + 1) pos (by simpa [PTy.reads] using hr) h
    refine ⟨by simp [h1], fun t av ht => ?_⟩
    rw [entM, lk_cons] at ht
    cases hb : Nat.beq (bif Nat.blt i pos then i else i + 1) t with
    | true =>
      rw [hb] at ht
      cases ht
      obtain rfl := Nat.eq_of_beq_eq_true hb
      refine ⟨0, v, rfl, ?_, hfz, hv⟩
      cases hlt : Nat.blt i pos with
      | true => rw [if_pos (by have : i < pos := Eq.mp Nat.blt_eq hlt; omega)]; rfl
      | false => rw [if_neg (fun h => by have := Eq.mpr Nat.blt_eq (show i < pos by omega); rw [hlt] at this; cases this)]; rfl
    | false =>
      rw [hb] at ht
      obtain ⟨j, u, e1, e2, e3⟩ := h2 t av ht
      refine ⟨j + 1, u, by simpa using e1, ?_, e3⟩
      rw [e2]
      have : i + 1 + j = i + (j + 1) := by omega
      rw [this]
  | .c _ :: _, _, _, _, _, _, h, _ => by simp [PTy.reads] at h
  | .m _ :: _, _, _, _, _, _, h, _ => by simp [PTy.reads] at h
  | .mr _ _ :: _, _, _, _, _, _, h, _ => by simp [PTy.reads] at h
  | .t _ _ :: _, _, _, _, _, _, h, _ => by simp [PTy.reads] at h
  | .gm _ :: _, _, _, _, _, _, h, _ => by simp [PTy.reads] at h
  | .cm _ _ :: _, _, _, _, _, _, h, _ => by simp [PTy.reads] at h

theorem ins_get {α : Type} {vs : List α} {v : α} {pos j : Nat} (hp : pos ≤ vs.length) {x : α} (h : vs[j]? = some x) : (vs.take pos ++ v :: vs.drop pos)[if j < pos then j else j + 1]? = some x := by
  have hlen : (vs.take pos).length = pos := by rw [List.length_take]; omega
  by_cases hj : j < pos
  · rw [if_pos hj, List.getElem?_append_left (by omega), List.getElem?_take, if_pos hj]
    exact h
  · rw [if_neg hj, List.getElem?_append_right (by omega), hlen]
    have : j + 1 - pos = (j - pos) + 1 := by omega
    rw [this, List.getElem?_cons_succ, List.getElem?_drop]
    have : pos + (j - pos) = j := by omega
    rw [this]
    exact h

theorem fn_soundM (hm : P.follows .mixedOrders = true) (hcfg : CfgOK P cfg) {f : FuncId} {fn : Func} {c : Code} (hf : P.funcs[f]? = some fn) (hb : fn.body = some c) (hnt : fn.ntmps = cfg.nt) (hl : LoopsOK cfg c) (hd : drawOK cfg c = true) (hres : fn.results = #[])
    {mp : MPrim} (hreads : mp.rest.all PTy.reads = true) (hpos : mp.pos ≤ mp.rest.length) (hps : mp.rest.length + 1 ≤ cfg.nt) (hrow : rowTy mp.τ = true) (hg : ∀ d x y, mp.g d x = some y → ∃ n, absFnM cfg n c mp d x = some y) : SoundM P f mp := by
  intro d x x' hx w H vs Φs φ hok hargs hfs hobj hfr
  obtain ⟨n, hn⟩ := hg d x x' hx
  refine calls_of_wp hf hb ?_
  rw [hnt]
  obtain ⟨C, hCd⟩ : ∃ C : Ctx, C = ⟨w, (· ∈ φ.fp), H, cfg.nt, fun _ => none, [], fun _ => some φ.hdr⟩ := ⟨_, rfl⟩
  obtain ⟨Φ0, hΦ⟩ : ∃ Φ0 : Nat → Info, Φ0 = fun id => if id = pid mp.pos then φ else nilI id := ⟨_, rfl⟩
  have hΦp : Φ0 (pid mp.pos) = φ := by rw [hΦ]; simp
  obtain ⟨hlen, hent⟩ := entM_ok (C := C) (Φ := Φ0) (os := (entryM mp d x).obj) 0 mp.pos hreads hargs
  have hlenI : (vs.take mp.pos ++ φ.hdr :: vs.drop mp.pos).length = mp.rest.length + 1 := by
    rw [List.length_append, List.length_cons, List.length_take, List.length_drop]; omega
  have hfr0 : ∀ t v, (vs.take mp.pos ++ φ.hdr :: vs.drop mp.pos)[t]? = some v → ((vs.take mp.pos ++ φ.hdr :: vs.drop mp.pos).toArray ++ Array.replicate (cfg.nt - (vs.take mp.pos ++ φ.hdr :: vs.drop mp.pos).toArray.size) undef).getD t undef = v := by
    intro t v hv
    have hlt := (List.getElem?_eq_some_iff.1 hv).1
    rw [Array.getD_eq_getD_getElem?, Array.getElem?_append_left (by simpa using hlt)]
    rw [List.getElem?_toArray, hv]
    rfl
  have hobjD : ∀ id o, (entryM mp d x).obj id = some o → id = pid mp.pos ∧ o = ⟨true, mp.τ, x⟩ := by
    intro id o ho
    have ho' : (lk [(pid mp.pos, some (⟨true, mp.τ, x⟩ : Obj))] id).join = some o := ho
    rw [lk_cons] at ho'
    cases hbq : Nat.beq (pid mp.pos) id with
    | true => rw [hbq] at ho'; cases ho'; exact ⟨(Nat.eq_of_beq_eq_true hbq).symm, rfl⟩
    | false => rw [hbq] at ho'; cases ho'
  have hobjP : (entryM mp d x).obj (pid mp.pos) = some ⟨true, mp.τ, x⟩ := by
    show (lk [(pid mp.pos, some (⟨true, mp.τ, x⟩ : Obj))] (pid mp.pos)).join = _
    rw [lk_cons, Nat.beq_refl]
    rfl
  have hview : RepA P C w H Φ0 (entryM mp d x).obj (.view (pid mp.pos) []) φ.hdr := by
    refine ⟨_, ⟨mp.τ, x⟩, hobjP, getV_nil _ _, ?_⟩
    simp only [List.isEmpty_nil, Bool.and_self]
    rw [hΦp]
  have hsim : SimB P C (entryM mp d x) { tmps := (vs.take mp.pos ++ φ.hdr :: vs.drop mp.pos).toArray ++ Array.replicate (cfg.nt - (vs.take mp.pos ++ φ.hdr :: vs.drop mp.pos).toArray.size) undef, defers := [] } w H Φ0 := by
    subst hCd
    refine ⟨rfl, ?_, FH.le_refl _, hok, fun b c hb => .inl hb, Mod.refl _ _, ?_, ?_, ?_, fun id φ' h => (by cases h), fun id => ?_⟩
    · simp only [Array.size_append, List.size_toArray, Array.size_replicate]
      omega
    · intro t av ht
      have ht' : lk ((ghId, .gh 0 (.view (pid mp.pos) [])) :: (mp.pos, .view (pid mp.pos) []) :: entM mp.rest 0 mp.pos d) t = some av := ht
      rw [lk_cons] at ht'
      cases h1 : Nat.beq ghId t with
      | true =>
        rw [h1] at ht'
        cases ht'
        exact ⟨φ.hdr, rfl, hview⟩
      | false =>
        rw [h1, cond_false, lk_cons] at ht'
        cases h2 : Nat.beq mp.pos t with
        | true =>
          rw [h2] at ht'
          cases ht'
          obtain rfl := Nat.eq_of_beq_eq_true h2
          rw [hfr0 mp.pos φ.hdr (by
            have hlt : (vs.take mp.pos).length = mp.pos := by rw [List.length_take]; omega
            rw [List.getElem?_append_right (by omega), hlt, Nat.sub_self]; rfl)]
          exact hview
        | false =>
          rw [h2, cond_false] at ht'
          obtain ⟨j, v, k1, k2, k3⟩ := hent t av ht'
          rw [k2, Nat.zero_add, hfr0 _ v (ins_get (by omega) k1)]
          exact k3
    · intro id o ho
      obtain ⟨rfl, rfl⟩ := hobjD id o ho
      rw [hΦp]
      exact ⟨hobj, fun b hb => ⟨(hfr b hb).1, .inl hb, (hfr b hb).2⟩⟩
    · intro i j o o' hij hi hj
      exact absurd ((hobjD i o hi).1.trans (hobjD j o' hj).1.symm) hij
    · rw [hΦ]
      by_cases h : id = pid mp.pos
      · simp only [h, if_true]
        exact cls_high (by unfold pid; omega)
      · simp only [h, if_false]
        exact nilI_cls id
  have hC : CtxOK C cfg := by subst hCd; exact ⟨rfl, fun _ _ => rfl⟩
  refine wp_mono (run_ok hm hcfg hC c hl hd ⟨H, _, hsim, trivial⟩ hn) ?_
  have fin : ∀ (s : St) (a' : Act) (w' : World), Sim P C s a' w' → doneMK mp.τ .ret s = some x' →
      a'.defers = [] ∧ ∃ v', (results fn a'.tmps).run P w' = .ok v' w' ∧ ∃ H' fp', Ending.returned v' = .returned (resultV []) ∧ Mod (· ∈ φ.fp) w w' ∧ H.le H' ∧ HOk H' w' ∧ (∀ b c, H' b = some c → H b = some c ∨ b ∈ φ.fp ∨ w.heap.size ≤ b) ∧
        ObjOK P w' H' ⟨true, mp.τ, x'⟩ ⟨φ.b, φ.hdr, fp'⟩ ∧ ∀ b ∈ fp', H' b = none ∧ (b ∈ φ.fp ∨ w.heap.size ≤ b) ∧ b < w'.heap.size := by
    rintro s a' w' ⟨H2, Φ2, hs⟩ h
    subst hCd
    simp only [doneMK] at h
    split at h
    case h_2 => cases h
    rename_i m id hgh
    split at h
    case h_2 => cases h
    rename_i o ho
    obtain ⟨u2, hu2, o2, y2, g1, g2, g3⟩ := hs.ts ghId _ hgh
    cases hu2
    rw [ho] at g1
    cases g1
    obtain ⟨hok1, hok2⟩ := hs.os id o ho
    obtain ⟨row, τ, x1⟩ := o
    obtain ⟨e1, hx1⟩ := castTy_self h
    simp only at e1
    subst e1
    subst hx1
    rw [getV_nil] at g2
    cases g2
    have hr : (results fn a'.tmps).run P w' = .ok (resultV []) w' := run_results (us := []) (by rw [hres]; trivial)
    cases row with
    | true =>
      simp only [List.isEmpty_nil, Bool.and_self] at g3
      obtain ⟨p1, p2, p3, cs, p4, p5⟩ := hok1
      exact ⟨hs.defers, _, hr, H2, (Φ2 id).fp, rfl, hs.mod, hs.le, hs.hok, hs.hnew, ⟨p1, p2, p3, cs, by rw [g3]; exact p4, p5⟩, fun b hb => hok2 b hb⟩
    | false =>
      simp only [Bool.false_and] at g3
      obtain ⟨b3, o3, blk3, t3, g4, g5, g6⟩ := g3
      obtain ⟨p1, p2, blk, t, fp', p3, p4, p5⟩ := hok1
      obtain ⟨rfl, rfl⟩ := Loc.det _ g4 (Loc_nil w' mp.τ (Φ2 id).b 0)
      rw [p3] at g5
      cases g5
      have hsub : ∀ b ∈ fp', b ∈ (Φ2 id).fp := fun b hb => by rw [p5]; exact List.mem_cons_of_mem _ hb
      refine ⟨hs.defers, _, hr, H2, fp', rfl, hs.mod, hs.le, hs.hok, hs.hnew, ⟨p1, ?_, hrow, blk3.toList, ?_, p4⟩, fun b hb => hok2 b (hsub b hb)⟩
      · rw [p5] at p2
        exact (List.nodup_cons.1 p2).2
      · rw [g6, seg_zero, List.take_of_length_le (by rw [Rep.length _ p4]; exact Nat.le_refl _)]
  intro e a' w' hp
  cases e with
  | normal => obtain ⟨s, hs, h⟩ := hp; exact fin s a' w' hs.sim h
  | ret => obtain ⟨s, hs, h⟩ := hp; exact fin s a' w' hs.sim h
  | exit i => obtain ⟨s, hs, h⟩ := hp; cases h
  | _ => exact hp.elim

def GoodK (P : Program) (f : Nat) (kp : KPrim) : Prop := Callable P f ∧ SoundK P f kp
def GoodM (P : Program) (f : Nat) (mp : MPrim) : Prop := Callable P f ∧ SoundM P f mp
theorem GoodK.good {f : Nat} {kp : KPrim} (h : GoodK P f kp) : GoodF P f kp.prim := ⟨h.1, h.2.sound⟩
theorem keepOne {f : Nat} {kp : KPrim} (h : GoodK P f kp) : ∀ g m, lk [(f, kp)] g = some m → Callable P g ∧ SoundK P g m := by
  intro g m hm
  rw [lk_cons] at hm
  cases hb : Nat.beq f g with
  | true => rw [hb] at hm; cases hm; rw [← Nat.eq_of_beq_eq_true hb]; exact h
  | false => rw [hb] at hm; cases hm
theorem masOne {f : Nat} {mp : MPrim} (h : GoodM P f mp) : ∀ g m, lk [(f, mp)] g = some m → Callable P g ∧ SoundM P g m := by
  intro g m hm
  rw [lk_cons] at hm
  cases hb : Nat.beq f g with
  | true => rw [hb] at hm; cases hm; rw [← Nat.eq_of_beq_eq_true hb]; exact h
  | false => rw [hb] at hm; cases hm
theorem body_some {fn : Func} (hb : fn.body.isSome = true) : fn.body = some (body fn) := by
  unfold body
  cases h : fn.body with
  | none => rw [h] at hb; cases hb
  | some c => rfl
theorem fn_doneK (hm : P.follows .mixedOrders = true) (hcfg : CfgOK P cfg) {f : FuncId} {fn : Func} (hf : P.funcs[f]? = some fn) (hb : fn.body.isSome = true) (hnt : fn.ntmps = cfg.nt) (hname : (fn.name == "runtime.NumGoroutine") = false)
    {kp : KPrim} (hps : Nat.ble 1 cfg.nt = true) (hq : (tyAt kp.τ kp.q).isSome = true) (hqs : kp.q.any Step.isI = false) (hl : ∀ b ∈ loopsOf (body fn), LoopHas cfg b) (hd : drawOK cfg (body fn) = true) (hg : ∀ d y, kp.g d = some y → ∃ n, absFnK cfg n fn (body fn) kp d = some y) : GoodK P f kp :=
  ⟨callable_of hf (body_some hb) hname, fn_soundK hm hcfg hf (body_some hb) hnt (loops_ok hl) hd (Nat.le_of_ble_eq_true hps) hq hqs hg⟩
theorem fn_doneM (hm : P.follows .mixedOrders = true) (hcfg : CfgOK P cfg) {f : FuncId} {fn : Func} (hf : P.funcs[f]? = some fn) (hb : fn.body.isSome = true) (hnt : fn.ntmps = cfg.nt) (hname : (fn.name == "runtime.NumGoroutine") = false) (hres : fn.results = #[])
    {mp : MPrim} (hreads : mp.rest.all PTy.reads = true) (hpos : Nat.ble mp.pos mp.rest.length = true) (hps : Nat.ble (mp.rest.length + 1) cfg.nt = true) (hrow : rowTy mp.τ = true) (hl : ∀ b ∈ loopsOf (body fn), LoopHas cfg b) (hd : drawOK cfg (body fn) = true) (hg : ∀ d x y, mp.g d x = some y → ∃ n, absFnM cfg n (body fn) mp d x = some y) : GoodM P f mp :=
  ⟨callable_of hf (body_some hb) hname, fn_soundM hm hcfg hf (body_some hb) hnt (loops_ok hl) hd hres hreads (Nat.le_of_ble_eq_true hpos) (Nat.le_of_ble_eq_true hps) hrow hg⟩
end
end Go.Vi
