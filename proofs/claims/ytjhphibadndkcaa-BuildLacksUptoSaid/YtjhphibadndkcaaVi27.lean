/- The abstract interpreter 'Vi', twenty-sixth part: results; the contract of a function from the interpreter's run. No condition beyond those typed in each theorem. -/
import Derived.Test.YtjhphibadndkcaaVi26
namespace Go.Vi
section
variable {P : Program} {C : Ctx} {cfg : Cfg} {R : Type} {r : R} {s : St} {a : Act} {w : World} {H : FH} {Φ : Nat → Info}

theorem run_loadVar_seg {t : TypeId} {τ : Ty} (h : TyOK P t τ) {w : World} {b o : Nat} {blk : Array Value} {bt : TypeId} {f : Nat × Nat} (hb : w.heap[b]? = some (.cells blk bt f)) (hs : (seg blk o τ.size).length = τ.size) :
    (loadVar t ⟨b, o, none⟩).run P w = .ok (toV τ (seg blk o τ.size)) w := by
  obtain ⟨_, _, _, hp, _⟩ := h.info
  obtain ⟨pre, post, e1, e2⟩ := split_seg hs hp
  have := run_loadVar h hb e1 hs
  rw [e2] at this
  exact this

theorem loadK_ok (hcfg : CfgOK P cfg) (hs : SimB P C s a w H Φ) {T : TypeId} {av : AV} {v : Value} (hr : RepA P C w H Φ s.obj av v) {kk : AV → Option R} (h : loadK s (lk cfg.ty T) av kk = some r) :
    ∃ bv u, kk bv = some r ∧ RepA P C w H Φ s.obj bv u ∧ ∃ ad, v = .pointer (some ad) ∧ (loadVar T ad).run P w = .ok u w := by
  unfold loadK at h
  split at h
  · rename_i σ y
    cases hT : decide (lk cfg.ty T = some σ) with
    | false => rw [hT] at h; cases h
    | true =>
      rw [hT, cond_true] at h
      obtain ⟨hty, _⟩ := hcfg.ty T _ (of_decide_eq_true hT)
      obtain ⟨hf, b, o, blk, hv, hH, hrep⟩ := hr
      obtain ⟨t, f, hb⟩ := hs.hok b blk hH
      exact ⟨_, toV σ (seg blk o σ.size), h, ⟨hf, _, rfl, hrep⟩, _, hv, run_loadVar_seg hty hb (Rep.length σ hrep)⟩
  · rename_i id p
    obtain ⟨o, y, b, off, h1, h2, h3, h4, hv⟩ := hr
    rw [h1] at h
    simp only [h2, cond_false] at h
    have hyt := getV_tyAt _ h3
    rw [hyt] at h
    obtain ⟨σ, y⟩ := y
    simp only at h hyt
    cases hT : decide (lk cfg.ty T = some σ.fz) with
    | false => rw [hT] at h; cases h
    | true =>
      rw [hT, cond_true] at h
      obtain ⟨hty, _⟩ := hcfg.ty T _ (of_decide_eq_true hT)
      have hty' := TyOK.unfz hty
      have hok := (hs.os id o h1).1
      obtain ⟨b', o', hl, blk', t', pre', c, post', f1, f', f2, e1, e2, e3, e4, e5, e6, _⟩ := hok.desc (y := y) h3 ⟨w, _, _, h4⟩ h2
      obtain ⟨rfl, rfl⟩ := LocO.det h4 (hl w (fun _ _ => rfl))
      have hseg : seg blk' off σ.size = c := by rw [← e3]; exact seg_of_split e2 (Rep.length σ e6)
      have hrun : (loadVar T ⟨b, off, none⟩).run P w = .ok (toV σ c) w := by
        have := run_loadVar_seg hty' (o := off) e1 (by rw [hseg]; exact Rep.length σ e6)
        rw [hseg] at this
        exact this
      cases hfz : σ.isFz with
      | true =>
        rw [hfz, cond_true, getPK_eq, h3] at h
        have hf0 := Rep.fz_fp σ hfz e6
        subst hf0
        exact ⟨_, toV σ c, h, ⟨hfz, c, rfl, e6⟩, _, hv, hrun⟩
      | false =>
        rw [hfz, cond_false] at h
        refine ⟨_, toV σ c, h, ⟨o, ⟨σ, y⟩, h1, h3, ?_⟩, _, hv, hrun⟩
        rw [h2]
        exact ⟨b, off, blk', t', h4, e1, by rw [hseg]⟩
  · cases h

/-- A result slot's value. -/
def SlotRun (P : Program) (a : Act) (w : World) (v : ResultVar) (u : Value) : Prop :=
  (match v with
    | .tmp t => (pure (a.tmps.getD t undef) : Sem Value)
    | .cell x t => do loadVar t (← asAddr (a.tmps.getD x undef))).run P w = .ok u w

theorem slotK_ok (hcfg : CfgOK P cfg) (hs : SimB P C s a w H Φ) {v : ResultVar} {kk : AV → Option R} (h : slotK cfg s v kk = some r) : ∃ av u, kk av = some r ∧ RepA P C w H Φ s.obj av u ∧ SlotRun P a w v u := by
  unfold slotK at h
  split at h
  · rename_i t
    split at h
    · rename_i av hav
      exact ⟨av, _, h, hs.ts t av hav, rfl⟩
    · cases h
  · rename_i t T
    split at h
    · rename_i av hav
      obtain ⟨bv, u, h, hr, ad, hv, hrun⟩ := loadK_ok hcfg hs (hs.ts t av hav) h
      refine ⟨bv, u, h, hr, ?_⟩
      unfold SlotRun
      simp [hv, asAddr, hrun]
    · cases h

theorem run_mapM (g : ResultVar → Sem Value) : ∀ (l : List ResultVar) (us : List Value), Rel2 (fun v u => (g v).run P w = .ok u w) l us → (l.mapM g).run P w = .ok us w
  | [], us, h => by match us, h with | [], _ => simp
  | v :: l, us, h => by
    match us, h with
    | u :: us, h =>
      have h1 := h.1
      simp only at h1
      rw [List.mapM_cons]
      simp only [Sem.run_bind, h1, Result.andThen_ok, run_mapM g l us h.2]
      simp
    | [], h => exact h.elim

theorem run_amapM (g : ResultVar → Sem Value) (l : Array ResultVar) (us : List Value) (h : Rel2 (fun v u => (g v).run P w = .ok u w) l.toList us) : (l.mapM g).run P w = .ok us.toArray w := by
  rw [Array.mapM_eq_mapM_toList]
  simp only [Sem.run_map, run_mapM g _ _ h, Result.andThen_ok]

theorem run_results {fn : Func} {us : List Value} (h : Rel2 (SlotRun P a w) fn.results.toList us) : (results fn a.tmps).run P w = .ok (resultV us) w := by
  unfold results
  rw [Sem.run_bind, run_amapM _ fn.results us (Rel2.imp (fun v u h => by cases v <;> exact h) h)]
  simp only [Result.andThen_ok]
  match us with
  | [] => simp [resultV]
  | [u] => simp [resultV]
  | _ :: _ :: _ => simp [resultV]

theorem snapK_bind (s : St) (av : AV) (τ : Ty) (kk : τ.den → Option R) : snapK s av τ kk = (snapK s av τ some).bind kk := by
  unfold snapK
  split
  · simp [derefK_eq]
  · split
    · simp only [getPK_eq, derefK_eq]
      cases getV _ _ _ <;> simp
    · rfl
  · simp [derefK_eq]
  · split
    · rename_i o _
      cases o.row with
      | true => rfl
      | false =>
        simp only [cond_false]
        split
        · simp [derefK_eq]
        · rfl
    · rfl
  · rfl

theorem apart_mem {l r : List Nat} (h : apart l r = true) {id : Nat} (hid : id ∈ l) : id ∉ r := (apart_ok h).2 id hid

/-- What results read as: 'T': the objects that are read; 'hand': those that are handed over. -/
theorem resK_ok (hcfg : CfgOK P cfg) (hs : SimB P C s a w H Φ) : ∀ {vs : List ResultVar} {rs : List RTy} {used : List Nat} {kk : RDens rs → Option R}, resK cfg s used vs rs kk = some r →
    ∃ T hand : List Nat, (∀ id ∈ T, id ∉ used) ∧ hand.Nodup ∧ (∀ id ∈ hand, id ∉ used ∧ id ∉ T) ∧ ∀ Hf, H.le Hf → Fzn w Hf Φ s.obj T →
      ∃ d us Ψs, kk d = some r ∧ Rel2 (SlotRun P a w) vs us ∧ ResOK P w Hf rs d us Ψs ∧ (fpsOf Ψs).Nodup ∧ ∀ b ∈ fpsOf Ψs, ∃ id ∈ hand, ∃ o, s.obj id = some o ∧ b ∈ (Φ id).fp
  | [], [], used, kk, h => ⟨[], [], by simp, by simp, by simp, fun Hf _ _ => ⟨(), [], [], h, trivial, ⟨rfl, rfl⟩, by simp [fpsOf], by simp [fpsOf]⟩⟩
  | [], .v _ :: _, _, _, h => by cases h
  | [], .own _ _ :: _, _, _, h => by cases h
  | [], .optr _ :: _, _, _, h => by cases h
  | _ :: _, [], _, _, h => by cases h
  | v :: vs, .v τ :: rs, used, kk, h => by
    simp only [resK] at h
    obtain ⟨av, u, h, hr, hrun⟩ := slotK_ok hcfg hs h
    cases hap : apart av.touches used with
    | false => rw [hap] at h; cases h
    | true =>
    rw [hap, cond_true] at h
    rw [snapK_bind] at h
    replace h := Option.bind_eq_some_iff.1 h
    obtain ⟨x, hsn, hx⟩ := h
    obtain ⟨T, hand, t1, t2, t3, t4⟩ := resK_ok hcfg hs hx
    refine ⟨av.touches ++ T, hand, ?_, t2, ?_, ?_⟩
    · intro id hid
      rcases List.mem_append.1 hid with hid | hid
      · exact apart_mem hap hid
      · exact fun hu => t1 id hid (List.mem_append.2 (.inr hu))
    · intro id hid
      obtain ⟨q1, q2⟩ := t3 id hid
      refine ⟨fun hu => q1 (List.mem_append.2 (.inr hu)), fun hu => ?_⟩
      rcases List.mem_append.1 hu with hu | hu
      · exact q1 (List.mem_append.2 (.inl hu))
      · exact q2 hu
    · intro Hf hle hf
      obtain ⟨hfz, x2, hx2, hv2⟩ := snapX_ok hs hle (FH.le_refl Hf) (fun id hid => hf id (by simp [hid])) (.inl hr) hsn
      cases hx2
      obtain ⟨d, us, Ψs, g1, g2, g3, g4, g5⟩ := t4 Hf hle (fun id hid => hf id (by simp [hid]))
      exact ⟨(x, d), u :: us, nilInfo :: Ψs, g1, ⟨hrun, g2⟩, ⟨u, us, nilInfo, Ψs, rfl, rfl, hfz, rfl, hv2, g3⟩, by simpa [fpsOf, nilInfo] using g4, by simpa [fpsOf, nilInfo] using g5⟩
  | v :: vs, .own tid e :: rs, used, kk, h => by
    simp only [resK] at h
    obtain ⟨av, u, h, hr, hrun⟩ := slotK_ok hcfg hs h
    split at h
    case h_2 => cases h
    rename_i id p
    cases hu : hasNat id used with
    | true => rw [hu] at h; cases h
    | false =>
    rw [hu, cond_false] at h
    have hnu : id ∉ used := fun hm => by rw [hasNat_mem.2 hm] at hu; cases hu
    split at h
    case h_2 => cases h
    rename_i o ho
    rw [getPK_eq] at h
    replace h := Option.bind_eq_some_iff.1 h
    obtain ⟨y, hy, h⟩ := h
    rw [derefK_eq] at h
    replace h := Option.bind_eq_some_iff.1 h
    obtain ⟨x, hx, h⟩ := h
    obtain ⟨T, hand, t1, t2, t3, t4⟩ := resK_ok hcfg hs h
    have hok := (hs.os id o ho).1
    obtain ⟨cs, fp, hv, hrep, hsub, hndf⟩ := view_rep hr ho hok hy
    obtain ⟨σ, y⟩ := y
    obtain ⟨e1, hx⟩ := castTy_self hx
    simp only at e1
    subst e1
    subst hx
    have hnf := getV_noFn _ hok.1 hy
    obtain ⟨hdr, xs, fp', rfl, rfl, k3, k4⟩ := hrep
    refine ⟨T, id :: hand, fun j hj hm => t1 j hj (List.mem_cons_of_mem _ hm), ?_, ?_, ?_⟩
    · exact List.nodup_cons.2 ⟨fun hm => (t3 id hm).1 List.mem_cons_self, t2⟩
    · intro j hj
      rcases List.mem_cons.1 hj with rfl | hj
      · exact ⟨hnu, fun hm => t1 j hm List.mem_cons_self⟩
      · exact ⟨fun hm => (t3 j hj).1 (List.mem_cons_of_mem _ hm), (t3 j hj).2⟩
    · intro Hf hle hf
      obtain ⟨d, us, Ψs, g1, g2, g3, g4, g5⟩ := t4 Hf hle hf
      have hv' : u = hdr := hv
      refine ⟨(_, d), u :: us, ⟨0, hdr, hdr.ownBlock.toList ++ fp'⟩ :: Ψs, g1, ⟨hrun, g2⟩, ⟨u, us, _, Ψs, rfl, rfl, hv', ObjOK.of_list hnf hndf (Rep.mono _ hle (fun _ _ => rfl) ⟨hdr, xs, fp', rfl, rfl, k3, k4⟩), g3⟩, ?_, ?_⟩
      · have : fpsOf (⟨0, hdr, hdr.ownBlock.toList ++ fp'⟩ :: Ψs) = (hdr.ownBlock.toList ++ fp') ++ fpsOf Ψs := by simp [fpsOf]
        rw [this, List.nodup_append]
        refine ⟨hndf, g4, ?_⟩
        rintro b hb _ hb' rfl
        obtain ⟨j, hj, o', ho', hbj⟩ := g5 b hb'
        exact hs.disj id j o o' (by rintro rfl; exact (t3 id hj).1 List.mem_cons_self) ho ho' b (hsub b hb) hbj
      · intro b hb
        have : fpsOf (⟨0, hdr, hdr.ownBlock.toList ++ fp'⟩ :: Ψs) = (hdr.ownBlock.toList ++ fp') ++ fpsOf Ψs := by simp [fpsOf]
        rw [this] at hb
        rcases List.mem_append.1 hb with hb | hb
        · exact ⟨id, List.mem_cons_self, o, ho, hsub b hb⟩
        · obtain ⟨j, hj, o', ho', hbj⟩ := g5 b hb
          exact ⟨j, List.mem_cons_of_mem _ hj, o', ho', hbj⟩
  | v :: vs, .optr τ :: rs, used, kk, h => by
    simp only [resK] at h
    obtain ⟨av, u, h, hr, hrun⟩ := slotK_ok hcfg hs h
    split at h
    case h_2 => cases h
    rename_i id
    cases hu : hasNat id used with
    | true => rw [hu] at h; cases h
    | false =>
    rw [hu, cond_false] at h
    have hnu : id ∉ used := fun hm => by rw [hasNat_mem.2 hm] at hu; cases hu
    split at h
    case h_2 => cases h
    rename_i o ho
    obtain ⟨row, σ, x0⟩ := o
    cases row with
    | true => cases h
    | false =>
    simp only [cond_false, derefK_eq] at h
    replace h := Option.bind_eq_some_iff.1 h
    obtain ⟨x, hx, h⟩ := h
    obtain ⟨T, hand, t1, t2, t3, t4⟩ := resK_ok hcfg hs h
    have hok := (hs.os id _ ho).1
    obtain ⟨e1, hx⟩ := castTy_self hx
    subst e1
    subst hx
    obtain ⟨o2, y2, b, off, q1, _, _, q4, q5⟩ := hr
    rw [ho] at q1
    cases q1
    obtain ⟨rfl, rfl⟩ := Loc.det _ q4 (Loc_nil w σ (Φ id).b 0)
    refine ⟨T, id :: hand, fun j hj hm => t1 j hj (List.mem_cons_of_mem _ hm), ?_, ?_, ?_⟩
    · exact List.nodup_cons.2 ⟨fun hm => (t3 id hm).1 List.mem_cons_self, t2⟩
    · intro j hj
      rcases List.mem_cons.1 hj with rfl | hj
      · exact ⟨hnu, fun hm => t1 j hm List.mem_cons_self⟩
      · exact ⟨fun hm => (t3 j hj).1 (List.mem_cons_of_mem _ hm), (t3 j hj).2⟩
    · intro Hf hle hf
      obtain ⟨d, us, Ψs, g1, g2, g3, g4, g5⟩ := t4 Hf hle hf
      have hfe : fpsOf (Φ id :: Ψs) = (Φ id).fp ++ fpsOf Ψs := by simp [fpsOf]
      refine ⟨(_, d), u :: us, Φ id :: Ψs, g1, ⟨hrun, g2⟩, ⟨u, us, _, Ψs, rfl, rfl, q5, hok.frame hle (fun _ _ => rfl), g3⟩, ?_, ?_⟩
      · rw [hfe, List.nodup_append]
        refine ⟨hok.2.1, g4, ?_⟩
        rintro b hb _ hb' rfl
        obtain ⟨j, hj, o', ho', hbj⟩ := g5 b hb'
        exact hs.disj id j _ o' (by rintro rfl; exact (t3 id hj).1 List.mem_cons_self) ho ho' b hb hbj
      · intro b hb
        rw [hfe] at hb
        rcases List.mem_append.1 hb with hb | hb
        · exact ⟨id, List.mem_cons_self, _, ho, hb⟩
        · obtain ⟨j, hj, o', ho', hbj⟩ := g5 b hb
          exact ⟨j, List.mem_cons_of_mem _ hj, o', ho', hbj⟩
end
end Go.Vi
