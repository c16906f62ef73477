/- The abstract interpreter 'Vi', twentieth part: what a call leaves behind: changed objects, results. No condition beyond those typed in each theorem. -/
import Derived.Test.YtjhphibadndkcaaVi19
namespace Go.Vi
section
variable {P : Program} {C : Ctx} {cfg : Cfg} {R : Type} {r : R} {s : St} {a : Act} {w : World} {H : FH} {Φ : Nat → Info} {dst : Option Nat} {ty : TypeId} {pos : String} {after : Array Edge} {guard : Option (Nat × Bool)} {k : St → Option R}

/-- Several objects' contents have changed, in place. -/
def chInfo (ch : Nat → Option (Obj × List Nat)) (Φ : Nat → Info) (id : Nat) : Info :=
  match ch id with
  | some x => ⟨(Φ id).b, (Φ id).hdr, x.2⟩
  | none => Φ id

theorem SimB.changes {s s' : St} {a : Act} {w w' : World} {H H' : FH} {Φ : Nat → Info} (h : SimB P C s a w H Φ) {ch : Nat → Option (Obj × List Nat)} {F : AV → Bool}
    (hch : ∀ id x, ch id = some x → ∃ o, s.obj id = some o ∧ x.1.row = o.row ∧ x.1.τ = o.τ ∧ ObjOK P w' H' x.1 ⟨(Φ id).b, (Φ id).hdr, x.2⟩)
    (hobj : ∀ id, s'.obj id = match ch id with | some x => some x.1 | none => s.obj id)
    (hget : ∀ t, s'.get t = (s.get t).map (AV.killIf F)) (hF : ∀ id x, ch id = some x → ∀ av, AV.stale id x.1.row av = true → F av = true) (hFu : ∀ av, AV.isUpd av = true → F av = true)
    (hH : H.le H') (hok' : HOk H' w') (hnew : ∀ b c, H' b = some c → C.H0 b = some c ∨ C.M0 b ∨ C.w0.heap.size ≤ b) (hmod : Mod C.M0 C.w0 w') (hsz : w.heap.size ≤ w'.heap.size)
    (hw : ∀ j o', ch j = none → s.obj j = some o' → ∀ b ∈ (Φ j).fp, w'.heap[b]? = w.heap[b]? ∧ H' b = none)
    (hfp : ∀ id x, ch id = some x → ∀ b ∈ x.2, H' b = none ∧ (C.M0 b ∨ C.w0.heap.size ≤ b) ∧ b < w'.heap.size ∧ ∀ j o', ch j = none → s.obj j = some o' → b ∉ (Φ j).fp)
    (hdisj : ∀ i j x y, i ≠ j → ch i = some x → ch j = some y → ∀ b ∈ x.2, b ∉ y.2) :
    SimB P C s' a w' H' (chInfo ch Φ) := by
  have hsame : ∀ j, ch j = none → chInfo ch Φ j = Φ j := fun j hj => by unfold chInfo; rw [hj]
  have hthat : ∀ j x, ch j = some x → chInfo ch Φ j = ⟨(Φ j).b, (Φ j).hdr, x.2⟩ := fun j x hj => by unfold chInfo; rw [hj]
  have hos : ∀ j o', ch j = none → s.obj j = some o' → s'.obj j = some o' := by
    intro j o' hj hoj
    rw [hobj, hj]; exact hoj
  refine ⟨h.defers, h.size, FH.le_trans h.le hH, hok', hnew, hmod, ?_, ?_, ?_, ?_⟩
  · intro t av ht
    rw [hget] at ht
    obtain ⟨av0, h0, rfl⟩ := Option.map_eq_some_iff.1 ht
    refine RepA.transfer F hH ?_ ?_ ?_ av0 _ (h.ts t av0 h0)
    · intro j p v hf hr
      cases hj : ch j with
      | some x =>
        obtain ⟨o, ho, hrow, hτ, _⟩ := hch j x hj
        obtain ⟨o1, y, b, off, h1, h2, h3, h4, h5⟩ := hr
        rw [ho] at h1
        cases h1
        have hp : p.any Step.isI = false := by
          cases hpp : p.any Step.isI with
          | false => rfl
          | true =>
            have := hF j x hj (.ptr j p) (by simp [AV.stale, Nat.beq_refl, hpp])
            rw [hf] at this; cases this
        have hrow0 : o.row = false := by
          cases hr : o.row with
          | false => rfl
          | true =>
            exfalso
            obtain ⟨row, τ, x⟩ := o
            simp only at hr
            subst hr
            unfold LocO at h4
            simp only at h4
            split at h4
            · simp [Step.isI] at hp
            · exact h4
        obtain ⟨xo, xf⟩ := x
        obtain ⟨xrow, xτ, xx⟩ := xo
        obtain ⟨row, τ, ox⟩ := o
        simp only at hrow hτ hrow0
        subst hτ
        subst hrow
        subst hrow0
        obtain ⟨y', hy'⟩ := getV_static xτ xx hp (getV_tyAt _ h3)
        refine ⟨⟨false, xτ, xx⟩, ⟨y.1, y'⟩, b, off, ?_, rfl, hy', ?_, h5⟩
        · rw [hobj, hj]
        · rw [hthat j _ hj]
          exact Loc.static _ hp h4
      | none => exact RepA.ptr_stay (fun o ho => hos j o hj ho) (hsame j hj) (fun o1 ho1 => ⟨(h.os j o1 ho1).1, fun b hb => (hw j o1 hj ho1 b hb).1⟩) hr
    · intro j p v hf hr
      cases hj : ch j with
      | some x =>
        obtain ⟨o, ho, hrow, hτ, _⟩ := hch j x hj
        have hp : (o.row && p.isEmpty) = true := by
          cases hpp : o.row && p.isEmpty with
          | true => rfl
          | false =>
            have := hF j x hj (.view j p) (by simp [AV.stale, Nat.beq_refl, hrow, hpp])
            rw [hf] at this; cases this
        obtain ⟨o1, y, h1, h2, h3⟩ := hr
        rw [ho] at h1
        cases h1
        rw [hp] at h3
        simp only [Bool.and_eq_true, List.isEmpty_iff] at hp
        obtain ⟨hrow0, rfl⟩ := hp
        refine ⟨x.1, ⟨x.1.τ, x.1.x⟩, by rw [hobj, hj], getV_nil _ _, ?_⟩
        simp only [hrow, hrow0, List.isEmpty_nil, Bool.and_self, hthat j x hj]
        exact h3
      | none => exact RepA.view_stay (fun o ho => hos j o hj ho) (hsame j hj) (fun o1 ho1 => ⟨(h.os j o1 ho1).1, fun b hb => (hw j o1 hj ho1 b hb).1⟩) hr
    · intro j p t e l v hf
      rw [hFu _ rfl] at hf; cases hf
  · intro j o1 hj
    rw [hobj] at hj
    cases hc : ch j with
    | some x =>
      rw [hc] at hj
      cases hj
      obtain ⟨o, ho, _, _, hok⟩ := hch j x hc
      rw [hthat j x hc]
      exact ⟨hok, fun b hb => ⟨(hfp j x hc b hb).1, (hfp j x hc b hb).2.1, (hfp j x hc b hb).2.2.1⟩⟩
    | none =>
      rw [hc] at hj
      rw [hsame j hc]
      obtain ⟨h1, h2⟩ := h.os j o1 hj
      exact ⟨h1.frame hH (fun b hb => (hw j o1 hc hj b hb).1), fun b hb => ⟨(hw j o1 hc hj b hb).2, (h2 b hb).2.1, Nat.lt_of_lt_of_le (h2 b hb).2.2 hsz⟩⟩
  · intro i j o1 o2 hij h1 h2 b hb
    rw [hobj] at h1 h2
    cases hi : ch i with
    | some x =>
      rw [hthat i x hi] at hb
      cases hj : ch j with
      | some y =>
        rw [hthat j y hj]
        exact hdisj i j x y hij hi hj b hb
      | none =>
        rw [hj] at h2
        rw [hsame j hj]
        exact (hfp i x hi b hb).2.2.2 j o2 hj h2
    | none =>
      rw [hi] at h1
      rw [hsame i hi] at hb
      cases hj : ch j with
      | some y =>
        rw [hthat j y hj]
        intro hb'
        exact (hfp j y hj b hb').2.2.2 i o1 hi h1 hb
      | none =>
        rw [hj] at h2
        rw [hsame j hj]
        exact h.disj i j o1 o2 hij h1 h2 b hb
  · intro j φ' hj
    have := h.pins j φ' hj
    cases hc : ch j with
    | some x => rw [hthat j x hc]; exact this
    | none => rw [hsame j hc]; exact this

theorem killIf_killIf (f g : AV → Bool) : ∀ av : AV, (av.killIf f).killIf g = av.killIf (fun x => f x || g x)
  | .dead => by simp only [AV.killIf]; cases f .dead <;> simp [AV.killIf]
  | .val τ x => by simp only [AV.killIf]; cases f (.val τ x) <;> simp [AV.killIf]
  | .ref τ x => by simp only [AV.killIf]; cases f (.ref τ x) <;> simp [AV.killIf]
  | .ptr i p => by simp only [AV.killIf]; cases f (.ptr i p) <;> simp [AV.killIf]
  | .view i p => by simp only [AV.killIf]; cases f (.view i p) <;> simp [AV.killIf]
  | .upd i p t e l => by simp only [AV.killIf]; cases f (.upd i p t e l) <;> simp [AV.killIf]
  | .fn h a b => by simp only [AV.killIf, killIf_killIf f g a, killIf_killIf f g b]
  | .nil => by simp only [AV.killIf]; cases f .nil <;> simp [AV.killIf]
  | .cons a b => by simp only [AV.killIf, killIf_killIf f g a, killIf_killIf f g b]

/-- The parameters that a call may have changed, read off. -/
theorem muts_list {os : Nat → Option Obj} {w' : World} {H' : FH} {Hf : FH} : ∀ {ps : List PTy} {l : List AV} {vs : List Value} {Φs Φs' : List Info} {d : PDens ps} {md : MDens ps}, MutR os Φ ps l Φs → ArgsOK P w Hf ps d vs Φs → MutsOK P w' H' ps md vs Φs' →
    ∃ ML : List (Nat × Obj × List Nat), ML.map (·.1) = mutsOf ps l ∧ fpsOf Φs' = ML.flatMap (·.2.2) ∧ fpsOf Φs = ML.flatMap (fun x => (Φ x.1).fp) ∧
      (∀ x ∈ ML, ∃ o, os x.1 = some o ∧ x.2.1.row = o.row ∧ x.2.1.τ = o.τ ∧ ObjOK P w' H' x.2.1 ⟨(Φ x.1).b, (Φ x.1).hdr, x.2.2⟩) ∧
      ∀ s0 : St, ∃ F, (∀ t, (afterMuts s0 ps l md).get t = (s0.get t).map (AV.killIf F)) ∧ (∀ x ∈ ML, ∀ av, AV.stale x.1 x.2.1.row av = true → F av = true) ∧ ((ML.map (·.1)).Nodup → ∀ j, (afterMuts s0 ps l md).obj j = match lk ML j with | some x => some x.1 | none => s0.obj j)
  | [], l, vs, Φs, Φs', d, md, hm, ha, hmu => by
    obtain ⟨rfl, rfl⟩ := hm
    obtain ⟨rfl, _⟩ := ha
    obtain ⟨_, rfl⟩ := hmu
    refine ⟨[], rfl, rfl, rfl, by simp, fun s0 => ⟨fun _ => false, fun t => ?_, by simp, fun _ j => rfl⟩⟩
    simp only [afterMuts]
    cases s0.get t with
    | none => rfl
    | some av => simp [RepA.id_kill]
  | .v τ :: ps, l, vs, Φs, Φs', d, md, hm, ha, hmu => by
    obtain ⟨av, l', φ, Φs1, rfl, rfl, hφ, hm⟩ := hm
    obtain ⟨v, vs', φ', Φs1', rfl, e1, _, hφ', _, ha⟩ := ha
    obtain ⟨rfl, rfl⟩ : φ = φ' ∧ Φs1 = Φs1' := by simpa using e1
    obtain ⟨v2, vs2, φ2, Φs2, e2, rfl, hφ2, hmu⟩ := hmu
    obtain ⟨rfl, rfl⟩ : v = v2 ∧ vs' = vs2 := by simpa using e2
    obtain ⟨ML, h1, h2, h3, h4, h5⟩ := muts_list hm ha hmu
    exact ⟨ML, h1, by simpa [fpsOf, hφ2] using h2, by simpa [fpsOf, hφ] using h3, h4, h5⟩
  | .r τ :: ps, l, vs, Φs, Φs', d, md, hm, ha, hmu => by
    obtain ⟨av, l', φ, Φs1, rfl, rfl, hφ, hm⟩ := hm
    obtain ⟨v, vs', φ', Φs1', rfl, e1, _, hφ', _, ha⟩ := ha
    obtain ⟨rfl, rfl⟩ : φ = φ' ∧ Φs1 = Φs1' := by simpa using e1
    obtain ⟨v2, vs2, φ2, Φs2, e2, rfl, hφ2, hmu⟩ := hmu
    obtain ⟨rfl, rfl⟩ : v = v2 ∧ vs' = vs2 := by simpa using e2
    obtain ⟨ML, h1, h2, h3, h4, h5⟩ := muts_list hm ha hmu
    exact ⟨ML, h1, by simpa [fpsOf, hφ2] using h2, by simpa [fpsOf, hφ] using h3, h4, h5⟩
  | .m τ :: ps, l, vs, Φs, Φs', d, md, hm, ha, hmu => by
    obtain ⟨id, l', Φs1, x, rfl, rfl, ho, hm⟩ := hm
    obtain ⟨v, vs', φ', Φs1', rfl, e1, hv, _, ha⟩ := ha
    obtain ⟨rfl, rfl⟩ : Φ id = φ' ∧ Φs1 = Φs1' := by simpa using e1
    obtain ⟨v2, vs2, φ2, Φs2, e2, rfl, hv2, hok2, hmu⟩ := hmu
    obtain ⟨rfl, rfl⟩ : v = v2 ∧ vs' = vs2 := by simpa using e2
    obtain ⟨ML, h1, h2, h3, h4, h5⟩ := muts_list hm ha hmu
    have hb : φ2.b = (Φ id).b := by
      rw [hv] at hv2
      simpa using hv2.symm
    refine ⟨(id, ⟨false, τ, md.1⟩, φ2.fp) :: ML, by simp [mutsOf, AV.name, h1], by simpa [fpsOf] using h2, by simpa [fpsOf] using h3, ?_, ?_⟩
    · intro y hy
      rcases List.mem_cons.1 hy with rfl | hy
      · refine ⟨_, ho, rfl, rfl, ?_⟩
        obtain ⟨k1, k2, blk, t, fp', k3, k4, k5⟩ := hok2
        exact ⟨k1, k2, blk, t, fp', by rw [← hb]; exact k3, k4, by rw [← hb]; exact k5⟩
      · exact h4 y hy
    · intro s0
      obtain ⟨F, g1, g2, g3⟩ := h5 ((s0.killIf (AV.stale id false)).setObj id (some ⟨false, τ, md.1⟩))
      refine ⟨fun av => AV.stale id false av || F av, ?_, ?_, ?_⟩
      · intro t
        show (afterMuts ((s0.killIf (AV.stale id false)).setObj id (some ⟨false, τ, md.1⟩)) ps l' md.2).get t = _
        rw [g1, St.get_setObj, St.get_killIf]
        cases s0.get t with
        | none => rfl
        | some av => simp [killIf_killIf]
      · intro y hy av hst
        rcases List.mem_cons.1 hy with rfl | hy
        · simp [hst]
        · simp [g2 y hy av hst]
      · intro hnd j
        simp only [List.map_cons, List.nodup_cons] at hnd
        show (afterMuts ((s0.killIf (AV.stale id false)).setObj id (some ⟨false, τ, md.1⟩)) ps l' md.2).obj j = _
        rw [g3 hnd.2 j, lk_cons, St.obj_setObj, St.obj_killIf]
        cases hb : Nat.beq id j with
        | true =>
          obtain rfl := Nat.eq_of_beq_eq_true hb
          rw [lk_none hnd.1, if_pos rfl]
          rfl
        | false =>
          rw [if_neg (Nat.ne_of_beq_eq_false hb)]
          rfl
  | .mr tid e :: ps, l, vs, Φs, Φs', d, md, hm, ha, hmu => by
    obtain ⟨id, l', Φs1, x, rfl, rfl, ho, hm⟩ := hm
    obtain ⟨v, vs', φ', Φs1', rfl, e1, hv, _, ha⟩ := ha
    obtain ⟨rfl, rfl⟩ : Φ id = φ' ∧ Φs1 = Φs1' := by simpa using e1
    obtain ⟨v2, vs2, φ2, Φs2, e2, rfl, hv2, hok2, hmu⟩ := hmu
    obtain ⟨rfl, rfl⟩ : v = v2 ∧ vs' = vs2 := by simpa using e2
    obtain ⟨ML, h1, h2, h3, h4, h5⟩ := muts_list hm ha hmu
    have hb : φ2.hdr = (Φ id).hdr := by rw [← hv, hv2]
    refine ⟨(id, ⟨true, .list true tid e, md.1⟩, φ2.fp) :: ML, by simp [mutsOf, AV.name, h1], by simpa [fpsOf] using h2, by simpa [fpsOf] using h3, ?_, ?_⟩
    · intro y hy
      rcases List.mem_cons.1 hy with rfl | hy
      · refine ⟨_, ho, rfl, rfl, ?_⟩
        obtain ⟨k1, k2, k3, k4⟩ := hok2
        exact ⟨k1, k2, k3, by rw [← hb]; exact k4⟩
      · exact h4 y hy
    · intro s0
      obtain ⟨F, g1, g2, g3⟩ := h5 ((s0.killIf (AV.stale id true)).setObj id (some ⟨true, .list true tid e, md.1⟩))
      refine ⟨fun av => AV.stale id true av || F av, ?_, ?_, ?_⟩
      · intro t
        show (afterMuts ((s0.killIf (AV.stale id true)).setObj id (some ⟨true, .list true tid e, md.1⟩)) ps l' md.2).get t = _
        rw [g1, St.get_setObj, St.get_killIf]
        cases s0.get t with
        | none => rfl
        | some av => simp [killIf_killIf]
      · intro y hy av hst
        rcases List.mem_cons.1 hy with rfl | hy
        · simp [hst]
        · simp [g2 y hy av hst]
      · intro hnd j
        simp only [List.map_cons, List.nodup_cons] at hnd
        show (afterMuts ((s0.killIf (AV.stale id true)).setObj id (some ⟨true, .list true tid e, md.1⟩)) ps l' md.2).obj j = _
        rw [g3 hnd.2 j, lk_cons, St.obj_setObj, St.obj_killIf]
        cases hb : Nat.beq id j with
        | true =>
          obtain rfl := Nat.eq_of_beq_eq_true hb
          rw [lk_none hnd.1, if_pos rfl]
          rfl
        | false =>
          rw [if_neg (Nat.ne_of_beq_eq_false hb)]
          rfl
end
end Go.Vi
