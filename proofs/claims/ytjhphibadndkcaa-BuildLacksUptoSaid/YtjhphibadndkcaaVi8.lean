/- The abstract interpreter 'Vi', eighth part: what a new object, a frozen one, a store, a commit do to the relation between abstract state and world. No condition beyond those typed in each theorem. -/
import Derived.Test.YtjhphibadndkcaaVi7
namespace Go.Vi
section
variable {P : Program} {C : Ctx}

theorem getV_noFn : (τ : Ty) → τ.noFn = true → ∀ {x : τ.den} {p : List Step} {y}, getV τ x p = some y → y.1.noFn = true
  | .pair a b, hn, x, p, y, h => by
    have hn' := hn
    simp only [Ty.noFn, Bool.and_eq_true] at hn'
    match p with
    | [] => cases h; exact hn
    | .L :: q => exact getV_noFn a hn'.1 h
    | .R :: q => exact getV_noFn b hn'.2 h
    | .I _ :: _ => cases h
  | .str t, hn, x, p, y, h => by
    match p with
    | [] => cases h; exact hn
    | s :: q => exact getV_noFn t hn h
  | .list true tid e, hn, x, p, y, h => by
    match p with
    | [] => cases h; exact hn
    | .L :: _ => cases h
    | .R :: _ => cases h
    | .I i :: q =>
      simp only [getV] at h
      split at h
      · obtain ⟨z, _, h⟩ := Option.bind_eq_some_iff.1 h
        exact getV_noFn e hn h
      · cases h
  | .arr n e, hn, x, p, y, h => by
    match p with
    | [] => cases h; exact hn
    | .L :: _ => cases h
    | .R :: _ => cases h
    | .I i :: q =>
      simp only [getV] at h
      split at h
      · obtain ⟨z, _, h⟩ := Option.bind_eq_some_iff.1 h
        exact getV_noFn e hn h
      · cases h
  | .int _, hn, _, p, _, h => by cases p <;> cases h; exact hn
  | .bool, hn, _, p, _, h => by cases p <;> cases h; exact hn
  | .list false _ _, hn, _, p, _, h => by cases p <;> cases h; exact hn
  | .ptr _, hn, _, p, _, h => by cases p <;> cases h; exact hn
  | .fn _ _, hn, _, p, _, h => by cases p <;> cases h; exact hn
  | .fn2 _ _ _, hn, _, p, _, h => by cases p <;> cases h; exact hn

theorem SimB.congr {s s' : St} {a : Act} {w : World} {H : FH} {Φ : Nat → Info} (h : SimB P C s a w H Φ) (hg : s'.get = s.get) (ho : s'.obj = s.obj) : SimB P C s' a w H Φ :=
  ⟨h.defers, h.size, h.le, h.hok, h.hnew, h.mod, by rw [hg, ho]; exact h.ts, by rw [ho]; exact h.os, by rw [ho]; exact h.disj, h.pins⟩

theorem names_false {id : Nat} {j : Nat} {p : List Step} (h : AV.names id (.ptr j p) = false) : j ≠ id := Nat.ne_of_beq_eq_false h
theorem names_false' {id : Nat} {j : Nat} {p : List Step} (h : AV.names id (.view j p) = false) : j ≠ id := Nat.ne_of_beq_eq_false h

/-- An object is forgotten. -/
theorem SimB.remove {s : St} {a : Act} {w : World} {H : FH} {Φ : Nat → Info} (h : SimB P C s a w H Φ) (id : Nat) : SimB P C ((s.kill id).setObj id none) a w H Φ := by
  have ho : ∀ j o, ((s.kill id).setObj id none).obj j = some o → s.obj j = some o ∧ j ≠ id := by
    intro j o hj
    rw [St.obj_setObj] at hj
    split at hj
    · cases hj
    · rename_i hne; exact ⟨hj, fun e => hne e.symm⟩
  refine h.weaken (fun j o hj => (ho j o hj).1) ?_
  intro t av ht
  rw [St.get_setObj, St.kill, St.get_killIf] at ht
  obtain ⟨av0, h0, rfl⟩ := Option.map_eq_some_iff.1 ht
  have hos : ∀ j o, j ≠ id → s.obj j = some o → ((s.kill id).setObj id none).obj j = some o := by
    intro j o hj ho
    rw [St.obj_setObj, if_neg (fun e => hj e.symm)]; exact ho
  refine RepA.transfer (AV.names id) (FH.le_refl _) ?_ ?_ ?_ av0 _ (h.ts t av0 h0)
  · intro j p v hf hr
    exact RepA.ptr_stay (fun o ho => hos j o (names_false hf) ho) rfl (fun o ho => ⟨(h.os j o ho).1, fun _ _ => rfl⟩) hr
  · intro j p v hf hr
    exact RepA.view_stay (fun o ho => hos j o (names_false' hf) ho) rfl (fun o ho => ⟨(h.os j o ho).1, fun _ _ => rfl⟩) hr
  · intro j p t e l v hf; cases hf

/-- Strike what is pending (and more). -/
theorem SimB.killIf {s : St} {a : Act} {w : World} {H : FH} {Φ : Nat → Info} (h : SimB P C s a w H Φ) (f : AV → Bool) : SimB P C (s.killIf f) a w H Φ := by
  refine h.weaken (fun j o hj => hj) ?_
  intro t av ht
  rw [St.get_killIf] at ht
  obtain ⟨av0, h0, rfl⟩ := Option.map_eq_some_iff.1 ht
  exact RepA.transfer f (FH.le_refl _) (fun _ _ _ _ hr => hr) (fun _ _ _ _ hr => hr) (fun _ _ _ _ _ _ _ hr => hr) av0 _ (h.ts t av0 h0)

def putInfo (Φ : Nat → Info) (id : Nat) (φ : Info) (j : Nat) : Info := if j = id then φ else Φ j
theorem putInfo_same (Φ : Nat → Info) (id : Nat) (φ : Info) : putInfo Φ id φ id = φ := if_pos rfl
theorem putInfo_ne (Φ : Nat → Info) {id j : Nat} (φ : Info) (h : j ≠ id) : putInfo Φ id φ j = Φ j := if_neg h

/-- A new object, in blocks that no other object owns. -/
theorem SimB.newObj {s : St} {a : Act} {w w' : World} {H : FH} {Φ : Nat → Info} (h : SimB P C s a w H Φ) (hm : Mod noBlock w w') {id : Nat} (hpin : C.pin id = none)
    {row : Bool} {τ : Ty} {x : τ.den} {φ : Info} (hok : ObjOK P w' H ⟨row, τ, x⟩ φ)
    (hfp : ∀ b ∈ φ.fp, H b = none ∧ (C.M0 b ∨ C.w0.heap.size ≤ b) ∧ b < w'.heap.size ∧ ∀ j o', j ≠ id → s.obj j = some o' → b ∉ (Φ j).fp) :
    SimB P C (s.newObj id row τ x) a w' H (putInfo Φ id φ) := by
  have hg := h.grow hm
  have hw : ∀ b, b < w.heap.size → w'.heap[b]? = w.heap[b]? := fun b hb => hm.block b hb (fun h => h)
  have hob : ∀ j, (s.newObj id row τ x).obj j = if id = j then some ⟨row, τ, x⟩ else s.obj j := fun j => St.obj_setObj _ _ _ _
  have hos : ∀ j o, j ≠ id → s.obj j = some o → (s.newObj id row τ x).obj j = some o := by
    intro j o hj ho
    rw [hob, if_neg (fun e => hj e.symm)]; exact ho
  refine ⟨h.defers, h.size, h.le, hg.hok, h.hnew, hg.mod, ?_, ?_, ?_, ?_⟩
  · intro t av ht
    have ht' : (s.kill id).get t = some av := ht
    rw [St.kill, St.get_killIf] at ht'
    obtain ⟨av0, h0, rfl⟩ := Option.map_eq_some_iff.1 ht'
    refine RepA.transfer (AV.names id) (FH.le_refl _) ?_ ?_ ?_ av0 _ (h.ts t av0 h0)
    · intro j p v hf hr
      exact RepA.ptr_stay (fun o ho => hos j o (names_false hf) ho) (putInfo_ne _ _ (names_false hf)) (fun o ho => ⟨(h.os j o ho).1, fun b hb => hw b ((h.os j o ho).2 b hb).2.2⟩) hr
    · intro j p v hf hr
      exact RepA.view_stay (fun o ho => hos j o (names_false' hf) ho) (putInfo_ne _ _ (names_false' hf)) (fun o ho => ⟨(h.os j o ho).1, fun b hb => hw b ((h.os j o ho).2 b hb).2.2⟩) hr
    · intro j p t e l v hf; cases hf
  · intro j o ho
    rw [hob] at ho
    split at ho
    · rename_i e
      subst e
      cases ho
      rw [putInfo_same]
      exact ⟨hok, fun b hb => ⟨(hfp b hb).1, (hfp b hb).2.1, (hfp b hb).2.2.1⟩⟩
    · rename_i e
      rw [putInfo_ne _ _ (fun e' => e e'.symm)]
      exact hg.os j o ho
  · intro i j o o' hij h1 h2 b hb
    rw [hob] at h1 h2
    split at h1
    · rename_i e
      subst e
      rw [putInfo_same] at hb
      rw [if_neg hij] at h2
      rw [putInfo_ne _ _ (fun e' => hij e'.symm)]
      exact (hfp b hb).2.2.2 j o' (fun e' => hij e'.symm) h2
    · rename_i e
      rw [putInfo_ne _ _ (fun e' => e e'.symm)] at hb
      split at h2
      · rename_i e2
        subst e2
        rw [putInfo_same]
        intro hb'
        exact (hfp b hb').2.2.2 i o hij h1 hb
      · rename_i e2
        rw [putInfo_ne _ _ (fun e' => e2 e'.symm)]
        exact h.disj i j o o' hij h1 h2 b hb
  · intro j φ' hj
    by_cases e : j = id
    · subst e; rw [hpin] at hj; cases hj
    · rw [putInfo_ne _ _ e]; exact h.pins j φ' hj

/-! ## Freezing -/
/-- The frozen heap with the blocks of fp. -/
def frz (w : World) (H : FH) (fp : List Nat) (b : Nat) : Option (Array Value) :=
  if b ∈ fp then (match w.heap[b]? with | some (.cells c _ _) => some c | _ => none) else H b
theorem frz_le {w : World} {H : FH} {fp : List Nat} (h : ∀ b ∈ fp, H b = none) : H.le (frz w H fp) := by
  intro b c hb
  unfold frz
  rw [if_neg (fun hh => by rw [h b hh] at hb; cases hb)]
  exact hb
theorem frz_in {w : World} {H : FH} {fp : List Nat} : ∀ b ∈ fp, ∀ c t f, w.heap[b]? = some (.cells c t f) → frz w H fp b = some c := by
  intro b hb c t f hw
  simp [frz, hb, hw]
theorem frz_hok {w : World} {H : FH} {fp : List Nat} (h : HOk H w) : HOk (frz w H fp) w := by
  intro b c hb
  unfold frz at hb
  split at hb
  · split at hb
    · rename_i e; cases hb; exact ⟨_, _, e⟩
    · cases hb
  · exact h b c hb
theorem frz_new {w : World} {H : FH} {fp : List Nat} {b : Nat} {c : Array Value} (h : frz w H fp b = some c) : H b = some c ∨ b ∈ fp := by
  unfold frz at h
  split at h
  · exact .inr ‹_›
  · exact .inl h

theorem seg_of_split {c : Array Value} {pre m post : List Value} {n : Nat} (h : c.toList = pre ++ m ++ post) (hn : m.length = n) : seg c pre.length n = m := by
  unfold seg
  rw [h, List.append_assoc, List.drop_left, ← hn, List.take_left]

theorem toV_fz (τ : Ty) (cs : List Value) : toV τ.fz cs = toV τ cs := by simp [toV, Ty.isAgg_fz]

/-- What names a frozen object reads as a frozen value. -/
theorem RepA.frozen {w : World} {H H' : FH} {Φ : Nat → Info} {os os' : Nat → Option Obj} {id : Nat} {o : Obj} (ho : os id = some o) (hH : H.le H')
    (hin : ∀ b ∈ (Φ id).fp, ∀ c t f, w.heap[b]? = some (.cells c t f) → H' b = some c) (hok : ∀ j o, os j = some o → ObjOK P w H o (Φ j)) (hos : ∀ j o, j ≠ id → os j = some o → os' j = some o) :
    ∀ (av : AV) (v : Value), RepA P C w H Φ os av v → RepA P C w H' Φ os' (av.frozen id o) v
  | .dead, _, _ => trivial
  | .val τ x, v, ⟨h1, cs, h2, h3⟩ => ⟨h1, cs, h2, Rep.mono _ hH (by simp) h3⟩
  | .ref τ x, v, ⟨h1, b, off, blk, h2, h3, h4⟩ => ⟨h1, b, off, blk, h2, hH _ _ h3, Rep.mono _ hH (by simp) h4⟩
  | .ptr i p, v, h => by
    simp only [AV.frozen]
    cases hi : Nat.beq i id with
    | false =>
      have hne := Nat.ne_of_beq_eq_false hi
      exact RepA.ptr_stay (fun o' ho' => hos i o' hne ho') rfl (fun o' ho' => ⟨hok i o' ho', fun _ _ => rfl⟩) h
    | true =>
      obtain rfl := Nat.eq_of_beq_eq_true hi
      cases hr : o.row with
      | true => trivial
      | false =>
        show RepA P C w H' Φ os' (match getP o.τ o.x p with | some y => _ | none => .dead) v
        cases hy : getP o.τ o.x p with
        | none => trivial
        | some y =>
          obtain ⟨o1, y1, b, off, h1, h2, h3, h4, h5⟩ := h
          rw [ho] at h1
          cases h1
          have hg := getP_getV _ hy
          rw [hg] at h3
          cases h3
          obtain ⟨b', o', hl, blk', t', pre', c, post', f1, f, f2, e1, e2, e3, e4, e5, e6, _⟩ := (hok i o ho).desc (y := y.2) hg ⟨w, _, _, h4⟩ h2
          obtain ⟨rfl, rfl⟩ := LocO.det h4 (hl w (fun _ _ => rfl))
          have hnf : y.1.noFn = true := getV_noFn _ (hok i o ho).1 hg
          refine ⟨Ty.isFz_fz _, b, off, blk', h5, hin b (by rw [e4]; simp [e5]) _ _ _ e1, ?_⟩
          rw [Ty.size_fz, ← e3, seg_of_split e2 (Rep.length _ e6)]
          exact Rep.freeze y.1 hnf w hH (fun b hb => hin b (by rw [e4]; simp [hb])) e6 _
  | .view i p, v, h => by
    simp only [AV.frozen]
    cases hi : Nat.beq i id with
    | false =>
      have hne := Nat.ne_of_beq_eq_false hi
      exact RepA.view_stay (fun o' ho' => hos i o' hne ho') rfl (fun o' ho' => ⟨hok i o' ho', fun _ _ => rfl⟩) h
    | true =>
      obtain rfl := Nat.eq_of_beq_eq_true hi
      show RepA P C w H' Φ os' (match getP o.τ o.x p with | some y => _ | none => .dead) v
      cases hy : getP o.τ o.x p with
      | none => trivial
      | some y =>
        obtain ⟨o1, y1, h1, h3, h4⟩ := h
        rw [ho] at h1
        cases h1
        have hg := getP_getV _ hy
        rw [hg] at h3
        cases h3
        have hnf : y.1.noFn = true := getV_noFn _ (hok i o ho).1 hg
        cases hr : o.row && p.isEmpty with
        | true =>
          rw [hr] at h4
          simp only [Bool.and_eq_true, List.isEmpty_iff] at hr
          obtain ⟨hrow, rfl⟩ := hr
          rw [getV_nil] at hg
          cases hg
          obtain ⟨hn, _, h5⟩ := hok i o ho
          rw [hrow] at h5
          obtain ⟨_, cs, hcs, h6⟩ := h5
          refine ⟨Ty.isFz_fz _, cs, ?_, Rep.freeze o.τ hn w hH hin h6 _⟩
          simp only at h4
          rw [h4, toV_fz]
          exact hcs
        | false =>
          rw [hr] at h4
          obtain ⟨b, off, blk, t, h5, h6, h7⟩ := h4
          obtain ⟨b', o', hl, blk', t', pre', c, post', f1, f, f2, e1, e2, e3, e4, e5, e6, _⟩ := (hok i o ho).desc (y := y.2) hg ⟨w, _, _, h5⟩ hr
          obtain ⟨rfl, rfl⟩ := LocO.det h5 (hl w (fun _ _ => rfl))
          rw [e1] at h6
          cases h6
          refine ⟨Ty.isFz_fz _, c, ?_, Rep.freeze y.1 hnf w hH (fun b hb => hin b (by rw [e4]; simp [hb])) e6 _⟩
          rw [h7, toV_fz, ← e3, seg_of_split e2 (Rep.length _ e6)]
  | .upd _ _ _ _ _, _, _ => trivial
  | .fn g a b, v, ⟨vs, us, h1, h2, h3⟩ => ⟨vs, us, h1, RepA.frozen ho hH hin hok hos a _ h2, RepA.frozen ho hH hin hok hos b _ h3⟩
  | .nil, v, h => h
  | .cons a b, v, ⟨u, us, h1, h2, h3⟩ => ⟨u, us, h1, RepA.frozen ho hH hin hok hos a _ h2, RepA.frozen ho hH hin hok hos b _ h3⟩

/-- An object is frozen. -/
theorem SimB.freeze {s : St} {a : Act} {w : World} {H : FH} {Φ : Nat → Info} (h : SimB P C s a w H Φ) (id : Nat) :
    ∃ H', H.le H' ∧ (∀ b c, H' b = some c → H b = some c ∨ ∃ o, s.obj id = some o ∧ b ∈ (Φ id).fp) ∧ (∀ o, s.obj id = some o → ∀ b ∈ (Φ id).fp, ∀ c t f, w.heap[b]? = some (.cells c t f) → H' b = some c) ∧ SimB P C (s.freeze id) a w H' Φ := by
  unfold St.freeze
  cases ho : s.obj id with
  | none => exact ⟨H, FH.le_refl _, fun _ _ hb => .inl hb, (fun o hh => by cases hh), h⟩
  | some o =>
    have hnone : ∀ b ∈ (Φ id).fp, H b = none := fun b hb => ((h.os id o ho).2 b hb).1
    have hob : ∀ j, (St.mk (s.ts.map fun x => (x.1, x.2.frozen id o)) ((id, none) :: s.os) s.mp).obj j = if id = j then none else s.obj j := fun j => St.obj_setObj s id j none
    have hsub : ∀ j o', (St.mk (s.ts.map fun x => (x.1, x.2.frozen id o)) ((id, none) :: s.os) s.mp).obj j = some o' → s.obj j = some o' ∧ j ≠ id := by
      intro j o' hj
      rw [hob] at hj
      split at hj
      · cases hj
      · rename_i e; exact ⟨hj, fun e' => e e'.symm⟩
    refine ⟨frz w H (Φ id).fp, frz_le hnone, fun b c hb => (frz_new hb).imp_right (fun hh => ⟨o, rfl, hh⟩), fun o' _ => frz_in, h.defers, h.size, FH.le_trans h.le (frz_le hnone), frz_hok h.hok, ?_, h.mod, ?_, ?_, ?_, h.pins⟩
    · intro b c hb
      rcases frz_new hb with hb | hb
      · exact h.hnew b c hb
      · exact .inr ((h.os id o ho).2 b hb).2.1
    · intro t av ht
      have ht' : lk (s.ts.map fun x => (x.1, x.2.frozen id o)) t = some av := ht
      rw [lk_map] at ht'
      obtain ⟨av0, h0, rfl⟩ := Option.map_eq_some_iff.1 ht'
      exact RepA.frozen ho (frz_le hnone) frz_in (fun j o hj => (h.os j o hj).1) (fun j o' hj hoj => by rw [hob, if_neg (fun e => hj e.symm)]; exact hoj) av0 _ (h.ts t av0 h0)
    · intro j o' hj
      obtain ⟨hj, hne⟩ := hsub j o' hj
      obtain ⟨h1, h2⟩ := h.os j o' hj
      refine ⟨h1.frame (frz_le hnone) (fun _ _ => rfl), fun b hb => ⟨?_, (h2 b hb).2⟩⟩
      unfold frz
      rw [if_neg (h.disj j id o' o hne hj ho b hb)]
      exact (h2 b hb).1
    · intro i j o1 o2 hij h1 h2
      exact h.disj i j o1 o2 hij (hsub _ _ h1).1 (hsub _ _ h2).1

/-! ## Stores -/
theorem getV_static : (τ : Ty) → ∀ (x : τ.den) {p : List Step} {σ : Ty}, p.any Step.isI = false → tyAt τ p = some σ → ∃ y : σ.den, getV τ x p = some ⟨σ, y⟩
  | .pair a b, x, p, σ, hp, h => by
    match p with
    | [] => cases h; exact ⟨x, rfl⟩
    | .L :: q => exact getV_static a x.1 (by simpa [Step.isI] using hp) h
    | .R :: q => exact getV_static b x.2 (by simpa [Step.isI] using hp) h
    | .I _ :: _ => cases h
  | .str t, x, p, σ, hp, h => by
    match p with
    | [] => cases h; exact ⟨x, rfl⟩
    | s :: q => exact getV_static t x hp h
  | .list true tid e, x, p, σ, hp, h => by
    match p with
    | [] => cases h; exact ⟨x, rfl⟩
    | .L :: _ => cases h
    | .R :: _ => cases h
    | .I _ :: _ => simp [Step.isI] at hp
  | .arr n e, x, p, σ, hp, h => by
    match p with
    | [] => cases h; exact ⟨x, rfl⟩
    | .L :: _ => cases h
    | .R :: _ => cases h
    | .I _ :: _ => simp [Step.isI] at hp
  | .int _, x, p, _, _, h => by cases p <;> cases h; exact ⟨x, rfl⟩
  | .bool, x, p, _, _, h => by cases p <;> cases h; exact ⟨x, rfl⟩
  | .list false _ _, x, p, _, _, h => by cases p <;> cases h; exact ⟨x, rfl⟩
  | .ptr _, x, p, _, _, h => by cases p <;> cases h; exact ⟨x, rfl⟩
  | .fn _ _, x, p, _, _, h => by cases p <;> cases h; exact ⟨x, rfl⟩
  | .fn2 _ _ _, x, p, _, _, h => by cases p <;> cases h; exact ⟨x, rfl⟩

/-- An object's content has changed, in place; what names it otherwise than by a fixed place is struck. -/
theorem SimB.change {s : St} {a : Act} {w w' : World} {H H' : FH} {Φ : Nat → Info} (h : SimB P C s a w H Φ) {id : Nat} {o : Obj} (ho : s.obj id = some o) (x' : o.τ.den) (φ : Info) (hb : φ.b = (Φ id).b)
    (hhdr : φ.hdr = (Φ id).hdr) (hH : H.le H') (hok' : HOk H' w') (hnew : ∀ b c, H' b = some c → C.H0 b = some c ∨ C.M0 b ∨ C.w0.heap.size ≤ b) (hmod : Mod C.M0 C.w0 w') (hsz : w.heap.size ≤ w'.heap.size)
    (hw : ∀ j o', j ≠ id → s.obj j = some o' → ∀ b ∈ (Φ j).fp, w'.heap[b]? = w.heap[b]? ∧ H' b = none)
    (hobj : ObjOK P w' H' ⟨o.row, o.τ, x'⟩ φ) (hfp : ∀ b ∈ φ.fp, H' b = none ∧ (C.M0 b ∨ C.w0.heap.size ≤ b) ∧ b < w'.heap.size ∧ ∀ j o', j ≠ id → s.obj j = some o' → b ∉ (Φ j).fp) :
    SimB P C ((s.killIf (AV.stale id o.row)).setObj id (some ⟨o.row, o.τ, x'⟩)) a w' H' (putInfo Φ id φ) := by
  have hob : ∀ j, ((s.killIf (AV.stale id o.row)).setObj id (some ⟨o.row, o.τ, x'⟩)).obj j = if id = j then some ⟨o.row, o.τ, x'⟩ else s.obj j := fun j => St.obj_setObj _ _ _ _
  have hos : ∀ j o', j ≠ id → s.obj j = some o' → ((s.killIf (AV.stale id o.row)).setObj id (some ⟨o.row, o.τ, x'⟩)).obj j = some o' := by
    intro j o' hj hoj
    rw [hob, if_neg (fun e => hj e.symm)]; exact hoj
  refine ⟨h.defers, h.size, FH.le_trans h.le hH, hok', hnew, hmod, ?_, ?_, ?_, ?_⟩
  · intro t av ht
    rw [St.get_setObj, St.get_killIf] at ht
    obtain ⟨av0, h0, rfl⟩ := Option.map_eq_some_iff.1 ht
    refine RepA.transfer (AV.stale id o.row) hH ?_ ?_ ?_ av0 _ (h.ts t av0 h0)
    · intro j p v hf hr
      by_cases hj : j = id
      · subst hj
        obtain ⟨o1, y, b, off, h1, h2, h3, h4, h5⟩ := hr
        rw [ho] at h1
        cases h1
        have hp : p.any Step.isI = false := by simpa [AV.stale] using hf
        have hrow : o.row = false := by
          cases hr : o.row with
          | false => rfl
          | true =>
            exfalso
            obtain ⟨row, τ, x⟩ := o
            simp only at hr
            subst hr
            unfold LocO at h4
            simp only at h4
            split at h4
            · simp [Step.isI] at hp
            · exact h4
        obtain ⟨y', hy'⟩ := getV_static o.τ x' hp (getV_tyAt _ h3)
        refine ⟨⟨o.row, o.τ, x'⟩, ⟨y.1, y'⟩, b, off, ?_, h2, hy', ?_, h5⟩
        · rw [hob, if_pos rfl]
        · rw [putInfo_same]
          unfold LocO at h4 ⊢
          simp only [hrow] at h4 ⊢
          rw [hb]
          exact Loc.static _ hp h4
      · exact RepA.ptr_stay (fun o ho => hos j o hj ho) (putInfo_ne _ _ hj) (fun o1 ho1 => ⟨(h.os j o1 ho1).1, fun b hb => (hw j o1 hj ho1 b hb).1⟩) hr
    · intro j p v hf hr
      by_cases hj : j = id
      · subst hj
        have hp : (o.row && p.isEmpty) = true := by
          simp only [AV.stale, Nat.beq_refl, Bool.true_and, Bool.not_eq_false'] at hf
          exact hf
        obtain ⟨o1, y, h1, h2, h3⟩ := hr
        rw [ho] at h1
        cases h1
        rw [hp] at h3
        simp only [Bool.and_eq_true, List.isEmpty_iff] at hp
        obtain ⟨hrow, rfl⟩ := hp
        refine ⟨⟨o.row, o.τ, x'⟩, ⟨o.τ, x'⟩, by rw [hob, if_pos rfl], getV_nil _ _, ?_⟩
        simp only [hrow, List.isEmpty_nil, Bool.and_self, putInfo_same, hhdr]
        exact h3
      · exact RepA.view_stay (fun o ho => hos j o hj ho) (putInfo_ne _ _ hj) (fun o1 ho1 => ⟨(h.os j o1 ho1).1, fun b hb => (hw j o1 hj ho1 b hb).1⟩) hr
    · intro j p t e l v hf; cases hf
  · intro j o1 hj
    rw [hob] at hj
    split at hj
    · rename_i e
      subst e
      cases hj
      rw [putInfo_same]
      exact ⟨hobj, fun b hb => ⟨(hfp b hb).1, (hfp b hb).2.1, (hfp b hb).2.2.1⟩⟩
    · rename_i e
      have e' : j ≠ id := fun e' => e e'.symm
      rw [putInfo_ne _ _ e']
      obtain ⟨h1, h2⟩ := h.os j o1 hj
      exact ⟨h1.frame hH (fun b hb => (hw j o1 e' hj b hb).1), fun b hb => ⟨(hw j o1 e' hj b hb).2, (h2 b hb).2.1, Nat.lt_of_lt_of_le (h2 b hb).2.2 hsz⟩⟩
  · intro i j o1 o2 hij h1 h2 b hb
    rw [hob] at h1 h2
    split at h1
    · rename_i e
      subst e
      rw [putInfo_same] at hb
      rw [if_neg hij] at h2
      rw [putInfo_ne _ _ (fun e' => hij e'.symm)]
      exact (hfp b hb).2.2.2 j o2 (fun e' => hij e'.symm) h2
    · rename_i e
      rw [putInfo_ne _ _ (fun e' => e e'.symm)] at hb
      split at h2
      · rename_i e2
        subst e2
        rw [putInfo_same]
        intro hb'
        exact (hfp b hb').2.2.2 i o1 hij h1 hb
      · rename_i e2
        rw [putInfo_ne _ _ (fun e' => e2 e'.symm)]
        exact h.disj i j o1 o2 hij h1 h2 b hb
  · intro j φ' hj
    by_cases e : j = id
    · subst e; rw [putInfo_same, hb, hhdr]; exact h.pins j φ' hj
    · rw [putInfo_ne _ _ e]; exact h.pins j φ' hj
end
end Go.Vi
