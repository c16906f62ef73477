/- The abstract interpreter 'Vi', twenty-fourth part: skeletons; a function's whole code. No condition beyond those typed in each theorem. -/
import Derived.Test.YtjhphibadndkcaaVi24
namespace Go.Vi

/-- Each region that draws its order may be walked in the text's order. -/
def drawOK (cfg : Cfg) : Code → Bool
  | .region id ops true => (hasT id cfg.enum && Region.noSelect ops) || drawR cfg ops
  | .seq a b => drawOK cfg a && drawOK cfg b
  | .cond _ a b => drawOK cfg a && drawOK cfg b
  | .block _ c => drawOK cfg c
  | .loop c => drawOK cfg c
  | _ => true

section
variable {P : Program} {C : Ctx} {cfg : Cfg} {R : Type} {r : R} {s : St} {a : Act} {w : World} {H : FH} {Φ : Nat → Info}

/-- What is kept of a state: values, and the objects that are named. -/
theorem RepA.keep {os os' : Nat → Option Obj} {osl : List (Nat × Bool × Ty)} (hos : ∀ id, (lk osl id).isSome = true → os' id = os id) :
    ∀ {a b : AV} {v : Value}, a.same b = true → a.within osl = true → RepA P C w H Φ os b v → RepA P C w H Φ os' a v
  | .dead, _, _, _, _, _ => trivial
  | .ptr i p, b, v, hs, hw, h => by
    cases b with
    | ptr j q =>
      simp only [AV.same, Bool.and_eq_true] at hs
      obtain rfl := Nat.eq_of_beq_eq_true hs.1
      obtain rfl := samePath_eq hs.2
      obtain ⟨o, y, b, off, h1, h2⟩ := h
      exact ⟨o, y, b, off, by rw [hos i hw]; exact h1, h2⟩
    | _ => cases hs
  | .view i p, b, v, hs, hw, h => by
    cases b with
    | view j q =>
      simp only [AV.same, Bool.and_eq_true] at hs
      obtain rfl := Nat.eq_of_beq_eq_true hs.1
      obtain rfl := samePath_eq hs.2
      obtain ⟨o, y, h1, h2⟩ := h
      exact ⟨o, y, by rw [hos i hw]; exact h1, h2⟩
    | _ => cases hs
  | .fn f x y, b, v, hs, hw, h => by
    cases b with
    | fn g x' y' =>
      simp only [AV.same, Bool.and_eq_true] at hs
      simp only [AV.within, Bool.and_eq_true] at hw
      obtain rfl := Nat.eq_of_beq_eq_true hs.1.1
      obtain ⟨vs, us, h1, h2, h3⟩ := h
      exact ⟨vs, us, h1, RepA.keep hos hs.1.2 hw.1 h2, RepA.keep hos hs.2 hw.2 h3⟩
    | _ => cases hs
  | .nil, b, v, hs, _, h => by
    cases b with
    | nil => exact h
    | _ => cases hs
  | .cons x y, b, v, hs, hw, h => by
    cases b with
    | cons x' y' =>
      simp only [AV.same, Bool.and_eq_true] at hs
      simp only [AV.within, Bool.and_eq_true] at hw
      obtain ⟨u, us, h1, h2, h3⟩ := h
      exact ⟨u, us, h1, RepA.keep hos hs.1 hw.1 h2, RepA.keep hos hs.2 hw.2 h3⟩
    | _ => cases hs
  | .val _ _, b, _, hs, _, _ => by cases b <;> cases hs
  | .ref _ _, b, _, hs, _, _ => by cases b <;> cases hs
  | .upd _ _ _ _ _, b, _, hs, _, _ => by cases b <;> cases hs

theorem getT_ok {osl : List (Nat × Bool × Ty)} {os' : Nat → Option Obj} (hos : ∀ id, (lk osl id).isSome = true → os' id = s.obj id) :
    ∀ {l : List (Nat × Sh)} {d : TDen l}, (l.all fun x => x.2.within osl) = true → getT s l = some d → ∀ t av, lk (fillT l d) t = some av → ∃ b, s.get t = some b ∧ ∀ v, RepA P C w H Φ s.obj b v → RepA P C w H Φ os' av v
  | [], _, _, _, _, _, ht => by cases ht
  | (u, .v τ) :: l, d, hw, h, t, av, ht => by
    simp only [List.all_cons, Bool.and_eq_true] at hw
    simp only [getT] at h
    split at h
    · rename_i σ x hx
      split at h
      · rename_i y d' hy hd'
        cases h
        obtain ⟨e, hy⟩ := castTy_self hy
        subst e
        subst hy
        rw [fillT, lk_cons] at ht
        cases hb : Nat.beq u t with
        | true =>
          rw [hb] at ht
          cases ht
          obtain rfl := Nat.eq_of_beq_eq_true hb
          exact ⟨_, hx, fun v hv => hv⟩
        | false =>
          rw [hb] at ht
          exact getT_ok hos hw.2 hd' t av ht
      · cases h
    · cases h
  | (u, .r τ) :: l, d, hw, h, t, av, ht => by
    simp only [List.all_cons, Bool.and_eq_true] at hw
    simp only [getT] at h
    split at h
    · rename_i σ x hx
      split at h
      · rename_i y d' hy hd'
        cases h
        obtain ⟨e, hy⟩ := castTy_self hy
        subst e
        subst hy
        rw [fillT, lk_cons] at ht
        cases hb : Nat.beq u t with
        | true =>
          rw [hb] at ht
          cases ht
          obtain rfl := Nat.eq_of_beq_eq_true hb
          exact ⟨_, hx, fun v hv => hv⟩
        | false =>
          rw [hb] at ht
          exact getT_ok hos hw.2 hd' t av ht
      · cases h
    · cases h
  | (u, .c b) :: l, d, hw, h, t, av, ht => by
    simp only [List.all_cons, Bool.and_eq_true] at hw
    simp only [getT] at h
    split at h
    · rename_i b' hx
      cases hsame : b.same b' with
      | false => rw [hsame] at h; cases h
      | true =>
        rw [hsame, cond_true] at h
        rw [fillT, lk_cons] at ht
        cases hb : Nat.beq u t with
        | true =>
          rw [hb] at ht
          cases ht
          obtain rfl := Nat.eq_of_beq_eq_true hb
          exact ⟨_, hx, fun v hv => RepA.keep hos hsame hw.1 hv⟩
        | false =>
          rw [hb] at ht
          exact getT_ok hos hw.2 h t av ht
    · cases h

theorem getO_ok : ∀ {l : List (Nat × Bool × Ty)} {d : ODen l}, getO s l = some d → ∀ id, (lk (fillO l d) id).join = if (lk l id).isSome = true then s.obj id else none
  | [], _, _, _ => rfl
  | (i, b, τ) :: l, d, h, id => by
    simp only [getO] at h
    split at h
    · rename_i o ho
      cases hrow : o.row == b with
      | false => rw [hrow] at h; cases h
      | true =>
        rw [hrow, cond_true] at h
        split at h
        · rename_i y d' hy hd'
          cases h
          obtain ⟨row, σ, x⟩ := o
          obtain ⟨e, hy⟩ := castTy_self hy
          simp only at e hrow
          subst e
          obtain rfl : row = b := by simpa using hrow
          subst hy
          rw [fillO, lk_cons, lk_cons]
          cases hb : Nat.beq i id with
          | true =>
            obtain rfl := Nat.eq_of_beq_eq_true hb
            simp [ho]
          | false => exact getO_ok hd' id
        · cases h
    · cases h

theorem getK_ok {sh : Option MSh} {d : KDen sh} {os : Nat → Option Obj} (h : getK s sh = some d) (hM : MapOK P C s.mp os a w H Φ) : MapOK P C (fillK sh d) os a w H Φ := by
  match sh, d, h with
  | none, _, _ => trivial
  | some ⟨kt, vt, tm, none⟩, d, h =>
    simp only [getK] at h
    split at h
    case h_2 => cases h
    rename_i m hm
    cases hq : Nat.beq m.kt kt && Nat.beq m.vt vt && tm.all (fun t => hasT t m.tm) with
    | false => rw [hq] at h; cases h
    | true =>
    rw [hq] at h
    cases h
    rw [hm] at hM
    simp only [Bool.and_eq_true, List.all_eq_true] at hq
    obtain ⟨⟨q1, q2⟩, q3⟩ := hq
    obtain rfl := Nat.eq_of_beq_eq_true q1
    obtain rfl := Nat.eq_of_beq_eq_true q2
    obtain ⟨b, h1, h2, h3, h4, h5, _⟩ := hM
    exact ⟨b, h1, h2, h3, h4, fun t ht => h5 t (hasT_mem.1 (q3 t ht)), fun ti lf e => by cases e⟩
  | some ⟨kt, vt, tm, some ti⟩, d, h =>
    simp only [getK] at h
    split at h
    case h_2 => cases h
    rename_i m hm
    split at h
    case h_2 => cases h
    rename_i ti' lf hit
    cases hq : Nat.beq m.kt kt && Nat.beq m.vt vt && tm.all (fun t => hasT t m.tm) && ti.all (fun t => hasT t ti') with
    | false => rw [hq] at h; cases h
    | true =>
    rw [hq] at h
    cases h
    rw [hm] at hM
    simp only [Bool.and_eq_true, List.all_eq_true] at hq
    obtain ⟨⟨⟨q1, q2⟩, q3⟩, q4⟩ := hq
    obtain rfl := Nat.eq_of_beq_eq_true q1
    obtain rfl := Nat.eq_of_beq_eq_true q2
    obtain ⟨b, h1, h2, h3, h4, h5, h6⟩ := hM
    refine ⟨b, h1, h2, h3, h4, fun t ht => h5 t (hasT_mem.1 (q3 t ht)), fun ti2 lf2 e => ?_⟩
    cases e
    obtain ⟨i, k1, k2, k3, k4⟩ := h6 _ _ hit
    exact ⟨i, k1, k2, fun t ht => k3 t (hasT_mem.1 (q4 t ht)), fun n v e => by cases e⟩

theorem MapOK.weaken {mp : Option Ms} {os os' : Nat → Option Obj} (ho : ∀ id o, os' id = some o → os id = some o) (h : MapOK P C mp os a w H Φ) : MapOK P C mp os' a w H Φ := by
  have hf : ∀ b, Free C w H Φ os b → Free C w H Φ os' b := fun b hb => ⟨hb.fz, fun id o h => hb.obj id o (ho id o h), hb.may, hb.lt⟩
  cases mp with
  | none => trivial
  | some m =>
    obtain ⟨b, h1, h2, h3, h4, h5, h6⟩ := h
    refine ⟨b, h1, h2, hf b h3, h4, h5, fun ti lf e => ?_⟩
    obtain ⟨i, k1, k2⟩ := h6 ti lf e
    exact ⟨i, hf i k1, k2⟩

theorem skel_ok {sk : Skel} {d : sk.Den} (h : sk.get s = some d) (hs : SimM P C s a w) : SimM P C (sk.fill d) a w := by
  obtain ⟨H, Φ, hs, hM⟩ := hs
  unfold Skel.get at h
  cases hw : sk.ts.all fun x => x.2.within sk.os with
  | false => rw [hw] at h; cases h
  | true =>
  rw [hw, cond_true] at h
  split at h
  · rename_i d1 d2 d3 h1 h2 h3
    cases h
    have ho := getO_ok h2
    have hsub : ∀ id o, (sk.fill (d1, d2, d3)).obj id = some o → s.obj id = some o := by
      intro id o hid
      have := ho id
      have hid' : (lk (fillO sk.os d2) id).join = some o := hid
      rw [this] at hid'
      split at hid'
      · exact hid'
      · cases hid'
    refine ⟨H, Φ, hs.weaken hsub ?_, (getK_ok h3 hM).weaken hsub⟩
    intro t av ht
    obtain ⟨b, hb, hk⟩ := getT_ok (P := P) (C := C) (w := w) (H := H) (Φ := Φ) (osl := sk.os) (os' := (sk.fill (d1, d2, d3)).obj) (by
      intro id hid
      have := ho id
      rw [if_pos hid] at this
      exact this) hw h1 t av ht
    exact hk _ (hs.ts t b hb)
  · cases h

theorem X.same_eq : ∀ {x y : X}, x.same y = true → x = y
  | .norm, .norm, _ => rfl
  | .ret, .ret, _ => rfl
  | .exit i, .exit j, h => by rw [Nat.eq_of_beq_eq_true h]
  | .norm, .ret, h => by cases h
  | .norm, .exit _, h => by cases h
  | .ret, .norm, h => by cases h
  | .ret, .exit _, h => by cases h
  | .exit _, .norm, h => by cases h
  | .exit _, .ret, h => by cases h

theorem outOf_ok {e : X} (hs : SimM P C s a w) {k : X → St → Option R} : ∀ {outs : List (X × Skel)} {o : Outs outs}, outOf e s outs = some o → ∃ s', SimM P C s' a w ∧ outK k outs o = k e s'
  | [], _, h => by cases h
  | [x], o, h => by
    simp only [outOf] at h
    cases hx : x.1.same e with
    | false => rw [hx] at h; cases h
    | true =>
      rw [hx, cond_true] at h
      exact ⟨_, skel_ok h hs, by rw [← X.same_eq hx]; rfl⟩
  | x :: y :: l, o, h => by
    unfold outOf at h
    cases hx : x.1.same e with
    | false =>
      rw [hx, cond_false] at h
      split at h
      · rename_i d hd
        cases h
        obtain ⟨s', h1, h2⟩ := outOf_ok (outs := y :: l) hs hd
        exact ⟨s', h1, h2⟩
      · cases h
    | true =>
      rw [hx, cond_true] at h
      split at h
      · rename_i d hd
        cases h
        exact ⟨_, skel_ok hd hs, by rw [← X.same_eq hx]; rfl⟩
      · cases h

/-- Where code ends, and that the rest of the interpreter's run goes on from there. -/
def Post (P : Program) (C : Ctx) (k : X → St → Option R) (r : R) : Exit → Act → World → Prop
  | .normal, a, w => ∃ s, SimM P C s a w ∧ k .norm s = some r
  | .exit i, a, w => ∃ s, SimM P C s a w ∧ k (.exit i) s = some r
  | .ret, a, w => ∃ s, SimM P C s a w ∧ k .ret s = some r
  | _, _, _ => False

theorem run_ok (hm : P.follows .mixedOrders = true) (hcfg : CfgOK P cfg) (hC : CtxOK C cfg) : ∀ (c : Code) {R : Type} {r : R} {n : Nat} {s : St} {k : X → St → Option R} {a : Act} {w : World}, LoopsOK cfg c → drawOK cfg c = true → SimM P C s a w → run cfg n c s k = some r → c.wp P (Post P C k r) a w
  | .skip, R, r, n, s, k, a, w, _, _, hs, h => wp_skip ⟨s, hs, h⟩
  | .ret, R, r, n, s, k, a, w, _, _, hs, h => wp_ret ⟨s, hs, h⟩
  | .exit i, R, r, n, s, k, a, w, _, _, hs, h => wp_exit ⟨s, hs, h⟩
  | .region id ops draw, R, r, n, s, k, a, w, _, hd, hs, h => by
    simp only [run] at h
    cases hq : draw && s.mp.isSome with
    | true => rw [hq] at h; cases h
    | false =>
      rw [hq, cond_false] at h
      have hmp : draw = true → s.mp = none := by
        rintro rfl
        cases hmp : s.mp with
        | none => rfl
        | some m => rw [hmp] at hq; cases hq
      cases he : draw && hasT id cfg.enum && Region.noSelect ops with
      | true =>
        rw [he, cond_true] at h
        rw [Bool.and_eq_true, Bool.and_eq_true] at he
        obtain ⟨⟨rfl, _⟩, hns⟩ := he
        exact wp_region_any hm (any_ok hcfg hC hns (fun s a w hs h => ⟨s, hs, h⟩) (fun c a w h => h) _ _ ((hs.sim.grow (mod_drawn w)).simM (hmp rfl)) h)
      | false =>
        rw [he, cond_false] at h
        refine region_ok hm hcfg hC ?_ (fun s a w hs h => ⟨s, hs, h⟩) hs h
        rintro rfl
        rw [Bool.true_and] at he
        simp only [drawOK, he, Bool.false_or] at hd
        exact ⟨hd, hmp rfl⟩
  | .seq x y, R, r, n, s, k, a, w, hl, hd, hs, h => by
    simp only [drawOK, Bool.and_eq_true] at hd
    refine wp_seq (wp_mono (run_ok hm hcfg hC x hl.1 hd.1 hs h) ?_)
    intro e a w hp
    cases e with
    | normal =>
      obtain ⟨s', hs', h'⟩ := hp
      exact run_ok hm hcfg hC y hl.2 hd.2 hs' h'
    | exit i => obtain ⟨s', hs', h'⟩ := hp; exact ⟨s', hs', h'⟩
    | ret => obtain ⟨s', hs', h'⟩ := hp; exact ⟨s', hs', h'⟩
    | _ => exact hp.elim
  | .cond c x y, R, r, n, s, k, a, w, hl, hd, hs, h => by
    simp only [drawOK, Bool.and_eq_true] at hd
    simp only [run] at h
    split at h
    · rename_i b hb
      obtain ⟨H, Φ, hsb, hM⟩ := hs
      have hv := (evalA_ok hsb none_fz hb).bool
      refine wp_cond hv ?_
      cases b with
      | true => exact run_ok hm hcfg hC x hl.1 hd.1 ⟨H, Φ, hsb, hM⟩ h
      | false => exact run_ok hm hcfg hC y hl.2 hd.2 ⟨H, Φ, hsb, hM⟩ h
    · cases h
  | .block i c, R, r, n, s, k, a, w, hl, hd, hs, h => by
    refine wp_block (wp_mono (run_ok hm hcfg hC c hl hd hs h) ?_)
    intro e a w hp
    cases e with
    | normal => obtain ⟨s', hs', h'⟩ := hp; exact ⟨s', hs', h'⟩
    | exit j =>
      obtain ⟨s', hs', h'⟩ := hp
      simp only [blockK] at h'
      unfold Exit.inBlock
      cases hb : Nat.beq j i with
      | true =>
        rw [hb] at h'
        obtain rfl := Nat.eq_of_beq_eq_true hb
        simp only [if_true]
        exact ⟨s', hs', h'⟩
      | false =>
        rw [hb] at h'
        simp only [Nat.ne_of_beq_eq_false hb, if_false]
        exact ⟨s', hs', h'⟩
    | ret => obtain ⟨s', hs', h'⟩ := hp; exact ⟨s', hs', h'⟩
    | _ => exact hp.elim
  | .loop c, R, r, n, s, k, a, w, hl, hd, hs, h => by
    simp only [run] at h
    split at h
    · cases h
    · rename_i key hkey
      split at h
      · cases h
      · rename_i li hli
        split at h
        · cases h
        · rename_i d hd'
          rw [derefK_eq] at h
          replace h := Option.bind_eq_some_iff.1 h
          obtain ⟨o, ho, h⟩ := h
          obtain ⟨heq0, heq⟩ := hl.2 key li hkey hli
          have hs' := skel_ok hd' hs
          have rounds : ∀ m d a w, li.g m d = some o → SimM P C (li.ins.fill d) a w → Code.rounds P c (Post P C k r) m a w := by
            intro m
            induction m with
            | zero => intro d a w hg; rw [heq0] at hg; cases hg
            | succ m ih =>
              intro d a w hg hsd
              rw [heq] at hg
              refine wp_mono (run_ok hm hcfg hC c hl.1 hd hsd hg) ?_
              intro e a w hp
              cases e with
              | normal =>
                obtain ⟨s2, hs2, h2⟩ := hp
                simp only [roundK] at h2
                split at h2
                · rename_i d2 hd2
                  exact ih d2 a w h2 (skel_ok hd2 hs2)
                · cases h2
              | exit j =>
                obtain ⟨s2, hs2, h2⟩ := hp
                obtain ⟨s3, hs3, h3⟩ := outOf_ok hs2 (k := k) h2
                exact ⟨s3, hs3, by rw [← h3]; exact h⟩
              | ret =>
                obtain ⟨s2, hs2, h2⟩ := hp
                obtain ⟨s3, hs3, h3⟩ := outOf_ok hs2 (k := k) h2
                exact ⟨s3, hs3, by rw [← h3]; exact h⟩
              | _ => exact hp.elim
          exact wp_loop_rounds n (rounds n d a w ho hs')
  | .rangeFunc _ _ _ _, _, _, _, _, _, _, _, _, _, _, h => by cases h
  | .scope _, _, _, _, _, _, _, _, _, _, _, h => by cases h
  | .label _, _, _, _, _, _, _, _, _, _, _, h => by cases h
  | .goto _, _, _, _, _, _, _, _, _, _, _, h => by cases h
  | .refuse _, _, _, _, _, _, _, _, _, _, _, h => by cases h
end
end Go.Vi
