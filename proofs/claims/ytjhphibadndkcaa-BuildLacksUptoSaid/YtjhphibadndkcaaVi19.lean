/- The abstract interpreter 'Vi', nineteenth part: what a call's arguments read as. No condition beyond those typed in each theorem. -/
import Derived.Test.YtjhphibadndkcaaVi18
namespace Go.Vi
section
variable {P : Program} {C : Ctx} {cfg : Cfg} {R : Type} {r : R} {s : St} {a : Act} {w : World} {H : FH} {Φ : Nat → Info} {dst : Option Nat} {ty : TypeId} {pos : String} {after : Array Edge} {guard : Option (Nat × Bool)} {k : St → Option R}

/-- What these objects own is frozen in Hf. -/
def Fzn (w : World) (Hf : FH) (Φ : Nat → Info) (os : Nat → Option Obj) (ids : List Nat) : Prop :=
  ∀ id ∈ ids, ∀ o, os id = some o → ∀ b ∈ (Φ id).fp, ∀ c t f, w.heap[b]? = some (.cells c t f) → Hf b = some c

/-- What a value to be read is: an abstract value now, or a value that reads so in another world. -/
def RepX (P : Program) (C : Ctx) (w : World) (H : FH) (Φ : Nat → Info) (os : Nat → Option Obj) (w' : World) (H' : FH) (av : AV) (v : Value) : Prop :=
  RepA P C w H Φ os av v ∨ ∃ τ x cs, av = .val τ x ∧ τ.isFz = true ∧ v = toV τ cs ∧ Rep P τ w' H' x cs []

def RepV (P : Program) (w : World) (H : FH) (τ : Ty) (x : τ.den) (v : Value) : Prop := ∃ cs, v = toV τ cs ∧ Rep P τ w H x cs []
def RepR (P : Program) (w : World) (H : FH) (τ : Ty) (x : τ.den) (v : Value) : Prop := ∃ b o blk, v = .pointer (some ⟨b, o, none⟩) ∧ H b = some blk ∧ Rep P τ w H x (seg blk o τ.size) []

theorem RepV.mono {w w' : World} {H H' : FH} (hH : H.le H') {τ : Ty} {x : τ.den} {v : Value} (h : RepV P w H τ x v) : RepV P w' H' τ x v := by
  obtain ⟨cs, h1, h2⟩ := h
  exact ⟨cs, h1, Rep.mono _ hH (by simp) h2⟩
theorem RepR.mono {w w' : World} {H H' : FH} (hH : H.le H') {τ : Ty} {x : τ.den} {v : Value} (h : RepR P w H τ x v) : RepR P w' H' τ x v := by
  obtain ⟨b, o, blk, h1, h2, h3⟩ := h
  exact ⟨b, o, blk, h1, hH _ _ h2, Rep.mono _ hH (by simp) h3⟩
theorem RepR.ptr {w : World} {H : FH} {τ : Ty} {x : τ.den} {v : Value} (h : RepR P w H τ x v) : RepV P w H (.ptr τ) (some x) v := by
  obtain ⟨b, o, blk, h1, h2, h3⟩ := h
  exact ⟨[v], rfl, rfl, b, o, blk, by rw [h1], h2, h3⟩

/-- The world and the frozen heap in which it is read. -/
theorem snapX_ok (hs : SimB P C s a w H Φ) {Hf : FH} (hle : H.le Hf) {w' : World} {H' : FH} (hle' : Hf.le H') {av : AV} {v : Value} (hf : Fzn w Hf Φ s.obj av.touches) (hr : RepX P C w H Φ s.obj w' H' av v) {τ : Ty} {kk : τ.den → Option R} (h : snapK s av τ kk = some r) :
    τ.isFz = true ∧ ∃ x, kk x = some r ∧ RepV P w' H' τ x v := by
  rcases hr with hr | ⟨σ, x, cs, rfl, hfz, hv, hrep⟩
  · unfold snapK at h
    split at h
    · rw [derefK_eq] at h
      replace h := Option.bind_eq_some_iff.1 h
      obtain ⟨y, hy, h⟩ := h
      obtain ⟨e, hy⟩ := castTy_self hy
      subst e
      subst hy
      obtain ⟨hfz, cs, hv, hrep⟩ := hr
      exact ⟨hfz, _, h, cs, hv, Rep.mono _ (FH.le_trans hle hle') (by simp) hrep⟩
    · rename_i id p
      split at h
      case h_2 => cases h
      rename_i o ho
      rw [getPK_eq] at h
      replace h := Option.bind_eq_some_iff.1 h
      obtain ⟨y, hy, h⟩ := h
      rw [derefK_eq] at h
      replace h := Option.bind_eq_some_iff.1 h
      obtain ⟨z, hz, h⟩ := h
      obtain ⟨e, hz⟩ := castTy_self hz
      subst e
      subst hz
      have hok := (hs.os id o ho).1
      obtain ⟨cs, fp, hv, hrep, hsub, _⟩ := view_rep hr ho hok hy
      refine ⟨Ty.isFz_fz _, _, h, cs, by rw [toV_fz]; exact hv, ?_⟩
      exact Rep.freeze y.1 (getV_noFn _ hok.1 hy) w' (FH.le_trans hle hle') (fun b hb c t f hc => hle' _ _ (hf id (by simp [AV.touches]) o ho b (hsub b hb) c t f hc)) hrep _
    · rename_i σ x
      rw [derefK_eq] at h
      replace h := Option.bind_eq_some_iff.1 h
      obtain ⟨y, hy, h⟩ := h
      obtain ⟨e, hy⟩ := castTy_self hy
      subst e
      subst hy
      obtain ⟨hfz, hr⟩ := hr
      exact ⟨by simpa [Ty.isFz] using hfz, _, h, RepR.ptr (RepR.mono (FH.le_trans hle hle') hr)⟩
    · rename_i id p
      split at h
      case h_2 => cases h
      rename_i o ho
      cases hrow : o.row with
      | true => rw [hrow] at h; cases h
      | false =>
      rw [hrow, cond_false] at h
      split at h
      case h_2 => cases h
      rename_i y hy
      rw [derefK_eq] at h
      replace h := Option.bind_eq_some_iff.1 h
      obtain ⟨z, hz, h⟩ := h
      obtain ⟨e, hz⟩ := castTy_self hz
      subst e
      subst hz
      have := RepA.frozen (H' := Hf) (os' := s.obj) ho hle (hf id (by simp [AV.touches]) o ho) (fun j o hj => (hs.os j o hj).1) (fun _ _ _ h => h) _ _ hr
      simp only [AV.frozen, Nat.beq_refl, cond_true, hrow, cond_false, hy] at this
      obtain ⟨hfz, this⟩ := this
      exact ⟨by simpa [Ty.isFz] using hfz, _, h, RepR.ptr (RepR.mono hle' this)⟩
    · cases h
  · simp only [snapK, derefK_eq] at h
    replace h := Option.bind_eq_some_iff.1 h
    obtain ⟨y, hy, h⟩ := h
    obtain ⟨e, hy⟩ := castTy_self hy
    subst e
    subst hy
    exact ⟨hfz, _, h, cs, hv, hrep⟩

theorem snapRefX_ok (hs : SimB P C s a w H Φ) {Hf : FH} (hle : H.le Hf) {w' : World} {H' : FH} (hle' : Hf.le H') {av : AV} {v : Value} (hf : Fzn w Hf Φ s.obj av.touches) (hr : RepX P C w H Φ s.obj w' H' av v) {τ : Ty} {kk : τ.den → Option R} (h : snapRef s av τ kk = some r) :
    τ.isFz = true ∧ ∃ x, kk x = some r ∧ RepR P w' H' τ x v := by
  unfold snapRef at h
  split at h
  · rw [derefK_eq] at h
    replace h := Option.bind_eq_some_iff.1 h
    obtain ⟨y, hy, h⟩ := h
    obtain ⟨e, hy⟩ := castTy_self hy
    subst e
    subst hy
    rcases hr with hr | ⟨_, _, _, he, _⟩
    · obtain ⟨hfz, hr⟩ := hr
      exact ⟨hfz, _, h, RepR.mono (FH.le_trans hle hle') hr⟩
    · cases he
  · rename_i id p
    split at h
    case h_2 => cases h
    rename_i o ho
    cases hrow : o.row with
    | true => rw [hrow] at h; cases h
    | false =>
    rw [hrow, cond_false] at h
    split at h
    case h_2 => cases h
    rename_i y hy
    rw [derefK_eq] at h
    replace h := Option.bind_eq_some_iff.1 h
    obtain ⟨z, hz, h⟩ := h
    obtain ⟨e, hz⟩ := castTy_self hz
    subst e
    subst hz
    rcases hr with hr | ⟨_, _, _, he, _⟩
    · have := RepA.frozen (H' := Hf) (os' := s.obj) ho hle (hf id (by simp [AV.touches]) o ho) (fun j o hj => (hs.os j o hj).1) (fun _ _ _ h => h) _ _ hr
      simp only [AV.frozen, Nat.beq_refl, cond_true, hrow, cond_false, hy] at this
      obtain ⟨hfz, this⟩ := this
      exact ⟨hfz, _, h, RepR.mono hle' this⟩
    · cases he
  · rename_i σ x
    rw [derefK_eq] at h
    replace h := Option.bind_eq_some_iff.1 h
    obtain ⟨x2, hx2, h⟩ := h
    subst hx2
    rw [derefK_eq] at h
    replace h := Option.bind_eq_some_iff.1 h
    obtain ⟨y, hy, h⟩ := h
    obtain ⟨e, hy⟩ := castTy_self hy
    subst e
    subst hy
    have hv : σ.isFz = true ∧ RepV P w' H' (.ptr σ) (some y) v := by
      rcases hr with hr | ⟨τ', x', cs, he, hfz, hv, hrep⟩
      · obtain ⟨hfz, cs, hv, hrep⟩ := hr
        exact ⟨by simpa [Ty.isFz] using hfz, cs, hv, Rep.mono _ (FH.le_trans hle hle') (by simp) hrep⟩
      · cases he
        exact ⟨by simpa [Ty.isFz] using hfz, cs, hv, hrep⟩
    obtain ⟨hfz, cs, hv, _, b, o, blk, e1, e2, e3⟩ := hv
    exact ⟨hfz, _, h, b, o, blk, by rw [hv, e1]; rfl, e2, e3⟩
  · cases h

def nilInfo : Info := ⟨0, .nilFunc, []⟩

/-- Arguments that are only read. -/
theorem readX_ok (hs : SimB P C s a w H Φ) {Hf : FH} (hle : H.le Hf) {w' : World} {H' : FH} (hle' : Hf.le H') :
    ∀ {ps : List PTy} {l : List AV} {vs : List Value} {kk : PDens ps → Option R}, ps.all PTy.reads = true → (∀ av ∈ l, Fzn w Hf Φ s.obj av.touches) → Rel2 (RepX P C w H Φ s.obj w' H') l vs → readK s ps l kk = some r →
      ∃ d, kk d = some r ∧ ∃ Φs, ArgsOK P w' H' ps d vs Φs ∧ fpsOf Φs = []
  | [], l, vs, kk, _, _, hrel, h => by
    match l, vs, hrel with
    | [], [], _ => exact ⟨(), h, [], ⟨rfl, rfl⟩, rfl⟩
    | _ :: _, _, hrel => cases h
  | .v τ :: ps, l, vs, kk, hp, hf, hrel, h => by
    match l, vs, hrel with
    | [], _, _ => cases h
    | av :: l, v :: vs, hrel =>
      simp only [readK] at h
      obtain ⟨hfz, x, h, hv⟩ := snapX_ok hs hle hle' (hf av (by simp)) hrel.1 h
      obtain ⟨d, h, Φs, h2, h3⟩ := readX_ok hs hle hle' (by simpa [PTy.reads] using hp) (fun av ha => hf av (by simp [ha])) hrel.2 h
      exact ⟨(x, d), h, nilInfo :: Φs, ⟨v, vs, nilInfo, Φs, rfl, rfl, hfz, rfl, hv, h2⟩, by simpa [fpsOf, nilInfo] using h3⟩
    | _ :: _, [], hrel => exact hrel.elim
  | .r τ :: ps, l, vs, kk, hp, hf, hrel, h => by
    match l, vs, hrel with
    | [], _, _ => cases h
    | av :: l, v :: vs, hrel =>
      simp only [readK] at h
      obtain ⟨hfz, x, h, hv⟩ := snapRefX_ok hs hle hle' (hf av (by simp)) hrel.1 h
      obtain ⟨d, h, Φs, h2, h3⟩ := readX_ok hs hle hle' (by simpa [PTy.reads] using hp) (fun av ha => hf av (by simp [ha])) hrel.2 h
      exact ⟨(x, d), h, nilInfo :: Φs, ⟨v, vs, nilInfo, Φs, rfl, rfl, hfz, rfl, hv, h2⟩, by simpa [fpsOf, nilInfo] using h3⟩
    | _ :: _, [], hrel => exact hrel.elim
  | .m _ :: _, _, _, _, hp, _, _, _ => by simp [PTy.reads] at hp
  | .mr _ _ :: _, _, _, _, hp, _, _, _ => by simp [PTy.reads] at hp

theorem Rel2.append {α β : Type} {Q : α → β → Prop} : ∀ {l1 : List α} {r1 : List β} {l2 r2}, Rel2 Q l1 r1 → Rel2 Q l2 r2 → Rel2 Q (l1 ++ l2) (r1 ++ r2)
  | [], [], _, _, _, h => h
  | _ :: _, _ :: _, _, _, h1, h2 => ⟨h1.1, Rel2.append h1.2 h2⟩
  | [], _ :: _, _, _, h1, _ => h1.elim
  | _ :: _, [], _, _, h1, _ => h1.elim
theorem Rel2.imp {α β : Type} {Q S : α → β → Prop} (h : ∀ x y, Q x y → S x y) : ∀ {l : List α} {r : List β}, Rel2 Q l r → Rel2 S l r
  | [], [], _ => trivial
  | _ :: _, _ :: _, h1 => ⟨h _ _ h1.1, Rel2.imp h h1.2⟩
  | [], _ :: _, h1 => h1.elim
  | _ :: _, [], h1 => h1.elim

/-- A tuple's parts. -/
theorem list_rel {os : Nat → Option Obj} : ∀ {av : AV} {vs : List Value}, av.isTup = true → RepA P C w H Φ os av (.tuple vs.toArray) → Rel2 (RepA P C w H Φ os) av.list vs
  | .nil, vs, _, h => by
    have : vs = [] := by simpa [RepA] using h
    subst this; trivial
  | .cons a b, vs, ht, h => by
    obtain ⟨u, us, h1, h2, h3⟩ := h
    obtain rfl : vs = u :: us := by simpa using h1
    exact ⟨h2, list_rel (by simpa [AV.isTup] using ht) h3⟩
  | .dead, _, ht, _ => by cases ht
  | .val _ _, _, ht, _ => by cases ht
  | .ref _ _, _, ht, _ => by cases ht
  | .ptr _ _, _, ht, _ => by cases ht
  | .view _ _, _, ht, _ => by cases ht
  | .upd _ _ _ _ _, _, ht, _ => by cases ht
  | .fn _ _ _, _, ht, _ => by cases ht
theorem touches_list {id : Nat} : ∀ {av : AV}, av.isTup = true → ∀ x ∈ av.list, id ∈ x.touches → id ∈ av.touches
  | .nil, _, x, hx, _ => by simp [AV.list] at hx
  | .cons a b, ht, x, hx, hi => by
    simp only [AV.touches, List.mem_append]
    rcases List.mem_cons.1 hx with rfl | hx
    · exact .inl hi
    · exact .inr (touches_list (by simpa [AV.isTup] using ht) x hx hi)
  | .dead, ht, _, _, _ => by cases ht
  | .val _ _, ht, _, _, _ => by cases ht
  | .ref _ _, ht, _, _, _ => by cases ht
  | .ptr _ _, ht, _, _, _ => by cases ht
  | .view _ _, ht, _, _, _ => by cases ht
  | .upd _ _ _ _ _, ht, _, _, _ => by cases ht
  | .fn _ _ _, ht, _, _, _ => by cases ht

theorem oneRes_ok {r : Ty} {rs : List RTy} {d : RDens rs} {y : r.den} (h : oneRes r rs d = some y) {w : World} {H : FH} {us : List Value} {Ψs : List Info} (hr : ResOK P w H rs d us Ψs) : ∃ cs, resultV us = toV r cs ∧ Rep P r w H y cs [] := by
  unfold oneRes at h
  split at h
  · rename_i τ d'
    obtain ⟨e, hy⟩ := castTy_self h
    subst e
    subst hy
    obtain ⟨v, vs', φ, Φs', rfl, _, _, _, ⟨cs, hv, hrep⟩, rfl, _⟩ := hr
    exact ⟨cs, hv, hrep⟩
  · cases h

theorem mod_nil {w w' : World} {Φs : List Info} (h : fpsOf Φs = []) (hm : Mod (· ∈ fpsOf Φs) w w') : Mod noBlock w w' := hm.mono (fun i hi => by rw [h] at hi; cases hi)

/-- A closure as a function. -/
theorem clos1_ok (hcfg : CfgOK P cfg) (hs : SimB P C s a w H Φ) {Hf : FH} (hle : H.le Hf) {f : Nat} {first caps : AV} {vs us : Array Value} (hr1 : RepA P C w H Φ s.obj first (.tuple vs)) (hr2 : RepA P C w H Φ s.obj caps (.tuple us))
    (hf : Fzn w Hf Φ s.obj (first.touches ++ caps.touches)) {b r : Ty} (hb : b.isFz = true) {x : b.den} {y : r.den} (h : clos1 cfg s f first caps b r x = some y)
    {H' : FH} {w' : World} {cx : List Value} (hle' : Hf.le H') (hok' : HOk H' w') (hx : Rep P b w' H' x cx []) :
    Calls P f (vs ++ #[toV b cx] ++ us) w' fun e w'' => ∃ cy, e = .returned (toV r cy) ∧ Mod noBlock w' w'' ∧ Rep P r w'' H' y cy [] := by
  unfold clos1 at h
  split at h
  case h_2 => cases h
  rename_i p hp
  obtain ⟨_, hsound⟩ := hcfg.prims f p hp
  cases hq : p.ps.all PTy.reads && r.isFlat && first.isTup && caps.isTup with
  | false => rw [hq] at h; cases h
  | true =>
  rw [hq, cond_true] at h
  simp only [Bool.and_eq_true] at hq
  obtain ⟨⟨⟨hps, hrf⟩, ht1⟩, ht2⟩ := hq
  have l1 := list_rel (vs := vs.toList) ht1 (by simpa using hr1)
  have l2 := list_rel (vs := us.toList) ht2 (by simpa using hr2)
  have hrel : Rel2 (RepX P C w H Φ s.obj w' H') (first.list ++ .val b x :: caps.list) (vs.toList ++ toV b cx :: us.toList) :=
    Rel2.append (Rel2.imp (fun _ _ h => .inl h) l1) ⟨.inr ⟨b, x, cx, rfl, hb, rfl, hx⟩, Rel2.imp (fun _ _ h => .inl h) l2⟩
  obtain ⟨d, h, Φs, hargs, hfps⟩ := readX_ok hs hle hle' hps (by
    intro av hav id hid
    rcases List.mem_append.1 hav with h1 | h1
    · exact hf id (List.mem_append.2 (.inl (touches_list ht1 av h1 hid)))
    · rcases List.mem_cons.1 h1 with rfl | h1
      · cases hid
      · exact hf id (List.mem_append.2 (.inr (touches_list ht2 av h1 hid)))) hrel h
  rw [derefK_eq] at h
  replace h := Option.bind_eq_some_iff.1 h
  obtain ⟨y', hy', h⟩ := h
  have hc := hsound d y' hy' w' H' _ Φs hok' hargs (by rw [hfps]; simp) (by rw [hfps]; simp)
  have e : (vs.toList ++ toV b cx :: us.toList).toArray = vs ++ #[toV b cx] ++ us := by
    apply Array.toList_inj.1; simp
  rw [e] at hc
  refine hc.mono ?_
  rintro e w'' ⟨us', H2, Φs', Ψs, he, hm, hl2, _, _, hres, _⟩
  obtain ⟨cy, h1, h2⟩ := oneRes_ok h hres
  exact ⟨cy, by rw [he, h1], mod_nil hfps hm, Rep.closed r (Ty.flat_closed r hrf) h2⟩

/-- The same with two parameters. -/
theorem clos2_ok (hcfg : CfgOK P cfg) (hs : SimB P C s a w H Φ) {Hf : FH} (hle : H.le Hf) {f : Nat} {first caps : AV} {vs us : Array Value} (hr1 : RepA P C w H Φ s.obj first (.tuple vs)) (hr2 : RepA P C w H Φ s.obj caps (.tuple us))
    (hf : Fzn w Hf Φ s.obj (first.touches ++ caps.touches)) {b c r : Ty} (hb : b.isFz = true) (hc0 : c.isFz = true) {x : b.den} {z : c.den} {y : r.den} (h : clos2 cfg s f first caps b c r x z = some y)
    {H' : FH} {w' : World} {cx cz : List Value} (hle' : Hf.le H') (hok' : HOk H' w') (hx : Rep P b w' H' x cx []) (hz : Rep P c w' H' z cz []) :
    Calls P f (vs ++ #[toV b cx, toV c cz] ++ us) w' fun e w'' => ∃ cy, e = .returned (toV r cy) ∧ Mod noBlock w' w'' ∧ Rep P r w'' H' y cy [] := by
  unfold clos2 at h
  split at h
  case h_2 => cases h
  rename_i p hp
  obtain ⟨_, hsound⟩ := hcfg.prims f p hp
  cases hq : p.ps.all PTy.reads && r.isFlat && first.isTup && caps.isTup with
  | false => rw [hq] at h; cases h
  | true =>
  rw [hq, cond_true] at h
  simp only [Bool.and_eq_true] at hq
  obtain ⟨⟨⟨hps, hrf⟩, ht1⟩, ht2⟩ := hq
  have l1 := list_rel (vs := vs.toList) ht1 (by simpa using hr1)
  have l2 := list_rel (vs := us.toList) ht2 (by simpa using hr2)
  have hrel : Rel2 (RepX P C w H Φ s.obj w' H') (first.list ++ .val b x :: .val c z :: caps.list) (vs.toList ++ toV b cx :: toV c cz :: us.toList) :=
    Rel2.append (Rel2.imp (fun _ _ h => .inl h) l1) ⟨.inr ⟨b, x, cx, rfl, hb, rfl, hx⟩, .inr ⟨c, z, cz, rfl, hc0, rfl, hz⟩, Rel2.imp (fun _ _ h => .inl h) l2⟩
  obtain ⟨d, h, Φs, hargs, hfps⟩ := readX_ok hs hle hle' hps (by
    intro av hav id hid
    rcases List.mem_append.1 hav with h1 | h1
    · exact hf id (List.mem_append.2 (.inl (touches_list ht1 av h1 hid)))
    · rcases List.mem_cons.1 h1 with rfl | h1
      · cases hid
      rcases List.mem_cons.1 h1 with rfl | h1
      · cases hid
      · exact hf id (List.mem_append.2 (.inr (touches_list ht2 av h1 hid)))) hrel h
  rw [derefK_eq] at h
  replace h := Option.bind_eq_some_iff.1 h
  obtain ⟨y', hy', h⟩ := h
  have hc := hsound d y' hy' w' H' _ Φs hok' hargs (by rw [hfps]; simp) (by rw [hfps]; simp)
  have e : (vs.toList ++ toV b cx :: toV c cz :: us.toList).toArray = vs ++ #[toV b cx, toV c cz] ++ us := by
    apply Array.toList_inj.1; simp
  rw [e] at hc
  refine hc.mono ?_
  rintro e w'' ⟨us', H2, Φs', Ψs, he, hm, hl2, _, _, hres, _⟩
  obtain ⟨cy, h1, h2⟩ := oneRes_ok h hres
  exact ⟨cy, by rw [he, h1], mod_nil hfps hm, Rep.closed r (Ty.flat_closed r hrf) h2⟩


/-- An argument that is read, closures too. -/
theorem snapF_ok (hcfg : CfgOK P cfg) (hs : SimB P C s a w H Φ) {Hf : FH} (hle : H.le Hf) {av : AV} {v : Value} (hf : Fzn w Hf Φ s.obj av.touches) (hr : RepA P C w H Φ s.obj av v) {τ : Ty} {kk : τ.den → Option R} (h : snapF cfg s av τ kk = some r) :
    τ.isFz = true ∧ ∃ x, kk x = some r ∧ RepV P w Hf τ x v := by
  unfold snapF at h
  split at h
  · rename_i f first caps
    obtain ⟨vs, us, hv, hr1, hr2⟩ := hr
    split at h
    · rename_i b r2 kk
      cases hq : (lk cfg.prims f).isSome && b.isFz && r2.isFz with
      | false => rw [hq] at h; cases h
      | true =>
      rw [hq, cond_true] at h
      simp only [Bool.and_eq_true] at hq
      obtain ⟨⟨hq, hb⟩, hr3⟩ := hq
      obtain ⟨p, hp⟩ := Option.isSome_iff_exists.1 hq
      obtain ⟨hcal, _⟩ := hcfg.prims f p hp
      refine ⟨by simp [Ty.isFz, hb, hr3], _, h, [v], rfl, rfl, f, vs, us, by rw [hv], hcal, ?_⟩
      intro x y hxy H' w' cx hle' hok' hx
      exact clos1_ok hcfg hs hle hr1 hr2 hf hb hxy hle' hok' hx
    · rename_i b c r2 kk
      cases hq : (lk cfg.prims f).isSome && b.isFz && c.isFz && r2.isFz with
      | false => rw [hq] at h; cases h
      | true =>
      rw [hq, cond_true] at h
      simp only [Bool.and_eq_true] at hq
      obtain ⟨⟨⟨hq, hb⟩, hc⟩, hr3⟩ := hq
      obtain ⟨p, hp⟩ := Option.isSome_iff_exists.1 hq
      obtain ⟨hcal, _⟩ := hcfg.prims f p hp
      refine ⟨by simp [Ty.isFz, hb, hc, hr3], _, h, [v], rfl, rfl, f, vs, us, by rw [hv], hcal, ?_⟩
      intro x z y hxy H' w' cx cz hle' hok' hx hz
      exact clos2_ok hcfg hs hle hr1 hr2 hf hb hc hxy hle' hok' hx hz
    · cases h
  · exact snapX_ok hs hle (FH.le_refl _) hf (.inl hr) h

/-- The arguments that a call may change, and their objects. -/
def MutR (os : Nat → Option Obj) (Φ : Nat → Info) : List PTy → List AV → List Info → Prop
  | [], l, Φs => l = [] ∧ Φs = []
  | .v _ :: ps, l, Φs => ∃ av l' φ Φs', l = av :: l' ∧ Φs = φ :: Φs' ∧ φ.fp = [] ∧ MutR os Φ ps l' Φs'
  | .r _ :: ps, l, Φs => ∃ av l' φ Φs', l = av :: l' ∧ Φs = φ :: Φs' ∧ φ.fp = [] ∧ MutR os Φ ps l' Φs'
  | .m τ :: ps, l, Φs => ∃ id l' Φs' x, l = .ptr id [] :: l' ∧ Φs = Φ id :: Φs' ∧ os id = some ⟨false, τ, x⟩ ∧ MutR os Φ ps l' Φs'
  | .mr tid e :: ps, l, Φs => ∃ id l' Φs' x, l = .view id [] :: l' ∧ Φs = Φ id :: Φs' ∧ os id = some ⟨true, .list true tid e, x⟩ ∧ MutR os Φ ps l' Φs'

theorem argsK_ok (hcfg : CfgOK P cfg) (hs : SimB P C s a w H Φ) {Hf : FH} (hle : H.le Hf) :
    ∀ {ps : List PTy} {l : List AV} {vs : List Value} {kk : PDens ps → Option R}, Fzn w Hf Φ s.obj (touchesOf ps l) → Rel2 (RepA P C w H Φ s.obj) l vs → argsK cfg s ps l kk = some r →
      ∃ d, kk d = some r ∧ ∃ Φs, ArgsOK P w Hf ps d vs Φs ∧ MutR s.obj Φ ps l Φs
  | [], l, vs, kk, _, hrel, h => by
    match l, vs, hrel with
    | [], [], _ => exact ⟨(), h, [], ⟨rfl, rfl⟩, rfl, rfl⟩
    | _ :: _, _, hrel => cases h
  | .v τ :: ps, l, vs, kk, hf, hrel, h => by
    match l, vs, hrel with
    | [], _, _ => cases h
    | av :: l, v :: vs, hrel =>
      simp only [argsK] at h
      obtain ⟨hfz, x, h, hv⟩ := snapF_ok hcfg hs hle (fun id hid => hf id (by simp [touchesOf, hid])) hrel.1 h
      obtain ⟨d, h, Φs, h2, h3⟩ := argsK_ok hcfg hs hle (fun id hid => hf id (by simp [touchesOf, hid])) hrel.2 h
      exact ⟨(x, d), h, nilInfo :: Φs, ⟨v, vs, nilInfo, Φs, rfl, rfl, hfz, rfl, hv, h2⟩, av, l, nilInfo, Φs, rfl, rfl, rfl, h3⟩
    | _ :: _, [], hrel => exact hrel.elim
  | .r τ :: ps, l, vs, kk, hf, hrel, h => by
    match l, vs, hrel with
    | [], _, _ => cases h
    | av :: l, v :: vs, hrel =>
      simp only [argsK] at h
      obtain ⟨hfz, x, h, hv⟩ := snapRefX_ok hs hle (FH.le_refl _) (fun id hid => hf id (by simp [touchesOf, hid])) (.inl hrel.1) h
      obtain ⟨d, h, Φs, h2, h3⟩ := argsK_ok hcfg hs hle (fun id hid => hf id (by simp [touchesOf, hid])) hrel.2 h
      exact ⟨(x, d), h, nilInfo :: Φs, ⟨v, vs, nilInfo, Φs, rfl, rfl, hfz, rfl, hv, h2⟩, av, l, nilInfo, Φs, rfl, rfl, rfl, h3⟩
    | _ :: _, [], hrel => exact hrel.elim
  | .m τ :: ps, l, vs, kk, hf, hrel, h => by
    match l, vs, hrel with
    | [], _, _ => cases h
    | av :: l, v :: vs, hrel =>
      simp only [argsK] at h
      split at h
      case h_2 => cases h
      rename_i id
      split at h
      case h_2 => cases h
      rename_i o ho
      obtain ⟨row, σ, x⟩ := o
      cases row with
      | true => cases h
      | false =>
      simp only [cond_false, derefK_eq] at h
      replace h := Option.bind_eq_some_iff.1 h
      obtain ⟨y, hy, h⟩ := h
      obtain ⟨e, hy⟩ := castTy_self hy
      subst e
      subst hy
      obtain ⟨d, h, Φs, h2, h3⟩ := argsK_ok hcfg hs hle (fun id hid => hf id (by simp [touchesOf, hid])) hrel.2 h
      obtain ⟨o2, y2, b, off, q1, _, _, q4, q5⟩ := hrel.1
      rw [ho] at q1
      cases q1
      obtain ⟨rfl, rfl⟩ := Loc.det _ q4 (Loc_nil w σ (Φ id).b 0)
      exact ⟨(_, d), h, Φ id :: Φs, ⟨v, vs, Φ id, Φs, rfl, rfl, q5, (hs.os id _ ho).1.frame hle (fun _ _ => rfl), h2⟩, id, l, Φs, _, rfl, rfl, ho, h3⟩
    | _ :: _, [], hrel => exact hrel.elim
  | .mr tid e :: ps, l, vs, kk, hf, hrel, h => by
    match l, vs, hrel with
    | [], _, _ => cases h
    | av :: l, v :: vs, hrel =>
      simp only [argsK] at h
      split at h
      case h_2 => cases h
      rename_i id
      split at h
      case h_2 => cases h
      rename_i o ho
      obtain ⟨row, σ, x⟩ := o
      cases row with
      | false => cases h
      | true =>
      simp only [cond_true, derefK_eq] at h
      replace h := Option.bind_eq_some_iff.1 h
      obtain ⟨y, hy, h⟩ := h
      obtain ⟨e, hy⟩ := castTy_self hy
      subst e
      subst hy
      obtain ⟨d, h, Φs, h2, h3⟩ := argsK_ok hcfg hs hle (fun id hid => hf id (by simp [touchesOf, hid])) hrel.2 h
      obtain ⟨o2, y2, q1, _, q5⟩ := hrel.1
      rw [ho] at q1
      cases q1
      exact ⟨(_, d), h, Φ id :: Φs, ⟨v, vs, Φ id, Φs, rfl, rfl, q5, (hs.os id _ ho).1.frame hle (fun _ _ => rfl), h2⟩, id, l, Φs, _, rfl, rfl, ho, h3⟩
    | _ :: _, [], hrel => exact hrel.elim
end
end Go.Vi
