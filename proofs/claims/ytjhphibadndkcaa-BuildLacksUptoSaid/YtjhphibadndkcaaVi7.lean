/- The abstract interpreter 'Vi', seventh part: how an abstract state stands to a frame and a world. No condition beyond those typed in each theorem. -/
import Derived.Test.YtjhphibadndkcaaVi6
namespace Go.Vi

/-- Where an object lies: its block (a variable), its slice value (a row), all blocks that it owns. -/
structure Info where
  b : Nat
  hdr : Value
  fp : List Nat

/-- What is fixed during a call: the world in which it began, the blocks that it may change, what was frozen then, the frame's size, where the objects of its parameters lie. -/
structure Ctx where
  w0 : World
  M0 : Nat → Prop
  H0 : FH
  nt : Nat
  pin : Nat → Option Info

def LocO (w : World) (o : Obj) (φ : Info) (p : List Step) (b off : Nat) : Prop :=
  match o.row with
  | false => Loc w o.τ φ.b 0 p b off
  | true => match o.τ, p with
    | .list true _ e, .I i :: q => ∃ g n cap, φ.hdr = .slice (some ⟨g, 0, none⟩) n cap ∧ Loc w e g (i.toNat * e.size) q b off
    | _, _ => False

/-- What a temporary may hold as a row: a slice that owns its memory, or a struct whose fields may own theirs. -/
def rowTy : Ty → Bool
  | .list true _ _ => true
  | .str _ => true
  | _ => false

def ObjOK (P : Program) (w : World) (H : FH) (o : Obj) (φ : Info) : Prop :=
  o.τ.noFn = true ∧ φ.fp.Nodup ∧ match o.row with
  | false => ∃ blk t fp', w.heap[φ.b]? = some (.cells blk t (0, 0)) ∧ Rep P o.τ w H o.x blk.toList fp' ∧ φ.fp = φ.b :: fp'
  | true => rowTy o.τ = true ∧ ∃ cs, φ.hdr = toV o.τ cs ∧ Rep P o.τ w H o.x cs φ.fp

theorem ObjOK.frame {P : Program} {w w' : World} {H H' : FH} {o : Obj} {φ : Info} (h : ObjOK P w H o φ) (hH : H.le H') (hw : ∀ b ∈ φ.fp, w'.heap[b]? = w.heap[b]?) : ObjOK P w' H' o φ := by
  obtain ⟨h1, h2, h3⟩ := h
  refine ⟨h1, h2, ?_⟩
  cases hr : o.row with
  | false =>
    rw [hr] at h3
    obtain ⟨blk, t, fp', h4, h5, h6⟩ := h3
    exact ⟨blk, t, fp', by rw [hw _ (by rw [h6]; simp)]; exact h4, Rep.mono _ hH (fun b hb => hw b (by rw [h6]; simp [hb])) h5, h6⟩
  | true =>
    rw [hr] at h3
    obtain ⟨h3, cs, h4, h5⟩ := h3
    exact ⟨h3, cs, h4, Rep.mono _ hH hw h5⟩

/-- A row that is a slice. -/
theorem ObjOK.row_list {P : Program} {w : World} {H : FH} {tid : Nat} {e : Ty} {x : List e.den} {φ : Info} (h : ObjOK P w H ⟨true, .list true tid e, x⟩ φ) : Rep P (.list true tid e) w H x [φ.hdr] φ.fp := by
  obtain ⟨_, _, _, cs, h4, h5⟩ := h
  obtain ⟨hdr, xs, fp', e1, e2, e3⟩ := h5
  subst e1
  have h4 : φ.hdr = hdr := h4
  rw [h4]
  exact ⟨hdr, xs, fp', rfl, e2, e3⟩
theorem ObjOK.of_list {P : Program} {w : World} {H : FH} {tid : Nat} {e : Ty} {x : List e.den} {φ : Info} (hn : (Ty.list true tid e).noFn = true) (hnd : φ.fp.Nodup) (h : Rep P (.list true tid e) w H x [φ.hdr] φ.fp) : ObjOK P w H ⟨true, .list true tid e, x⟩ φ :=
  ⟨hn, hnd, rfl, [φ.hdr], rfl, h⟩

/-- What is known of a place in an object, and what a store there does. -/
theorem ObjOK.desc2 {P : Program} {w : World} {H : FH} {o : Obj} {φ : Info} (h : ObjOK P w H o φ) {p : List Step} {σ : Ty} {y : σ.den} (hg : getV o.τ o.x p = some ⟨σ, y⟩)
    (hloc : ∃ w0 b off, LocO w0 o φ p b off) (hp : (o.row && p.isEmpty) = false) :
    ∃ b' o' blk' t' pre' c post' f1 f f2, w.heap[b']? = some (.cells blk' t' (0, 0)) ∧ blk'.toList = pre' ++ c ++ post' ∧ pre'.length = o' ∧ φ.fp = f1 ++ f ++ f2 ∧
        b' ∈ f1 ∧ Rep P σ w H y c f ∧ (∀ w' : World, (∀ k ∈ f1, w'.heap[k]? = w.heap[k]?) → LocO w' o φ p b' o') ∧
        ∀ (w' : World) (c' : List Value) (f' : List Nat) (σ' : Ty) (y' : σ'.den) (x' : o.τ.den), Rep P σ' w' H y' c' f' → setV o.τ o.x p σ' y' = some x' →
          w'.heap[b']? = some (.cells (pre' ++ c' ++ post').toArray t' (0, 0)) → (∀ k ∈ f1 ++ f2, k ≠ b' → w'.heap[k]? = w.heap[k]?) → (f1 ++ f' ++ f2).Nodup →
          ObjOK P w' H ⟨o.row, o.τ, x'⟩ ⟨φ.b, φ.hdr, f1 ++ f' ++ f2⟩ := by
  obtain ⟨h1, h2, h3⟩ := h
  obtain ⟨row, τ, x⟩ := o
  cases row with
  | false =>
    obtain ⟨blk, t, fp', h4, h5, h6⟩ := h3
    obtain ⟨b', o', blk', t', pre', c, post', f1, f, f2, e1, e2, e3, e4, e5, e6, hl, e7⟩ := Rep.desc τ (pre := []) (post := []) hg h5 h4 (by simp) (by rw [← h6]; exact h2)
    refine ⟨b', o', blk', t', pre', c, post', φ.b :: f1, f, f2, e1, e2, e3, by rw [h6, e4]; simp, ?_, e6, fun w' ha => hl w' (fun k hk => ha k (by simpa using hk)), ?_⟩
    · rcases e5 with h | h
      · simp at h; simp [h]
      · simp [h]
    · intro w' c' f' σ' y' x' hr hs hw hk hnd
      obtain ⟨cs', hr', hw'⟩ := e7 w' c' f' σ' y' x' hr hs hw (fun k hk' => hk k (by simpa using hk'))
      exact ⟨h1, hnd, _, t, f1 ++ f' ++ f2, hw', by simpa using hr', by simp⟩
  | true =>
    obtain ⟨w0, b0, off0, hloc⟩ := hloc
    unfold LocO at hloc
    simp only at hloc
    split at hloc
    case h_2 => exact hloc.elim
    rename_i tid e i q
    · have h4 : Rep P (.list true tid e) w H x [φ.hdr] φ.fp := ObjOK.row_list ⟨h1, h2, h3⟩
      obtain ⟨b', o', g, n, cap, hh, blk', t', pre', c, post', f1, f, f2, e1, e2, e3, e4, e5, e6, hl, e7⟩ := Row.desc (P := P) (tid := tid) (fun a b c d e' => Rep.desc e a b c d e') (w := w) (H := H) hg h4 h2
      refine ⟨b', o', blk', t', pre', c, post', f1, f, f2, e1, e2, e3, e4, by simpa using e5, e6, fun w' ha => ⟨g, n, cap, hh, hl w' (fun k hk => ha k (by simpa using hk))⟩, ?_⟩
      intro w' c' f' σ' y' x' hr hs hw hk hnd
      exact ObjOK.of_list h1 hnd (e7 w' c' f' σ' y' x' hr hs hw (fun k hk' => hk k (by simpa using hk')))

theorem ObjOK.desc {P : Program} {w : World} {H : FH} {o : Obj} {φ : Info} (h : ObjOK P w H o φ) {p : List Step} {σ : Ty} {y : σ.den} (hg : getV o.τ o.x p = some ⟨σ, y⟩)
    (hloc : ∃ w0 b off, LocO w0 o φ p b off) (hp : (o.row && p.isEmpty) = false) :
    ∃ b' o', (∀ w' : World, (∀ k ∈ φ.fp, w'.heap[k]? = w.heap[k]?) → LocO w' o φ p b' o') ∧
      ∃ blk' t' pre' c post' f1 f f2, w.heap[b']? = some (.cells blk' t' (0, 0)) ∧ blk'.toList = pre' ++ c ++ post' ∧ pre'.length = o' ∧ φ.fp = f1 ++ f ++ f2 ∧
        b' ∈ f1 ∧ Rep P σ w H y c f ∧
        ∀ (w' : World) (c' : List Value) (f' : List Nat) (σ' : Ty) (y' : σ'.den) (x' : o.τ.den), Rep P σ' w' H y' c' f' → setV o.τ o.x p σ' y' = some x' →
          w'.heap[b']? = some (.cells (pre' ++ c' ++ post').toArray t' (0, 0)) → (∀ k ∈ f1 ++ f2, k ≠ b' → w'.heap[k]? = w.heap[k]?) → (f1 ++ f' ++ f2).Nodup →
          ObjOK P w' H ⟨o.row, o.τ, x'⟩ ⟨φ.b, φ.hdr, f1 ++ f' ++ f2⟩ := by
  obtain ⟨b', o', blk', t', pre', c, post', f1, f, f2, e1, e2, e3, e4, e5, e6, hl, e7⟩ := h.desc2 hg hloc hp
  exact ⟨b', o', fun w' ha => hl w' (fun k hk => ha k (by rw [e4]; simp [hk])), blk', t', pre', c, post', f1, f, f2, e1, e2, e3, e4, e5, e6, e7⟩

/-- The slice value that lies at a path now. -/
def HdrAt (w : World) (o : Obj) (φ : Info) (p : List Step) (h : Value) : Prop :=
  match o.row && p.isEmpty with
  | true => h = φ.hdr
  | false => ∃ b off, LocO w o φ p b off ∧ w.cell? ⟨b, off, none⟩ = some h

/-- A block that nobody owns and that this call may own. -/
structure Free (C : Ctx) (w : World) (H : FH) (Φ : Nat → Info) (os : Nat → Option Obj) (b : Nat) : Prop where
  fz : H b = none
  obj : ∀ id o, os id = some o → b ∉ (Φ id).fp
  may : C.M0 b ∨ C.w0.heap.size ≤ b
  lt : b < w.heap.size

def RepA (P : Program) (C : Ctx) (w : World) (H : FH) (Φ : Nat → Info) (os : Nat → Option Obj) : AV → Value → Prop
  | .dead, _ => True
  | .val τ x, v => τ.isFz = true ∧ ∃ cs, v = toV τ cs ∧ Rep P τ w H x cs []
  | .ref τ x, v => τ.isFz = true ∧ ∃ b o blk, v = .pointer (some ⟨b, o, none⟩) ∧ H b = some blk ∧ Rep P τ w H x (seg blk o τ.size) []
  | .ptr id p, v => ∃ o y b off, os id = some o ∧ (o.row && p.isEmpty) = false ∧ getV o.τ o.x p = some y ∧ LocO w o (Φ id) p b off ∧ v = .pointer (some ⟨b, off, none⟩)
  | .view id p, v => ∃ o y, os id = some o ∧ getV o.τ o.x p = some y ∧ match o.row && p.isEmpty with
      | true => v = (Φ id).hdr
      | false => ∃ b off blk t, LocO w o (Φ id) p b off ∧ w.heap[b]? = some (.cells blk t (0, 0)) ∧ v = toV y.1 (seg blk off y.1.size)
  | .upd id p tid e l, v => ∃ o, os id = some o ∧ e.isFz = true ∧ e.noFn = true ∧ tyAt o.τ p = some (.list true tid e) ∧
      ∃ fp, Rep P (.list true tid e) w H l [v] fp ∧ ∀ b ∈ fp, b < w.heap.size ∧ (Free C w H Φ os b ∨ ∃ h, HdrAt w o (Φ id) p h ∧ h.ownBlock = some b)
  | .fn f first caps, v => ∃ vs us, v = .func (.func f) vs us ∧ RepA P C w H Φ os first (.tuple vs) ∧ RepA P C w H Φ os caps (.tuple us)
  | .nil, v => v = .tuple #[]
  | .cons a b, v => ∃ u us, v = .tuple (u :: us).toArray ∧ RepA P C w H Φ os a u ∧ RepA P C w H Φ os b (.tuple us.toArray)

structure SimB (P : Program) (C : Ctx) (s : St) (a : Act) (w : World) (H : FH) (Φ : Nat → Info) : Prop where
  defers : a.defers = []
  size : a.tmps.size = C.nt
  le : C.H0.le H
  hok : HOk H w
  hnew : ∀ b c, H b = some c → C.H0 b = some c ∨ C.M0 b ∨ C.w0.heap.size ≤ b
  mod : Mod C.M0 C.w0 w
  ts : ∀ t av, s.get t = some av → RepA P C w H Φ s.obj av (a.tmps.getD t undef)
  os : ∀ id o, s.obj id = some o → ObjOK P w H o (Φ id) ∧ ∀ b ∈ (Φ id).fp, H b = none ∧ (C.M0 b ∨ C.w0.heap.size ≤ b) ∧ b < w.heap.size
  disj : ∀ i j o o', i ≠ j → s.obj i = some o → s.obj j = some o' → ∀ b ∈ (Φ i).fp, b ∉ (Φ j).fp
  pins : ∀ id φ, C.pin id = some φ → (Φ id).b = φ.b ∧ (Φ id).hdr = φ.hdr

def Sim (P : Program) (C : Ctx) (s : St) (a : Act) (w : World) : Prop := ∃ H Φ, SimB P C s a w H Φ

section
variable {P : Program} {C : Ctx}

theorem RepA.val_intro {w : World} {H : FH} {Φ os} {τ : Ty} {x : τ.den} {cs : List Value} (hf : τ.isFz = true) (h : Rep P τ w H x cs []) : RepA P C w H Φ os (.val τ x) (toV τ cs) := ⟨hf, cs, rfl, h⟩

/-- Readings go over to another world, frozen heap and other objects: what is asked leaf by leaf. -/
theorem RepA.transfer {w w' : World} {H H' : FH} {Φ Φ' : Nat → Info} {os os' : Nat → Option Obj} (f : AV → Bool) (hH : H.le H')
    (hptr : ∀ id p v, f (.ptr id p) = false → RepA P C w H Φ os (.ptr id p) v → RepA P C w' H' Φ' os' (.ptr id p) v)
    (hview : ∀ id p v, f (.view id p) = false → RepA P C w H Φ os (.view id p) v → RepA P C w' H' Φ' os' (.view id p) v)
    (hupd : ∀ id p t e l v, f (.upd id p t e l) = false → RepA P C w H Φ os (.upd id p t e l) v → RepA P C w' H' Φ' os' (.upd id p t e l) v) :
    ∀ (av : AV) (v : Value), RepA P C w H Φ os av v → RepA P C w' H' Φ' os' (av.killIf f) v
  | .dead, _, _ => by simp only [AV.killIf]; cases f .dead <;> trivial
  | .val τ x, v, h => by
    simp only [AV.killIf]
    cases f (.val τ x) with
    | true => trivial
    | false => obtain ⟨h1, cs, h2, h3⟩ := h; exact ⟨h1, cs, h2, Rep.mono _ hH (by simp) h3⟩
  | .ref τ x, v, h => by
    simp only [AV.killIf]
    cases f (.ref τ x) with
    | true => trivial
    | false => obtain ⟨h1, b, o, blk, h2, h3, h4⟩ := h; exact ⟨h1, b, o, blk, h2, hH _ _ h3, Rep.mono _ hH (by simp) h4⟩
  | .ptr id p, v, h => by
    simp only [AV.killIf]
    cases hf : f (.ptr id p) with
    | true => trivial
    | false => exact hptr id p v hf h
  | .view id p, v, h => by
    simp only [AV.killIf]
    cases hf : f (.view id p) with
    | true => trivial
    | false => exact hview id p v hf h
  | .upd id p t e l, v, h => by
    simp only [AV.killIf]
    cases hf : f (.upd id p t e l) with
    | true => trivial
    | false => exact hupd id p t e l v hf h
  | .fn g first caps, v, h => by
    obtain ⟨vs, us, h1, h2, h3⟩ := h
    exact ⟨vs, us, h1, RepA.transfer f hH hptr hview hupd first _ h2, RepA.transfer f hH hptr hview hupd caps _ h3⟩
  | .nil, v, h => by simp only [AV.killIf]; cases f .nil <;> first | trivial | exact h
  | .cons a b, v, h => by
    obtain ⟨u, us, h1, h2, h3⟩ := h
    exact ⟨u, us, h1, RepA.transfer f hH hptr hview hupd a _ h2, RepA.transfer f hH hptr hview hupd b _ h3⟩

theorem LocO.det {w : World} {o : Obj} {φ : Info} {p : List Step} {b off b' off' : Nat} (h : LocO w o φ p b off) (k : LocO w o φ p b' off') : b = b' ∧ off = off' := by
  obtain ⟨row, τ, x⟩ := o
  cases row with
  | false => exact Loc.det _ h k
  | true =>
    cases τ with
    | list own tid e =>
      cases own with
      | false => exact h.elim
      | true =>
        match p with
        | [] => exact h.elim
        | .L :: _ => exact h.elim
        | .R :: _ => exact h.elim
        | .I i :: q =>
          obtain ⟨g, n, cap, e1, e2⟩ := h
          obtain ⟨g', n', cap', e3, e4⟩ := k
          rw [e1] at e3
          cases e3
          exact Loc.det _ e2 e4
    | _ => exact h.elim

theorem LocO.keep {w w' : World} (hk : ∀ a g n cap, w.cell? a = some (.slice g n cap) → w'.cell? a = some (.slice g n cap)) {o : Obj} {φ : Info} {p : List Step} {b off : Nat} (h : LocO w o φ p b off) : LocO w' o φ p b off := by
  obtain ⟨row, τ, x⟩ := o
  cases row with
  | false => exact Loc.keep _ hk h
  | true =>
    cases τ with
    | list own tid e =>
      cases own with
      | false => exact h.elim
      | true =>
        match p with
        | [] => exact h.elim
        | .L :: _ => exact h.elim
        | .R :: _ => exact h.elim
        | .I i :: q =>
          obtain ⟨g, n, cap, e1, e2⟩ := h
          exact ⟨g, n, cap, e1, Loc.keep _ hk e2⟩
    | _ => exact h.elim

/-- A place in an object that stays is where it was, in one of the object's own blocks. -/
theorem ObjOK.loc_stay {w w' : World} {H : FH} {o : Obj} {φ : Info} (hok : ObjOK P w H o φ) (hfp : ∀ b ∈ φ.fp, w'.heap[b]? = w.heap[b]?) {p : List Step} {y} (hg : getV o.τ o.x p = some y) (hp : (o.row && p.isEmpty) = false)
    {b off : Nat} (h : LocO w o φ p b off) : LocO w' o φ p b off ∧ b ∈ φ.fp := by
  obtain ⟨b', o', hl, blk', t', pre', c, post', f1, f, f2, e1, e2, e3, e4, e5, _⟩ := hok.desc (y := y.2) hg ⟨w, _, _, h⟩ hp
  obtain ⟨rfl, rfl⟩ := LocO.det h (hl w (fun _ _ => rfl))
  exact ⟨hl w' hfp, by rw [e4]; simp [e5]⟩

/-- A pointer into an object that stays. -/
theorem RepA.ptr_stay {w w' : World} {H H' : FH} {Φ Φ' : Nat → Info} {os os' : Nat → Option Obj} {id : Nat} {p : List Step} {v : Value} (hos : ∀ o, os id = some o → os' id = some o) (hΦ : Φ' id = Φ id)
    (hobj : ∀ o, os id = some o → ObjOK P w H o (Φ id) ∧ ∀ b ∈ (Φ id).fp, w'.heap[b]? = w.heap[b]?)
    (h : RepA P C w H Φ os (.ptr id p) v) : RepA P C w' H' Φ' os' (.ptr id p) v := by
  obtain ⟨o, y, b, off, h1, h2, h3, h4, h5⟩ := h
  obtain ⟨hok, hfp⟩ := hobj o h1
  exact ⟨o, y, b, off, hos o h1, h2, h3, by rw [hΦ]; exact (hok.loc_stay hfp h3 h2 h4).1, h5⟩

theorem RepA.view_stay {w w' : World} {H H' : FH} {Φ Φ' : Nat → Info} {os os' : Nat → Option Obj} {id : Nat} {p : List Step} {v : Value} (hos : ∀ o, os id = some o → os' id = some o) (hΦ : Φ' id = Φ id)
    (hobj : ∀ o, os id = some o → ObjOK P w H o (Φ id) ∧ ∀ b ∈ (Φ id).fp, w'.heap[b]? = w.heap[b]?)
    (h : RepA P C w H Φ os (.view id p) v) : RepA P C w' H' Φ' os' (.view id p) v := by
  obtain ⟨o, y, h1, h2, h3⟩ := h
  obtain ⟨hok, hfp⟩ := hobj o h1
  refine ⟨o, y, hos o h1, h2, ?_⟩
  cases hr : o.row && p.isEmpty with
  | true => rw [hr] at h3; simp only at h3 ⊢; rw [hΦ]; exact h3
  | false =>
    rw [hr] at h3
    obtain ⟨b, off, blk, t, h4, h5, h6⟩ := h3
    obtain ⟨h7, h8⟩ := hok.loc_stay hfp h2 hr h4
    exact ⟨b, off, blk, t, by rw [hΦ]; exact h7, by rw [hfp b h8]; exact h5, h6⟩

theorem RepA.upd_stay {w w' : World} {H H' : FH} {Φ : Nat → Info} {os : Nat → Option Obj} {id : Nat} {p : List Step} {tid : Nat} {e : Ty} {l : List e.den} {v : Value} (hH : H.le H')
    (hw : ∀ b, b < w.heap.size → w'.heap[b]? = w.heap[b]?) (hsz : w.heap.size ≤ w'.heap.size) (hfr : ∀ b, Free C w H Φ os b → H' b = none)
    (h : RepA P C w H Φ os (.upd id p tid e l) v) : RepA P C w' H' Φ os (.upd id p tid e l) v := by
  obtain ⟨o, h1, h2, h3, h4, fp, h5, h6⟩ := h
  have hcell : ∀ a v, w.cell? a = some v → w'.cell? a = some v := fun a v ha => by
    rw [World.cell?_of_block (hw _ (World.block_lt_of_cell? w a ha))]; exact ha
  have hd : ∀ hh, HdrAt w o (Φ id) p hh → HdrAt w' o (Φ id) p hh := by
    intro hh hhd
    unfold HdrAt at hhd ⊢
    cases hr : o.row && p.isEmpty with
    | true => rw [hr] at hhd; exact hhd
    | false =>
      rw [hr] at hhd
      obtain ⟨b2, off2, q1, q2⟩ := hhd
      exact ⟨b2, off2, LocO.keep (fun a g n cap ha => hcell a _ ha) q1, hcell _ _ q2⟩
  refine ⟨o, h1, h2, h3, h4, fp, Rep.mono _ hH (fun b hb => hw b (h6 b hb).1) h5, fun b hb => ?_⟩
  obtain ⟨hlt, h7⟩ := h6 b hb
  refine ⟨Nat.lt_of_lt_of_le hlt hsz, ?_⟩
  rcases h7 with hf | ⟨hh, q1, q2⟩
  · exact .inl ⟨hfr b hf, hf.obj, hf.may, Nat.lt_of_lt_of_le hf.lt hsz⟩
  · exact .inr ⟨hh, hd hh q1, q2⟩

theorem RepA.id_kill (f : AV → Bool) (hf : ∀ a, f a = false) : ∀ a : AV, a.killIf f = a
  | .dead => by simp [AV.killIf, hf]
  | .val _ _ => by simp [AV.killIf, hf]
  | .ref _ _ => by simp [AV.killIf, hf]
  | .ptr _ _ => by simp [AV.killIf, hf]
  | .view _ _ => by simp [AV.killIf, hf]
  | .upd _ _ _ _ _ => by simp [AV.killIf, hf]
  | .fn _ a b => by simp [AV.killIf, RepA.id_kill f hf a, RepA.id_kill f hf b]
  | .nil => by simp [AV.killIf, hf]
  | .cons a b => by simp [AV.killIf, RepA.id_kill f hf a, RepA.id_kill f hf b]

/-- New blocks, and more that is frozen, turn no reading. -/
theorem RepA.grow {w w' : World} {H H' : FH} {Φ : Nat → Info} {os : Nat → Option Obj} (hH : H.le H')
    (hos : ∀ id o, os id = some o → ObjOK P w H o (Φ id) ∧ ∀ b ∈ (Φ id).fp, b < w.heap.size)
    (hw : ∀ b, b < w.heap.size → w'.heap[b]? = w.heap[b]?) (hsz : w.heap.size ≤ w'.heap.size) (hfr : ∀ b, Free C w H Φ os b → H' b = none)
    {av : AV} {v : Value} (h : RepA P C w H Φ os av v) : RepA P C w' H' Φ os av v := by
  have := RepA.transfer (P := P) (C := C) (w := w) (w' := w') (H := H) (H' := H') (Φ := Φ) (Φ' := Φ) (os := os) (os' := os) (fun _ => false) hH
    (fun id p v _ hh => RepA.ptr_stay (fun _ h => h) rfl (fun o ho => ⟨(hos id o ho).1, fun b hb => hw b ((hos id o ho).2 b hb)⟩) hh)
    (fun id p v _ hh => RepA.view_stay (fun _ h => h) rfl (fun o ho => ⟨(hos id o ho).1, fun b hb => hw b ((hos id o ho).2 b hb)⟩) hh)
    (fun id p t e l v _ hh => RepA.upd_stay hH hw hsz hfr hh) av v h
  rwa [RepA.id_kill _ (fun _ => rfl)] at this

theorem lk_map {α β : Type} (g : α → β) : ∀ (l : List (Nat × α)) (n : Nat), lk (l.map fun x => (x.1, g x.2)) n = (lk l n).map g
  | [], _ => rfl
  | (m, a) :: r, n => by
    simp only [List.map_cons, lk]
    cases Nat.beq m n with
    | true => rfl
    | false => exact lk_map g r n

theorem St.get_killIf (s : St) (f : AV → Bool) (t : Nat) : (s.killIf f).get t = (s.get t).map (AV.killIf f) := lk_map _ _ _
theorem St.obj_killIf (s : St) (f : AV → Bool) : (s.killIf f).obj = s.obj := rfl
theorem St.obj_set (s : St) (t : Nat) (a : AV) : (s.set t a).obj = s.obj := rfl
theorem St.get_setObj (s : St) (id : Nat) (o : Option Obj) : (s.setObj id o).get = s.get := rfl
theorem St.get_set (s : St) (t u : Nat) (a : AV) : (s.set t a).get u = if t = u then some a else s.get u := by
  show (bif Nat.beq t u then some a else lk s.ts u) = _
  cases h : Nat.beq t u with
  | true => rw [if_pos (Nat.eq_of_beq_eq_true h)]; rfl
  | false => rw [if_neg (Nat.ne_of_beq_eq_false h)]; rfl
theorem St.obj_setObj (s : St) (id j : Nat) (o : Option Obj) : (s.setObj id o).obj j = if id = j then o else s.obj j := by
  show (bif Nat.beq id j then some o else lk s.os j).join = _
  cases h : Nat.beq id j with
  | true => rw [if_pos (Nat.eq_of_beq_eq_true h)]; rfl
  | false => rw [if_neg (Nat.ne_of_beq_eq_false h)]; rfl

theorem getD_put {a : Act} {d : Nat} {v : Value} (hd : d < a.tmps.size) (t : Nat) : (a.put (some d) v).tmps.getD t undef = if d = t then v else a.tmps.getD t undef := by
  simp only [Act.put, Array.getD_eq_getD_getElem?, Array.getElem?_setIfInBounds]
  by_cases h : d = t
  · subst h; simp [hd]
  · simp [h]
theorem put_size (a : Act) (d : Option Nat) (v : Value) : (a.put d v).tmps.size = a.tmps.size := by cases d <;> simp [Act.put]
theorem put_defers (a : Act) (d : Option Nat) (v : Value) : (a.put d v).defers = a.defers := by cases d <;> rfl

/-- A temporary is set. -/
theorem SimB.set {s : St} {a : Act} {w : World} {H : FH} {Φ : Nat → Info} (h : SimB P C s a w H Φ) {d : Nat} (hd : d < C.nt) {av : AV} {v : Value} (hv : RepA P C w H Φ s.obj av v) :
    SimB P C (s.set d av) (a.put (some d) v) w H Φ where
  defers := h.defers
  size := by rw [put_size]; exact h.size
  le := h.le
  hok := h.hok
  hnew := h.hnew
  mod := h.mod
  ts := by
    intro t av' ht
    rw [St.get_set] at ht
    rw [getD_put (by rw [h.size]; exact hd)]
    split at ht
    · rename_i e; rw [if_pos e]; cases ht; exact hv
    · rename_i e; rw [if_neg e]; exact h.ts t av' ht
  os := h.os
  disj := h.disj
  pins := h.pins

theorem SimB.setDst {s : St} {a : Act} {w : World} {H : FH} {Φ : Nat → Info} (h : SimB P C s a w H Φ) {d : Option Nat} (hd : dstOK C.nt d = true) {av : AV} {v : Value} (hv : RepA P C w H Φ s.obj av v) :
    SimB P C (s.setDst d av) (a.put d v) w H Φ := by
  cases d with
  | none => exact h
  | some d => exact h.set (Eq.mp Nat.blt_eq hd) hv

/-- New blocks only, made by a callee. -/
theorem SimB.grow {s : St} {a : Act} {w w' : World} {H : FH} {Φ : Nat → Info} (h : SimB P C s a w H Φ) (hm : Mod noBlock w w') : SimB P C s a w' H Φ := by
  have hw : ∀ b, b < w.heap.size → w'.heap[b]? = w.heap[b]? := fun b hb => hm.block b hb (fun h => h)
  refine ⟨h.defers, h.size, h.le, h.hok.mod hm (fun _ hb => hb.elim), h.hnew, h.mod.trans (hm.mono (fun _ hb => hb.elim)), ?_, ?_, h.disj, h.pins⟩
  · intro t av ht
    exact RepA.grow (FH.le_refl _) (fun id o ho => ⟨(h.os id o ho).1, fun b hb => ((h.os id o ho).2 b hb).2.2⟩) hw hm.size (fun b hf => hf.fz) (h.ts t av ht)
  · intro id o ho
    obtain ⟨h1, h2⟩ := h.os id o ho
    exact ⟨h1.frame (FH.le_refl _) (fun b hb => hw b (h2 b hb).2.2), fun b hb => ⟨(h2 b hb).1, (h2 b hb).2.1, Nat.lt_of_lt_of_le (h2 b hb).2.2 hm.size⟩⟩
theorem Sim.grow {s : St} {a : Act} {w w' : World} (h : Sim P C s a w) (hm : Mod noBlock w w') : Sim P C s a w' := by
  obtain ⟨H, Φ, h⟩ := h
  exact ⟨H, Φ, h.grow hm⟩

/-- Fewer temporaries and objects are known. -/
theorem SimB.weaken {s s' : St} {a : Act} {w : World} {H : FH} {Φ : Nat → Info} (h : SimB P C s a w H Φ) (ho : ∀ id o, s'.obj id = some o → s.obj id = some o)
    (ht : ∀ t av, s'.get t = some av → RepA P C w H Φ s'.obj av (a.tmps.getD t undef)) : SimB P C s' a w H Φ :=
  ⟨h.defers, h.size, h.le, h.hok, h.hnew, h.mod, ht, fun id o hh => h.os id o (ho id o hh), fun i j o o' hij h1 h2 => h.disj i j o o' hij (ho _ _ h1) (ho _ _ h2), h.pins⟩

end
end Go.Vi
