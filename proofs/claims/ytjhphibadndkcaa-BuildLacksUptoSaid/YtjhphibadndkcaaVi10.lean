/- The abstract interpreter 'Vi', tenth part: contracts ('Sound'); operations that write nothing. No condition beyond those typed in each theorem. -/
import Derived.Test.YtjhphibadndkcaaVi9
namespace Go.Vi

def Rel2 {α β : Type} (R : α → β → Prop) : List α → List β → Prop
  | [], [] => True
  | a :: l, b :: r => R a b ∧ Rel2 R l r
  | _, _ => False

def fpsOf (l : List Info) : List Nat := l.flatMap (·.fp)
def resultV : List Value → Value
  | [v] => v
  | vs => .tuple vs.toArray

def ArgsOK (P : Program) (w : World) (H : FH) : (ps : List PTy) → PDens ps → List Value → List Info → Prop
  | [], _, vs, Φs => vs = [] ∧ Φs = []
  | .v τ :: ps, d, vs, Φs => ∃ v vs' φ Φs', vs = v :: vs' ∧ Φs = φ :: Φs' ∧ τ.isFz = true ∧ φ.fp = [] ∧ (∃ cs, v = toV τ cs ∧ Rep P τ w H d.1 cs []) ∧ ArgsOK P w H ps d.2 vs' Φs'
  | .r τ :: ps, d, vs, Φs => ∃ v vs' φ Φs', vs = v :: vs' ∧ Φs = φ :: Φs' ∧ τ.isFz = true ∧ φ.fp = [] ∧ (∃ b o blk, v = .pointer (some ⟨b, o, none⟩) ∧ H b = some blk ∧ Rep P τ w H d.1 (seg blk o τ.size) []) ∧ ArgsOK P w H ps d.2 vs' Φs'
  | .m τ :: ps, d, vs, Φs => ∃ v vs' φ Φs', vs = v :: vs' ∧ Φs = φ :: Φs' ∧ v = .pointer (some ⟨φ.b, 0, none⟩) ∧ ObjOK P w H ⟨false, τ, d.1⟩ φ ∧ ArgsOK P w H ps d.2 vs' Φs'
  | .mr tid e :: ps, d, vs, Φs => ∃ v vs' φ Φs', vs = v :: vs' ∧ Φs = φ :: Φs' ∧ v = φ.hdr ∧ ObjOK P w H ⟨true, .list true tid e, d.1⟩ φ ∧ ArgsOK P w H ps d.2 vs' Φs'

/-- What parameters that may change hold behind a call, at their old places. -/
def MutsOK (P : Program) (w : World) (H : FH) : (ps : List PTy) → MDens ps → List Value → List Info → Prop
  | [], _, vs, Φs => vs = [] ∧ Φs = []
  | .v _ :: ps, d, vs, Φs => ∃ v vs' φ Φs', vs = v :: vs' ∧ Φs = φ :: Φs' ∧ φ.fp = [] ∧ MutsOK P w H ps d vs' Φs'
  | .r _ :: ps, d, vs, Φs => ∃ v vs' φ Φs', vs = v :: vs' ∧ Φs = φ :: Φs' ∧ φ.fp = [] ∧ MutsOK P w H ps d vs' Φs'
  | .m τ :: ps, d, vs, Φs => ∃ v vs' φ Φs', vs = v :: vs' ∧ Φs = φ :: Φs' ∧ v = .pointer (some ⟨φ.b, 0, none⟩) ∧ ObjOK P w H ⟨false, τ, d.1⟩ φ ∧ MutsOK P w H ps d.2 vs' Φs'
  | .mr tid e :: ps, d, vs, Φs => ∃ v vs' φ Φs', vs = v :: vs' ∧ Φs = φ :: Φs' ∧ v = φ.hdr ∧ ObjOK P w H ⟨true, .list true tid e, d.1⟩ φ ∧ MutsOK P w H ps d.2 vs' Φs'

def ResOK (P : Program) (w : World) (H : FH) : (rs : List RTy) → RDens rs → List Value → List Info → Prop
  | [], _, vs, Φs => vs = [] ∧ Φs = []
  | .v τ :: rs, d, vs, Φs => ∃ v vs' φ Φs', vs = v :: vs' ∧ Φs = φ :: Φs' ∧ τ.isFz = true ∧ φ.fp = [] ∧ (∃ cs, v = toV τ cs ∧ Rep P τ w H d.1 cs []) ∧ ResOK P w H rs d.2 vs' Φs'
  | .own tid e :: rs, d, vs, Φs => ∃ v vs' φ Φs', vs = v :: vs' ∧ Φs = φ :: Φs' ∧ v = φ.hdr ∧ ObjOK P w H ⟨true, .list true tid e, d.1⟩ φ ∧ ResOK P w H rs d.2 vs' Φs'
  | .optr τ :: rs, d, vs, Φs => ∃ v vs' φ Φs', vs = v :: vs' ∧ Φs = φ :: Φs' ∧ v = .pointer (some ⟨φ.b, 0, none⟩) ∧ ObjOK P w H ⟨false, τ, d.1⟩ φ ∧ ResOK P w H rs d.2 vs' Φs'

/-- THE CONTRACT: where the typed function gives something, the call returns just that; beyond the parameters that it may change it changes nothing that was there. -/
def Sound (P : Program) (f : Nat) (p : Prim) : Prop := ∀ (d : PDens p.ps) (y : RDens p.rs × MDens p.ps), p.g d = some y → ∀ (w : World) (H : FH) (vs : List Value) (Φs : List Info), HOk H w → ArgsOK P w H p.ps d vs Φs →
  (fpsOf Φs).Nodup → (∀ b ∈ fpsOf Φs, H b = none ∧ b < w.heap.size) →
  Calls P f vs.toArray w fun e w' => ∃ us H' Φs' Ψs, e = .returned (resultV us) ∧ Mod (· ∈ fpsOf Φs) w w' ∧ H.le H' ∧ HOk H' w' ∧ (∀ b c, H' b = some c → H b = some c ∨ b ∈ fpsOf Φs ∨ w.heap.size ≤ b) ∧
    ResOK P w' H' p.rs y.1 us Ψs ∧ MutsOK P w' H' p.ps y.2 vs Φs' ∧ (fpsOf (Ψs ++ Φs')).Nodup ∧ ∀ b ∈ fpsOf (Ψs ++ Φs'), H' b = none ∧ (b ∈ fpsOf Φs ∨ w.heap.size ≤ b) ∧ b < w'.heap.size

structure CfgOK (P : Program) (cfg : Cfg) : Prop where
  ty : ∀ t τ, lk cfg.ty t = some τ → TyOK P t τ ∧ τ.isFz = true
  prims : ∀ f p, lk cfg.prims f = some p → Callable P f ∧ Sound P f p
  small : cfg.nt ≤ 5000
  maps : ∀ T kt vt, lk cfg.maps T = some (kt, vt) → P.underlying T = some (.map kt vt) ∧ TyOK P kt (.int .i64) ∧ TyOK P vt (.int .i64)

/-- What is fixed fits the interpreter's numbering. -/
structure CtxOK (C : Ctx) (cfg : Cfg) : Prop where
  nt : C.nt = cfg.nt
  pin : ∀ id, id < 10000000 → C.pin id = none

/-- An operation that yields one value in each world that differs by new blocks alone. -/
def Quiet (P : Program) (C : Ctx) (o : Oper) (a : Act) (w : World) (s' : St) : Prop :=
  ∃ v, (∀ w', Mod noBlock w w' → Oper.quietAt P o a (Mod noBlock w) w' v) ∧ Sim P C s' (a.put o.dst v) w

/-- The same without a call. -/
def Still (P : Program) (C : Ctx) (o : Oper) (a : Act) (w : World) (s' : St) : Prop :=
  ∃ v, (∀ w', Mod noBlock w w' → (execOp a.eval o).run P w' = .ok (.value v) w') ∧ Sim P C s' (a.put o.dst v) w

/-- An operation that goes through, and where it leads. -/
def Goes (P : Program) (C : Ctx) (o : Oper) (a : Act) (w : World) (s' : St) : Prop :=
  match (execOp a.eval o).run P w with
  | .ok (.value v) w' => Sim P C s' (a.put o.dst v) w'
  | .ok .skip w' => Sim P C s' (a.put o.dst undef) w'
  | .ok (.enter f args) w' => Calls P f args w' fun e w'' => ∃ v, e = .returned v ∧ Sim P C s' (a.put o.dst v) w''
  | _ => False

section
variable {P : Program} {C : Ctx}

theorem Quiet.goes {o : Oper} {a : Act} {w : World} {s' : St} (h : Quiet P C o a w s') : Goes P C o a w s' := by
  obtain ⟨v, h1, h2⟩ := h
  have := h1 w (Mod.refl _ _)
  unfold Oper.quietAt Oper.quietUpon at this
  unfold Goes
  split at this
  · rename_i u w' e; rw [e]; obtain ⟨rfl, rfl⟩ := this; exact h2
  · rename_i w' e; rw [e]; obtain ⟨rfl, rfl⟩ := this; exact h2
  · rename_i f args w' e
    rw [e]
    obtain ⟨rfl, hc⟩ := this
    exact hc.mono fun e w'' ⟨he, hm⟩ => ⟨v, he, h2.grow hm⟩
  · exact this.elim

theorem Still.quiet {o : Oper} {a : Act} {w : World} {s' : St} (h : Still P C o a w s') : Quiet P C o a w s' := by
  obtain ⟨v, hrun, h⟩ := h
  refine ⟨v, fun w' hw => ?_, h⟩
  unfold Oper.quietAt
  rw [hrun w' hw]
  exact ⟨rfl, rfl⟩

theorem quiet_val {o : Oper} {a : Act} {w : World} {s' : St} {v : Value} (hrun : ∀ w', Mod noBlock w w' → (execOp a.eval o).run P w' = .ok (.value v) w') (h : Sim P C s' (a.put o.dst v) w) : Still P C o a w s' :=
  ⟨v, hrun, h⟩

theorem old_block {w w' : World} (hm : Mod noBlock w w') {b : Nat} {o : Go.Obj} (h : w.heap[b]? = some o) : w'.heap[b]? = some o := by
  rw [hm.block b (Array.getElem?_eq_some_iff.1 h).1 (fun h => h)]; exact h

theorem toV_one (τ : Ty) (h : τ.isAgg = false) (v : Value) : toV τ [v] = v := by simp [toV, h]

theorem constAV_ok {w : World} {H : FH} {Φ : Nat → Info} {os : Nat → Option Obj} {τ : Option Ty} (hτ : ∀ t, τ = some t → t.isFz = true) {v : Value} {av : AV} (h : constAV τ v = some av) : RepA P C w H Φ os av v := by
  unfold constAV at h
  split at h
  · cases h; exact ⟨rfl, _, rfl, rfl, rfl⟩
  · cases h; exact ⟨rfl, _, rfl, rfl, rfl⟩
  · split at h
    · rename_i tid e
      cases h
      have := hτ _ rfl
      simp only [Ty.isFz, Bool.and_eq_true] at this
      exact ⟨by simp [Ty.isFz, this.2], _, rfl, rfl, none, 0, rfl, Nat.le_refl _, .inl rfl⟩
    · cases h
  · split at h
    · cases h; exact ⟨hτ _ rfl, [.pointer none], rfl, rfl, rfl⟩
    · cases h
  · cases h

theorem evalA_ok {s : St} {a : Act} {w : World} {H : FH} {Φ : Nat → Info} (hs : SimB P C s a w H Φ) {τ : Option Ty} (hτ : ∀ t, τ = some t → t.isFz = true) {x : Operand} {av : AV} (h : evalA s τ x = some av) :
    RepA P C w H Φ s.obj av (a.eval x) := by
  cases x with
  | tmp t => exact hs.ts t av h
  | const v => exact constAV_ok hτ h
  | func f => cases h; exact ⟨#[], #[], rfl, rfl, rfl⟩
  | global g => cases h

theorem evalAll_ok {s : St} {a : Act} {w : World} {H : FH} {Φ : Nat → Info} (hs : SimB P C s a w H Φ) {τ : Nat → Option Ty} (hτ : ∀ i t, τ i = some t → t.isFz = true) :
    ∀ {l : List Operand} {i : Nat} {avs : List AV}, evalAll s τ l i = some avs → Rel2 (fun av x => RepA P C w H Φ s.obj av (a.eval x)) avs l
  | [], _, _, h => by cases h; trivial
  | x :: r, i, avs, h => by
    unfold evalAll at h
    split at h
    · cases h; exact ⟨evalA_ok hs (hτ i) ‹_›, evalAll_ok hs hτ ‹_›⟩
    · cases h

theorem none_fz : ∀ t : Ty, (none : Option Ty) = some t → t.isFz = true := by intro t h; cases h
theorem CfgOK.fz {cfg : Cfg} (h : CfgOK P cfg) (t : Nat) : ∀ τ, lk cfg.ty t = some τ → τ.isFz = true := fun τ e => (h.ty t τ e).2

theorem RepA.int {w : World} {H : FH} {Φ os} {k : IntKind} {n : Int} {v : Value} (h : RepA P C w H Φ os (.val (.int k) n) v) : v = .int k n := by
  obtain ⟨_, cs, rfl, rfl, _⟩ := h; rfl
theorem RepA.bool {w : World} {H : FH} {Φ os} {b : Bool} {v : Value} (h : RepA P C w H Φ os (.val .bool b) v) : v = .bool b := by
  obtain ⟨_, cs, rfl, rfl, _⟩ := h; rfl
theorem RepA.mk_int (w : World) (H : FH) (Φ os) (k : IntKind) (n : Int) : RepA P C w H Φ os (.val (.int k) n) (.int k n) := ⟨rfl, [.int k n], rfl, rfl, rfl⟩
theorem RepA.mk_bool (w : World) (H : FH) (Φ os) (b : Bool) : RepA P C w H Φ os (.val .bool b) (.bool b) := ⟨rfl, [.bool b], rfl, rfl, rfl⟩

variable {cfg : Cfg}

/-- The end of an operation that sets its temporary. -/
theorem quiet_set {s : St} {a : Act} {w : World} {H : FH} {Φ : Nat → Info} {o : Oper} (hs : SimB P C s a w H Φ) (hC : CtxOK C cfg) (hd : dstOK cfg.nt o.dst = true) {av : AV} {v : Value} (hv : RepA P C w H Φ s.obj av v)
    (hrun : ∀ w', Mod noBlock w w' → (execOp a.eval o).run P w' = .ok (.value v) w') : Still P C o a w (s.setDst o.dst av) :=
  quiet_val hrun ⟨H, Φ, hs.setDst (by rw [hC.nt]; exact hd) hv⟩

variable {R : Type} {r : R} {s : St} {a : Act} {w : World} {H : FH} {Φ : Nat → Info} {dst : Option Nat} {ty : TypeId} {pos : String} {after : Array Edge} {guard : Option (Nat × Bool)} {k : St → Option R}

theorem op_move (hcfg : CfgOK P cfg) (hC : CtxOK C cfg) {x : Operand} (hs : SimB P C s a w H Φ) (hd : dstOK cfg.nt dst = true) (h : absOp cfg ⟨dst, .move x, ty, pos, after, guard⟩ s k = some r) :
    ∃ s', k s' = some r ∧ Still P C ⟨dst, .move x, ty, pos, after, guard⟩ a w s' := by
  simp only [absOp] at h
  split at h
  · rename_i av he
    exact ⟨_, h, quiet_set hs hC hd (evalA_ok hs (hcfg.fz ty) he) (fun w' _ => rfl)⟩
  · cases h

theorem op_pick (hcfg : CfgOK P cfg) (hC : CtxOK C cfg) {c x y : Operand} (hs : SimB P C s a w H Φ) (hd : dstOK cfg.nt dst = true) (h : absOp cfg ⟨dst, .pick c x y, ty, pos, after, guard⟩ s k = some r) :
    ∃ s', k s' = some r ∧ Still P C ⟨dst, .pick c x y, ty, pos, after, guard⟩ a w s' := by
  simp only [absOp] at h
  split at h
  · rename_i b av bv h1 h2 h3
    have hb := (evalA_ok hs none_fz h1).bool
    have r2 := evalA_ok hs (hcfg.fz ty) h2
    have r3 := evalA_ok hs (hcfg.fz ty) h3
    cases b with
    | true => exact ⟨_, h, quiet_set hs hC hd r2 (fun w' _ => by simp [execOp, hb, asBool])⟩
    | false => exact ⟨_, h, quiet_set hs hC hd r3 (fun w' _ => by simp [execOp, hb, asBool])⟩
  · cases h

theorem op_nilCheck (hcfg : CfgOK P cfg) (hC : CtxOK C cfg) {x : Operand} (hs : SimB P C s a w H Φ) (hd : dstOK cfg.nt dst = true) (h : absOp cfg ⟨dst, .nilCheck x, ty, pos, after, guard⟩ s k = some r) :
    ∃ s', k s' = some r ∧ Still P C ⟨dst, .nilCheck x, ty, pos, after, guard⟩ a w s' := by
  simp only [absOp] at h
  split at h
  · rename_i τ o he
    rw [derefK_eq] at h
    obtain ⟨y, rfl, h⟩ := Option.bind_eq_some_iff.1 h
    obtain ⟨h1, cs, h2, h3, b, off, blk, h4, h5, h6⟩ := evalA_ok hs (hcfg.fz ty) he
    have hv : a.eval x = .pointer (some ⟨b, off, none⟩) := by rw [h2, h4]; rfl
    exact ⟨_, h, quiet_set hs hC hd (av := .ref τ y) (v := a.eval x) ⟨h1, b, off, blk, hv, h5, h6⟩ (fun w' _ => by simp [execOp, hv])⟩
  · rename_i τ y he
    have hr := evalA_ok hs (hcfg.fz ty) he
    obtain ⟨_, b, off, blk, hv, _⟩ := hr
    exact ⟨_, h, quiet_set hs hC hd (evalA_ok hs (hcfg.fz ty) he) (fun w' _ => by simp [execOp, hv])⟩
  · rename_i i p he
    obtain ⟨o, y, b, off, _, _, _, _, hv⟩ := evalA_ok hs (hcfg.fz ty) he
    exact ⟨_, h, quiet_set hs hC hd (evalA_ok hs (hcfg.fz ty) he) (fun w' _ => by simp [execOp, hv])⟩
  · cases h

theorem op_unOp (_hcfg : CfgOK P cfg) (hC : CtxOK C cfg) {op : UnOp} {T : TypeId} {x : Operand} (hs : SimB P C s a w H Φ) (hd : dstOK cfg.nt dst = true) (h : absOp cfg ⟨dst, .unOp op T x, ty, pos, after, guard⟩ s k = some r) :
    ∃ s', k s' = some r ∧ Still P C ⟨dst, .unOp op T x, ty, pos, after, guard⟩ a w s' := by
  simp only [absOp] at h
  split at h
  · rename_i av he
    have hr := evalA_ok hs none_fz he
    unfold unK at h
    split at h
    · have hv := hr.bool
      exact ⟨_, h, quiet_set hs hC hd (RepA.mk_bool w H Φ s.obj _) (fun w' _ => by simp [execOp, hv, Op.unary])⟩
    · have hv := hr.int
      exact ⟨_, h, quiet_set hs hC hd (RepA.mk_int w H Φ s.obj _ _) (fun w' _ => by simp [execOp, hv, Op.unary, Op.intArith])⟩
    · cases h
  · cases h

theorem op_binOp0 (hcfg : CfgOK P cfg) (hC : CtxOK C cfg) {op : BinOp} {T T' : TypeId} {x y : Operand} (hs : SimB P C s a w H Φ) (hd : dstOK cfg.nt dst = true) 
    (h : (match evalA s none x, evalA s none y with
      | some x, some y => binK op (decide (lk cfg.ty T = some .bool)) x y fun v => k (s.setDst dst v)
      | _, _ => none) = some r) :
    ∃ s', k s' = some r ∧ Still P C ⟨dst, .binOp op T x y T', ty, pos, after, guard⟩ a w s' := by
  split at h
  · rename_i av bv h1 h2
    have r1 := evalA_ok hs none_fz h1
    have r2 := evalA_ok hs none_fz h2
    unfold binK at h
    split at h
    · rename_i i m j n
      have v1 := r1.int
      have v2 := r2.int
      split at h
      · unfold negK at h
        split at h
        · cases h
        · rename_i hn
          exact ⟨_, h, quiet_set hs hC hd (RepA.mk_int w H Φ s.obj _ _) (fun w' _ => by simp [execOp, v1, v2, eqGuard, binOp, Op.shift, hn, shlI])⟩
      · unfold negK at h
        split at h
        · cases h
        · rename_i hn
          exact ⟨_, h, quiet_set hs hC hd (RepA.mk_int w H Φ s.obj _ _) (fun w' _ => by simp [execOp, v1, v2, eqGuard, binOp, Op.shift, hn, shrI])⟩
      · rename_i n1 n2
        cases hij : (i == j) with
        | false => rw [hij] at h; cases h
        | true =>
          rw [hij, cond_true] at h
          have hij' : i = j := by simpa using hij
          subst hij'
          cases op
          case shl => exact absurd rfl n1
          case shr => exact absurd rfl n2
          case quo =>
            simp only [nzK] at h
            split at h
            · cases h
            · rename_i hn
              exact ⟨_, h, quiet_set hs hC hd (RepA.mk_int w H Φ s.obj _ _) (fun w' _ => by simp [execOp, v1, v2, eqGuard, binOp, Op.intDiv, hn])⟩
          case rem =>
            simp only [nzK] at h
            split at h
            · cases h
            · rename_i hn
              exact ⟨_, h, quiet_set hs hC hd (RepA.mk_int w H Φ s.obj _ _) (fun w' _ => by simp [execOp, v1, v2, eqGuard, binOp, Op.intDiv, hn])⟩
          case add => exact ⟨_, h, quiet_set hs hC hd (RepA.mk_int w H Φ s.obj _ _) (fun w' _ => by simp [execOp, v1, v2, eqGuard, binOp, Op.intArith])⟩
          case sub => exact ⟨_, h, quiet_set hs hC hd (RepA.mk_int w H Φ s.obj _ _) (fun w' _ => by simp [execOp, v1, v2, eqGuard, binOp, Op.intArith])⟩
          case mul => exact ⟨_, h, quiet_set hs hC hd (RepA.mk_int w H Φ s.obj _ _) (fun w' _ => by simp [execOp, v1, v2, eqGuard, binOp, Op.intArith])⟩
          case and => exact ⟨_, h, quiet_set hs hC hd (RepA.mk_int w H Φ s.obj _ _) (fun w' _ => by simp [execOp, v1, v2, eqGuard, binOp, Op.intBits, bitsI])⟩
          case or => exact ⟨_, h, quiet_set hs hC hd (RepA.mk_int w H Φ s.obj _ _) (fun w' _ => by simp [execOp, v1, v2, eqGuard, binOp, Op.intBits, bitsI])⟩
          case xor => exact ⟨_, h, quiet_set hs hC hd (RepA.mk_int w H Φ s.obj _ _) (fun w' _ => by simp [execOp, v1, v2, eqGuard, binOp, Op.intBits, bitsI])⟩
          case andNot => exact ⟨_, h, quiet_set hs hC hd (RepA.mk_int w H Φ s.obj _ _) (fun w' _ => by simp [execOp, v1, v2, eqGuard, binOp, Op.intBits, bitsI])⟩
          all_goals exact ⟨_, h, quiet_set hs hC hd (RepA.mk_bool w H Φ s.obj _) (fun w' _ => by simp [execOp, v1, v2, eqGuard, binOp, Op.intCmp])⟩
    · have v1 := r1.bool
      have v2 := r2.bool
      cases hT : decide (lk cfg.ty T = some .bool) with
      | false => rw [hT] at h; cases h
      | true =>
        rw [hT, cond_true] at h
        have hb := (hcfg.ty T .bool (of_decide_eq_true hT)).1.bool
        split at h
        · exact ⟨_, h, quiet_set hs hC hd (RepA.mk_bool w H Φ s.obj _) (fun w' _ => by simp [execOp, v1, v2, eqGuard, binOp, run_equal_bool w' T _ _ hb])⟩
        · exact ⟨_, h, quiet_set hs hC hd (RepA.mk_bool w H Φ s.obj _) (fun w' _ => by simp [execOp, v1, v2, eqGuard, binOp, run_equal_bool w' T _ _ hb])⟩
        · cases h
    · cases h
  · cases h

theorem op_extract (_hcfg : CfgOK P cfg) (hC : CtxOK C cfg) {x : Operand} {i : Nat} (hs : SimB P C s a w H Φ) (hd : dstOK cfg.nt dst = true) (h : absOp cfg ⟨dst, .extract x i, ty, pos, after, guard⟩ s k = some r) :
    ∃ s', k s' = some r ∧ Still P C ⟨dst, .extract x i, ty, pos, after, guard⟩ a w s' := by
  have key : ∀ (av : AV) (i : Nat) (b : AV) (us : List Value), RepA P C w H Φ s.obj av (.tuple us.toArray) → extractAV av i = some b → ∃ u, us[i]? = some u ∧ RepA P C w H Φ s.obj b u := by
    intro av
    induction av with
    | cons a1 a2 _ ih2 =>
      intro i b us hr he
      obtain ⟨u, us', h1, h2, h3⟩ := hr
      obtain rfl : us = u :: us' := by simpa using h1
      match i with
      | 0 => cases he; exact ⟨u, rfl, h2⟩
      | i + 1 => exact ih2 i b us' h3 he
    | _ => intro i b us _ he; cases i <;> cases he
  simp only [absOp] at h
  split at h
  · rename_i av he
    split at h
    · rename_i b hb
      have hr := evalA_ok hs none_fz he
      obtain ⟨us, hus⟩ : ∃ us : List Value, a.eval x = .tuple us.toArray := by
        cases av <;> first | (cases i <;> cases hb; done) | skip
        obtain ⟨u, us, h1, _⟩ := hr
        exact ⟨_, h1⟩
      rw [hus] at hr
      obtain ⟨u, hu, hr'⟩ := key av i b us hr hb
      exact ⟨_, h, quiet_set hs hC hd hr' (fun w' _ => by simp [execOp, hus, Instr.extract, hu])⟩
    · cases h
  · cases h

theorem op_makeFunc (_hcfg : CfgOK P cfg) (hC : CtxOK C cfg) {f : Nat} {first caps : Array Operand} (hs : SimB P C s a w H Φ) (hd : dstOK cfg.nt dst = true) (h : absOp cfg ⟨dst, .makeFunc (.func f) first caps, ty, pos, after, guard⟩ s k = some r) :
    ∃ s', k s' = some r ∧ Still P C ⟨dst, .makeFunc (.func f) first caps, ty, pos, after, guard⟩ a w s' := by
  have key : ∀ (avs : List AV) (l : List Operand), Rel2 (fun av x => RepA P C w H Φ s.obj av (a.eval x)) avs l → RepA P C w H Φ s.obj (AV.ofList avs) (.tuple (l.map a.eval).toArray) := by
    intro avs
    induction avs with
    | nil => intro l hh; cases l <;> first | rfl | exact hh.elim
    | cons av avs ih => intro l hh; cases l <;> first | exact hh.elim | exact ⟨_, _, rfl, hh.1, ih _ hh.2⟩
  simp only [absOp] at h
  split at h
  · rename_i l1 l2 h1 h2
    have r1 := key _ _ (evalAll_ok hs (fun _ => none_fz) h1)
    have r2 := key _ _ (evalAll_ok hs (fun _ => none_fz) h2)
    refine ⟨_, h, quiet_set hs hC hd (v := .func (.func f) (first.map a.eval) (caps.map a.eval)) ⟨_, _, rfl, ?_, ?_⟩ (fun w' _ => by simp [execOp, Instr.makeFunc])⟩
    · rw [← Array.toArray_toList (xs := first.map a.eval), Array.toList_map]; exact r1
    · rw [← Array.toArray_toList (xs := caps.map a.eval), Array.toList_map]; exact r2
  · cases h
end
end Go.Vi
