/- The abstract interpreter 'Vi', third part: one operation, a region, code, a function. No condition: definitions alone. -/
import Derived.Test.YtjhphibadndkcaaVi2
namespace Go.Vi

/-- What lies in an object is frozen ahead of a step that keeps it elsewhere. -/
def frzOp (s : St) (x : Operand) : St :=
  match evalA s none x with
  | some (.view id p) => match s.obj id with
    | some o => bif o.row && p.isEmpty then s else s.freeze id
    | none => s
  | _ => s
def frzSite (cfg : Cfg) (s : St) (d : Option Nat) (x : Operand) : St :=
  match d.bind (lk cfg.site) with
  | some _ => match evalA s none x with
    | some (.view id _) => s.freeze id
    | _ => s
  | none => s
/-- A pending row that is handed over is laid down first. -/
def St.commitT (s : St) : Operand → St
  | .tmp t => match s.get t with
    | some (.upd id [] tid e l) => match s.obj id with
      | some o => bif o.row && Nat.blt id 10000000 then (s.newObj id true (.list true tid e) l).set t (.view id []) else s
      | none => s
    | _ => s
  | _ => s
def commitAll (s : St) : List Operand → St
  | [] => s
  | x :: r => commitAll (s.commitT x) r

def assignVK {R : Type} (cfg : Cfg) (s : St) (dst : Option Nat) (type : TypeId) (x : Operand) (k : St → Option R) : Option R :=
  match evalA s (lk cfg.ty type) x with
  | some a => bif (dst.bind (lk cfg.site)).isSome then k (s.setDst dst a) else assignK s dst x a k
  | none => none
/-- 'nil' is stored where a row of the object's own lies. -/
def ownPlace (s : St) : AV → Bool
  | .ptr id p => match s.obj id with
    | some o => match tyAt o.τ p with
      | some (.list true _ _) => true
      | _ => false
    | none => false
  | _ => false
def storeNilK {R : Type} (s : St) (T : Option Ty) (a : AV) (k : St → Option R) : Option R :=
  match a with
  | .ptr id p => match s.obj id with
    | some o => match tyAt o.τ p with
      | some (.list true tid e) => bif (decide (T = some (.list false tid e.fz))) then setPK o.τ o.x p (.list true tid e) [] fun z => k ((s.killIf (AV.stale id o.row)).setObj id (some ⟨o.row, o.τ, z⟩)) else none
      | _ => none
    | none => none
  | _ => none
/-- A row of an object's own is stored where it lies. -/
def selfPath (s : St) (a v : Operand) : Option (Nat × List Step) :=
  match evalA s none a, evalA s none v with
  | some (.ptr id p), some (.view id2 q) => bif Nat.beq id id2 && samePath p q then some (id, p) else none
  | _, _ => none
def selfK {R : Type} (s : St) (T : Option Ty) (id : Nat) (p : List Step) (k : St → Option R) : Option R :=
  match s.obj id with
  | some o => bif o.row && p.isEmpty then none else match tyAt o.τ p with
    | some (.list true tid e) => bif e.isFz && decide (T = some (.list false tid e.fz)) then getPK o.τ o.x p fun σ y => setPK o.τ o.x p σ y fun z => k ((s.killIf (AV.stale id o.row)).setObj id (some ⟨o.row, o.τ, z⟩)) else none
    | _ => none
  | none => none
def sliceVK {R : Type} (cfg : Cfg) (s : St) (dst : Option Nat) (T : TypeId) (x : Operand) (lo hi mx : Option Operand) (k : St → Option R) : Option R :=
  match evalA s none x, intOpt s lo, intOpt s hi, mx with
  | some x, some lo, some hi, none => sliceK s (lk cfg.ty T) x lo hi fun v => k (s.setDst dst v)
  | _, _, _, _ => none
def storeVK {R : Type} (cfg : Cfg) (s : St) (dst : Option Nat) (T : TypeId) (a v : Operand) (k : St → Option R) : Option R :=
  match evalA s none a, evalA s (lk cfg.ty T) v with
  | some a, some w => bif isNilOp v && ownPlace s a then storeNilK s (lk cfg.ty T) a fun s => k (s.setDst dst .dead) else storeK s (lk cfg.ty T) a w fun s => k (s.setDst dst .dead)
  | _, _ => none
def callVK {R : Type} (cfg : Cfg) (s : St) (dst : Option Nat) (f : Operand) (c : Call) (k : St → Option R) : Option R :=
  match evalA s none f, evalAll s (fun i => (c.argTypes[i]?).bind (lk cfg.ty)) c.args.toList 0 with
  | some (.fn f first caps), some l => match lk cfg.prims f with
    | some p => match deepArg p.ps first caps l with
      | some (id, path) => callPathK s dst p id path k
      | none => bif first.isTup && caps.isTup then callK cfg s dst p (first.list ++ l ++ caps.list) k else none
    | none => none
  | some (.val (.fn a r) g), some [x] => bif r.isFlat then snapK s x a fun x => derefK (g x) fun y => k (s.setDst dst (.val r y)) else none
  | some (.val (.fn2 a b r) g), some [x, y] => bif r.isFlat then snapK s x a fun x => snapK s y b fun y => derefK (g x y) fun z => k (s.setDst dst (.val r z)) else none
  | _, _ => none

/-- One operation (not its guard). -/
noncomputable def absOp {R : Type} (cfg : Cfg) (o : Oper) (s : St) (k : St → Option R) : Option R :=
  match o.op with
  | .move x => match evalA s (lk cfg.ty o.type) x with
    | some a => k (s.setDst o.dst a)
    | none => none
  | .assign x => assignVK cfg (frzSite cfg s o.dst x) o.dst o.type x k
  | .pick c a b => match evalA s none c, evalA s (lk cfg.ty o.type) a, evalA s (lk cfg.ty o.type) b with
    | some (.val .bool c), some a, some b => cond c (k (s.setDst o.dst a)) (k (s.setDst o.dst b))
    | _, _, _ => none
  | .alloc T => match o.dst, siteTy cfg o.dst (lk cfg.ty T) with
    | some d, some τ => bif τ.noFn then k ((s.newObj d false τ τ.zero).set d (.ptr d [])) else none
    | _, _ => none
  | .box T v => match o.dst, evalA s (lk cfg.ty T) v, lk cfg.ty T with
    | some d, some a, some τ => bif !τ.noFn then none else match a with
      | .view id [] => match s.obj id with
        | some ob => bif ob.row && decide (ob.τ.fz = τ) then k ((((s.kill id).setObj id none).newObj d false ob.τ ob.x).set d (.ptr d [])) else none
        | none => none
      | a => snapK s a τ fun x => match a with
        | .val _ _ => k ((s.newObj d false τ x).set d (.ptr d []))
        | .ref _ _ => k ((s.newObj d false τ x).set d (.ptr d []))
        | _ => none
    | _, _, _ => none
  | .load T a => match evalA s none a with
    | some a => loadK s (lk cfg.ty T) a fun v => k (s.setDst o.dst v)
    | none => none
  | .store T a v => match selfPath s a v with
    | some (id, p) => selfK s (lk cfg.ty T) id p fun s => k (s.setDst o.dst .dead)
    | none => storeVK cfg (frzOp s v) o.dst T a v k
  | .nilCheck x => match evalA s (lk cfg.ty o.type) x with
    | some (.val (.ptr τ) x) => derefK x fun y => k (s.setDst o.dst (.ref τ y))
    | some (.ref τ x) => k (s.setDst o.dst (.ref τ x))
    | some (.ptr i p) => k (s.setDst o.dst (.ptr i p))
    | _ => none
  | .binOp op T x y _ => bif isNilOp y && isListTy (lk cfg.ty T) then (match evalA s none x with
      | some a => lenAV s a fun n => nilK n fun b => nilTestK op b fun b => k (s.setDst o.dst (.val .bool b))
      | none => none) else match evalA s none x, evalA s none y with
    | some x, some y => binK op (decide (lk cfg.ty T = some .bool)) x y fun v => k (s.setDst o.dst v)
    | _, _ => none
  | .unOp op _ x => match evalA s none x with
    | some x => unK op x fun v => k (s.setDst o.dst v)
    | none => none
  | .fieldAddr T x i => match evalA s none x with
    | some x => fieldAddrK s (lk cfg.ty T) x i fun v => k (s.setDst o.dst v)
    | none => none
  | .indexAddr T x i => match evalA s none x, (evalA s none i).bind intOf with
    | some x, some i => indexAddrK s (lk cfg.ty T) x i fun v => k (s.setDst o.dst v)
    | _, _ => none
  | .extract x i => match evalA s none x with
    | some x => match extractAV x i with
      | some a => k (s.setDst o.dst a)
      | none => none
    | none => none
  | .slice T x lo hi mx => sliceVK cfg (frzSite cfg s o.dst x) o.dst T x lo hi mx k
  | .makeSlice T l c => match o.dst, siteRow cfg o.dst ((lk cfg.ty T).map fun τ => match τ with | .list _ t e => .list true t e | τ => τ), (evalA s none l).bind intOf, (evalA s none c).bind intOf with
    | some d, some (.list true tid e), some l, some c => bif e.noFn && decide (lk cfg.ty T = some (.list false tid e.fz)) then leK 0 l (leK l c (lenK c (k ((s.newObj d true (.list true tid e) (List.replicate l.toNat e.zero)).set d (.view d []))))) else none
    | _, _, _, _ => none
  | .makeFunc (.func f) first caps => match evalAll s (fun _ => none) first.toList 0, evalAll s (fun _ => none) caps.toList 0 with
    | some a, some b => k (s.setDst o.dst (.fn f (AV.ofList a) (AV.ofList b)))
    | _, _ => none
  | .build T parts => match (o.dst.bind (lk cfg.site)), lk cfg.ty T, evalAll s (fun _ => none) (parts.toList.map (·.2)) 0 with
    | some (.str τ), some σ, some l => match o.dst with
      | some d => bif τ.noFn && decide ((Ty.str τ).fz = σ) && apart (parts.toList.map (·.1)) [] && (parts.toList.map (·.1)).all (hasField τ) then (match mkOwn s ((parts.toList.map (·.1)).zip l) τ 0 with
        | some (s, x) => k ((s.newObj d true (.str τ) x).set d (.view d []))
        | none => none) else none
      | none => none
    | none, some (.str τ), some l => bif τ.noFn && apart (parts.toList.map (·.1)) [] && (parts.toList.map (·.1)).all (hasField τ) then (match mkDen s ((parts.toList.map (·.1)).zip l) τ 0 with
      | some (s, x) => k (s.setDst o.dst (.val (.str τ) x))
      | none => none) else none
    | _, _, _ => none
  | .buildSlice T len parts => match o.dst, lk cfg.ty T, evalAll s (fun _ => none) (parts.toList.map (·.2)) 0 with
    | some d, some (.list _ tid e), some l => bif e.noFn && Nat.ble (len * e.size) 16777216 && apart (parts.toList.map (·.1)) [] && (parts.toList.map (·.1)).all (fun i => Nat.blt i len) then (match mkList s ((parts.toList.map (·.1)).zip l) e 0 len with
      | some (s, x) => k ((s.newObj d true (.list true tid e) x).set d (.view d []))
      | none => none) else none
    | _, _, _ => none
  | .call c => match c.callee with
    | .builtin .len => match c.args.toList, c.argTypes.toList with
      | [x], [T] => match evalA s none x with
        | some a => bif isListTy (lk cfg.ty T) then lenAV s a fun n => k (s.setDst o.dst (.val (.int .i64) n)) else none
        | none => none
      | _, _ => none
    | .builtin .append => match c.args.toList, c.argTypes.toList with
      | [x, y], [T, T'] => match evalA s (lk cfg.ty T) x, evalA s (lk cfg.ty T') y with
        | some a, some b => bif Nat.beq T T' then appendK s (lk cfg.ty T) o.dst x a b k else none
        | _, _ => none
      | _, _ => none
    | .builtin .max => match evalAll s (fun _ => none) c.args.toList 0 with
      | some [.val (.int i) a, .val (.int j) b] => bif (i == j) then k (s.setDst o.dst (.val (.int i) (max a b))) else none
      | _ => none
    | .builtin .min => match evalAll s (fun _ => none) c.args.toList 0 with
      | some [.val (.int i) a, .val (.int j) b] => bif (i == j) then k (s.setDst o.dst (.val (.int i) (min a b))) else none
      | _ => none
    | .value f => callVK cfg (commitAll s c.args.toList) o.dst f c k
    | _ => none
  | _ => none

/-- An operation that yields one value and turns nothing. -/
def isStill (o : Oper) : Bool :=
  match o.op with
  | .move _ => true
  | .assign _ => true
  | .pick _ _ _ => true
  | .load _ _ => true
  | .nilCheck _ => true
  | .binOp _ _ _ _ _ => true
  | .unOp _ _ _ => true
  | .fieldAddr _ _ _ => true
  | .indexAddr _ _ _ => true
  | .extract _ _ => true
  | .slice _ _ _ _ _ => true
  | .makeFunc (.func _) _ _ => true
  | .call c => match c.callee with
    | .builtin .len => true
    | .builtin .max => true
    | .builtin .min => true
    | _ => false
  | _ => false

def mapTmp (m : Ms) : Operand → Bool
  | .tmp t => hasT t m.tm
  | _ => false
def iterTmp (m : Ms) : Operand → Bool
  | .tmp t => match m.it with
    | some (ti, _) => hasT t ti
    | none => false
  | _ => false
def inOK : Int → Bool
  | .ofNat m => Nat.ble m 9223372036854775807
  | .negSucc m => Nat.ble m 9223372036854775807
def inI {R : Type} (n : Int) (k : Option R) : Option R := bif inOK n then k else none
theorem inOK_iff {n : Int} : inOK n = true ↔ -9223372036854775808 ≤ n ∧ n ≤ 9223372036854775807 := by
  cases n with
  | ofNat m =>
    show Nat.ble m 9223372036854775807 = true ↔ _
    rw [Nat.ble_eq]
    have e : Int.ofNat m = (m : Int) := rfl
    rw [e]
    omega
  | negSucc m =>
    show Nat.ble m 9223372036854775807 = true ↔ _
    rw [Nat.ble_eq]
    have e : Int.negSucc m = -((m : Int) + 1) := rfl
    rw [e]
    omega
theorem inI_eq {R : Type} (n : Int) (k : Option R) : inI n k = if -9223372036854775808 ≤ n ∧ n ≤ 9223372036854775807 then k else none := by
  unfold inI
  cases h : inOK n with
  | true => rw [if_pos (inOK_iff.1 h)]; rfl
  | false => rw [if_neg (fun hh => by rw [inOK_iff.2 hh] at h; cases h)]; rfl
def avI (n : Int) : AV := .val (.int .i64) n
def intArg (s : St) (x : Operand) : Option Int :=
  match evalA s none x with
  | some (.val (.int .i64) n) => some n
  | _ => none

/-- The same where a map is there. -/
noncomputable def absMap {R : Type} (cfg : Cfg) (o : Oper) (s : St) (m : Ms) (k : St → Option R) : Option R :=
  match o.op with
  | .lookup T x i true => bif mapTmp m x && (decide (lk cfg.maps T = some (m.kt, m.vt))) then (match intArg s i with
    | some n => inI n (match lkI m.kv n with
      | some v => k ((s.setDst o.dst (.cons (avI v) (.cons (.val .bool true) .nil))).withM (some (m.strike o.dst)))
      | none => k ((s.setDst o.dst (.cons (avI 0) (.cons (.val .bool false) .nil))).withM (some (m.strike o.dst))))
    | none => none) else none
  | .mapUpdate T x i v => bif mapTmp m x && (decide (lk cfg.maps T = some (m.kt, m.vt))) then (match intArg s i, intArg s v with
    | some n, some v => inI n (inI v (lenK m.kv.length (k (((s.killIf AV.isUpd).setDst o.dst .dead).withM (some ⟨m.kt, m.vt, (m.strike o.dst).tm, putI m.kv n v, none, none⟩)))))
    | _, _ => none) else none
  | .range T x => match o.dst with
    | some d => bif mapTmp m x && (decide (lk cfg.maps T = some (m.kt, m.vt))) then k ((s.set d .dead).withM (some ⟨m.kt, m.vt, dropN d m.tm, m.kv, some ([d], m.kv.map (·.1)), none⟩)) else none
    | none => none
  | .next x false => bif iterTmp m x then (match (m.strike o.dst).it with
    | some (ti, lf) => match lf with
      | [] => k ((s.setDst o.dst (.cons (.val .bool false) .nil)).withM (some (m.strike o.dst).calm))
      | _ => dem (fun n : Int => n ∈ lf) fun n => match lkI m.kv n with
        | some v => k (((s.killIf AV.isUpd).setDst o.dst (.cons (.val .bool true) (.cons (avI n) (.cons (avI v) .nil)))).withM (some ⟨m.kt, m.vt, (m.strike o.dst).tm, m.kv, some (ti, dropI n lf), some (n, v)⟩))
        | none => none
    | none => none) else none
  | .entry x => bif iterTmp m x then (match m.cur with
    | some (n, v) => k ((s.setDst o.dst (.cons (avI n) (.cons (avI v) .nil))).withM (some (m.strike o.dst)))
    | none => none) else none
  | .call c => match c.callee with
    | .builtin .len => match c.args.toList, c.argTypes.toList with
      | [x], [T] => bif mapTmp m x && (decide (lk cfg.maps T = some (m.kt, m.vt))) then k ((s.setDst o.dst (avI m.kv.length)).withM (some (m.strike o.dst)))
          else absOp cfg o s fun s' => k (s'.withM (some (m.strike o.dst)))
      | _, _ => none
    | .builtin .delete => match c.args.toList, c.argTypes.toList with
      | [x, i], [T, T'] => bif mapTmp m x && (decide (lk cfg.maps T = some (m.kt, m.vt))) && Nat.beq T' m.kt then (match intArg s i with
        | some n => inI n (k (((s.killIf AV.isUpd).setDst o.dst .nil).withM (some ⟨m.kt, m.vt, (m.strike o.dst).tm, delI m.kv n, none, none⟩)))
        | none => none) else none
      | _, _ => none
    | _ => absOp cfg o s fun s' => k (s'.withM (some (bif isStill o then m.strike o.dst else (m.strike o.dst).calm)))
  | .move x => absOp cfg o s fun s' => k (s'.withM (some (bif mapTmp m x then (m.strike o.dst).add o.dst else m.strike o.dst)))
  | .assign x => absOp cfg o s fun s' => k (s'.withM (some (bif mapTmp m x then (m.strike o.dst).add o.dst else m.strike o.dst)))
  | _ => absOp cfg o s fun s' => k (s'.withM (some (bif isStill o then m.strike o.dst else (m.strike o.dst).calm)))

noncomputable def absOpM {R : Type} (cfg : Cfg) (o : Oper) (s : St) (k : St → Option R) : Option R :=
  match s.mp with
  | none => match o.op with
    | .makeMap T none => match o.dst, lk cfg.maps T with
      | some d, some (kt, vt) => k ((s.set d .dead).withM (some ⟨kt, vt, [d], [], none, none⟩))
      | _, _ => none
    | _ => absOp cfg o s fun s' => k (s'.withM none)
  | some m => absMap cfg o s m k

/-- The operations of a region, in the text's order. -/
def St.skip (s : St) (d : Option Nat) : St := (s.setDst d .nil).withM (s.mp.map fun m => m.strike d)

noncomputable def absOps {R : Type} (cfg : Cfg) (ops : Array Oper) (k : St → Option R) : List Oper → St → Option R
  | [], s => k s
  | o :: rest, s => bif dstOK cfg.nt o.dst then (match o.guard with
    | none => absOpM cfg o s fun s => absOps cfg ops k rest s
    | some (j, want) => match (ops[j]?).bind (·.dst) with
      | none => none
      | some t => match s.get t with
        | some (.val .bool b) => cond b
            (let s := s.set t (.val .bool true)
             bif want then absOpM cfg o s fun s => absOps cfg ops k rest s else absOps cfg ops k rest (s.skip o.dst))
            (let s := s.set t (.val .bool false)
             bif want then absOps cfg ops k rest (s.skip o.dst) else absOpM cfg o s fun s => absOps cfg ops k rest s)
        | some .nil => absOps cfg ops k rest (s.skip o.dst)
        | _ => none) else none

/-- An operation that may be taken first: it looks at no memory, and no other one that has not come up looks at its place or writes what it looks at. -/
def pureAt (ops : Array Oper) (listed : Array Bool) (i : Nat) : Bool :=
  match ops[i]? with
  | some ⟨_, .move _, _, _, _, none⟩ => Region.free .any ops listed i
  | _ => false
def oneOp (ops : Array Oper) (i : Nat) : List Oper := match ops[i]? with | some o => [o] | none => []
/-- The operations of a region in every order that it may draw. -/
noncomputable def absAny {R : Type} (cfg : Cfg) (ops : Array Oper) (k : St → Option R) : Nat → Array Bool → St → Option R
  | 0, listed, s => match Region.ready .any ops listed with
    | [] => k s
    | _ :: _ => none
  | n + 1, listed, s => match (Region.ready .any ops listed).find? (pureAt ops listed) with
    | some i => absOps cfg ops (fun s => absAny cfg ops k n (listed.setIfInBounds i true) s) (oneOp ops i) s
    | none => match Region.ready .any ops listed with
      | [] => k s
      | [i] => absOps cfg ops (fun s => absAny cfg ops k n (listed.setIfInBounds i true) s) (oneOp ops i) s
      | i :: j :: l => agreeK ((i :: j :: l).map fun i => absOps cfg ops (fun s => absAny cfg ops k n (listed.setIfInBounds i true) s) (oneOp ops i) s)

/-- A loop's name: the number of its first region. -/
def firstReg : Code → Option Nat
  | .region id _ _ => some id
  | .seq a b => match firstReg a with
    | some n => some n
    | none => firstReg b
  | .cond _ a b => match firstReg a with
    | some n => some n
    | none => firstReg b
  | .block _ c => firstReg c
  | .loop c => firstReg c
  | _ => none

def thenK {R : Type} (f : St → Option R) (k : X → St → Option R) (e : X) (s : St) : Option R :=
  match e with
  | .norm => f s
  | e => k e s
def blockK {R : Type} (id : Nat) (k : X → St → Option R) (e : X) (s : St) : Option R :=
  match e with
  | .exit j => bif Nat.beq j id then k .norm s else k (.exit j) s
  | e => k e s

noncomputable def run {R : Type} (cfg : Cfg) (n : Nat) : Code → St → (X → St → Option R) → Option R
  | .skip, s, k => k .norm s
  | .ret, s, k => k .ret s
  | .exit id, s, k => k (.exit id) s
  | .region id ops draw, s, k => bif draw && s.mp.isSome then none else bif draw && hasT id cfg.enum && Region.noSelect ops then absAny cfg ops (k .norm) ops.size (Array.replicate ops.size false) s else absOps cfg ops (k .norm) ops.toList s
  | .seq a b, s, k => run cfg n a s (thenK (fun s => run cfg n b s k) k)
  | .cond c a b, s, k => match evalA s none c with
    | some (.val .bool c) => cond c (run cfg n a s k) (run cfg n b s k)
    | _ => none
  | .block id c, s, k => run cfg n c s (blockK id k)
  | .loop c, s, k => match firstReg c with
    | none => none
    | some key => match lk cfg.loops key with
      | none => none
      | some li => match li.ins.get s with
        | none => none
        | some d => derefK (li.g n d) fun o => outK k li.outs o
  | _, _, _ => none

/-- How a round of a loop goes on. -/
def roundK (li : LoopI) (n : Nat) (e : X) (s : St) : Option (Outs li.outs) :=
  match e with
  | .norm => match li.ins.get s with
    | some d => li.g n d
    | none => none
  | e => outOf e s li.outs

/-- What a loop's function must be. -/
def LoopEq (cfg : Cfg) (li : LoopI) (c : Code) : Prop :=
  (∀ d, li.g 0 d = none) ∧ ∀ n d, li.g (n + 1) d = run cfg n c (li.ins.fill d) (roundK li n)

/-- All loops of a code meet their equations. -/
def LoopsOK (cfg : Cfg) : Code → Prop
  | .seq a b => LoopsOK cfg a ∧ LoopsOK cfg b
  | .cond _ a b => LoopsOK cfg a ∧ LoopsOK cfg b
  | .block _ c => LoopsOK cfg c
  | .loop c => LoopsOK cfg c ∧ ∀ key li, firstReg c = some key → lk cfg.loops key = some li → LoopEq cfg li c
  | _ => True

/-! ## Functions -/
def pid (i : Nat) : Nat := 10000000 + i
def entryT : (ps : List PTy) → Nat → PDens ps → List (Nat × AV)
  | [], _, _ => []
  | .v τ :: ps, i, d => (i, .val τ d.1) :: entryT ps (i + 1) d.2
  | .r τ :: ps, i, d => (i, .ref τ d.1) :: entryT ps (i + 1) d.2
  | .m _ :: ps, i, d => (i, .ptr (pid i) []) :: entryT ps (i + 1) d.2
  | .mr _ _ :: ps, i, d => (i, .view (pid i) []) :: entryT ps (i + 1) d.2
def entryO : (ps : List PTy) → Nat → PDens ps → List (Nat × Option Obj)
  | [], _, _ => []
  | .v _ :: ps, i, d => entryO ps (i + 1) d.2
  | .r _ :: ps, i, d => entryO ps (i + 1) d.2
  | .m τ :: ps, i, d => (pid i, some ⟨false, τ, d.1⟩) :: entryO ps (i + 1) d.2
  | .mr tid e :: ps, i, d => (pid i, some ⟨true, .list true tid e, d.1⟩) :: entryO ps (i + 1) d.2
def entrySt (ps : List PTy) (d : PDens ps) : St := ⟨entryT ps 0 d, entryO ps 0 d, none⟩

/-- What parameters that may change hold in the end. -/
def outMuts (s : St) : (ps : List PTy) → Nat → Option (MDens ps)
  | [], _ => some ()
  | .v _ :: ps, i => outMuts s ps (i + 1)
  | .r _ :: ps, i => outMuts s ps (i + 1)
  | .m τ :: ps, i => match s.obj (pid i) with
    | some o => bif o.row then none else match castTy o.τ τ o.x, outMuts s ps (i + 1) with
      | some x, some d => some (x, d)
      | _, _ => none
    | none => none
  | .mr tid e :: ps, i => match s.obj (pid i) with
    | some o => bif o.row then (match castTy o.τ (.list true tid e) o.x, outMuts s ps (i + 1) with
      | some x, some d => some (x, d)
      | _, _ => none) else none
    | none => none
def mutIds : (ps : List PTy) → Nat → List Nat
  | [], _ => []
  | .v _ :: ps, i => mutIds ps (i + 1)
  | .r _ :: ps, i => mutIds ps (i + 1)
  | .m _ :: ps, i => pid i :: mutIds ps (i + 1)
  | .mr _ _ :: ps, i => pid i :: mutIds ps (i + 1)

/-- A result slot. -/
def slotK {R : Type} (cfg : Cfg) (s : St) (v : ResultVar) (k : AV → Option R) : Option R :=
  match v with
  | .tmp t => match s.get t with
    | some a => k a
    | none => none
  | .cell t T => match s.get t with
    | some a => loadK s (lk cfg.ty T) a k
    | none => none

/-- Results: values are read as they are; rows and variables of one's own are handed over. 'used': what has been handed over, and the parameters' own objects. -/
def resK {R : Type} (cfg : Cfg) (s : St) (used : List Nat) : List ResultVar → (rs : List RTy) → (RDens rs → Option R) → Option R
  | [], [], k => k ()
  | v :: vs, .v τ :: rs, k => slotK cfg s v fun a => bif apart a.touches used then snapK s a τ fun x => resK cfg s (a.touches ++ used) vs rs fun d => k (x, d) else none
  | v :: vs, .own tid e :: rs, k => slotK cfg s v fun a => match a with
    | .view id p => bif hasNat id used then none else match s.obj id with
      | some o => getPK o.τ o.x p fun σ y => derefK (castTy σ (.list true tid e) y) fun x => resK cfg s (id :: used) vs rs fun d => k (x, d)
      | none => none
    | _ => none
  | v :: vs, .optr τ :: rs, k => slotK cfg s v fun a => match a with
    | .ptr id [] => bif hasNat id used then none else match s.obj id with
      | some o => bif o.row then none else derefK (castTy o.τ τ o.x) fun x => resK cfg s (id :: used) vs rs fun d => k (x, d)
      | none => none
    | _ => none
  | _, _, _ => none

def doneK (cfg : Cfg) (fn : Func) (ps : List PTy) (rs : List RTy) (e : X) (s : St) : Option (RDens rs × MDens ps) :=
  match e with
  | .exit _ => none
  | _ => match outMuts s ps 0 with
    | some md => resK cfg s (mutIds ps 0) fn.results.toList rs fun d => some (d, md)
    | none => none

noncomputable def absFn (cfg : Cfg) (n : Nat) (fn : Func) (c : Code) (ps : List PTy) (rs : List RTy) (d : PDens ps) : Option (RDens rs × MDens ps) :=
  run cfg n c (entrySt ps d) (doneK cfg fn ps rs)

end Go.Vi
