/- The abstract interpreter 'Vi', second part: contracts of callees ('Prim'), skeletons of loops' states, operations, code, functions. No condition: definitions alone. -/
import Derived.Test.YtjhphibadndkcaaVi1
namespace Go.Vi

/-! ## Contracts' types -/
/-- A parameter: a value; a pointer to frozen memory; a pointer to a variable that the call may change; a slice whose elements the call may change. -/
inductive PTy where
  | v (τ : Ty)
  | r (τ : Ty)
  | m (τ : Ty)
  | mr (tid : Nat) (e : Ty)

/-- A result: a value (frozen or flat); a slice in new memory; a pointer to a new variable. -/
inductive RTy where
  | v (τ : Ty)
  | own (tid : Nat) (e : Ty)
  | optr (τ : Ty)

@[reducible] def PTy.den : PTy → Type
  | .v τ => τ.den
  | .r τ => τ.den
  | .m τ => τ.den
  | .mr _ e => List e.den
@[reducible] def RTy.den : RTy → Type
  | .v τ => τ.den
  | .own _ e => List e.den
  | .optr τ => τ.den
@[reducible] def PDens : List PTy → Type
  | [] => Unit
  | p :: ps => p.den × PDens ps
@[reducible] def RDens : List RTy → Type
  | [] => Unit
  | p :: ps => p.den × RDens ps
@[reducible] def MDens : List PTy → Type
  | [] => Unit
  | .m τ :: ps => τ.den × MDens ps
  | .mr _ e :: ps => List e.den × MDens ps
  | .v _ :: ps => MDens ps
  | .r _ :: ps => MDens ps

structure Prim where
  ps : List PTy
  rs : List RTy
  g : PDens ps → Option (RDens rs × MDens ps)

def PTy.closed : PTy → Bool
  | .m τ => τ.isClosed
  | .mr _ e => e.isFlat
  | _ => true
def RTy.closed : RTy → Bool
  | .v τ => τ.isFlat
  | .own _ e => e.isFlat
  | .optr τ => τ.isClosed

/-! ## Skeletons -/
inductive Sh where
  | v (τ : Ty)
  | r (τ : Ty)
  | c (a : AV)

/-- A map's part of a skeleton: its types, the temporaries that hold it, and, where one is under way, those that hold an iterator over it. -/
structure MSh where
  kt : Nat
  vt : Nat
  tm : List Nat
  ti : Option (List Nat)
structure Skel where
  ts : List (Nat × Sh)
  os : List (Nat × Bool × Ty)
  mp : Option MSh

@[reducible] def TDen : List (Nat × Sh) → Type
  | [] => Unit
  | (_, .v τ) :: r => τ.den × TDen r
  | (_, .r τ) :: r => τ.den × TDen r
  | (_, .c _) :: r => TDen r
@[reducible] def ODen : List (Nat × Bool × Ty) → Type
  | [] => Unit
  | (_, _, τ) :: r => τ.den × ODen r
@[reducible] def KDen : Option MSh → Type
  | none => Unit
  | some ⟨_, _, _, none⟩ => List (Int × Int)
  | some ⟨_, _, _, some _⟩ => List (Int × Int) × List Int
@[reducible] def Skel.Den (sk : Skel) : Type := TDen sk.ts × ODen sk.os × KDen sk.mp

def fillT : (l : List (Nat × Sh)) → TDen l → List (Nat × AV)
  | [], _ => []
  | (t, .v τ) :: r, d => (t, .val τ d.1) :: fillT r d.2
  | (t, .r τ) :: r, d => (t, .ref τ d.1) :: fillT r d.2
  | (t, .c a) :: r, d => (t, a) :: fillT r d
def fillO : (l : List (Nat × Bool × Ty)) → ODen l → List (Nat × Option Obj)
  | [], _ => []
  | (i, b, τ) :: r, d => (i, some ⟨b, τ, d.1⟩) :: fillO r d.2
def fillK : (m : Option MSh) → KDen m → Option Ms
  | none, _ => none
  | some ⟨kt, vt, tm, none⟩, d => some ⟨kt, vt, tm, d, none, none⟩
  | some ⟨kt, vt, tm, some ti⟩, d => some ⟨kt, vt, tm, d.1, some (ti, d.2), none⟩
def Skel.fill (sk : Skel) (d : sk.Den) : St := ⟨fillT sk.ts d.1, fillO sk.os d.2.1, fillK sk.mp d.2.2⟩

def Step.same : Step → Step → Bool
  | .L, .L => true
  | .R, .R => true
  | _, _ => false
def samePath : List Step → List Step → Bool
  | [], [] => true
  | a :: p, b :: q => a.same b && samePath p q
  | _, _ => false
def AV.same : AV → AV → Bool
  | .dead, _ => true
  | .ptr i p, .ptr j q => Nat.beq i j && samePath p q
  | .view i p, .view j q => Nat.beq i j && samePath p q
  | .fn f a b, .fn g c d => Nat.beq f g && a.same c && b.same d
  | .nil, .nil => true
  | .cons a b, .cons c d => a.same c && b.same d
  | _, _ => false

def getT (s : St) : (l : List (Nat × Sh)) → Option (TDen l)
  | [] => some ()
  | (t, .v τ) :: r => match s.get t with
    | some (.val σ x) => match castTy σ τ x, getT s r with
      | some y, some d => some (y, d)
      | _, _ => none
    | _ => none
  | (t, .r τ) :: r => match s.get t with
    | some (.ref σ x) => match castTy σ τ x, getT s r with
      | some y, some d => some (y, d)
      | _, _ => none
    | _ => none
  | (t, .c a) :: r => match s.get t with
    | some b => bif a.same b then getT s r else none
    | none => none
def getO (s : St) : (l : List (Nat × Bool × Ty)) → Option (ODen l)
  | [] => some ()
  | (i, b, τ) :: r => match s.obj i with
    | some o => bif (o.row == b) then (match castTy o.τ τ o.x, getO s r with
      | some y, some d => some (y, d)
      | _, _ => none) else none
    | none => none
/-- Each object that is named is there. -/
def AV.within (os : List (Nat × Bool × Ty)) : AV → Bool
  | .ptr i _ => (lk os i).isSome
  | .view i _ => (lk os i).isSome
  | .upd _ _ _ _ _ => false
  | .fn _ a b => a.within os && b.within os
  | .cons a b => a.within os && b.within os
  | _ => true
def Sh.within (os : List (Nat × Bool × Ty)) : Sh → Bool
  | .c a => a.within os
  | _ => true
def getK (s : St) : (m : Option MSh) → Option (KDen m)
  | none => some ()
  | some ⟨kt, vt, tm, none⟩ => match s.mp with
    | some m => bif Nat.beq m.kt kt && Nat.beq m.vt vt && tm.all (fun t => hasT t m.tm) then some m.kv else none
    | none => none
  | some ⟨kt, vt, tm, some ti⟩ => match s.mp with
    | some m => match m.it with
      | some (ti', lf) => bif Nat.beq m.kt kt && Nat.beq m.vt vt && tm.all (fun t => hasT t m.tm) && ti.all (fun t => hasT t ti') then some (m.kv, lf) else none
      | none => none
    | none => none
def Skel.get (sk : Skel) (s : St) : Option sk.Den :=
  bif sk.ts.all fun x => x.2.within sk.os then (match getT s sk.ts, getO s sk.os, getK s sk.mp with
    | some a, some b, some c => some (a, b, c)
    | _, _, _ => none) else none

/-- How code ends. -/
inductive X where
  | norm
  | exit (id : Nat)
  | ret

@[reducible] def Outs : List (X × Skel) → Type
  | [] => Empty
  | [a] => a.2.Den
  | a :: b :: r => a.2.Den ⊕ Outs (b :: r)

def sumK {α β R : Type} (o : α ⊕ β) (k : α → Option R) (l : β → Option R) : Option R :=
  match o with
  | .inl a => k a
  | .inr b => l b

def outK {R : Type} (k : X → St → Option R) : (outs : List (X × Skel)) → Outs outs → Option R
  | [], _ => none
  | [a], d => k a.1 (a.2.fill d)
  | a :: b :: r, d => sumK d (fun d => k a.1 (a.2.fill d)) (fun d => outK k (b :: r) d)

def X.same : X → X → Bool
  | .norm, .norm => true
  | .ret, .ret => true
  | .exit i, .exit j => Nat.beq i j
  | _, _ => false

/-- The first out that has this exit. -/
def outOf (e : X) (s : St) : (outs : List (X × Skel)) → Option (Outs outs)
  | [] => none
  | [a] => bif a.1.same e then a.2.get s else none
  | a :: b :: r => bif a.1.same e then (match a.2.get s with | some d => some (.inl d) | none => none)
      else match outOf e s (b :: r) with | some d => some (.inr d) | none => none

structure LoopI where
  ins : Skel
  outs : List (X × Skel)
  g : Nat → ins.Den → Option (Outs outs)

structure Cfg where
  nt : Nat
  ty : List (Nat × Ty)
  site : List (Nat × Ty)
  prims : List (Nat × Prim)
  loops : List (Nat × LoopI)
  maps : List (Nat × Nat × Nat) := []
  enum : List Nat := []

/-! ## Values -/
def constAV (τ : Option Ty) : Value → Option AV
  | .int k n => some (.val (.int k) n)
  | .bool b => some (.val .bool b)
  | .slice none 0 0 => match τ with
    | some (.list _ tid e) => some (.val (.list false tid e) [])
    | _ => none
  | .pointer none => match τ with
    | some (.ptr e) => some (.val (.ptr e) none)
    | _ => none
  | _ => none

def evalA (s : St) (τ : Option Ty) : Operand → Option AV
  | .tmp t => s.get t
  | .const v => constAV τ v
  | .func f => some (.fn f .nil .nil)
  | .global _ => none

/-- A path of pairs alone in a typed value. -/
def getP : (τ : Ty) → τ.den → List Step → Option (Σ σ : Ty, σ.den)
  | .pair a b, x, p => match p with
    | [] => some ⟨.pair a b, x⟩
    | .L :: q => getP a x.1 q
    | .R :: q => getP b x.2 q
    | _ => none
  | .str t, x, p => match p with
    | [] => some ⟨.str t, x⟩
    | s :: q => getP t x (s :: q)
  | t, x, p => match p with
    | [] => some ⟨t, x⟩
    | _ => none

/-- What names an object, once it has been frozen. -/
def AV.frozen (id : Nat) (o : Obj) : AV → AV
  | .cons a b => .cons (a.frozen id o) (b.frozen id o)
  | .fn f a b => .fn f (a.frozen id o) (b.frozen id o)
  | .ptr i p => bif Nat.beq i id then (bif o.row then .dead else match getP o.τ o.x p with
      | some y => .ref y.1.fz (fzVal y.1 y.2)
      | none => .dead) else .ptr i p
  | .view i p => bif Nat.beq i id then (match getP o.τ o.x p with
      | some y => .val y.1.fz (fzVal y.1 y.2)
      | none => .dead) else .view i p
  | .upd _ _ _ _ _ => .dead
  | a => a

def St.freeze (s : St) (id : Nat) : St :=
  match s.obj id with
  | some o => ⟨s.ts.map fun x => (x.1, x.2.frozen id o), (id, none) :: s.os, s.mp⟩
  | none => s
def St.freezeAll (s : St) : List Nat → St
  | [] => s
  | i :: r => (s.freeze i).freezeAll r

/-- A value of a type, as an argument or a result: what lies in objects is read as it is now; 'fn': a closure. -/
def snapK {R : Type} (s : St) (a : AV) (τ : Ty) (k : τ.den → Option R) : Option R :=
  match a with
  | .val σ x => derefK (castTy σ τ x) k
  | .view id p => match s.obj id with
    | some o => getPK o.τ o.x p fun σ y => derefK (castTy σ.fz τ (fzVal σ y)) k
    | none => none
  | .ref σ x => derefK (castTy (.ptr σ) τ (some x)) k
  | .ptr id p => match s.obj id with
    | some o => bif o.row then none else (match getP o.τ o.x p with
      | some y => derefK (castTy (.ptr y.1.fz) τ (some (fzVal y.1 y.2))) k
      | none => none)
    | none => none
  | _ => none

/-- A pointer to memory that is only read. -/
def snapRef {R : Type} (s : St) (a : AV) (τ : Ty) (k : τ.den → Option R) : Option R :=
  match a with
  | .ref σ x => derefK (castTy σ τ x) k
  | .ptr id p => match s.obj id with
    | some o => bif o.row then none else (match getP o.τ o.x p with
      | some y => derefK (castTy y.1.fz τ (fzVal y.1 y.2)) k
      | none => none)
    | none => none
  | .val (.ptr σ) x => derefK x fun y => derefK (castTy σ τ y) k
  | _ => none

/-- The objects that are read so. -/
def AV.touches : AV → List Nat
  | .view i _ => [i]
  | .upd i _ _ _ _ => [i]
  | .ptr i _ => [i]
  | .cons a b => a.touches ++ b.touches
  | .fn _ a b => a.touches ++ b.touches
  | _ => []

def AV.list : AV → List AV
  | .cons a b => a :: b.list
  | _ => []
def AV.isTup : AV → Bool
  | .cons _ b => b.isTup
  | .nil => true
  | _ => false

/-- Arguments that are only read. -/
def readK {R : Type} (s : St) : (ps : List PTy) → List AV → (PDens ps → Option R) → Option R
  | [], [], k => k ()
  | .v τ :: ps, a :: l, k => snapK s a τ fun x => readK s ps l fun d => k (x, d)
  | .r τ :: ps, a :: l, k => snapRef s a τ fun x => readK s ps l fun d => k (x, d)
  | _, _, _ => none

/-- The only result of a callee, as a value. -/
def oneRes (r : Ty) : (rs : List RTy) → RDens rs → Option r.den
  | [.v τ], d => castTy τ r d.1
  | _, _ => none

def PTy.reads : PTy → Bool
  | .v _ => true
  | .r _ => true
  | _ => false

/-- A closure as a function: what it captured is read as it is now. -/
def clos1 (cfg : Cfg) (s : St) (f : Nat) (first caps : AV) (a r : Ty) (x : a.den) : Option r.den :=
  match lk cfg.prims f with
  | some p => bif p.ps.all PTy.reads && r.isFlat && first.isTup && caps.isTup then readK s p.ps (first.list ++ .val a x :: caps.list) fun d => derefK (p.g d) fun y => oneRes r p.rs y.1 else none
  | none => none
def clos2 (cfg : Cfg) (s : St) (f : Nat) (first caps : AV) (a b r : Ty) (x : a.den) (y : b.den) : Option r.den :=
  match lk cfg.prims f with
  | some p => bif p.ps.all PTy.reads && r.isFlat && first.isTup && caps.isTup then readK s p.ps (first.list ++ .val a x :: .val b y :: caps.list) fun d => derefK (p.g d) fun y => oneRes r p.rs y.1 else none
  | none => none

def snapF {R : Type} (cfg : Cfg) (s : St) (a : AV) (τ : Ty) (k : τ.den → Option R) : Option R :=
  match a with
  | .fn f first caps => match τ, k with
    | .fn b r, k => bif (lk cfg.prims f).isSome && b.isFz && r.isFz then k (clos1 cfg s f first caps b r) else none
    | .fn2 b c r, k => bif (lk cfg.prims f).isSome && b.isFz && c.isFz && r.isFz then k (clos2 cfg s f first caps b c r) else none
    | _, _ => none
  | a => snapK s a τ k

/-- The arguments of a call. -/
def argsK {R : Type} (cfg : Cfg) (s : St) : (ps : List PTy) → List AV → (PDens ps → Option R) → Option R
  | [], [], k => k ()
  | .v τ :: ps, a :: l, k => snapF cfg s a τ fun x => argsK cfg s ps l fun d => k (x, d)
  | .r τ :: ps, a :: l, k => snapRef s a τ fun x => argsK cfg s ps l fun d => k (x, d)
  | .m τ :: ps, a :: l, k => match a with
    | .ptr id [] => match s.obj id with
      | some o => bif o.row then none else derefK (castTy o.τ τ o.x) fun x => argsK cfg s ps l fun d => k (x, d)
      | none => none
    | _ => none
  | .mr tid e :: ps, a :: l, k => match a with
    | .view id [] => match s.obj id with
      | some o => bif o.row then derefK (castTy o.τ (.list true tid e) o.x) fun x => argsK cfg s ps l fun d => k (x, d) else none
      | none => none
    | _ => none
  | _, _, _ => none

def touchesOf : List PTy → List AV → List Nat
  | .v _ :: ps, a :: l => a.touches ++ touchesOf ps l
  | .r _ :: ps, a :: l => a.touches ++ touchesOf ps l
  | .m _ :: ps, _ :: l => touchesOf ps l
  | .mr _ _ :: ps, _ :: l => touchesOf ps l
  | _, _ => []
def AV.name : AV → List Nat
  | .ptr i _ => [i]
  | .view i _ => [i]
  | _ => []
def mutsOf : List PTy → List AV → List Nat
  | .v _ :: ps, _ :: l => mutsOf ps l
  | .r _ :: ps, _ :: l => mutsOf ps l
  | .m _ :: ps, a :: l => a.name ++ mutsOf ps l
  | .mr _ _ :: ps, a :: l => a.name ++ mutsOf ps l
  | _, _ => []

def hasNat (n : Nat) : List Nat → Bool
  | [] => false
  | m :: r => Nat.beq m n || hasNat n r
/-- all different, and none in the other list -/
def apart : List Nat → List Nat → Bool
  | [], _ => true
  | m :: r, l => !hasNat m r && !hasNat m l && apart r l

/-- Behind a call: what it changed. -/
def afterMuts (s : St) : (ps : List PTy) → List AV → MDens ps → St
  | .v _ :: ps, _ :: l, d => afterMuts s ps l d
  | .r _ :: ps, _ :: l, d => afterMuts s ps l d
  | .m τ :: ps, a :: l, d => match a with
    | .ptr id _ => afterMuts ((s.killIf (AV.stale id false)).setObj id (some ⟨false, τ, d.1⟩)) ps l d.2
    | _ => afterMuts s ps l d.2
  | .mr tid e :: ps, a :: l, d => match a with
    | .view id _ => afterMuts ((s.killIf (AV.stale id true)).setObj id (some ⟨true, .list true tid e, d.1⟩)) ps l d.2
    | _ => afterMuts s ps l d.2
  | _, _, _ => s

/-- The results of a call: new objects are numbered from n on. -/
def resAVs (s : St) : (n : Nat) → (rs : List RTy) → RDens rs → St × AV
  | _, [], _ => (s, .nil)
  | n, .v τ :: rs, d => let q := resAVs s (n + 1) rs d.2; (q.1, .cons (.val τ d.1) q.2)
  | n, .own tid e :: rs, d => let q := resAVs ((s.kill n).setObj n (some ⟨true, .list true tid e, d.1⟩)) (n + 1) rs d.2; (q.1, .cons (.view n []) q.2)
  | n, .optr τ :: rs, d => let q := resAVs ((s.kill n).setObj n (some ⟨false, τ, d.1⟩)) (n + 1) rs d.2; (q.1, .cons (.ptr n []) q.2)
def AV.lone : AV → AV
  | .cons a .nil => a
  | a => a

def callK {R : Type} (cfg : Cfg) (s : St) (dst : Option Nat) (p : Prim) (args : List AV) (k : St → Option R) : Option R :=
  bif apart (mutsOf p.ps args) (touchesOf p.ps args) && Nat.blt p.rs.length 1000 then
    argsK cfg s p.ps args fun d => derefK (p.g d) fun y =>
      let s0 := bif p.rs.all RTy.closed && p.ps.all PTy.closed then s else s.freezeAll (touchesOf p.ps args)
      let q := resAVs (afterMuts (s0.killIf AV.isUpd) p.ps args y.2) (1000 * (dst.getD 0 + 1)) p.rs y.1
      k (q.1.setDst dst q.2.lone)
  else none

/-! ## Operations -/
def w64 (n : Int) : Int := IntKind.i64.wrap n

def negK {R : Type} (a : Int) (k : Option R) : Option R := if a < 0 then none else k
def bitsI (op : BinOp) (k : IntKind) (x y : Int) : Int :=
  match op with
  | .and => k.wrap (BitVec.ofInt k.bits x &&& BitVec.ofInt k.bits y).toNat
  | .or => k.wrap (BitVec.ofInt k.bits x ||| BitVec.ofInt k.bits y).toNat
  | .xor => k.wrap (BitVec.ofInt k.bits x ^^^ BitVec.ofInt k.bits y).toNat
  | _ => k.wrap (BitVec.ofInt k.bits x &&& ~~~ BitVec.ofInt k.bits y).toNat
def shlI (k : IntKind) (x y : Int) : Int := k.wrap (x * 2 ^ (min y.toNat k.bits))
def shrI (k : IntKind) (x y : Int) : Int := x.fdiv (2 ^ (min y.toNat k.bits))

def binK {R : Type} (op : BinOp) (tb : Bool) (x y : AV) (k : AV → Option R) : Option R :=
  match x, y with
  | .val (.int i) a, .val (.int j) b => match op with
      | .shl => negK b (k (.val (.int i) (shlI i a b)))
      | .shr => negK b (k (.val (.int i) (shrI i a b)))
      | op => bif (i == j) then (match op with
        | .add => k (.val (.int i) (i.wrap (a + b)))
        | .sub => k (.val (.int i) (i.wrap (a - b)))
        | .mul => k (.val (.int i) (i.wrap (a * b)))
        | .quo => nzK b (k (.val (.int i) (i.wrap (a.tdiv b))))
        | .rem => nzK b (k (.val (.int i) (a.tmod b)))
        | .eql => k (.val .bool (a == b))
        | .neq => k (.val .bool (a != b))
        | .lss => k (.val .bool (decide (a < b)))
        | .leq => k (.val .bool (decide (a ≤ b)))
        | .gtr => k (.val .bool (decide (a > b)))
        | .geq => k (.val .bool (decide (a ≥ b)))
        | op => k (.val (.int i) (bitsI op i a b))) else none
  | .val .bool a, .val .bool b => bif tb then (match op with
      | .eql => k (.val .bool (a == b))
      | .neq => k (.val .bool (!(a == b)))
      | _ => none) else none
  | _, _ => none

def isListTy : Option Ty → Bool
  | some (.list _ _ _) => true
  | _ => false

def dstOK (nt : Nat) : Option Nat → Bool
  | none => true
  | some d => Nat.blt d nt

def unK {R : Type} (op : UnOp) (x : AV) (k : AV → Option R) : Option R :=
  match op, x with
  | .not, .val .bool a => k (.val .bool (!a))
  | .neg, .val (.int i) a => k (.val (.int i) (i.wrap (0 - a)))
  | _, _ => none

/-- The length of what lies in a slice. -/
def lenAV {R : Type} (s : St) (a : AV) (k : Nat → Option R) : Option R :=
  match a with
  | .val (.list _ _ _) l => k l.length
  | .view id p => match s.obj id with
    | some o => getPK o.τ o.x p fun σ y => match σ, y with
      | .list _ _ _, l => k l.length
      | _, _ => none
    | none => none
  | .upd _ _ _ _ l => k l.length
  | _ => none

/-- The elements of a slice, of a frozen kind e. -/
def elemsK {R : Type} (s : St) (a : AV) (e : Ty) (k : List e.den → Option R) : Option R :=
  match a with
  | .val (.list o tid σ) l => derefK (castTy (.list o tid σ) (.list o tid e) l) k
  | .view id p => match s.obj id with
    | some o => getPK o.τ o.x p fun σ y => match σ, y with
      | .list b tid σ, l => derefK (castTy (.list b tid σ) (.list b tid e) l) k
      | _, _ => none
    | none => none
  | .upd _ _ tid σ l => derefK (castTy (.list false tid σ) (.list false tid e) l) k
  | _ => none

/-- As a value; a row that only this temporary holds is frozen for it. -/
def St.toVal (s : St) (a : AV) : Option (St × Σ σ : Ty, σ.den) :=
  match a with
  | .val σ x => some (s, ⟨σ, x⟩)
  | .ref σ x => some (s, ⟨.ptr σ, some x⟩)
  | .view id [] => match s.obj id with
    | some o => bif o.row then some (s.freeze id, ⟨o.τ.fz, fzVal o.τ o.x⟩) else none
    | none => none
  | _ => none

/-- A literal's part number n, at the frozen type a; a row is frozen for it. -/
def partDen (s : St) (parts : List (Nat × AV)) (a : Ty) (n : Nat) : Option (St × a.den) :=
  match lk parts n with
  | none => some (s, a.zero)
  | some (.val σ x) => match castTy σ a x with | some y => some (s, y) | none => none
  | some (.ref σ x) => match castTy (.ptr σ) a (some x) with | some y => some (s, y) | none => none
  | some (.view id []) => match s.obj id with
    | some o => bif o.row then (match castTy o.τ.fz a (fzVal o.τ o.x) with
        | some y => some (s.freeze id, y)
        | none => none) else none
    | none => none
  | _ => none

/-- All parts; 'τ': the pair of the fields from number n on. -/
def mkDen (s : St) (parts : List (Nat × AV)) : (τ : Ty) → (n : Nat) → Option (St × τ.den)
  | .pair a b, n => match partDen s parts a n with
    | some (s, x) => match mkDen s parts b (n + 1) with
      | some (s, y) => some (s, (x, y))
      | none => none
    | none => none
  | a, n => partDen s parts a n

/-- A slice literal's elements (e: frozen), numbers n, n + 1, .. -/
def mkList (s : St) (parts : List (Nat × AV)) (e : Ty) : (n len : Nat) → Option (St × List e.den)
  | _, 0 => some (s, [])
  | n, len + 1 => match partDen s parts e n with
    | some (s, x) => match mkList s parts e (n + 1) len with
      | some (s, l) => some (s, x :: l)
      | none => none
    | none => none

def St.newObj (s : St) (id : Nat) (row : Bool) (τ : Ty) (x : τ.den) : St := (s.kill id).setObj id (some ⟨row, τ, x⟩)

/-- A part that may own its memory: a row is moved in. -/
def partOwn (s : St) (parts : List (Nat × AV)) (a : Ty) (n : Nat) : Option (St × a.den) :=
  bif a.isFz then partDen s parts a n else match lk parts n with
  | none => some (s, a.zero)
  | some (.view id []) => match s.obj id with
    | some o => bif o.row then (match castTy o.τ a o.x with
        | some y => some ((s.kill id).setObj id none, y)
        | none => none) else none
    | none => none
  | _ => none
def mkOwn (s : St) (parts : List (Nat × AV)) : (τ : Ty) → (n : Nat) → Option (St × τ.den)
  | .pair a b, n => match partOwn s parts a n with
    | some (s, x) => match mkOwn s parts b (n + 1) with
      | some (s, y) => some (s, (x, y))
      | none => none
    | none => none
  | a, n => partOwn s parts a n

def nilTestK {R : Type} (op : BinOp) (b : Bool) (k : Bool → Option R) : Option R :=
  match op with
  | .eql => k b
  | .neq => k (!b)
  | _ => none
def isNilOp : Operand → Bool
  | .const (.slice none 0 0) => true
  | _ => false

/-- A call that changes a row which lies in an object, in place. -/
def deepArg : List PTy → AV → AV → List AV → Option (Nat × List Step)
  | [.mr _ _], .nil, .nil, [.view id (st :: q)] => some (id, st :: q)
  | _, _, _, _ => none
def callPathK {R : Type} (s : St) (dst : Option Nat) (p : Prim) (id : Nat) (path : List Step) (k : St → Option R) : Option R :=
  match p with
  | ⟨[.mr tid e], [], g⟩ => match s.obj id with
    | some o => bif e.isFlat then getPK o.τ o.x path fun σ y => derefK (castTy σ (.list true tid e) y) fun l => derefK (g (l, ())) fun r =>
        setPK o.τ o.x path (.list true tid e) r.2.1 fun z => k (((s.killIf (AV.stale id o.row)).setObj id (some ⟨o.row, o.τ, z⟩)).setDst dst .nil) else none
    | none => none
  | _ => none

def stepsTo (τ : Ty) (i : Nat) : Option (List Step) :=
  match τ with
  | .str t => bif hasField t i then some (fpath t i) else none
  | _ => none

def fieldAddrK {R : Type} (s : St) (T : Option Ty) (a : AV) (i : Nat) (k : AV → Option R) : Option R :=
  match T with
  | none => none
  | some T => match stepsTo T i with
    | none => none
    | some q => match a with
      | .ref (.str t) x => bif (decide (Ty.str t = T)) then projK t x q fun σ y => k (.ref σ y) else none
      | .ptr id p => match s.obj id with
        | some o => bif o.row && p.isEmpty then none else match tyAt o.τ p with
          | some τ => bif (decide (τ.fz = T)) && !q.isEmpty then k (.ptr id (p ++ q)) else none
          | none => none
        | none => none
      | _ => none

def indexAddrK {R : Type} (s : St) (T : Option Ty) (a : AV) (i : Int) (k : AV → Option R) : Option R :=
  match a with
  | .val (.list o tid e) l => bif (decide (T = some (.list false tid e.fz))) then getI l i fun y => k (.ref e y) else none
  | .ref (.arr n e) l => bif (decide (T = some (.arr n e))) then getI l i fun y => k (.ref e y) else none
  | .view id p => match s.obj id with
    | some o => getPK o.τ o.x p fun σ y => match σ, y with
      | .list own tid e, l => bif own && (decide (T = some (.list false tid e.fz))) then inR i l.length (k (.ptr id (p ++ [.I i]))) else none
      | _, _ => none
    | none => none
  | .ptr id p => match s.obj id with
    | some o => bif o.row && p.isEmpty then none else match tyAt o.τ p with
      | some (.arr n e) => bif (decide (T = some (.arr n e.fz))) then inR i n (k (.ptr id (p ++ [.I i]))) else none
      | _ => none
    | none => none
  | _ => none

def loadK {R : Type} (s : St) (T : Option Ty) (a : AV) (k : AV → Option R) : Option R :=
  match a with
  | .ref σ x => bif (decide (T = some σ)) then k (.val σ x) else none
  | .ptr id p => match s.obj id with
    | some o => bif o.row && p.isEmpty then none else match tyAt o.τ p with
      | some σ => bif (decide (T = some σ.fz)) then (bif σ.isFz then getPK o.τ o.x p fun σ y => k (.val σ y) else k (.view id p)) else none
      | none => none
    | none => none
  | _ => none

/-- Equal paths: their indices must be equal numbers. -/
def pathK {R : Type} : List Step → List Step → Option R → Option R
  | [], [], k => k
  | .L :: p, .L :: q, k => pathK p q k
  | .R :: p, .R :: q, k => pathK p q k
  | .I i :: p, .I j :: q, k => eqK i j (pathK p q k)
  | _, _, _ => none

def storeK {R : Type} (s : St) (T : Option Ty) (a v : AV) (k : St → Option R) : Option R :=
  match a with
  | .ptr id p => match s.obj id with
    | some o => bif o.row && p.isEmpty then none else match tyAt o.τ p with
      | none => none
      | some τ => bif (decide (T = some τ.fz)) then (match v with
        | .upd id' p' tid e l => bif Nat.beq id id' then pathK p p' (setPK o.τ o.x p (.list true tid e) l fun z =>
            k ((s.killIf (AV.stale id o.row)).setObj id (some ⟨o.row, o.τ, z⟩))) else none
        | .view id2 [] => bif Nat.beq id id2 then none else match s.obj id2 with
          | some o2 => bif o2.row then (bif τ.isFz then
              (let s := s.freeze id2
               setPK o.τ o.x p o2.τ.fz (fzVal o2.τ o2.x) fun z => k ((s.killIf (AV.stale id o.row)).setObj id (some ⟨o.row, o.τ, z⟩)))
              else setPK o.τ o.x p o2.τ o2.x fun z => k ((((s.kill id2).killIf (AV.stale id o.row)).setObj id2 none).setObj id (some ⟨o.row, o.τ, z⟩))) else none
          | none => none
        | .val σ y => bif σ.isFz then setPK o.τ o.x p σ y fun z => k ((s.killIf (AV.stale id o.row)).setObj id (some ⟨o.row, o.τ, z⟩)) else none
        | .ref σ y => bif σ.isFz then setPK o.τ o.x p (.ptr σ) (some y) fun z => k ((s.killIf (AV.stale id o.row)).setObj id (some ⟨o.row, o.τ, z⟩)) else none
        | _ => none) else none
    | none => none
  | _ => none

/-- An assignment to a named variable: a pending row is laid down; an empty slice becomes a row of its own. -/
def assignK {R : Type} (s : St) (dst : Option Nat) (x : Operand) (a : AV) (k : St → Option R) : Option R :=
  match x, a with
  | .const _, .val (.list _ tid e) l => match dst with
    | some d => bif e.noFn then k ((s.newObj d true (.list true tid e) l).set d (.view d [])) else none
    | none => none
  | _, .upd id [] tid e l => match s.obj id with
    | some o => bif o.row && Nat.blt id 10000000 then (match castTy o.τ (.list true tid e) o.x with
      | some _ => k (((s.kill id).setObj id (some ⟨true, .list true tid e, l⟩)).setDst dst (.view id []))
      | none => none) else none
    | none => none
  | _, .upd _ _ _ _ _ => none
  | _, a => k (s.setDst dst a)

def sliceK {R : Type} (s : St) (T : Option Ty) (a : AV) (lo hi : Option Int) (k : AV → Option R) : Option R :=
  match a with
  | .val (.list own tid e) l => bif !own && (decide (T = some (.list false tid e))) then (match lo, hi with
      | none, none => k (.val (.list false tid e) l)
      | some i, none => leK 0 i (leK i l.length (k (.val (.list false tid e) (l.drop i.toNat))))
      | none, some j => leK 0 j (leK j l.length (k (.val (.list false tid e) (l.take j.toNat))))
      | some i, some j => leK 0 i (leK i j (leK j l.length (k (.val (.list false tid e) ((l.take j.toNat).drop i.toNat)))))) else none
  | .view id p => match s.obj id with
    | some o => getPK o.τ o.x p fun σ y => match σ, y with
      | .list own tid e, l => bif own && e.isFz && (decide (T = some (.list false tid e))) then (match lo, hi with
        | none, some j => leK 0 j (leK j l.length (k (.upd id p tid e (l.take j.toNat))))
        | _, _ => none) else none
      | _, _ => none
    | none => none
  | _ => none

def appendK {R : Type} (s : St) (T : Option Ty) (dst : Option Nat) (x : Operand) (a b : AV) (k : St → Option R) : Option R :=
  match T with
  | some (.list _ tid e) => bif e.noFn then (match a with
    | .val (.list _ _ _) _ => match x with
      | .const _ => elemsK s b e fun l2 => lenK l2.length (match dst with
          | some d => k ((s.newObj d true (.list true tid e) l2).set d (.view d []))
          | none => none)
      | _ => none
    | .view id p => match s.obj id with
      | some o => getPK o.τ o.x p fun σ y => derefK (castTy σ (.list true tid e) y) fun l =>
          elemsK s b e fun l2 => lenK (l.length + l2.length) (k ((s.killIf (AV.stale id o.row)).setDst dst (.upd id p tid e (l ++ l2))))
      | none => none
    | _ => none) else none
  | _ => none

def extractAV : AV → Nat → Option AV
  | .cons a _, 0 => some a
  | .cons _ b, i + 1 => extractAV b i
  | _, _ => none

def evalAll (s : St) (τ : Nat → Option Ty) : List Operand → Nat → Option (List AV)
  | [], _ => some []
  | x :: r, i => match evalA s (τ i) x, evalAll s τ r (i + 1) with
    | some a, some l => some (a :: l)
    | _, _ => none
def AV.ofList : List AV → AV
  | [] => .nil
  | a :: l => .cons a (ofList l)

def intOf : AV → Option Int
  | .val (.int _) n => some n
  | _ => none
def intOpt (s : St) : Option Operand → Option (Option Int)
  | none => some none
  | some x => match (evalA s none x).bind intOf with
    | some n => some (some n)
    | none => none

def siteTy (cfg : Cfg) (dst : Option Nat) (T : Option Ty) : Option Ty :=
  match dst with
  | some d => match lk cfg.site d with
    | some τ => bif (decide (some τ.fz = T)) then some τ else none
    | none => T
  | none => none

def siteRow (cfg : Cfg) (dst : Option Nat) (T : Option Ty) : Option Ty :=
  match dst with
  | some d => match lk cfg.site d with
    | some τ => some τ
    | none => T
  | none => none

end Go.Vi
