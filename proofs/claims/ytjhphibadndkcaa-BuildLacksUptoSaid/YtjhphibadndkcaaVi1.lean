/- The abstract interpreter 'Vi', first part: types with their denotations, abstract values, states, and the interpreter over the model's Code. No condition: these are definitions and small lemmas over any program. -/
import Derived.WalkKit
import Derived.StillTail
import Derived.Deep.Quiet
import Derived.Laws.MakeOwn
namespace Go.Vi

/-- Types as the interpreter sees them. 'own': the list lies in memory that this object alone owns. -/
inductive Ty where
  | int (k : IntKind)
  | bool
  | list (own : Bool) (tid : Nat) (e : Ty)
  | pair (a b : Ty)
  | str (t : Ty)
  | ptr (t : Ty)
  | arr (n : Nat) (e : Ty)
  | fn (a r : Ty)
  | fn2 (a b r : Ty)
  deriving DecidableEq

@[reducible] def Ty.den : Ty → Type
  | .int _ => Int
  | .bool => Bool
  | .list _ _ e => List e.den
  | .pair a b => a.den × b.den
  | .str t => t.den
  | .ptr t => Option t.den
  | .arr _ e => List e.den
  | .fn a r => a.den → Option r.den
  | .fn2 a b r => a.den → b.den → Option r.den

def Ty.size : Ty → Nat
  | .pair a b => a.size + b.size
  | .str t => t.size
  | .arr n e => n * e.size
  | _ => 1

def Ty.zero : (τ : Ty) → τ.den
  | .int _ => (0 : Int)
  | .bool => false
  | .list _ _ _ => []
  | .pair a b => (a.zero, b.zero)
  | .str t => t.zero
  | .ptr _ => none
  | .arr n e => List.replicate n e.zero
  | .fn _ _ => fun _ => none
  | .fn2 _ _ _ => fun _ _ => none

def Ty.zeroCells : Ty → List Value
  | .int k => [.int k 0]
  | .bool => [.bool false]
  | .list _ _ _ => [.slice none 0 0]
  | .pair a b => a.zeroCells ++ b.zeroCells
  | .str t => t.zeroCells
  | .ptr _ => [.pointer none]
  | .arr n e => (List.replicate n e.zeroCells).flatten
  | .fn _ _ => [.nilFunc]
  | .fn2 _ _ _ => [.nilFunc]

/-- No function inside. -/
def Ty.noFn : Ty → Bool
  | .list _ _ e => e.noFn
  | .pair a b => a.noFn && b.noFn
  | .str t => t.noFn
  | .ptr t => t.noFn
  | .arr _ e => e.noFn
  | .fn _ _ => false
  | .fn2 _ _ _ => false
  | _ => true

/-- No owned list inside. -/
def Ty.isFz : Ty → Bool
  | .list o _ e => !o && e.isFz
  | .pair a b => a.isFz && b.isFz
  | .str t => t.isFz
  | .ptr t => t.isFz
  | .arr _ e => e.isFz
  | .fn a r => a.isFz && r.isFz
  | .fn2 a b r => a.isFz && b.isFz && r.isFz
  | _ => true

/-- Nothing that lies in memory inside: numbers and bools alone. -/
def Ty.isFlat : Ty → Bool
  | .int _ => true
  | .bool => true
  | .pair a b => a.isFlat && b.isFlat
  | .str t => t.isFlat
  | .arr _ e => e.isFlat
  | _ => false

/-- Nothing frozen inside: what it is does not hang on the frozen heap. -/
def Ty.isClosed : Ty → Bool
  | .int _ => true
  | .bool => true
  | .list o _ e => o && e.isClosed
  | .pair a b => a.isClosed && b.isClosed
  | .str t => t.isClosed
  | .arr _ e => e.isClosed
  | _ => false

def Ty.fz : Ty → Ty
  | .list _ t e => .list false t e.fz
  | .pair a b => .pair a.fz b.fz
  | .str t => .str t.fz
  | .ptr t => .ptr t.fz
  | .arr n e => .arr n e.fz
  | .fn a r => .fn a.fz r.fz
  | .fn2 a b r => .fn2 a.fz b.fz r.fz
  | .int k => .int k
  | .bool => .bool

theorem Ty.den_fz : (τ : Ty) → τ.fz.den = τ.den
  | .int _ => rfl
  | .bool => rfl
  | .list _ _ e => by simp only [Ty.fz, Ty.den, Ty.den_fz e]
  | .pair a b => by simp only [Ty.fz, Ty.den, Ty.den_fz a, Ty.den_fz b]
  | .str t => by simp only [Ty.fz, Ty.den, Ty.den_fz t]
  | .ptr t => by simp only [Ty.fz, Ty.den, Ty.den_fz t]
  | .arr _ e => by simp only [Ty.fz, Ty.den, Ty.den_fz e]
  | .fn a r => by simp only [Ty.fz, Ty.den, Ty.den_fz a, Ty.den_fz r]
  | .fn2 a b r => by simp only [Ty.fz, Ty.den, Ty.den_fz a, Ty.den_fz b, Ty.den_fz r]

def Ty.isAgg : Ty → Bool
  | .str _ => true
  | .arr _ _ => true
  | _ => false

def castTy (τ σ : Ty) (x : τ.den) : Option σ.den :=
  if h : τ = σ then some (h ▸ x) else none

/-- The same value at the frozen type. -/
def fzVal (τ : Ty) (x : τ.den) : τ.fz.den := cast (Ty.den_fz τ).symm x

/-! Combinators: the printed functions use the same ones. -/
/-- Whichever of the possible ones it is: the same comes out. -/
noncomputable def dem {ι R : Type} (p : ι → Prop) (k : ι → Option R) : Option R :=
  open Classical in if h : ∃ r, ∀ i, p i → k i = some r then some h.choose else none
theorem dem_some {ι R : Type} {p : ι → Prop} {k : ι → Option R} {r : R} (h : dem p k = some r) (i : ι) (hi : p i) : k i = some r := by
  unfold dem at h
  split at h
  · rename_i hx
    cases h
    exact hx.choose_spec i hi
  · cases h
theorem dem_of {ι R : Type} {p : ι → Prop} {k : ι → Option R} {r : R} (i : ι) (hi : p i) (h : ∀ i, p i → k i = some r) : dem p k = some r := by
  unfold dem
  have hx : ∃ r, ∀ i, p i → k i = some r := ⟨r, h⟩
  rw [dif_pos hx]
  have := hx.choose_spec i hi
  rw [h i hi] at this
  exact this.symm
/-- All of them are the same. -/
noncomputable def agreeK {R : Type} (l : List (Option R)) : Option R := dem (fun x : Option R => x ∈ l) fun x => x
theorem agreeK_some {R : Type} {l : List (Option R)} {r : R} (h : agreeK l = some r) : ∀ x ∈ l, x = some r := fun x hx => dem_some h x hx
theorem agreeK_of {R : Type} {x : Option R} {r : R} {l : List (Option R)} (h : ∀ y ∈ x :: l, y = some r) : agreeK (x :: l) = some r := dem_of x (List.mem_cons_self ..) fun i hi => h i hi
/-- Is a slice of n elements nil? Where it has some, no. -/
noncomputable def nilK {R : Type} (n : Nat) (k : Bool → Option R) : Option R := bif Nat.beq n 0 then dem (fun _ : Bool => True) k else k false
def getI {α R : Type} (l : List α) (i : Int) (k : α → Option R) : Option R :=
  if 0 ≤ i then (match l[i.toNat]? with | some x => k x | none => none) else none
def inR {R : Type} (i : Int) (n : Nat) (k : Option R) : Option R := if 0 ≤ i ∧ i < n then k else none
def derefK {α R : Type} (o : Option α) (k : α → Option R) : Option R := match o with | some x => k x | none => none
/-- a length that an append or a make may have -/
def lenOK : Int → Bool
  | .ofNat m => Nat.ble m 549755813888
  | .negSucc _ => false
def lenK {R : Type} (n : Int) (k : Option R) : Option R := bif lenOK n then k else none
theorem lenOK_iff {n : Int} : lenOK n = true ↔ 0 ≤ n ∧ n ≤ 549755813888 := by
  cases n with
  | ofNat m =>
    show Nat.ble m 549755813888 = true ↔ _
    rw [Nat.ble_eq]
    constructor
    · intro h; exact ⟨Int.natCast_nonneg m, by show ((m : Nat) : Int) ≤ 549755813888; omega⟩
    · rintro ⟨_, h⟩; have h' : ((m : Nat) : Int) ≤ 549755813888 := h; omega
  | negSucc m =>
    constructor
    · intro h; cases h
    · rintro ⟨h, _⟩; exact absurd h (by simp)
theorem lenK_eq {R : Type} (n : Int) (k : Option R) : lenK n k = if 0 ≤ n ∧ n ≤ 549755813888 then k else none := by
  unfold lenK
  cases h : lenOK n with
  | true => rw [if_pos (lenOK_iff.1 h)]; rfl
  | false => rw [if_neg (fun hh => by rw [lenOK_iff.2 hh] at h; cases h)]; rfl
def leK {R : Type} (a b : Int) (k : Option R) : Option R := if a ≤ b then k else none
def eqK {R : Type} (a b : Int) (k : Option R) : Option R := if a = b then k else none
def nzK {R : Type} (a : Int) (k : Option R) : Option R := if a = 0 then none else k

inductive Step where
  | L | R
  | I (i : Int)

/-- Abstract values. 'val': a value that reads as x (frozen or flat). 'ref': a pointer to frozen memory that reads as x. 'ptr': a pointer to a place in an object. 'view': the value that lies there now. 'upd': a slice that would make the row there read as l, once it is laid there. 'fn': a function value with what it captured. 'cons', 'nil': tuples. 'agg': a struct in the making. 'dead': nothing is known. -/
inductive AV where
  | dead
  | val (τ : Ty) (x : τ.den)
  | ref (τ : Ty) (x : τ.den)
  | ptr (id : Nat) (p : List Step)
  | view (id : Nat) (p : List Step)
  | upd (id : Nat) (p : List Step) (tid : Nat) (e : Ty) (l : List e.den)
  | fn (f : Nat) (first caps : AV)
  | nil
  | cons (a b : AV)

/-- An object: 'row': a slice that a temporary holds and that owns its memory (τ is an owned list); else a variable in memory. -/
structure Obj where
  row : Bool
  τ : Ty
  x : τ.den

/-- A map from integers to integers that the call has made: its key's and element's type; the temporaries that hold it; its entries; an iterator over it: the temporaries that hold it, the keys still to come; the entry that has just come. -/
structure Ms where
  kt : Nat
  vt : Nat
  tm : List Nat
  kv : List (Int × Int)
  it : Option (List Nat × List Int)
  cur : Option (Int × Int)

def dropN (t : Nat) : List Nat → List Nat
  | [] => []
  | u :: r => bif Nat.beq u t then dropN t r else u :: dropN t r
def hasT (t : Nat) : List Nat → Bool
  | [] => false
  | u :: r => Nat.beq u t || hasT t r
def Ms.strike (m : Ms) (d : Option Nat) : Ms :=
  match d with
  | none => m
  | some t => ⟨m.kt, m.vt, dropN t m.tm, m.kv, m.it.map fun x => (dropN t x.1, x.2), m.cur⟩
def Ms.calm (m : Ms) : Ms := ⟨m.kt, m.vt, m.tm, m.kv, m.it, none⟩
def Ms.add (m : Ms) (d : Option Nat) : Ms :=
  match d with
  | none => m
  | some t => ⟨m.kt, m.vt, t :: m.tm, m.kv, m.it, m.cur⟩
def lkI : List (Int × Int) → Int → Option Int
  | [], _ => none
  | (n, v) :: r, k => bif n == k then some v else lkI r k
def putI : List (Int × Int) → Int → Int → List (Int × Int)
  | [], k, v => [(k, v)]
  | (n, u) :: r, k, v => bif n == k then (k, v) :: r else (n, u) :: putI r k v
def delI : List (Int × Int) → Int → List (Int × Int)
  | [], _ => []
  | (n, u) :: r, k => bif n == k then r else (n, u) :: delI r k
def dropI (k : Int) : List Int → List Int
  | [] => []
  | n :: r => bif n == k then dropI k r else n :: dropI k r

structure St where
  ts : List (Nat × AV)
  os : List (Nat × Option Obj)
  mp : Option Ms := none
def St.withM (s : St) (m : Option Ms) : St := ⟨s.ts, s.os, m⟩

def lk {α : Type} : List (Nat × α) → Nat → Option α
  | [], _ => none
  | (m, a) :: r, n => bif Nat.beq m n then some a else lk r n

def St.get (s : St) (t : Nat) : Option AV := lk s.ts t
def St.set (s : St) (t : Nat) (a : AV) : St := { s with ts := (t, a) :: s.ts }
def St.obj (s : St) (id : Nat) : Option Obj := (lk s.os id).join
def St.setObj (s : St) (id : Nat) (o : Option Obj) : St := { s with os := (id, o) :: s.os }
def St.setDst (s : St) (d : Option Nat) (a : AV) : St := match d with | some t => s.set t a | none => s

/-- Strike what speaks of an object. -/
def AV.killIf (f : AV → Bool) : AV → AV
  | .cons a b => .cons (a.killIf f) (b.killIf f)
  | .fn g b c => .fn g (b.killIf f) (c.killIf f)
  | a => bif f a then .dead else a

def AV.isUpd : AV → Bool
  | .upd _ _ _ _ _ => true
  | _ => false

/-- What names an object; and all that is pending. -/
def AV.names (id : Nat) : AV → Bool
  | .ptr i _ => Nat.beq i id
  | .view i _ => Nat.beq i id
  | .upd _ _ _ _ _ => true
  | _ => false

def St.killIf (s : St) (f : AV → Bool) : St := { s with ts := s.ts.map fun x => (x.1, x.2.killIf f) }
def St.kill (s : St) (id : Nat) : St := s.killIf (AV.names id)

def Step.isI : Step → Bool
  | .I _ => true
  | _ => false

/-- Behind a store into an object: of what names it only pointers without an index in their path stay, and a row's own name; and nothing that is pending. -/
def AV.stale (id : Nat) (row : Bool) : AV → Bool
  | .view i p => Nat.beq i id && !(row && p.isEmpty)
  | .ptr i p => Nat.beq i id && p.any Step.isI
  | .upd _ _ _ _ _ => true
  | _ => false

/-- The type at a path. -/
def tyAt : Ty → List Step → Option Ty
  | .pair a b, p => match p with
    | [] => some (.pair a b)
    | .L :: q => tyAt a q
    | .R :: q => tyAt b q
    | _ => none
  | .str t, p => match p with
    | [] => some (.str t)
    | s :: q => tyAt t (s :: q)
  | .list true tid e, p => match p with
    | [] => some (.list true tid e)
    | .I _ :: q => tyAt e q
    | _ => none
  | .arr n e, p => match p with
    | [] => some (.arr n e)
    | .I _ :: q => tyAt e q
    | _ => none
  | t, p => match p with
    | [] => some t
    | _ => none

def getPK {R : Type} : (τ : Ty) → τ.den → List Step → ((σ : Ty) → σ.den → Option R) → Option R
  | .pair a b, x, p, k => match p with
    | [] => k (.pair a b) x
    | .L :: q => getPK a x.1 q k
    | .R :: q => getPK b x.2 q k
    | _ => none
  | .str t, x, p, k => match p with
    | [] => k (.str t) x
    | s :: q => getPK t x (s :: q) k
  | .list true tid e, x, p, k => match p with
    | [] => k (.list true tid e) x
    | .I i :: q => getI x i fun y => getPK e y q k
    | _ => none
  | .arr n e, x, p, k => match p with
    | [] => k (.arr n e) x
    | .I i :: q => getI x i fun y => getPK e y q k
    | _ => none
  | t, x, p, k => match p with
    | [] => k t x
    | _ => none

def setPK {R : Type} : (τ : Ty) → τ.den → List Step → (σ : Ty) → σ.den → (τ.den → Option R) → Option R
  | .pair a b, x, p, σ, y, k => match p with
    | [] => derefK (castTy σ (.pair a b) y) k
    | .L :: q => setPK a x.1 q σ y fun z => k (z, x.2)
    | .R :: q => setPK b x.2 q σ y fun z => k (x.1, z)
    | _ => none
  | .str t, x, p, σ, y, k => match p with
    | [] => derefK (castTy σ (.str t) y) k
    | s :: q => setPK t x (s :: q) σ y k
  | .list true tid e, x, p, σ, y, k => match p with
    | [] => derefK (castTy σ (.list true tid e) y) k
    | .I i :: q => getI x i fun z => setPK e z q σ y fun z' => k (x.set i.toNat z')
    | _ => none
  | .arr n e, x, p, σ, y, k => match p with
    | [] => derefK (castTy σ (.arr n e) y) k
    | .I i :: q => getI x i fun z => setPK e z q σ y fun z' => k (x.set i.toNat z')
    | _ => none
  | t, _, p, σ, y, k => match p with
    | [] => derefK (castTy σ t y) k
    | _ => none

/-- The path of a struct's field number i (s: the fields, paired). -/
def fpath : Ty → Nat → List Step
  | .pair _ _, 0 => [.L]
  | .pair _ b, i + 1 => .R :: fpath b i
  | _, _ => []
/-- is there such a field -/
def hasField : Ty → Nat → Bool
  | .pair _ _, 0 => true
  | .pair _ b, i + 1 => hasField b i
  | _, i => Nat.beq i 0

/-- A frozen value's part: paths of pairs alone. -/
def projK {R : Type} : (τ : Ty) → τ.den → List Step → ((σ : Ty) → σ.den → Option R) → Option R
  | .pair a b, x, p, k => match p with
    | [] => k (.pair a b) x
    | .L :: q => projK a x.1 q k
    | .R :: q => projK b x.2 q k
    | _ => none
  | t, x, p, k => match p with
    | [] => k t x
    | _ => none

end Go.Vi
