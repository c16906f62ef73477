/- The abstract interpreter Vi, part A: a verified interpreter over the model's code, whose run of a function gives the contract of the function. No condition beyond those typed in each theorem. -/
import Derived.WalkKit
import Derived.StillTail
import Derived.Deep.Quiet
import Derived.Laws.MakeOwn
import Derived.DeepKeys
import Derived.Laws.StructEq
import Derived.Laws.IdiomCopy
import Derived.Laws.CopyRow
import Derived.OrdersHeld
namespace Go.Vi
inductive Ty where
 | int (k : IntKind)
 | bool
 | list (own : Bool) (tid : Nat) (e : Ty)
 | pair (a b : Ty)
 | str (t : Ty)
 | ptr (t : Ty)
 | arr (n : Nat) (e : Ty)
 | fn (a r : Ty)
 | fn2 (a b r : Ty)
 deriving DecidableEq
@[reducible] def Ty.den : Ty → Type
 | .int _ => Int
 | .bool => Bool
 | .list _ _ e => List e.den
 | .pair a b => a.den × b.den
 | .str t => t.den
 | .ptr t => Option t.den
 | .arr _ e => List e.den
 | .fn a r => a.den → Option r.den
 | .fn2 a b r => a.den → b.den → Option r.den
def Ty.size : Ty → Nat
 | .pair a b => a.size + b.size
 | .str t => t.size
 | .arr n e => n * e.size
 | _ => 1
def Ty.zero : (τ : Ty) → τ.den
 | .int _ => (0 : Int)
 | .bool => false
 | .list _ _ _ => []
 | .pair a b => (a.zero, b.zero)
 | .str t => t.zero
 | .ptr _ => none
 | .arr n e => List.replicate n e.zero
 | .fn _ _ => fun _ => none
 | .fn2 _ _ _ => fun _ _ => none
def Ty.zeroCells : Ty → List Value
 | .int k => [.int k 0]
 | .bool => [.bool false]
 | .list _ _ _ => [.slice none 0 0]
 | .pair a b => a.zeroCells ++ b.zeroCells
 | .str t => t.zeroCells
 | .ptr _ => [.pointer none]
 | .arr n e => (List.replicate n e.zeroCells).flatten
 | .fn _ _ => [.nilFunc]
 | .fn2 _ _ _ => [.nilFunc]
def Ty.noFn : Ty → Bool
 | .list _ _ e => e.noFn
 | .pair a b => a.noFn && b.noFn
 | .str t => t.noFn
 | .ptr t => t.noFn
 | .arr _ e => e.noFn
 | .fn _ _ => false
 | .fn2 _ _ _ => false
 | _ => true
def Ty.isFz : Ty → Bool
 | .list o _ e => !o && e.isFz
 | .pair a b => a.isFz && b.isFz
 | .str t => t.isFz
 | .ptr t => t.isFz
 | .arr _ e => e.isFz
 | .fn a r => a.isFz && r.isFz
 | .fn2 a b r => a.isFz && b.isFz && r.isFz
 | _ => true
def Ty.isFlat : Ty → Bool
 | .int _ => true
 | .bool => true
 | .pair a b => a.isFlat && b.isFlat
 | .str t => t.isFlat
 | .arr _ e => e.isFlat
 | _ => false
def Ty.isClosed : Ty → Bool
 | .int _ => true
 | .bool => true
 | .list o _ e => o && e.isClosed
 | .pair a b => a.isClosed && b.isClosed
 | .str t => t.isClosed
 | .arr _ e => e.isClosed
 | _ => false
def Ty.fz : Ty → Ty
 | .list _ t e => .list false t e.fz
 | .pair a b => .pair a.fz b.fz
 | .str t => .str t.fz
 | .ptr t => .ptr t.fz
 | .arr n e => .arr n e.fz
 | .fn a r => .fn a.fz r.fz
 | .fn2 a b r => .fn2 a.fz b.fz r.fz
 | .int k => .int k
 | .bool => .bool
theorem Ty.den_fz : (τ : Ty) → τ.fz.den = τ.den
 | .int _ => rfl
 | .bool => rfl
 | .list _ _ e => by simp only [Ty.fz, Ty.den, Ty.den_fz e]
 | .pair a b => by simp only [Ty.fz, Ty.den, Ty.den_fz a, Ty.den_fz b]
 | .str t => by simp only [Ty.fz, Ty.den, Ty.den_fz t]
 | .ptr t => by simp only [Ty.fz, Ty.den, Ty.den_fz t]
 | .arr _ e => by simp only [Ty.fz, Ty.den, Ty.den_fz e]
 | .fn a r => by simp only [Ty.fz, Ty.den, Ty.den_fz a, Ty.den_fz r]
 | .fn2 a b r => by simp only [Ty.fz, Ty.den, Ty.den_fz a, Ty.den_fz b, Ty.den_fz r]
def Ty.isAgg : Ty → Bool
 | .str _ => true
 | .arr _ _ => true
 | _ => false
def qL (τ σ : Ty) (x : τ.den) : Option σ.den :=
 if h : τ = σ then some (h ▸ x) else none
def qf6 (τ : Ty) (x : τ.den) : τ.fz.den := cast (Ty.den_fz τ).symm x
noncomputable def dem {ι R : Type} (p : ι → Prop) (k : ι → Option R) : Option R :=
 open Classical in if h : ∃ r, ∀ i, p i → k i = some r then some h.choose else none
theorem qho {ι R : Type} {p : ι → Prop} {k : ι → Option R} {r : R} (h : dem p k = some r) (i : ι) (hi : p i) : k i = some r := by
 unfold dem at h
 split at h
 ·rename_i hx
  cases h
  exact hx.choose_spec i hi
 ·cases h
theorem dem_of {ι R : Type} {p : ι → Prop} {k : ι → Option R} {r : R} (i : ι) (hi : p i) (h : ∀ i, p i → k i = some r) : dem p k = some r := by
 unfold dem
 have hx : ∃ r, ∀ i, p i → k i = some r := ⟨r, h⟩
 rw [dif_pos hx]
 have := hx.choose_spec i hi
 rw [h i hi] at this
 exact this.symm
noncomputable def jC {R : Type} (l : List (Option R)) : Option R := dem (fun x : Option R => x ∈ l) fun x => x
theorem qgc {R : Type} {l : List (Option R)} {r : R} (h : jC l = some r) : ∀ x ∈ l, x = some r := fun x hx => qho h x hx
theorem qlP {R : Type} {x : Option R} {r : R} {l : List (Option R)} (h : ∀ y ∈ x :: l, y = some r) : jC (x :: l) = some r := dem_of x (List.mem_cons_self ..) fun i hi => h i hi
noncomputable def nilK {R : Type} (n : Nat) (k : Bool → Option R) : Option R := bif Nat.beq n 0 then dem (fun _ : Bool => True) k else k false
def qi {α R : Type} (l : List α) (i : Int) (k : α → Option R) : Option R :=
 if 0 ≤ i then (match l[i.toNat]? with | some x => k x | none => none) else none
def jS {R : Type} (i : Int) (n : Nat) (k : Option R) : Option R := if 0 ≤ i ∧ i < n then k else none
def qa {α R : Type} (o : Option α) (k : α → Option R) : Option R := match o with | some x => k x | none => none
def lenOK : Int → Bool
 | .ofNat m => Nat.ble m 274877906944
 | .negSucc _ => false
def jE {R : Type} (n : Int) (k : Option R) : Option R := bif lenOK n then k else none
theorem qib {n : Int} : lenOK n = true ↔ 0 ≤ n ∧ n ≤ 274877906944 := by
 cases n with
 | ofNat m =>
  show Nat.ble m 274877906944 = true ↔ _
  rw [Nat.ble_eq]
  constructor
  ·intro h; exact ⟨Int.natCast_nonneg m, by show ((m : Nat) : Int) ≤ 274877906944; omega⟩
  ·rintro ⟨_, h⟩; have h' : ((m : Nat) : Int) ≤ 274877906944 := h; omega
 | negSucc m =>
  constructor
  ·intro h; cases h
  ·rintro ⟨h, _⟩; exact absurd h (by simp)
theorem qgp {R : Type} (n : Int) (k : Option R) : jE n k = if 0 ≤ n ∧ n ≤ 274877906944 then k else none := by
 unfold jE
 cases h : lenOK n with
 | true => rw [if_pos (qib.1 h)]; rfl
 | false => rw [if_neg (fun hh => by rw [qib.2 hh] at h; cases h)]; rfl
def leK {R : Type} (a b : Int) (k : Option R) : Option R := if a ≤ b then k else none
def eqK {R : Type} (a b : Int) (k : Option R) : Option R := if a = b then k else none
def nzK {R : Type} (a : Int) (k : Option R) : Option R := if a = 0 then none else k
inductive qJ where
 | L | R
 | I (i : Int)
inductive AV where
 | dead
 | val (τ : Ty) (x : τ.den)
 | ref (τ : Ty) (x : τ.den)
 | ptr (id : Nat) (p : List qJ)
 | view (id : Nat) (p : List qJ)
 | upd (id : Nat) (p : List qJ) (tid : Nat) (e : Ty) (l : List e.den)
 | cut (id : Nat) (sz : Nat) (lo : Int)
 | fn (f : Nat) (first caps : AV)
 | nil
 | cons (a b : AV)
 | gh (n : Nat) (a : AV)
 | cv (i f n : Nat)
structure Obj where
 row : Bool
 τ : Ty
 x : τ.den
structure Ms where
 kt : Nat
 vt : Nat
 tm : List Nat
 kv : List (Int × Int)
 it : Option (List Nat × List Int)
 cur : Option (Int × Int)
def qfh (t : Nat) : List Nat → List Nat
 | [] => []
 | u :: r => bif Nat.beq u t then qfh t r else u :: qfh t r
def ghId : Nat := 3000000
def qde (t : Nat) : List Nat → Bool
 | [] => false
 | u :: r => Nat.beq u t || qde t r
def Ms.strike (m : Ms) (d : Option Nat) : Ms :=
 match d with
 | none => m
 | some t => ⟨m.kt, m.vt, qfh t m.tm, m.kv, m.it.map fun x => (qfh t x.1, x.2), m.cur⟩
def Ms.calm (m : Ms) : Ms := ⟨m.kt, m.vt, m.tm, m.kv, m.it, none⟩
def Ms.add (m : Ms) (d : Option Nat) : Ms :=
 match d with
 | none => m
 | some t => ⟨m.kt, m.vt, t :: m.tm, m.kv, m.it, m.cur⟩
def lkI : List (Int × Int) → Int → Option Int
 | [], _ => none
 | (n, v) :: r, k => bif n == k then some v else lkI r k
def qdO : List (Int × Int) → Int → Int → List (Int × Int)
 | [], k, v => [(k, v)]
 | (n, u) :: r, k, v => bif n == k then (k, v) :: r else (n, u) :: qdO r k v
def qhq : List (Int × Int) → Int → List (Int × Int)
 | [], _ => []
 | (n, u) :: r, k => bif n == k then r else (n, u) :: qhq r k
def qhn (k : Int) : List Int → List Int
 | [] => []
 | n :: r => bif n == k then qhn k r else n :: qhn k r
structure St where
 ts : List (Nat × AV)
 os : List (Nat × Option Obj)
 mp : Option Ms := none
def St.withM (s : St) (m : Option Ms) : St := ⟨s.ts, s.os, m⟩
def lk {α : Type} : List (Nat × α) → Nat → Option α
 | [], _ => none
 | (m, a) :: r, n => bif Nat.beq m n then some a else lk r n
def St.get (s : St) (t : Nat) : Option AV := lk s.ts t
def St.set (s : St) (t : Nat) (a : AV) : St := { s with ts := (t, a) :: s.ts }
def St.obj (s : St) (id : Nat) : Option Obj := (lk s.os id).join
def St.setObj (s : St) (id : Nat) (o : Option Obj) : St := { s with os := (id, o) :: s.os }
def St.setDst (s : St) (d : Option Nat) (a : AV) : St := match d with | some t => s.set t a | none => s
def AV.killIf (f : AV → Bool) : AV → AV
 | .cons a b => .cons (a.killIf f) (b.killIf f)
 | .fn g b c => .fn g (b.killIf f) (c.killIf f)
 | .cut i z lo => bif f (.view i []) then .dead else .cut i z lo
 | .gh n a => .gh n (a.killIf f)
 | a => bif f a then .dead else a
def AV.isUpd : AV → Bool
 | .upd _ _ _ _ _ => true
 | _ => false
def AV.names (id : Nat) : AV → Bool
 | .ptr i _ => Nat.beq i id
 | .view i _ => Nat.beq i id
 | .upd _ _ _ _ _ => true
 | _ => false
def St.killIf (s : St) (f : AV → Bool) : St := { s with ts := s.ts.map fun x => (x.1, x.2.killIf f) }
def St.kill (s : St) (id : Nat) : St := s.killIf (AV.names id)
def qJ.isI : qJ → Bool
 | .I _ => true
 | _ => false
def AV.stale (id : Nat) (row : Bool) : AV → Bool
 | .view i p => Nat.beq i id && !(row && p.isEmpty)
 | .ptr i p => Nat.beq i id && p.any qJ.isI
 | .upd _ _ _ _ _ => true
 | _ => false
def AV.staleV (id : Nat) (row : Bool) : AV → Bool
 | .view i q => Nat.beq i id && (!(row && q.isEmpty) && (row || q.any qJ.isI))
 | .ptr i p => Nat.beq i id && p.any qJ.isI
 | .upd _ _ _ _ _ => true
 | _ => false
def jH : List qJ → List qJ → Bool
 | .L :: p, .L :: q => jH p q
 | .R :: p, .R :: q => jH p q
 | .L :: _, .R :: q => !q.any qJ.isI
 | .R :: _, .L :: q => !q.any qJ.isI
 | _, _ => false
def qdo : Ty → List qJ → Bool
 | .pair a b, p => match p with
  | .L :: p => qdo a p
  | .R :: p => qdo b p
  | _ => false
 | .str t, p => qdo t p
 | .list true _ _, p => match p with
  | .I _ :: _ => true
  | _ => false
 | _, _ => false
def qb7 : Ty → List qJ → Option Ty
 | .pair a b, p => match p with
  | [] => some (.pair a b)
  | .L :: q => qb7 a q
  | .R :: q => qb7 b q
  | _ => none
 | .str t, p => match p with
  | [] => some (.str t)
  | s :: q => qb7 t (s :: q)
 | .list true tid e, p => match p with
  | [] => some (.list true tid e)
  | .I _ :: q => qb7 e q
  | _ => none
 | .arr n e, p => match p with
  | [] => some (.arr n e)
  | .I _ :: q => qb7 e q
  | _ => none
 | t, p => match p with
  | [] => some t
  | _ => none
def Ty.isBare : Ty → Bool
 | .int _ => true
 | .bool => true
 | .pair a b => a.isBare && b.isBare
 | .str t => t.isBare
 | _ => false
def bareAt (τ : Ty) (p : List qJ) : Bool := match qb7 τ p with
 | some σ => σ.isBare
 | none => false
def AV.staleP (id : Nat) (row : Bool) (τ : Ty) (p : List qJ) : AV → Bool
 | .view i q => Nat.beq i id && (!(row && q.isEmpty) && (row || !(jH p q || (qdo τ p && !q.any qJ.isI))))
 | .ptr i q => Nat.beq i id && (q.any qJ.isI && !bareAt τ p)
 | .upd _ _ _ _ _ => true
 | _ => false
def qbH {R : Type} : (τ : Ty) → τ.den → List qJ → ((σ : Ty) → σ.den → Option R) → Option R
 | .pair a b, x, p, k => match p with
  | [] => k (.pair a b) x
  | .L :: q => qbH a x.1 q k
  | .R :: q => qbH b x.2 q k
  | _ => none
 | .str t, x, p, k => match p with
  | [] => k (.str t) x
  | s :: q => qbH t x (s :: q) k
 | .list true tid e, x, p, k => match p with
  | [] => k (.list true tid e) x
  | .I i :: q => qi x i fun y => qbH e y q k
  | _ => none
 | .arr n e, x, p, k => match p with
  | [] => k (.arr n e) x
  | .I i :: q => qi x i fun y => qbH e y q k
  | _ => none
 | t, x, p, k => match p with
  | [] => k t x
  | _ => none
def qbw {R : Type} : (τ : Ty) → τ.den → List qJ → (σ : Ty) → σ.den → (τ.den → Option R) → Option R
 | .pair a b, x, p, σ, y, k => match p with
  | [] => qa (qL σ (.pair a b) y) k
  | .L :: q => qbw a x.1 q σ y fun z => k (z, x.2)
  | .R :: q => qbw b x.2 q σ y fun z => k (x.1, z)
  | _ => none
 | .str t, x, p, σ, y, k => match p with
  | [] => qa (qL σ (.str t) y) k
  | s :: q => qbw t x (s :: q) σ y k
 | .list true tid e, x, p, σ, y, k => match p with
  | [] => qa (qL σ (.list true tid e) y) k
  | .I i :: q => qi x i fun z => qbw e z q σ y fun z' => k (x.set i.toNat z')
  | _ => none
 | .arr n e, x, p, σ, y, k => match p with
  | [] => qa (qL σ (.arr n e) y) k
  | .I i :: q => qi x i fun z => qbw e z q σ y fun z' => k (x.set i.toNat z')
  | _ => none
 | t, _, p, σ, y, k => match p with
  | [] => qa (qL σ t y) k
  | _ => none
def qbk : Ty → Nat → List qJ
 | .pair _ _, 0 => [.L]
 | .pair _ b, i + 1 => .R :: qbk b i
 | _, _ => []
def qaw : Ty → Nat → Bool
 | .pair _ _, 0 => true
 | .pair _ b, i + 1 => qaw b i
 | _, i => Nat.beq i 0
def qh2 {R : Type} : (τ : Ty) → τ.den → List qJ → ((σ : Ty) → σ.den → Option R) → Option R
 | .pair a b, x, p, k => match p with
  | [] => k (.pair a b) x
  | .L :: q => qh2 a x.1 q k
  | .R :: q => qh2 b x.2 q k
  | _ => none
 | t, x, p, k => match p with
  | [] => k t x
  | _ => none
end Go.Vi
namespace Go.Vi
inductive jL where
 | v (τ : Ty)
 | r (τ : Ty)
 | m (τ : Ty)
 | mr (tid : Nat) (e : Ty)
 | c (f : Nat)
 | t (tid : Nat) (e : Ty)
 | gm (τ : Ty)
 | cm (f : Nat) (τ : Ty)
def qeA : Ty → Bool
 | .list true _ _ => true
 | .str _ => true
 | _ => false
inductive RTy where
 | v (τ : Ty)
 | own (tid : Nat) (e : Ty)
 | optr (τ : Ty)
 | ownv (τ : Ty)
 | sure (nn : Bool) (tid : Nat) (e : Ty)
@[reducible] def jL.den : jL → Type
 | .v τ => τ.den
 | .r τ => τ.den
 | .c _ => Unit
 | .m τ => τ.den
 | .mr _ e => List e.den
 | .t _ e => List e.den
 | .gm τ => τ.den
 | .cm _ τ => τ.den
@[reducible] def RTy.den : RTy → Type
 | .v τ => τ.den
 | .own _ e => List e.den
 | .optr τ => τ.den
 | .ownv τ => τ.den
 | .sure _ _ e => List e.den
@[reducible] def PDens : List jL → Type
 | [] => Unit
 | p :: ps => p.den × PDens ps
@[reducible] def RDens : List RTy → Type
 | [] => Unit
 | p :: ps => p.den × RDens ps
@[reducible] def MDens : List jL → Type
 | [] => Unit
 | .m τ :: ps => τ.den × MDens ps
 | .mr _ e :: ps => List e.den × MDens ps
 | .v _ :: ps => MDens ps
 | .r _ :: ps => MDens ps
 | .c _ :: ps => MDens ps
 | .t _ _ :: ps => MDens ps
 | .gm _ :: ps => MDens ps
 | .cm _ τ :: ps => τ.den × MDens ps
structure qE where
 ps : List jL
 rs : List RTy
 g : PDens ps → Option (RDens rs × MDens ps)
structure qdn where
 p : qE
 f : Nat
def jL.closed : jL → Bool
 | .m τ => τ.isClosed
 | .mr _ e => e.isFlat
 | .t _ e => e.isFlat
 | .gm τ => τ.isClosed
 | .cm _ τ => τ.isClosed
 | _ => true
def RTy.closed : RTy → Bool
 | .v τ => τ.isFlat
 | .own _ e => e.isFlat
 | .optr τ => τ.isClosed
 | .ownv τ => τ.isClosed
 | .sure _ _ e => e.isFlat
inductive Sh where
 | v (τ : Ty)
 | r (τ : Ty)
 | c (a : AV)
 | k (g i : Nat) (τ : Ty)
structure MSh where
 kt : Nat
 vt : Nat
 tm : List Nat
 ti : Option (List Nat)
structure qeS where
 ts : List (Nat × Sh)
 os : List (Nat × Bool × Ty)
 mp : Option MSh
@[reducible] def TDen : List (Nat × Sh) → Type
 | [] => Unit
 | (_, .v τ) :: r => τ.den × TDen r
 | (_, .r τ) :: r => τ.den × TDen r
 | (_, .c _) :: r => TDen r
 | (_, .k _ _ τ) :: r => τ.den × TDen r
@[reducible] def ODen : List (Nat × Bool × Ty) → Type
 | [] => Unit
 | (_, _, τ) :: r => τ.den × ODen r
@[reducible] def KDen : Option MSh → Type
 | none => Unit
 | some ⟨_, _, _, none⟩ => List (Int × Int)
 | some ⟨_, _, _, some _⟩ => List (Int × Int) × List Int
@[reducible] def qeS.Den (sk : qeS) : Type := TDen sk.ts × ODen sk.os × KDen sk.mp
def qeE : (l : List (Nat × Sh)) → TDen l → List (Nat × AV)
 | [], _ => []
 | (t, .v τ) :: r, d => (t, .val τ d.1) :: qeE r d.2
 | (t, .r τ) :: r, d => (t, .ref τ d.1) :: qeE r d.2
 | (t, .c a) :: r, d => (t, a) :: qeE r d
 | (t, .k g i τ) :: r, d => (t, .fn g .nil (.cons (.ptr i []) (.cons (.ref τ d.1) .nil))) :: qeE r d.2
def qjT : (l : List (Nat × Bool × Ty)) → ODen l → List (Nat × Option Obj)
 | [], _ => []
 | (i, b, τ) :: r, d => (i, some ⟨b, τ, d.1⟩) :: qjT r d.2
def fillK : (m : Option MSh) → KDen m → Option Ms
 | none, _ => none
 | some ⟨kt, vt, tm, none⟩, d => some ⟨kt, vt, tm, d, none, none⟩
 | some ⟨kt, vt, tm, some ti⟩, d => some ⟨kt, vt, tm, d.1, some (ti, d.2), none⟩
def qeS.fill (sk : qeS) (d : sk.Den) : St := ⟨qeE sk.ts d.1, qjT sk.os d.2.1, fillK sk.mp d.2.2⟩
def qJ.same : qJ → qJ → Bool
 | .L, .L => true
 | .R, .R => true
 | _, _ => false
def qW : List qJ → List qJ → Bool
 | [], [] => true
 | a :: p, b :: q => a.same b && qW p q
 | _, _ => false
def AV.same : AV → AV → Bool
 | .dead, _ => true
 | .ptr i p, .ptr j q => Nat.beq i j && qW p q
 | .view i p, .view j q => Nat.beq i j && qW p q
 | .fn f a b, .fn g c d => Nat.beq f g && a.same c && b.same d
 | .nil, .nil => true
 | .cons a b, .cons c d => a.same c && b.same d
 | .gh n a, .gh m b => Nat.beq n m && a.same b
 | .cv i f n, .cv j g m => Nat.beq i j && (Nat.beq f g && Nat.beq n m)
 | _, _ => false
def getT (s : St) : (l : List (Nat × Sh)) → Option (TDen l)
 | [] => some ()
 | (t, .v τ) :: r => match s.get t with
  | some (.val σ x) => match qL σ τ x, getT s r with
   | some y, some d => some (y, d)
   | _, _ => none
  | _ => none
 | (t, .r τ) :: r => match s.get t with
  | some (.ref σ x) => match qL σ τ x, getT s r with
   | some y, some d => some (y, d)
   | _, _ => none
  | _ => none
 | (t, .c a) :: r => match s.get t with
  | some b => bif a.same b then getT s r else none
  | none => none
 | (t, .k g i τ) :: r => match s.get t with
  | some (.fn f .nil (.cons (.ptr j []) (.cons (.ref σ x) .nil))) => bif Nat.beq f g && Nat.beq j i then (match qL σ τ x, getT s r with
   | some y, some d => some (y, d)
   | _, _ => none) else none
  | _ => none
def getO (s : St) : (l : List (Nat × Bool × Ty)) → Option (ODen l)
 | [] => some ()
 | (i, b, τ) :: r => match s.obj i with
  | some o => bif (o.row == b) then (match qL o.τ τ o.x, getO s r with
   | some y, some d => some (y, d)
   | _, _ => none) else none
  | none => none
def AV.within (os : List (Nat × Bool × Ty)) : AV → Bool
 | .ptr i _ => (lk os i).isSome
 | .view i _ => (lk os i).isSome
 | .upd _ _ _ _ _ => false
 | .cut _ _ _ => false
 | .fn _ a b => a.within os && b.within os
 | .cons a b => a.within os && b.within os
 | .gh _ a => a.within os
 | _ => true
def Sh.within (os : List (Nat × Bool × Ty)) : Sh → Bool
 | .c a => a.within os
 | .k _ i _ => (lk os i).isSome
 | _ => true
def getK (s : St) : (m : Option MSh) → Option (KDen m)
 | none => some ()
 | some ⟨kt, vt, tm, none⟩ => match s.mp with
  | some m => bif Nat.beq m.kt kt && Nat.beq m.vt vt && tm.all (fun t => qde t m.tm) then some m.kv else none
  | none => none
 | some ⟨kt, vt, tm, some ti⟩ => match s.mp with
  | some m => match m.it with
   | some (ti', lf) => bif Nat.beq m.kt kt && Nat.beq m.vt vt && tm.all (fun t => qde t m.tm) && ti.all (fun t => qde t ti') then some (m.kv, lf) else none
   | none => none
  | none => none
def qeS.get (sk : qeS) (s : St) : Option sk.Den :=
 bif sk.ts.all fun x => x.2.within sk.os then (match getT s sk.ts, getO s sk.os, getK s sk.mp with
  | some a, some b, some c => some (a, b, c)
  | _, _, _ => none) else none
inductive X where
 | norm
 | exit (id : Nat)
 | ret
@[reducible] def Outs : List (X × qeS) → Type
 | [] => Empty
 | [a] => a.2.Den
 | a :: b :: r => a.2.Den ⊕ Outs (b :: r)
def qbd {α β R : Type} (o : α ⊕ β) (k : α → Option R) (l : β → Option R) : Option R :=
 match o with
 | .inl a => k a
 | .inr b => l b
def outK {R : Type} (k : X → St → Option R) : (outs : List (X × qeS)) → Outs outs → Option R
 | [], _ => none
 | [a], d => k a.1 (a.2.fill d)
 | a :: b :: r, d => qbd d (fun d => k a.1 (a.2.fill d)) (fun d => outK k (b :: r) d)
def X.same : X → X → Bool
 | .norm, .norm => true
 | .ret, .ret => true
 | .exit i, .exit j => Nat.beq i j
 | _, _ => false
def qjv (e : X) (s : St) : (outs : List (X × qeS)) → Option (Outs outs)
 | [] => none
 | [a] => bif a.1.same e then a.2.get s else none
 | a :: b :: r => bif a.1.same e then (match a.2.get s with | some d => some (.inl d) | none => none)
   else match qjv e s (b :: r) with | some d => some (.inr d) | none => none
structure qY where
 ins : qeS
 outs : List (X × qeS)
 g : Nat → ins.Den → Option (Outs outs)
structure Iter where
 ps : List jL
 a : Ty
 g : PDens ps → Option (List a.den)
structure qcj where
 a : Ty
 tl : List Nat
 ps : List jL
 outs : List X
 g : Nat → List a.den → PDens ps → Option (X × MDens ps)
def qbt : (ps : List jL) → PDens ps → MDens ps
 | [], _ => ()
 | .v _ :: ps, d => qbt ps d.2
 | .r _ :: ps, d => qbt ps d.2
 | .c _ :: ps, d => qbt ps d.2
 | .t _ _ :: ps, d => qbt ps d.2
 | .gm _ :: ps, d => qbt ps d.2
 | .cm _ _ :: ps, d => (d.1, qbt ps d.2)
 | .m _ :: ps, d => (d.1, qbt ps d.2)
 | .mr _ _ :: ps, d => (d.1, qbt ps d.2)
def j2 : (ps : List jL) → PDens ps → MDens ps → PDens ps
 | [], _, _ => ()
 | .v _ :: ps, d, m => (d.1, j2 ps d.2 m)
 | .r _ :: ps, d, m => (d.1, j2 ps d.2 m)
 | .c _ :: ps, d, m => (d.1, j2 ps d.2 m)
 | .t _ _ :: ps, d, m => (d.1, j2 ps d.2 m)
 | .gm _ :: ps, d, m => (d.1, j2 ps d.2 m)
 | .cm _ _ :: ps, d, m => (m.1, j2 ps d.2 m.2)
 | .m _ :: ps, d, m => (m.1, j2 ps d.2 m.2)
 | .mr _ _ :: ps, d, m => (m.1, j2 ps d.2 m.2)
def pickK {R : Type} : List X → X → (X → Option R) → Option R
 | [], _, _ => none
 | x :: l, e, k => bif x.same e then k x else pickK l e k
structure qef where
 τ : Ty
 rs : List RTy
 g : τ.den × Unit → Option (RDens rs × (τ.den × Unit))
 q : List qJ
 ts : List Nat
def qef.prim (k : qef) : qE := ⟨[.m k.τ], k.rs, k.g⟩
structure qee where
 rest : List jL
 pos : Nat
 τ : Ty
 g : PDens rest → τ.den → Option τ.den
structure SelfP where
 f : Nat
 n : Nat
 m : Nat
 T : Nat
 p : qE
structure qS where
 nt : Nat
 ty : List (Nat × Ty)
 site : List (Nat × Ty)
 prims : List (Nat × qE)
 loops : List (Nat × qY)
 maps : List (Nat × Nat × Nat) := []
 enum : List Nat := []
 iters : List (Nat × Iter) := []
 rloops : List (Nat × qcj) := []
 makers : List (Nat × qdn) := []
 alts : List (Nat × qE) := []
 keeps : List (Nat × qef) := []
 mas : List (Nat × qee) := []
 joins : List (Nat × qeS) := []
 self : Option SelfP := none
def qgt (τ : Option Ty) : Value → Option AV
 | .int k n => some (.val (.int k) n)
 | .bool b => some (.val .bool b)
 | .slice none 0 0 => match τ with
  | some (.list _ tid e) => some (.val (.list false tid e) [])
  | _ => none
 | .pointer none => match τ with
  | some (.ptr e) => some (.val (.ptr e) none)
  | _ => none
 | .nilFunc => some .dead
 | _ => none
def jF (s : St) (τ : Option Ty) : Operand → Option AV
 | .tmp t => s.get t
 | .const v => qgt τ v
 | .func f => some (.fn f .nil .nil)
 | .global _ => none
def qgj : (τ : Ty) → τ.den → List qJ → Option (Σ σ : Ty, σ.den)
 | .pair a b, x, p => match p with
  | [] => some ⟨.pair a b, x⟩
  | .L :: q => qgj a x.1 q
  | .R :: q => qgj b x.2 q
  | _ => none
 | .str t, x, p => match p with
  | [] => some ⟨.str t, x⟩
  | s :: q => qgj t x (s :: q)
 | t, x, p => match p with
  | [] => some ⟨t, x⟩
  | _ => none
def AV.frozen (id : Nat) (o : Obj) : AV → AV
 | .cons a b => .cons (a.frozen id o) (b.frozen id o)
 | .fn f a b => .fn f (a.frozen id o) (b.frozen id o)
 | .ptr i p => bif Nat.beq i id then (bif o.row then .dead else match qgj o.τ o.x p with
   | some y => .ref y.1.fz (qf6 y.1 y.2)
   | none => .dead) else .ptr i p
 | .view i p => bif Nat.beq i id then (match qgj o.τ o.x p with
   | some y => .val y.1.fz (qf6 y.1 y.2)
   | none => .dead) else .view i p
 | .upd _ _ _ _ _ => .dead
 | .cut i z lo => bif Nat.beq i id then .dead else .cut i z lo
 | .gh n a => .gh n (a.frozen id o)
 | a => a
def St.freeze (s : St) (id : Nat) : St :=
 match s.obj id with
 | some o => ⟨s.ts.map fun x => (x.1, x.2.frozen id o), (id, none) :: s.os, s.mp⟩
 | none => s
def St.freezeAll (s : St) : List Nat → St
 | [] => s
 | i :: r => (s.freeze i).freezeAll r
def qbN {R : Type} (s : St) (a : AV) (τ : Ty) (k : τ.den → Option R) : Option R :=
 match a with
 | .val σ x => qa (qL σ τ x) k
 | .view id p => match s.obj id with
  | some o => qbH o.τ o.x p fun σ y => qa (qL σ.fz τ (qf6 σ y)) k
  | none => none
 | .ref σ x => qa (qL (.ptr σ) τ (some x)) k
 | .ptr id p => match s.obj id with
  | some o => bif o.row then none else (match qgj o.τ o.x p with
   | some y => qa (qL (.ptr y.1.fz) τ (some (qf6 y.1 y.2))) k
   | none => none)
  | none => none
 | _ => none
def qgm {R : Type} (s : St) (a : AV) (τ : Ty) (k : τ.den → Option R) : Option R :=
 match a with
 | .ref σ x => qa (qL σ τ x) k
 | .ptr id p => match s.obj id with
  | some o => bif o.row then none else (match qgj o.τ o.x p with
   | some y => qa (qL y.1.fz τ (qf6 y.1 y.2)) k
   | none => none)
  | none => none
 | .val (.ptr σ) x => qa x fun y => qa (qL σ τ y) k
 | _ => none
def AV.touches : AV → List Nat
 | .view i _ => [i]
 | .upd i _ _ _ _ => [i]
 | .cut i _ _ => [i]
 | .ptr i _ => [i]
 | .cons a b => a.touches ++ b.touches
 | .fn _ a b => a.touches ++ b.touches
 | _ => []
def AV.list : AV → List AV
 | .cons a b => a :: b.list
 | _ => []
def AV.isTup : AV → Bool
 | .cons _ b => b.isTup
 | .nil => true
 | _ => false
def qgL {R : Type} (s : St) : (ps : List jL) → List AV → (PDens ps → Option R) → Option R
 | [], [], k => k ()
 | .v τ :: ps, a :: l, k => qbN s a τ fun x => qgL s ps l fun d => k (x, d)
 | .r τ :: ps, a :: l, k => qgm s a τ fun x => qgL s ps l fun d => k (x, d)
 | _, _, _ => none
def qiD (r : Ty) : (rs : List RTy) → RDens rs → Option r.den
 | [.v τ], d => qL τ r d.1
 | _, _ => none
def jL.noT : jL → Bool
 | .t _ _ => false
 | .gm _ => false
 | _ => true
def jL.reads : jL → Bool
 | .v _ => true
 | .r _ => true
 | _ => false
def clos1 (cfg : qS) (s : St) (f : Nat) (first caps : AV) (a r : Ty) (x : a.den) : Option r.den :=
 match lk cfg.prims f with
 | some p => bif p.ps.all jL.reads && r.isFlat && first.isTup && caps.isTup then qgL s p.ps (first.list ++ .val a x :: caps.list) fun d => qa (p.g d) fun y => qiD r p.rs y.1 else none
 | none => none
def clos2 (cfg : qS) (s : St) (f : Nat) (first caps : AV) (a b r : Ty) (x : a.den) (y : b.den) : Option r.den :=
 match lk cfg.prims f with
 | some p => bif p.ps.all jL.reads && r.isFlat && first.isTup && caps.isTup then qgL s p.ps (first.list ++ .val a x :: .val b y :: caps.list) fun d => qa (p.g d) fun y => qiD r p.rs y.1 else none
 | none => none
def snapF {R : Type} (cfg : qS) (s : St) (a : AV) (τ : Ty) (k : τ.den → Option R) : Option R :=
 match a with
 | .fn f first caps => match τ, k with
  | .fn b r, k => bif (lk cfg.prims f).isSome && b.isFz && r.isFz then k (clos1 cfg s f first caps b r) else none
  | .fn2 b c r, k => bif (lk cfg.prims f).isSome && b.isFz && c.isFz && r.isFz then k (clos2 cfg s f first caps b c r) else none
  | _, _ => none
 | a => qbN s a τ k
def qbl {R : Type} (cfg : qS) (s : St) : (ps : List jL) → List AV → (PDens ps → Option R) → Option R
 | [], [], k => k ()
 | .v τ :: ps, a :: l, k => snapF cfg s a τ fun x => qbl cfg s ps l fun d => k (x, d)
 | .r τ :: ps, a :: l, k => qgm s a τ fun x => qbl cfg s ps l fun d => k (x, d)
 | .c f :: ps, a :: l, k => match a with
  | .fn g .nil .nil => bif Nat.beq g f then qbl cfg s ps l fun d => k ((), d) else none
  | _ => none
 | .m τ :: ps, a :: l, k => match a with
  | .ptr id [] => match s.obj id with
   | some o => bif o.row then none else qa (qL o.τ τ o.x) fun x => qbl cfg s ps l fun d => k (x, d)
   | none => none
  | _ => none
 | .gm τ :: ps, a :: l, k => match a with
  | .ptr id [] => match s.obj id with
   | some o => bif o.row then none else qa (qL o.τ τ o.x) fun x => qbl cfg s ps l fun d => k (x, d)
   | none => none
  | _ => none
 | .cm f τ :: ps, a :: l, k => match a with
  | .fn g .nil (.cons (.ptr id []) .nil) => bif Nat.beq g f then (match s.obj id with
   | some o => bif o.row then none else qa (qL o.τ τ o.x) fun x => qbl cfg s ps l fun d => k (x, d)
   | none => none) else none
  | _ => none
 | .t tid e :: ps, a :: l, k => match a with
  | .view id [] => match s.obj id with
   | some o => bif o.row then qa (qL o.τ (.list true tid e) o.x) fun x => qbl cfg s ps l fun d => k (x, d) else none
   | none => none
  | _ => none
 | .mr tid e :: ps, a :: l, k => match a with
  | .view id [] => match s.obj id with
   | some o => bif o.row then qa (qL o.τ (.list true tid e) o.x) fun x => qbl cfg s ps l fun d => k (x, d) else none
   | none => none
  | _ => none
 | _, _, _ => none
def qt : List jL → List AV → List Nat
 | .v _ :: ps, a :: l => a.touches ++ qt ps l
 | .r _ :: ps, a :: l => a.touches ++ qt ps l
 | .c _ :: ps, _ :: l => qt ps l
 | .t _ _ :: ps, _ :: l => qt ps l
 | .gm _ :: ps, _ :: l => qt ps l
 | .cm _ _ :: ps, _ :: l => qt ps l
 | .m _ :: ps, _ :: l => qt ps l
 | .mr _ _ :: ps, _ :: l => qt ps l
 | _, _ => []
def AV.name : AV → List Nat
 | .ptr i _ => [i]
 | .view i _ => [i]
 | _ => []
def AV.capName : AV → List Nat
 | .fn _ _ (.cons b _) => b.name
 | _ => []
def qI : List jL → List AV → List Nat
 | .v _ :: ps, _ :: l => qI ps l
 | .r _ :: ps, _ :: l => qI ps l
 | .c _ :: ps, _ :: l => qI ps l
 | .t _ _ :: ps, a :: l => a.name ++ qI ps l
 | .gm _ :: ps, a :: l => a.name ++ qI ps l
 | .cm _ _ :: ps, a :: l => a.capName ++ qI ps l
 | .m _ :: ps, a :: l => a.name ++ qI ps l
 | .mr _ _ :: ps, a :: l => a.name ++ qI ps l
 | _, _ => []
def qaR (n : Nat) : List Nat → Bool
 | [] => false
 | m :: r => Nat.beq m n || qaR n r
def qaz : List Nat → List Nat → Bool
 | [], _ => true
 | m :: r, l => !qaR m r && !qaR m l && qaz r l
def qA (s : St) : (ps : List jL) → List AV → MDens ps → St
 | .v _ :: ps, _ :: l, d => qA s ps l d
 | .r _ :: ps, _ :: l, d => qA s ps l d
 | .c _ :: ps, _ :: l, d => qA s ps l d
 | .m τ :: ps, a :: l, d => match a with
  | .ptr id _ => qA ((s.killIf (AV.stale id false)).setObj id (some ⟨false, τ, d.1⟩)) ps l d.2
  | _ => qA s ps l d.2
 | .t _ _ :: ps, a :: l, d => match a with
  | .view id _ => qA ((s.kill id).setObj id none) ps l d
  | _ => qA s ps l d
 | .gm _ :: ps, a :: l, d => match a with
  | .ptr id _ => qA ((s.kill id).setObj id none) ps l d
  | _ => qA s ps l d
 | .cm _ τ :: ps, a :: l, d => match a with
  | .fn _ _ (.cons (.ptr id _) _) => qA ((s.killIf (AV.stale id false)).setObj id (some ⟨false, τ, d.1⟩)) ps l d.2
  | _ => qA s ps l d.2
 | .mr tid e :: ps, a :: l, d => match a with
  | .view id _ => qA ((s.killIf (AV.stale id true)).setObj id (some ⟨true, .list true tid e, d.1⟩)) ps l d.2
  | _ => qA s ps l d.2
 | _, _, _ => s
def qaT (nn : Bool) (n : Nat) : Nat := bif nn then 4000000 + n else 7000000 + n
def qeH (id : Nat) (nn : Bool) : Bool := bif nn then Nat.ble 4000000 id && Nat.blt id 7000000 else Nat.ble 7000000 id && Nat.blt id 10000000
def jK (s : St) : (n : Nat) → (rs : List RTy) → RDens rs → St × AV
 | _, [], _ => (s, .nil)
 | n, .v τ :: rs, d => let q := jK s (n + 1) rs d.2; (q.1, .cons (.val τ d.1) q.2)
 | n, .own tid e :: rs, d => let q := jK ((s.kill n).setObj n (some ⟨true, .list true tid e, d.1⟩)) (n + 1) rs d.2; (q.1, .cons (.view n []) q.2)
 | n, .optr τ :: rs, d => let q := jK ((s.kill n).setObj n (some ⟨false, τ, d.1⟩)) (n + 1) rs d.2; (q.1, .cons (.ptr n []) q.2)
 | n, .sure nn tid e :: rs, d => let q := jK ((s.kill (qaT nn n)).setObj (qaT nn n) (some ⟨true, .list true tid e, d.1⟩)) (n + 1) rs d.2; (q.1, .cons (.view (qaT nn n) []) q.2)
 | n, .ownv τ :: rs, d => let q := jK ((s.kill n).setObj n (some ⟨true, τ, d.1⟩)) (n + 1) rs d.2; (q.1, .cons (.view n []) q.2)
def AV.lone : AV → AV
 | .cons a .nil => a
 | a => a
def qeF {R : Type} (cfg : qS) (s : St) (dst : Option Nat) (p : qE) (args : List AV) (k : St → Option R) : Option R :=
 bif qaz (qI p.ps args) (qt p.ps args) && Nat.blt p.rs.length 1000 then
  qbl cfg s p.ps args fun d => qa (p.g d) fun y =>
   let s0 := bif p.rs.all RTy.closed && p.ps.all jL.closed then s else s.freezeAll (qt p.ps args)
   let q := jK (qA (s0.killIf AV.isUpd) p.ps args y.2) (1000 * (dst.getD 0 + 1)) p.rs y.1
   k (q.1.setDst dst q.2.lone)
 else none
def altK {R α : Type} (o : Option α) (f : α → Option R) (g : Option R) : Option R :=
 match o with
 | some y => f y
 | none => g
def qkJ {R : Type} (cfg : qS) (s : St) (dst : Option Nat) (p : qE) (args : List AV) (alt : Option R) (k : St → Option R) : Option R :=
 bif qaz (qI p.ps args) (qt p.ps args) && Nat.blt p.rs.length 1000 then
  qbl cfg s p.ps args fun d => altK (p.g d) (fun y =>
   let s0 := bif p.rs.all RTy.closed && p.ps.all jL.closed then s else s.freezeAll (qt p.ps args)
   let q := jK (qA (s0.killIf AV.isUpd) p.ps args y.2) (1000 * (dst.getD 0 + 1)) p.rs y.1
   k (q.1.setDst dst q.2.lone)) alt
 else none
def qkI {R : Type} (cfg : qS) (s : St) (dst : Option Nat) (m : qdn) (args : List AV) (k : St → Option R) : Option R :=
 bif qaz (qI m.p.ps args) (qt m.p.ps args) && Nat.blt m.p.rs.length 1000 then
  qbl cfg s m.p.ps args fun d => qa (m.p.g d) fun y =>
   let q := jK (qA ((s.freezeAll (qt m.p.ps args)).killIf AV.isUpd) m.p.ps args y.2) (1000 * (dst.getD 0 + 1)) m.p.rs y.1
   k (q.1.setDst dst (.fn m.f .nil q.2))
 else none
def qdQ {R : Type} (a : Int) (k : Option R) : Option R := if a < 0 then none else k
def qbJ (op : BinOp) (k : IntKind) (x y : Int) : Int :=
 match op with
 | .and => k.wrap (BitVec.ofInt k.bits x &&& BitVec.ofInt k.bits y).toNat
 | .or => k.wrap (BitVec.ofInt k.bits x ||| BitVec.ofInt k.bits y).toNat
 | .xor => k.wrap (BitVec.ofInt k.bits x ^^^ BitVec.ofInt k.bits y).toNat
 | _ => k.wrap (BitVec.ofInt k.bits x &&& ~~~ BitVec.ofInt k.bits y).toNat
def shlI (k : IntKind) (x y : Int) : Int := k.wrap (x * 2 ^ (min y.toNat k.bits))
def qdU (k : IntKind) (x y : Int) : Int := x.fdiv (2 ^ (min y.toNat k.bits))
def eqL (a b : List Int) : Bool := a == b
def qcM : Ty → Bool
 | .int _ => true
 | .bool => true
 | .pair (.int _) b => qcM b
 | .pair .bool b => qcM b
 | _ => false
def eqF : (τ : Ty) → τ.den → τ.den → Bool
 | .int _, a, b => @BEq.beq Int _ a b
 | .bool, a, b => @BEq.beq Bool _ a b
 | .pair s t, a, b => eqF s a.1 b.1 && eqF t a.2 b.2
 | _, _, _ => false
def binK {R : Type} (op : BinOp) (tt : Option Ty) (x y : AV) (k : AV → Option R) : Option R :=
 match x, y with
 | .val (.int i) a, .val (.int j) b => match op with
   | .shl => qdQ b (k (.val (.int i) (shlI i a b)))
   | .shr => qdQ b (k (.val (.int i) (qdU i a b)))
   | op => bif (i == j) then (match op with
    | .add => k (.val (.int i) (i.wrap (a + b)))
    | .sub => k (.val (.int i) (i.wrap (a - b)))
    | .mul => k (.val (.int i) (i.wrap (a * b)))
    | .quo => nzK b (k (.val (.int i) (i.wrap (a.tdiv b))))
    | .rem => nzK b (k (.val (.int i) (a.tmod b)))
    | .eql => k (.val .bool (a == b))
    | .neq => k (.val .bool (a != b))
    | .lss => k (.val .bool (decide (a < b)))
    | .leq => k (.val .bool (decide (a ≤ b)))
    | .gtr => k (.val .bool (decide (a > b)))
    | .geq => k (.val .bool (decide (a ≥ b)))
    | op => k (.val (.int i) (qbJ op i a b))) else none
 | .val .bool a, .val .bool b => bif (decide (tt = some .bool)) then (match op with
   | .eql => k (.val .bool (a == b))
   | .neq => k (.val .bool (!(a == b)))
   | _ => none) else none
 | .val (.arr n (.int i)) a, .val (.arr m (.int j)) b => bif (decide (tt = some (.arr n (.int i))) && Nat.beq n m && (i == j)) then (match op with
   | .eql => k (.val .bool (eqL a b))
   | .neq => k (.val .bool (!(eqL a b)))
   | _ => none) else none
 | .val (.str τ) a, .val (.str σ) b => bif (decide (tt = some (.str τ)) && qcM τ) then qa (qL σ τ b) (fun b => match op with
   | .eql => k (.val .bool (eqF τ a b))
   | .neq => k (.val .bool (!(eqF τ a b)))
   | _ => none) else none
 | _, _ => none
def qbP : Option Ty → Bool
 | some (.list _ _ _) => true
 | _ => false
def qU (nt : Nat) : Option Nat → Bool
 | none => true
 | some d => Nat.blt d nt
def unK {R : Type} (op : UnOp) (x : AV) (k : AV → Option R) : Option R :=
 match op, x with
 | .not, .val .bool a => k (.val .bool (!a))
 | .neg, .val (.int i) a => k (.val (.int i) (i.wrap (0 - a)))
 | _, _ => none
def qic {R : Type} (s : St) (a : AV) (k : Nat → Option R) : Option R :=
 match a with
 | .val (.list _ _ _) l => k l.length
 | .view id p => match s.obj id with
  | some o => qbH o.τ o.x p fun σ y => match σ, y with
   | .list _ _ _, l => k l.length
   | _, _ => none
  | none => none
 | .upd _ _ _ _ l => k l.length
 | _ => none
def qhm {R : Type} (s : St) (a : AV) (e : Ty) (k : List e.den → Option R) : Option R :=
 match a with
 | .val (.list o tid σ) l => qa (qL (.list o tid σ) (.list o tid e) l) k
 | .view id p => match s.obj id with
  | some o => qbH o.τ o.x p fun σ y => match σ, y with
   | .list b tid σ, l => qa (qL (.list b tid σ) (.list b tid e) l) k
   | _, _ => none
  | none => none
 | .upd _ _ tid σ l => qa (qL (.list false tid σ) (.list false tid e) l) k
 | _ => none
def qdu (s : St) (parts : List (Nat × AV)) (a : Ty) (n : Nat) : Option (St × a.den) :=
 match lk parts n with
 | none => some (s, a.zero)
 | some (.val σ x) => match qL σ a x with | some y => some (s, y) | none => none
 | some (.ref σ x) => match qL (.ptr σ) a (some x) with | some y => some (s, y) | none => none
 | some (.view id []) => match s.obj id with
  | some o => bif o.row then (match qL o.τ.fz a (qf6 o.τ o.x) with
    | some y => some (s.freeze id, y)
    | none => none) else none
  | none => none
 | _ => none
def qh8 (s : St) (parts : List (Nat × AV)) : (τ : Ty) → (n : Nat) → Option (St × τ.den)
 | .pair a b, n => match qdu s parts a n with
  | some (s, x) => match qh8 s parts b (n + 1) with
   | some (s, y) => some (s, (x, y))
   | none => none
  | none => none
 | a, n => qdu s parts a n
def qgX (s : St) (parts : List (Nat × AV)) (e : Ty) : (n len : Nat) → Option (St × List e.den)
 | _, 0 => some (s, [])
 | n, len + 1 => match qdu s parts e n with
  | some (s, x) => match qgX s parts e (n + 1) len with
   | some (s, l) => some (s, x :: l)
   | none => none
  | none => none
def St.newObj (s : St) (id : Nat) (row : Bool) (τ : Ty) (x : τ.den) : St := (s.kill id).setObj id (some ⟨row, τ, x⟩)
def qe7 (s : St) (parts : List (Nat × AV)) (a : Ty) (n : Nat) : Option (St × a.den) :=
 bif a.isFz then qdu s parts a n else match lk parts n with
 | none => some (s, a.zero)
 | some (.view id []) => match s.obj id with
  | some o => bif o.row then (match qL o.τ a o.x with
    | some y => some ((s.kill id).setObj id none, y)
    | none => none) else none
  | none => none
 | _ => none
def qh7 (s : St) (parts : List (Nat × AV)) : (τ : Ty) → (n : Nat) → Option (St × τ.den)
 | .pair a b, n => match qe7 s parts a n with
  | some (s, x) => match qh7 s parts b (n + 1) with
   | some (s, y) => some (s, (x, y))
   | none => none
  | none => none
 | a, n => qe7 s parts a n
def qd0 {R : Type} (op : BinOp) (b : Bool) (k : Bool → Option R) : Option R :=
 match op with
 | .eql => k b
 | .neq => k (!b)
 | _ => none
def qcs : Operand → Bool
 | .const (.slice none 0 0) => true
 | _ => false
def qfi : List jL → AV → AV → List AV → Option (Nat × List qJ)
 | [.mr _ _], .nil, .nil, [.view id (st :: q)] => some (id, st :: q)
 | _, _, _, _ => none
def qfU {R : Type} (s : St) (dst : Option Nat) (p : qE) (id : Nat) (path : List qJ) (k : St → Option R) : Option R :=
 match p with
 | ⟨[.mr tid e], [], g⟩ => match s.obj id with
  | some o => bif e.isFlat then qbH o.τ o.x path fun σ y => qa (qL σ (.list true tid e) y) fun l => qa (g (l, ())) fun r =>
    qbw o.τ o.x path (.list true tid e) r.2.1 fun z => k (((s.killIf (AV.stale id o.row)).setObj id (some ⟨o.row, o.τ, z⟩)).setDst dst .nil) else none
  | none => none
 | _ => none
def qkR (τ : Ty) (i : Nat) : Option (List qJ) :=
 match τ with
 | .str t => bif qaw t i then some (qbk t i) else none
 | _ => none
def qhj {R : Type} (s : St) (T : Option Ty) (a : AV) (i : Nat) (k : AV → Option R) : Option R :=
 match T with
 | none => none
 | some T => match qkR T i with
  | none => none
  | some q => match a with
   | .ref (.str t) x => bif (decide (Ty.str t = T)) then qh2 t x q fun σ y => k (.ref σ y) else none
   | .ptr id p => match s.obj id with
    | some o => bif o.row && p.isEmpty then none else match qb7 o.τ p with
     | some τ => bif (decide (τ.fz = T)) && !q.isEmpty then k (.ptr id (p ++ q)) else none
     | none => none
    | none => none
   | _ => none
def qeN {R : Type} (s : St) (T : Option Ty) (a : AV) (i : Int) (k : AV → Option R) : Option R :=
 match a with
 | .val (.list _o tid e) l => bif (decide (T = some (.list false tid e.fz))) then qi l i fun y => k (.ref e y) else none
 | .ref (.arr n e) l => bif (decide (T = some (.arr n e))) then qi l i fun y => k (.ref e y) else none
 | .view id p => match s.obj id with
  | some o => qbH o.τ o.x p fun σ y => match σ, y with
   | .list own tid e, l => bif own && (decide (T = some (.list false tid e.fz))) then jS i l.length (k (.ptr id (p ++ [.I i]))) else none
   | _, _ => none
  | none => none
 | .ptr id p => match s.obj id with
  | some o => bif o.row && p.isEmpty then none else match qb7 o.τ p with
   | some (.arr n e) => bif (decide (T = some (.arr n e.fz))) then jS i n (k (.ptr id (p ++ [.I i]))) else none
   | _ => none
  | none => none
 | _ => none
def qjK {R : Type} (s : St) (T : Option Ty) (a : AV) (k : AV → Option R) : Option R :=
 match a with
 | .ref σ x => bif (decide (T = some σ)) then k (.val σ x) else none
 | .ptr id p => match s.obj id with
  | some o => bif o.row && p.isEmpty then none else match qb7 o.τ p with
   | some σ => bif (decide (T = some σ.fz)) then (bif σ.isFz then qbH o.τ o.x p fun σ y => k (.val σ y) else k (.view id p)) else none
   | none => none
  | none => none
 | _ => none
def qh3 {R : Type} : List qJ → List qJ → Option R → Option R
 | [], [], k => k
 | .L :: p, .L :: q, k => qh3 p q k
 | .R :: p, .R :: q, k => qh3 p q k
 | .I i :: p, .I j :: q, k => eqK i j (qh3 p q k)
 | _, _, _ => none
def storeK {R : Type} (s : St) (T : Option Ty) (a v : AV) (k : St → Option R) : Option R :=
 match a with
 | .ptr id p => match s.obj id with
  | some o => bif o.row && p.isEmpty then none else match qb7 o.τ p with
   | none => none
   | some τ => bif (decide (T = some τ.fz)) then (match v with
    | .upd id' p' tid e l => bif Nat.beq id id' then qh3 p p' (qbw o.τ o.x p (.list true tid e) l fun z =>
      k ((s.killIf (AV.staleP id o.row o.τ p)).setObj id (some ⟨o.row, o.τ, z⟩))) else none
    | .view id2 [] => bif Nat.beq id id2 then none else match s.obj id2 with
     | some o2 => bif o2.row then (bif τ.isFz then
       (let s := s.freeze id2
       qbw o.τ o.x p o2.τ.fz (qf6 o2.τ o2.x) fun z => k ((s.killIf (AV.staleP id o.row o.τ p)).setObj id (some ⟨o.row, o.τ, z⟩)))
       else qbw o.τ o.x p o2.τ o2.x fun z => k ((((s.kill id2).killIf (AV.staleP id o.row o.τ p)).setObj id2 none).setObj id (some ⟨o.row, o.τ, z⟩))) else none
     | none => none
    | .val σ y => bif σ.isFz then qbw o.τ o.x p σ y fun z => k ((s.killIf (AV.staleP id o.row o.τ p)).setObj id (some ⟨o.row, o.τ, z⟩)) else none
    | .ref σ y => bif σ.isFz then qbw o.τ o.x p (.ptr σ) (some y) fun z => k ((s.killIf (AV.staleP id o.row o.τ p)).setObj id (some ⟨o.row, o.τ, z⟩)) else none
    | _ => none) else none
  | none => none
 | _ => none
def qew {R : Type} (s : St) (dst : Option Nat) (x : Operand) (a : AV) (k : St → Option R) : Option R :=
 match x, a with
 | .const _, .val (.list _ tid e) l => match dst with
  | some d => bif e.noFn then k ((s.newObj d true (.list true tid e) l).set d (.view d [])) else none
  | none => none
 | _, .upd id [] tid e l => match s.obj id with
  | some o => bif o.row && Nat.blt id 4000000 then (match qL o.τ (.list true tid e) o.x with
   | some _ => k (((s.kill id).setObj id (some ⟨true, .list true tid e, l⟩)).setDst dst (.view id []))
   | none => none) else (match dst with
   | some d => bif o.row && !Nat.beq id d then k ((((s.kill id).setObj id none).newObj d true (.list true tid e) l).set d (.view d [])) else none
   | none => none)
  | none => none
 | _, .upd _ _ _ _ _ => none
 | _, a => k (s.setDst dst a)
def qka {R : Type} (s : St) (T : Option Ty) (a : AV) (lo hi : Option Int) (k : AV → Option R) : Option R :=
 match a with
 | .val (.list own tid e) l => bif !own && (decide (T = some (.list false tid e))) then (match lo, hi with
   | none, none => k (.val (.list false tid e) l)
   | some i, none => leK 0 i (leK i l.length (k (.val (.list false tid e) (l.drop i.toNat))))
   | none, some j => leK 0 j (leK j l.length (k (.val (.list false tid e) (l.take j.toNat))))
   | some i, some j => leK 0 i (leK i j (leK j l.length (k (.val (.list false tid e) ((l.take j.toNat).drop i.toNat)))))) else none
 | .view id p => match s.obj id with
  | some o => qbH o.τ o.x p fun σ y => match σ, y with
   | .list own tid e, l => bif own && e.isFz && (decide (T = some (.list false tid e))) then (match lo, hi with
    | none, some j => leK 0 j (leK j l.length (k (.upd id p tid e (l.take j.toNat))))
    | some i, none => bif p.isEmpty then leK 0 i (leK i l.length (k (.cut id e.size i))) else none
    | _, _ => none) else none
   | _, _ => none
  | none => none
 | _ => none
def cutOf : AV → Option (Nat × Int)
 | .view id [] => some (id, 0)
 | .cut id z lo => bif Nat.beq z 1 then some (id, lo) else none
 | _ => none
def qbO {α : Type} (l l2 : List α) (lo : Nat) : List α := l.take lo ++ l2.take (l.length - lo) ++ l.drop (lo + min l2.length (l.length - lo))
def copyK {R : Type} (s : St) (T : Option Ty) (dst : Option Nat) (a b : AV) (k : St → Option R) : Option R :=
 match T with
 | some (.list _ tid e) => bif e.isFlat && Nat.beq e.size 1 then (match cutOf a with
  | some (id, lo) => match s.obj id with
   | some o => bif o.row then qa (qL o.τ (.list true tid e) o.x) fun l => qhm s b e fun l2 =>
     k (((s.killIf (AV.stale id true)).setObj id (some ⟨true, .list true tid e, qbO l l2 lo.toNat⟩)).setDst dst (.val (.int .i64) ((min l2.length (l.length - lo.toNat) : Nat) : Int))) else none
   | none => none
  | none => none) else none
 | _ => none
def clearK {R : Type} (s : St) (T : Option Ty) (dst : Option Nat) (a : AV) (k : St → Option R) : Option R :=
 match T, a with
 | some (.list _ tid e), .cut id z lo => match s.obj id with
  | some o => bif o.row && (e.isFlat && Nat.beq z e.size) then qa (qL o.τ (.list true tid e) o.x) fun l =>
    k (((s.killIf (AV.stale id true)).setObj id (some ⟨true, .list true tid e, l.take lo.toNat ++ List.replicate (l.length - lo.toNat) e.zero⟩)).setDst dst .nil) else none
  | none => none
 | _, _ => none
def qla {R : Type} (s : St) (T : Option Ty) (dst : Option Nat) (x : Operand) (a b : AV) (k : St → Option R) : Option R :=
 match T with
 | some (.list _ tid e) => bif e.noFn then (match a with
  | .val (.list _ _ _) _ => match x with
   | .const _ => qhm s b e fun l2 => jE l2.length (match dst with
     | some d => k ((s.newObj d true (.list true tid e) l2).set d (.view d []))
     | none => none)
   | _ => none
  | .view id p => match s.obj id with
   | some o => qbH o.τ o.x p fun σ y => qa (qL σ (.list true tid e) y) fun l =>
     qhm s b e fun l2 => jE (l.length + l2.length) (k ((s.killIf (AV.staleV id o.row)).setDst dst (.upd id p tid e (l ++ l2))))
   | none => none
  | _ => none) else none
 | _ => none
def qfN : AV → Nat → Option AV
 | .cons a _, 0 => some a
 | .cons _ b, i + 1 => qfN b i
 | _, _ => none
def qbA (s : St) (τ : Nat → Option Ty) : List Operand → Nat → Option (List AV)
 | [], _ => some []
 | x :: r, i => match jF s (τ i) x, qbA s τ r (i + 1) with
  | some a, some l => some (a :: l)
  | _, _ => none
def AV.ofList : List AV → AV
 | [] => .nil
 | a :: l => .cons a (ofList l)
def intOf : AV → Option Int
 | .val (.int _) n => some n
 | _ => none
def qeL (s : St) : Option Operand → Option (Option Int)
 | none => some none
 | some x => match (jF s none x).bind intOf with
  | some n => some (some n)
  | none => none
def siteTy (cfg : qS) (dst : Option Nat) (T : Option Ty) : Option Ty :=
 match dst with
 | some d => match lk cfg.site d with
  | some τ => bif (decide (some τ.fz = T)) then some τ else none
  | none => T
 | none => none
def siteRow (cfg : qS) (dst : Option Nat) (T : Option Ty) : Option Ty :=
 match dst with
 | some d => match lk cfg.site d with
  | some τ => some τ
  | none => T
 | none => none
end Go.Vi
namespace Go.Vi
def frzOp (s : St) (x : Operand) : St :=
 match jF s none x with
 | some (.view id p) => match s.obj id with
  | some o => bif o.row && p.isEmpty then s else s.freeze id
  | none => s
 | _ => s
def frzSite (cfg : qS) (s : St) (d : Option Nat) (x : Operand) : St :=
 match d.bind (lk cfg.site) with
 | some .bool => s
 | some (.ptr .bool) => s
 | some _ => match jF s none x with
  | some (.view id _) => s.freeze id
  | _ => s
 | none => s
def frzLoad (cfg : qS) (s : St) (d : Option Nat) (x : Operand) : St :=
 match d with
 | some d => bif qaR (8000000 + d) cfg.enum then (match jF s none x with
  | some (.ptr id _) => s.freeze id
  | _ => s) else s
 | none => s
def St.commitT (s : St) : Operand → St
 | .tmp t => match s.get t with
  | some (.upd id [] tid e l) => match s.obj id with
   | some o => bif o.row && Nat.blt id 4000000 then (s.newObj id true (.list true tid e) l).set t (.view id []) else s
   | none => s
  | _ => s
 | _ => s
def commitAll (s : St) : List Operand → St
 | [] => s
 | x :: r => commitAll (s.commitT x) r
def qiI {R : Type} (s : St) (dst : Option Nat) (x : Operand) (a : AV) (k : St → Option R) : Option R :=
 match x, a, dst with
 | .const _, .val (.list _ tid e) _, some d => bif e.noFn then k ((s.newObj (7000000 + d) true (.list true tid e) []).set d (.view (7000000 + d) [])) else none
 | _, _, _ => qew s dst x a k
def qg8 : Option Ty → Bool
 | some .bool => true
 | _ => false
def qg0 (cfg : qS) (d : Nat) : Nat := bif qaR (1000000 + d) cfg.enum then 4000000 + d else d
def qiH (s : St) (a : AV) : Option Bool :=
 match a with
 | .view id [] => match s.obj id with
  | some o => bif o.row then (bif qeH id true then some false else bif qeH id false then some true else none) else none
  | none => none
 | _ => none
def qg7 : Option Ty → Bool
 | some (.ptr .bool) => true
 | _ => false
def qgW {R : Type} (s : St) (dst : Option Nat) (x : Operand) (a : AV) (k : St → Option R) : Option R :=
 match a, dst with
 | .view id [], some d => match s.obj id with
  | some o => bif o.row && !Nat.beq id d then k ((((s.kill id).setObj id none).newObj d true o.τ o.x).set d (.view d [])) else qew s dst x a k
  | none => none
 | _, _ => qew s dst x a k
def qhx {R : Type} (cfg : qS) (s : St) (dst : Option Nat) (type : TypeId) (x : Operand) (k : St → Option R) : Option R :=
 match jF s (lk cfg.ty type) x with
 | some a => bif qg8 (dst.bind (lk cfg.site)) then qiI s dst x a k else bif qg7 (dst.bind (lk cfg.site)) then qgW s dst x a k else bif (dst.bind (lk cfg.site)).isSome then k (s.setDst dst a) else qew s dst x a k
 | none => none
def qju (s : St) : AV → Bool
 | .ptr id p => match s.obj id with
  | some o => match qb7 o.τ p with
   | some (.list true _ _) => true
   | _ => false
  | none => false
 | _ => false
def qhU {R : Type} (s : St) (T : Option Ty) (a : AV) (k : St → Option R) : Option R :=
 match a with
 | .ptr id p => match s.obj id with
  | some o => match qb7 o.τ p with
   | some (.list true tid e) => bif (decide (T = some (.list false tid e.fz))) then qbw o.τ o.x p (.list true tid e) [] fun z => k ((s.killIf (AV.staleP id o.row o.τ p)).setObj id (some ⟨o.row, o.τ, z⟩)) else none
   | _ => none
  | none => none
 | _ => none
def qgH (s : St) (a v : Operand) : Option (Nat × List qJ) :=
 match jF s none a, jF s none v with
 | some (.ptr id p), some (.view id2 q) => bif Nat.beq id id2 && qW p q then some (id, p) else none
 | _, _ => none
def selfK {R : Type} (s : St) (T : Option Ty) (id : Nat) (p : List qJ) (k : St → Option R) : Option R :=
 match s.obj id with
 | some o => bif o.row && p.isEmpty then none else match qb7 o.τ p with
  | some (.list true tid e) => bif e.isFz && decide (T = some (.list false tid e.fz)) then qbH o.τ o.x p fun σ y => qbw o.τ o.x p σ y fun z => k ((s.killIf (AV.staleP id o.row o.τ p)).setObj id (some ⟨o.row, o.τ, z⟩)) else none
  | some τ => bif decide (T = some τ.fz) then k s else none
  | none => none
 | none => none
def qfd : Option Ty → Bool
 | some (.ptr _) => true
 | _ => false
def qiY {R : Type} (cfg : qS) (s : St) (dst : Option Nat) (T : TypeId) (i n : Nat) (k : St → Option R) : Option R :=
 bif Nat.beq i 2 && (Nat.beq (n / 1000) 1 && qfd (lk cfg.ty T)) then (match s.obj (10000000 + n % 1000) with
  | some o => bif o.row then none else k (s.setDst dst (.ptr (10000000 + n % 1000) []))
  | none => none) else none
def qin {R : Type} (cfg : qS) (s : St) (dst : Option Nat) (T : TypeId) (m : Nat) (e : Ty) (l : List e.den) (lo hi : Option Int) (k : St → Option R) : Option R :=
 match lo, hi, dst.bind (lk cfg.site) with
 | none, none, some (.list false tid _) => bif decide (lk cfg.ty T = some (.arr m e)) then k (s.setDst dst (.val (.list false tid e) l)) else none
 | _, _, _ => none
def qgn {R : Type} (cfg : qS) (s : St) (dst : Option Nat) (T : TypeId) (x : Operand) (lo hi mx : Option Operand) (k : St → Option R) : Option R :=
 match jF s none x, qeL s lo, qeL s hi, mx with
 | some x, some lo, some hi, none => (match x with
  | .ref (.arr m e) l => qin cfg s dst T m e l lo hi k
  | x => qka s (lk cfg.ty T) x lo hi fun v => k (s.setDst dst v))
 | _, _, _, _ => none
def reTK {R : Type} : (τ : Ty) → τ.den → List qJ → (σ : Ty) → σ.den → ((τ' : Ty) → τ'.den → Option R) → Option R
 | .pair a b, x, p, σ, y, k => match p with
  | .L :: q => reTK a x.1 q σ y fun τ' z => k (.pair τ' b) (z, x.2)
  | .R :: q => reTK b x.2 q σ y fun τ' z => k (.pair a τ') (x.1, z)
  | _ => none
 | .str t, x, p, σ, y, k => match p with
  | [] => none
  | s :: q => reTK t x (s :: q) σ y fun τ' z => k (.str τ') z
 | .list false _ _, _, p, σ, y, k => match p with
  | [] => k σ y
  | _ => none
 | _, _, _, _, _, _ => none
def qfH : Ty → Bool
 | .list true _ _ => true
 | _ => false
def qep (id : Nat) : Option AV → Bool
 | some (.ptr j []) => Nat.beq j id
 | _ => false
def reHint (cfg : qS) : Operand → Bool
 | .tmp t => qaR (6000000 + t) cfg.enum
 | _ => false
def reK {R : Type} (s : St) (T : Option Ty) (a v : AV) (k : St → Option R) : Option R :=
 match a, v with
 | .ptr id p, .view id2 [] => match s.obj id, s.obj id2 with
  | some o, some o2 => bif !o.row && (o2.row && (qfH o2.τ && (Nat.blt id 10000000 && (!Nat.beq id id2 && (qep id (s.get id) && decide (T = some o2.τ.fz)))))) then
    reTK o.τ o.x p o2.τ o2.x fun τ' z => k ((((((((s.kill id2).setObj id2 none).kill id).setObj id none).killIf AV.isUpd).newObj id false τ' z).set id (.ptr id []))) else none
  | _, _ => none
 | _, _ => none
def qkd {R : Type} (s : St) (T : Option Ty) (a : AV) (k : St → Option R) : Option R :=
 match a, T with
 | .ptr id p, some (.list _ tid e) => match s.obj id with
  | some o => bif !o.row && (Nat.blt id 10000000 && (qep id (s.get id) && (e.noFn && decide (T = some (Ty.list true tid e).fz)))) then
    reTK o.τ o.x p (.list true tid e) [] fun τ' z => k (((((s.kill id).setObj id none).killIf AV.isUpd).newObj id false τ' z).set id (.ptr id [])) else none
  | none => none
 | _, _ => none
def qit {R : Type} (cfg : qS) (s : St) (dst : Option Nat) (T : TypeId) (a v : Operand) (k : St → Option R) : Option R :=
 match jF s none a, jF s (lk cfg.ty T) v with
 | some b, some w => bif reHint cfg a then (bif qcs v then qkd s (lk cfg.ty T) b fun s => k (s.setDst dst .dead) else reK s (lk cfg.ty T) b w fun s => k (s.setDst dst .dead)) else bif qcs v && qju s b then qhU s (lk cfg.ty T) b fun s => k (s.setDst dst .dead) else storeK s (lk cfg.ty T) b w fun s => k (s.setDst dst .dead)
 | _, _ => none
def qhc (dst : Option Nat) (t : Nat) : Bool :=
 match dst with
 | some d => Nat.beq d t
 | none => false
def qfc (s s' : St) (id : Nat) (q : List qJ) (dst : Option Nat) : List Nat → St
 | [] => s'
 | t :: ts => match s.get t with
  | some (.view j p) => bif Nat.beq j id && (qW p q && !qhc dst t) then (qfc s s' id q dst ts).set t (.view id q) else qfc s s' id q dst ts
  | some (.gh n (.view j p)) => bif Nat.beq j id && (qW p q && !qhc dst t) then (qfc s s' id q dst ts).set t (.gh n (.view id q)) else qfc s s' id q dst ts
  | _ => qfc s s' id q dst ts
def qfF {R : Type} (s : St) (dst : Option Nat) (kp : qef) (l : List AV) (k : St → Option R) : Option R :=
 match l with
 | [.ptr id []] => match s.obj id with
  | some o => bif !o.row && (Nat.ble 10000000 id && Nat.blt kp.rs.length 1000) then qa (qL o.τ kp.τ o.x) fun x => qa (kp.g (x, ())) fun y =>
    let q := jK (((s.killIf AV.isUpd).killIf (AV.stale id false)).setObj id (some ⟨false, kp.τ, y.2.1⟩)) (1000 * (dst.getD 0 + 1)) kp.rs y.1
    k (qfc s (q.1.setDst dst q.2.lone) id kp.q dst kp.ts) else none
  | none => none
 | _ => none
def qgZ {R : Type} (cfg : qS) (s : St) (dst : Option Nat) (mp : qee) (l : List AV) (k : St → Option R) : Option R :=
 match l.drop mp.pos with
 | .view id path :: r => match s.obj id with
  | some o => bif mp.rest.all jL.reads && (qeA mp.τ && (mp.τ.isClosed && ((qt mp.rest (l.take mp.pos ++ r)).isEmpty && !(o.row && path.isEmpty)))) then
    qbH o.τ o.x path fun σ y => qa (qL σ mp.τ y) fun x => qbl cfg s mp.rest (l.take mp.pos ++ r) fun d => qa (mp.g d x) fun x' =>
     qbw o.τ o.x path mp.τ x' fun z => k (((s.killIf (AV.stale id o.row)).setObj id (some ⟨o.row, o.τ, z⟩)).setDst dst .nil) else none
  | none => none
 | _ => none
def qe1 (n m : Nat) : List AV := (List.range m).map fun i => AV.ptr (10000000 + (n + i)) []
def qjh (s : St) (n m : Nat) : Bool := (List.range m).all fun i => match s.obj (10000000 + (n + i)) with
 | some o => !o.row
 | none => false
def qfw {R : Type} (cfg : qS) (s : St) (dst : Option Nat) (i f n : Nat) (l : List AV) (k : St → Option R) : Option R :=
 match cfg.self with
 | some sp => bif Nat.beq i 1 && (Nat.beq f sp.f && (Nat.beq n (1000 * sp.m + sp.n) && (Nat.blt sp.n 1000 && (Nat.beq l.length sp.n && qjh s sp.n sp.m)))) then qeF cfg s dst sp.p (l ++ qe1 sp.n sp.m) k else none
 | none => none
def qkb (cfg : qS) (T : Nat) : Bool :=
 match cfg.self with
 | some sp => Nat.beq T sp.T
 | none => false
def qi2 {R : Type} (cfg : qS) (s : St) (dst : Option Nat) (f : Operand) (c : Call) (k : St → Option R) : Option R :=
 match jF s none f, qbA s (fun i => (c.argTypes[i]?).bind (lk cfg.ty)) c.args.toList 0 with
 | some (.fn f first caps), some l => match lk cfg.prims f with
  | some p => match qfi p.ps first caps l with
   | some (id, path) => qfU s dst p id path k
   | none => bif first.isTup && caps.isTup then (match lk cfg.alts f with
    | some q => qkJ cfg s dst q (first.list ++ l ++ caps.list) (qeF cfg s dst p (first.list ++ l ++ caps.list) k) k
    | none => qeF cfg s dst p (first.list ++ l ++ caps.list) k) else none
  | none => match lk cfg.makers f with
   | some m => bif first.isTup && caps.isTup then qkI cfg s dst m (first.list ++ l ++ caps.list) k else none
   | none => match lk cfg.keeps f with
    | some kp => bif first.isTup && caps.isTup then qfF s dst kp (first.list ++ l ++ caps.list) k else none
    | none => match lk cfg.mas f with
     | some mp => bif first.isTup && caps.isTup then qgZ cfg s dst mp (first.list ++ l ++ caps.list) k else none
     | none => none
 | some (.cv i f n), some l => qfw cfg s dst i f n l k
 | some (.val (.fn a r) g), some [x] => bif r.isFlat then qbN s x a fun x => qa (g x) fun y => k (s.setDst dst (.val r y)) else none
 | some (.val (.fn2 a b r) g), some [x, y] => bif r.isFlat then qbN s x a fun x => qbN s y b fun y => qa (g x y) fun z => k (s.setDst dst (.val r z)) else none
 | _, _ => none
def qj7 (cfg : qS) (s : St) (d : Option Nat) (T : TypeId) (a : AV) : Option St :=
 match d with
 | none => none
 | some d => match lk cfg.site d with
  | none => none
  | some _ => match a with
   | .ptr id [] => match s.obj id with
    | some o => bif !o.row && (qeA o.τ && decide (lk cfg.ty T = some o.τ.fz)) then some ((((s.kill id).setObj id none).newObj d true o.τ o.x).set d (.view d [])) else none
    | none => none
   | _ => none
def qeI {R : Type} (cfg : qS) (d : Option Nat) (k : St → Option R) (s : St) : Option R :=
 match d with
 | none => k s
 | some d => match lk cfg.site d with
  | none => k s
  | some _ => k (s.commitT (.tmp d))
def St.ghMove (s s' : St) (id d : Nat) : St :=
 match s.get ghId with
 | some (.gh n (.view j [])) => bif Nat.beq j id then s'.set ghId (.gh n (.view d [])) else s'
 | _ => s'
noncomputable def qT {R : Type} (cfg : qS) (o : Oper) (s : St) (k : St → Option R) : Option R :=
 match o.op with
 | .move x => match jF s (lk cfg.ty o.type) x with
  | some a => k (s.setDst o.dst a)
  | none => none
 | .assign x => qhx cfg (frzSite cfg s o.dst x) o.dst o.type x k
 | .pick c a b => match jF s none c, jF s (lk cfg.ty o.type) a, jF s (lk cfg.ty o.type) b with
  | some (.val .bool c), some a, some b => cond c (k (s.setDst o.dst a)) (k (s.setDst o.dst b))
  | _, _, _ => none
 | .alloc T => match o.dst, siteTy cfg o.dst (lk cfg.ty T) with
  | some d, some τ => bif τ.noFn then k ((s.newObj d false τ τ.zero).set d (.ptr d [])) else none
  | _, _ => none
 | .box T v => match o.dst, jF s (lk cfg.ty T) v, lk cfg.ty T with
  | some d, some a, some τ => bif !τ.noFn || (lk cfg.site d).isSome then (match a with
    | .val σ x => qa (qL σ τ x) fun x => k (s.set d (.ref τ x))
    | .ref σ x => qa (qL (.ptr σ) τ (some x)) fun x => k (s.set d (.ref τ x))
    | _ => none) else match a with
   | .view id [] => match s.obj id with
    | some ob => bif ob.row && decide (ob.τ.fz = τ) then k (s.ghMove ((((s.kill id).setObj id none).newObj d false ob.τ ob.x).set d (.ptr d [])) id d) else none
    | none => none
   | a => qbN s a τ fun x => match a with
    | .val _ _ => k ((s.newObj d false τ x).set d (.ptr d []))
    | .ref _ _ => k ((s.newObj d false τ x).set d (.ptr d []))
    | _ => none
  | _, _, _ => none
 | .load T x => match jF (frzLoad cfg s o.dst x) none x with
  | some (.cv i f n) => bif Nat.beq i 0 && qkb cfg T then k ((frzLoad cfg s o.dst x).setDst o.dst (.cv 1 f n)) else qiY cfg (frzLoad cfg s o.dst x) o.dst T i n k
  | some a => match qj7 cfg (frzLoad cfg s o.dst x) o.dst T a with
   | some s' => k s'
   | none => qjK (frzLoad cfg s o.dst x) (lk cfg.ty T) a fun v => k ((frzLoad cfg s o.dst x).setDst o.dst v)
  | none => none
 | .store T a v => match qgH s a v with
  | some (id, p) => selfK s (lk cfg.ty T) id p fun s => k (s.setDst o.dst .dead)
  | none => qit cfg (frzOp s v) o.dst T a v k
 | .nilCheck x => match jF s (lk cfg.ty o.type) x with
  | some (.val (.ptr τ) x) => qa x fun y => k (s.setDst o.dst (.ref τ y))
  | some (.ref τ x) => k (s.setDst o.dst (.ref τ x))
  | some (.ptr i p) => k (s.setDst o.dst (.ptr i p))
  | _ => none
 | .binOp op T x y _ => bif qcs y && qbP (lk cfg.ty T) then (match jF s none x with
   | some a => match qiH s a with
    | some b => qd0 op b fun b => k (s.setDst o.dst (.val .bool b))
    | none => qic s a fun n => nilK n fun b => qd0 op b fun b => k (s.setDst o.dst (.val .bool b))
   | none => none) else match jF s none x, jF s none y with
  | some x, some y => binK op (lk cfg.ty T) x y fun v => k (s.setDst o.dst v)
  | _, _ => none
 | .unOp op _ x => match jF s none x with
  | some x => unK op x fun v => k (s.setDst o.dst v)
  | none => none
 | .convert src dst x => match lk cfg.ty src, lk cfg.ty dst, jF s none x with
  | some (.int _), some (.int j), some (.val (.int _) n) => k (s.setDst o.dst (.val (.int j) (j.wrap n)))
  | _, _, _ => none
 | .fieldAddr T x i => match jF s none x with
  | some x => qhj s (lk cfg.ty T) x i fun v => k (s.setDst o.dst v)
  | none => none
 | .indexAddr T x i => match jF s none x, (jF s none i).bind intOf with
  | some x, some i => qeN s (lk cfg.ty T) x i fun v => k (s.setDst o.dst v)
  | _, _ => none
 | .extract x i => match jF s none x with
  | some x => match qfN x i with
   | some a => k (s.setDst o.dst a)
   | none => none
  | none => none
 | .slice T x lo hi mx => qgn cfg (frzSite cfg s o.dst x) o.dst T x lo hi mx k
 | .makeSlice T l c => match o.dst, siteRow cfg o.dst ((lk cfg.ty T).map fun τ => match τ with | .list _ t e => .list true t e | τ => τ), (jF s none l).bind intOf, (jF s none c).bind intOf with
  | some d, some (.list true tid e), some l, some c => bif e.noFn && decide (lk cfg.ty T = some (.list false tid e.fz)) then leK 0 l (leK l c (jE c (k ((s.newObj (qg0 cfg d) true (.list true tid e) (List.replicate l.toNat e.zero)).set d (.view (qg0 cfg d) []))))) else none
  | _, _, _, _ => none
 | .makeFunc (.func f) first caps => match qbA s (fun _ => none) first.toList 0, qbA s (fun _ => none) caps.toList 0 with
  | some a, some b => k (s.setDst o.dst (.fn f (AV.ofList a) (AV.ofList b)))
  | _, _ => none
 | .build T parts => match (o.dst.bind (lk cfg.site)), lk cfg.ty T, qbA s (fun _ => none) (parts.toList.map (·.2)) 0 with
  | some (.str τ), some σ, some l => match o.dst with
   | some d => bif τ.noFn && decide ((Ty.str τ).fz = σ) && qaz (parts.toList.map (·.1)) [] && (parts.toList.map (·.1)).all (qaw τ) then (match qh7 s ((parts.toList.map (·.1)).zip l) τ 0 with
    | some (s, x) => k ((s.newObj d true (.str τ) x).set d (.view d []))
    | none => none) else none
   | none => none
  | none, some (.str τ), some l => bif τ.noFn && qaz (parts.toList.map (·.1)) [] && (parts.toList.map (·.1)).all (qaw τ) then (match qh8 s ((parts.toList.map (·.1)).zip l) τ 0 with
   | some (s, x) => k (s.setDst o.dst (.val (.str τ) x))
   | none => none) else none
  | none, some (.arr n e), some l => bif e.noFn && qaz (parts.toList.map (·.1)) [] && (parts.toList.map (·.1)).all (fun i => Nat.blt i n) then (match qgX s ((parts.toList.map (·.1)).zip l) e 0 n with
   | some (s, x) => k (s.setDst o.dst (.val (.arr n e) x))
   | none => none) else none
  | _, _, _ => none
 | .buildSlice T len parts => match o.dst, lk cfg.ty T, qbA s (fun _ => none) (parts.toList.map (·.2)) 0 with
  | some d, some (.list _ tid e), some l => bif e.noFn && Nat.ble (len * e.size) 16777216 && qaz (parts.toList.map (·.1)) [] && (parts.toList.map (·.1)).all (fun i => Nat.blt i len) then (match qgX s ((parts.toList.map (·.1)).zip l) e 0 len with
   | some (s, x) => k ((s.newObj d true (.list true tid e) x).set d (.view d []))
   | none => none) else none
  | _, _, _ => none
 | .call c => match c.callee with
  | .builtin .len => match c.args.toList, c.argTypes.toList with
   | [x], [T] => match jF s none x with
    | some a => bif qbP (lk cfg.ty T) then qic s a fun n => k (s.setDst o.dst (.val (.int .i64) n)) else none
    | none => none
   | _, _ => none
  | .builtin .append => match c.args.toList, c.argTypes.toList with
   | [x, y], [T, T'] => match jF s (lk cfg.ty T) x, jF s (lk cfg.ty T') y with
    | some a, some b => bif Nat.beq T T' then qla s (lk cfg.ty T) o.dst x a b (qeI cfg o.dst k) else none
    | _, _ => none
   | _, _ => none
  | .builtin .copy => match c.args.toList, c.argTypes.toList with
   | [x, y], [T, T'] => match jF s (lk cfg.ty T) x, jF s (lk cfg.ty T') y with
    | some a, some b => copyK s (lk cfg.ty T) o.dst a b k
    | _, _ => none
   | _, _ => none
  | .builtin .clear => match c.args.toList, c.argTypes.toList with
   | [x], [T] => match jF s (lk cfg.ty T) x with
    | some a => clearK s (lk cfg.ty T) o.dst a k
    | none => none
   | _, _ => none
  | .builtin .max => match qbA s (fun _ => none) c.args.toList 0 with
   | some [.val (.int i) a, .val (.int j) b] => bif (i == j) then k (s.setDst o.dst (.val (.int i) (max a b))) else none
   | some [.val (.int i) a, .val (.int j) b, .val (.int l) c] => bif (i == j) && (i == l) then k (s.setDst o.dst (.val (.int i) (max (max a b) c))) else none
   | _ => none
  | .builtin .min => match qbA s (fun _ => none) c.args.toList 0 with
   | some [.val (.int i) a, .val (.int j) b] => bif (i == j) then k (s.setDst o.dst (.val (.int i) (min a b))) else none
   | _ => none
  | .value f => qi2 cfg (commitAll s c.args.toList) o.dst f c k
  | _ => none
 | _ => none
def j6 (o : Oper) : Bool :=
 match o.op with
 | .move _ => true
 | .assign _ => true
 | .pick _ _ _ => true
 | .load _ _ => true
 | .nilCheck _ => true
 | .binOp _ _ _ _ _ => true
 | .unOp _ _ _ => true
 | .convert _ _ _ => true
 | .fieldAddr _ _ _ => true
 | .indexAddr _ _ _ => true
 | .extract _ _ => true
 | .slice _ _ _ _ _ => true
 | .makeFunc (.func _) _ _ => true
 | .call c => match c.callee with
  | .builtin .len => true
  | .builtin .max => true
  | .builtin .min => true
  | _ => false
 | _ => false
def qbD (m : Ms) : Operand → Bool
 | .tmp t => qde t m.tm
 | _ => false
def qdA (m : Ms) : Operand → Bool
 | .tmp t => match m.it with
  | some (ti, _) => qde t ti
  | none => false
 | _ => false
def inOK : Int → Bool
 | .ofNat m => Nat.ble m 9223372036854775807
 | .negSucc m => Nat.ble m 9223372036854775807
def inI {R : Type} (n : Int) (k : Option R) : Option R := bif inOK n then k else none
theorem qjR {n : Int} : inOK n = true ↔ -9223372036854775808 ≤ n ∧ n ≤ 9223372036854775807 := by
 cases n with
 | ofNat m =>
  show Nat.ble m 9223372036854775807 = true ↔ _
  rw [Nat.ble_eq]
  have e : Int.ofNat m = (m : Int) := rfl
  rw [e]
  omega
 | negSucc m =>
  show Nat.ble m 9223372036854775807 = true ↔ _
  rw [Nat.ble_eq]
  have e : Int.negSucc m = -((m : Int) + 1) := rfl
  rw [e]
  omega
theorem inI_eq {R : Type} (n : Int) (k : Option R) : inI n k = if -9223372036854775808 ≤ n ∧ n ≤ 9223372036854775807 then k else none := by
 unfold inI
 cases h : inOK n with
 | true => rw [if_pos (qjR.1 h)]; rfl
 | false => rw [if_neg (fun hh => by rw [qjR.2 hh] at h; cases h)]; rfl
def avI (n : Int) : AV := .val (.int .i64) n
def qfI (s : St) (x : Operand) : Option Int :=
 match jF s none x with
 | some (.val (.int .i64) n) => some n
 | _ => none
noncomputable def qkN {R : Type} (cfg : qS) (o : Oper) (s : St) (m : Ms) (k : St → Option R) : Option R :=
 match o.op with
 | .lookup T x i true => bif qbD m x && (decide (lk cfg.maps T = some (m.kt, m.vt))) then (match qfI s i with
  | some n => inI n (match lkI m.kv n with
   | some v => k ((s.setDst o.dst (.cons (avI v) (.cons (.val .bool true) .nil))).withM (some (m.strike o.dst)))
   | none => k ((s.setDst o.dst (.cons (avI 0) (.cons (.val .bool false) .nil))).withM (some (m.strike o.dst))))
  | none => none) else none
 | .mapUpdate T x i v => bif qbD m x && (decide (lk cfg.maps T = some (m.kt, m.vt))) then (match qfI s i, qfI s v with
  | some n, some v => inI n (inI v (jE m.kv.length (k (((s.killIf AV.isUpd).setDst o.dst .dead).withM (some ⟨m.kt, m.vt, (m.strike o.dst).tm, qdO m.kv n v, none, none⟩)))))
  | _, _ => none) else none
 | .range T x => match o.dst with
  | some d => bif qbD m x && (decide (lk cfg.maps T = some (m.kt, m.vt))) then k ((s.set d .dead).withM (some ⟨m.kt, m.vt, qfh d m.tm, m.kv, some ([d], m.kv.map (·.1)), none⟩)) else none
  | none => none
 | .next x false => bif qdA m x then (match (m.strike o.dst).it with
  | some (ti, lf) => match lf with
   | [] => k ((s.setDst o.dst (.cons (.val .bool false) .nil)).withM (some (m.strike o.dst).calm))
   | _ => dem (fun n : Int => n ∈ lf) fun n => match lkI m.kv n with
    | some v => k (((s.killIf AV.isUpd).setDst o.dst (.cons (.val .bool true) (.cons (avI n) (.cons (avI v) .nil)))).withM (some ⟨m.kt, m.vt, (m.strike o.dst).tm, m.kv, some (ti, qhn n lf), some (n, v)⟩))
    | none => none
  | none => none) else none
 | .entry x => bif qdA m x then (match m.cur with
  | some (n, v) => k ((s.setDst o.dst (.cons (avI n) (.cons (avI v) .nil))).withM (some (m.strike o.dst)))
  | none => none) else none
 | .call c => match c.callee with
  | .builtin .len => match c.args.toList, c.argTypes.toList with
   | [x], [T] => bif qbD m x && (decide (lk cfg.maps T = some (m.kt, m.vt))) then k ((s.setDst o.dst (avI m.kv.length)).withM (some (m.strike o.dst)))
     else qT cfg o s fun s' => k (s'.withM (some (m.strike o.dst)))
   | _, _ => none
  | .builtin .delete => match c.args.toList, c.argTypes.toList with
   | [x, i], [T, T'] => bif qbD m x && (decide (lk cfg.maps T = some (m.kt, m.vt))) && Nat.beq T' m.kt then (match qfI s i with
    | some n => inI n (k (((s.killIf AV.isUpd).setDst o.dst .nil).withM (some ⟨m.kt, m.vt, (m.strike o.dst).tm, qhq m.kv n, none, none⟩)))
    | none => none) else none
   | _, _ => none
  | _ => qT cfg o s fun s' => k (s'.withM (some (bif j6 o then m.strike o.dst else (m.strike o.dst).calm)))
 | .move x => qT cfg o s fun s' => k (s'.withM (some (bif qbD m x then (m.strike o.dst).add o.dst else m.strike o.dst)))
 | .assign x => qT cfg o s fun s' => k (s'.withM (some (bif qbD m x then (m.strike o.dst).add o.dst else m.strike o.dst)))
 | _ => qT cfg o s fun s' => k (s'.withM (some (bif j6 o then m.strike o.dst else (m.strike o.dst).calm)))
noncomputable def qb3 {R : Type} (cfg : qS) (o : Oper) (s : St) (k : St → Option R) : Option R :=
 match s.mp with
 | none => match o.op with
  | .makeMap T none => match o.dst, lk cfg.maps T with
   | some d, some (kt, vt) => k ((s.set d .dead).withM (some ⟨kt, vt, [d], [], none, none⟩))
   | _, _ => none
  | _ => qT cfg o s fun s' => k (s'.withM none)
 | some m => qkN cfg o s m k
def St.skip (s : St) (d : Option Nat) : St := (s.setDst d .nil).withM (s.mp.map fun m => m.strike d)
noncomputable def qav {R : Type} (cfg : qS) (ops : Array Oper) (k : St → Option R) : List Oper → St → Option R
 | [], s => k s
 | o :: rest, s => bif qU cfg.nt o.dst then (match o.guard with
  | none => qb3 cfg o s fun s => qav cfg ops k rest s
  | some (j, want) => match (ops[j]?).bind (·.dst) with
   | none => none
   | some t => match s.get t with
    | some (.val .bool b) => cond b
      (let s := s.set t (.val .bool true)
      bif want then qb3 cfg o s fun s => qav cfg ops k rest s else qav cfg ops k rest (s.skip o.dst))
      (let s := s.set t (.val .bool false)
      bif want then qav cfg ops k rest (s.skip o.dst) else qb3 cfg o s fun s => qav cfg ops k rest s)
    | some .nil => qav cfg ops k rest (s.skip o.dst)
    | _ => none) else none
def qgr (ops : Array Oper) (s : St) : Option (Nat × Bool) → Option Bool
 | none => some true
 | some (j, want) => match (ops[j]?).bind (·.dst) with
  | none => none
  | some t => match s.get t with
   | some (.val .bool b) => some (cond want b (!b))
   | some .nil => some false
   | _ => none
def decided (dec : List Nat) : Option (Nat × Bool) → Bool
 | none => true
 | some (j, _) => qde j dec
def qgD (cfg : qS) (s : St) : Op → Bool
 | .move _ => true
 | .load T x => match jF s none x with
  | some (.ref σ _) => decide (lk cfg.ty T = some σ)
  | some (.cv i _ n) => Nat.beq i 2 && (Nat.beq (n / 1000) 1 && qfd (lk cfg.ty T))
  | _ => false
 | .fieldAddr T x i => match jF s none x, lk cfg.ty T with
  | some (.ref _ _), some (.str t) => qaw t i
  | some (.ptr _ _), some (.str t) => qaw t i
  | _, _ => false
 | .nilCheck x => match jF s none x with
  | some (.ref _ _) => true
  | some (.ptr _ _) => true
  | _ => false
 | .extract x i => match jF s none x, i with
  | some (.cons _ _), 0 => true
  | some (.cons _ (.cons _ _)), 1 => true
  | _, _ => false
 | .binOp .add _ x y _ => match jF s none x, jF s none y with
  | some (.val (.int i) _), some (.val (.int j) _) => i == j
  | _, _ => false
 | .binOp .sub _ x y _ => match jF s none x, jF s none y with
  | some (.val (.int i) _), some (.val (.int j) _) => i == j
  | _, _ => false
 | .call ⟨.builtin .len, ⟨[x]⟩, ⟨[T]⟩⟩ => match jF s none x with
  | some (.val (.list _ _ _) _) => qbP (lk cfg.ty T)
  | _ => false
 | _ => false
def qeZ (cfg : qS) (s : St) (o : Oper) : Bool :=
 match o.op, o.guard, o.dst.bind (lk cfg.site) with
 | .slice T x none (some y) none, none, none => match jF s none x with
  | some (.val (.list false tid e) _) => (match jF s none y with
   | some (.val (.int _) _) => decide (lk cfg.ty T = some (.list false tid e))
   | _ => false)
  | _ => false
 | _, _, _ => false
def qiO (s : St) (o : Oper) : Bool :=
 match o.op, o.guard with
 | .indexAddr _ x _, none => (match jF s none x with
  | some (.val (.list _ _ _) _) => true
  | some (.ref (.arr _ _) _) => true
  | some (.view id []) => (match s.obj id with
   | some o => o.row
   | none => false)
  | _ => false)
 | _, _ => false
def qhb (cfg : qS) (ops : Array Oper) (listed : Array Bool) (dec : List Nat) (s : St) (i : Nat) : Bool :=
 match ops[i]? with
 | some o => s.mp.isNone && (decided dec o.guard && (Region.free .any ops listed i && (match qgr ops s o.guard with
  | some w => cond w (qgD cfg s o.op || (qeZ cfg s o || qiO s o)) true
  | none => false)))
 | none => false
noncomputable def decK {R : Type} (ops : Array Oper) : List Nat → List Nat → St → (List Nat → St → Option R) → Option R
 | [], dec, s, k => k dec s
 | i :: l, dec, s, k => match (ops[i]?).bind (·.guard) with
  | none => decK ops l dec s k
  | some (j, _) => bif qde j dec then decK ops l dec s k else match (ops[j]?).bind (·.dst) with
   | none => decK ops l dec s k
   | some t => match s.get t with
    | some (.val .bool b) => cond b (decK ops l (j :: dec) (s.set t (.val .bool true)) k) (decK ops l (j :: dec) (s.set t (.val .bool false)) k)
    | some .nil => decK ops l (j :: dec) s k
    | _ => decK ops l dec s k
def qf5 (ops : Array Oper) (i : Nat) : List Oper := match ops[i]? with | some o => [o] | none => []
noncomputable def qc5 {R : Type} (cfg : qS) (ops : Array Oper) (k : St → Option R) : Nat → Array Bool → List Nat → St → Option R
 | 0, listed, _, s => match Region.ready .any ops listed with
  | [] => k s
  | _ :: _ => none
 | n + 1, listed, dec, s => decK ops (Region.ready .any ops listed) dec s fun dec s => match (Region.ready .any ops listed).find? (qhb cfg ops listed dec s) with
  | some i => qav cfg ops (fun s => qc5 cfg ops k n (listed.setIfInBounds i true) dec s) (qf5 ops i) s
  | none => match Region.ready .any ops listed with
   | [] => k s
   | [i] => qav cfg ops (fun s => qc5 cfg ops k n (listed.setIfInBounds i true) dec s) (qf5 ops i) s
   | i :: j :: l => jC ((i :: j :: l).map fun i => qav cfg ops (fun s => qc5 cfg ops k n (listed.setIfInBounds i true) dec s) (qf5 ops i) s)
def frzT (cfg : qS) (s : St) : Operand → St
 | .tmp t => match lk cfg.site t with
  | none => s
  | some τ => bif τ.isFz then (match s.get t with
   | some (.ptr id []) => s.freeze id
   | _ => s) else s
 | _ => s
def qfK (cfg : qS) : List Oper → St → St
 | [], s => s
 | o :: r, s => qfK cfg r (match o.op with
  | .fieldAddr _ x _ => frzT cfg s x
  | .load _ x => frzT cfg s x
  | .indexAddr _ x _ => frzT cfg s x
  | _ => s)
def qaO : Code → Option Nat
 | .region id _ _ => some id
 | .seq a b => match qaO a with
  | some n => some n
  | none => qaO b
 | .cond _ a b => match qaO a with
  | some n => some n
  | none => qaO b
 | .block _ c => qaO c
 | .loop c => qaO c
 | _ => none
def qeW {R : Type} (f : St → Option R) (k : X → St → Option R) (e : X) (s : St) : Option R :=
 match e with
 | .norm => f s
 | e => k e s
def qi3 {R : Type} (id : Nat) (k : X → St → Option R) (e : X) (s : St) : Option R :=
 match e with
 | .exit j => bif Nat.beq j id then k .norm s else k (.exit j) s
 | e => k e s
def qiQ (s : St) : List Nat → Option (List AV)
 | [] => some []
 | t :: l => match s.get t, qiQ s l with
  | some a, some r => some (a :: r)
  | _, _ => none
def reads (p : jL) : Bool :=
 match p with
 | .v _ => true
 | .r _ => true
 | .c _ => true
 | .gm _ => true
 | _ => false
def qbv (s : St) : List jL → List AV → St
 | .gm _ :: ps, a :: l => match a with
  | .ptr id _ => qbv ((s.kill id).setObj id none) ps l
  | _ => qbv s ps l
 | _ :: ps, _ :: l => qbv s ps l
 | _, _ => s
def bindP : List Nat → (a : Ty) → a.den → List (Nat × AV)
 | [p, q], .pair t u, x => [(q, .val u x.2), (p, .val t x.1)]
 | [p], a, x => [(p, .val a x)]
 | _, _, _ => []
def okP (nt : Nat) : List Nat → Ty → Bool
 | [p, q], .pair _ _ => Nat.blt p nt && Nat.blt q nt
 | [_], .pair _ _ => false
 | [p], _ => Nat.blt p nt
 | _, _ => false
def AV.isNilT : AV → Bool
 | .nil => true
 | _ => false
def qjP (f : Nat) : AV → Nat
 | .nil => f
 | _ => 5000000 + f
noncomputable def run {R : Type} (cfg : qS) (n : Nat) : Code → St → (X → St → Option R) → Option R
 | .skip, s, k => k .norm s
 | .ret, s, k => k .ret s
 | .exit id, s, k => k (.exit id) s
 | .region id ops draw, s, k => bif draw && s.mp.isSome then none else bif draw && qde id cfg.enum && Region.noSelect ops then (match lk cfg.joins id with
  | some sk => qa (qc5 cfg ops sk.get ops.size (Array.replicate ops.size false) [] (qfK cfg ops.toList s)) fun d => k .norm (sk.fill d)
  | none => qc5 cfg ops (k .norm) ops.size (Array.replicate ops.size false) [] (qfK cfg ops.toList s)) else qav cfg ops (k .norm) ops.toList s
 | .seq a b, s, k => run cfg n a s (qeW (fun s => run cfg n b s k) k)
 | .cond c a b, s, k => match jF s none c with
  | some (.val .bool c) => cond c (run cfg n a s k) (run cfg n b s k)
  | _ => none
 | .block id c, s, k => run cfg n c s (qi3 id k)
 | .loop c, s, k => match qaO c with
  | none => none
  | some key => match lk cfg.loops key with
   | none => none
   | some li => match li.ins.get s with
    | none => none
    | some d => qa (li.g n d) fun o => outK k li.outs o
 | .rangeFunc g ps assign _, s, k => match qaO assign, jF s none g with
  | some key, some (.fn f fa caps) => match lk cfg.iters (qjP f fa), lk cfg.rloops key with
   | some it, some li => match qiQ s li.tl with
    | some l => bif Nat.blt f 5000000 && fa.isTup && caps.isTup && (fa.isNilT || caps.isNilT) && s.mp.isNone && it.ps.all reads && qaz (qI it.ps (fa.list ++ caps.list) ++ qI li.ps l) (qt it.ps (fa.list ++ caps.list) ++ qt li.ps l) && okP cfg.nt ps.toList li.a && Nat.ble li.ps.length cfg.nt && li.ps.all jL.noT then
      qbl cfg s it.ps (fa.list ++ caps.list) fun dc => qbl cfg s li.ps l fun d => qa (it.g dc) fun xs0 => qa (qL (.list false 0 it.a) (.list false 0 li.a) xs0) fun xs => qa (li.g n xs d) fun o =>
       pickK li.outs o.1 fun e => k e ((qA ((qbv (s.freezeAll (qt it.ps (fa.list ++ caps.list) ++ qt li.ps l)) it.ps (fa.list ++ caps.list)).killIf AV.isUpd) li.ps l o.2).withM none) else none
    | none => none
   | _, _ => none
  | _, _ => none
 | _, _, _ => none
def qN (li : qY) (n : Nat) (e : X) (s : St) : Option (Outs li.outs) :=
 match e with
 | .norm => match li.ins.get s with
  | some d => li.g n d
  | none => none
 | e => qjv e s li.outs
def LoopEq (cfg : qS) (li : qY) (c : Code) : Prop :=
 (∀ d, li.g 0 d = none) ∧ ∀ n d, li.g (n + 1) d = run cfg n c (li.ins.fill d) (qN li n)
def qac (cfg : qS) : Code → Prop
 | .seq a b => qac cfg a ∧ qac cfg b
 | .cond _ a b => qac cfg a ∧ qac cfg b
 | .block _ c => qac cfg c
 | .loop c => qac cfg c ∧ ∀ key li, qaO c = some key → lk cfg.loops key = some li → LoopEq cfg li c
 | _ => True
def pid (i : Nat) : Nat := 10000000 + i
def jV : (ps : List jL) → Nat → PDens ps → List (Nat × AV)
 | [], _, _ => []
 | .v τ :: ps, i, d => (i, .val τ d.1) :: jV ps (i + 1) d.2
 | .r τ :: ps, i, d => (i, .ref τ d.1) :: jV ps (i + 1) d.2
 | .c f :: ps, i, d => (i, .fn f .nil .nil) :: jV ps (i + 1) d.2
 | .t _ _ :: ps, i, d => (i, .view (pid i) []) :: jV ps (i + 1) d.2
 | .gm _ :: ps, i, d => (i, .ptr (pid i) []) :: jV ps (i + 1) d.2
 | .cm f _ :: ps, i, d => (i, .fn f .nil (.cons (.ptr (pid i) []) .nil)) :: jV ps (i + 1) d.2
 | .m _ :: ps, i, d => (i, .ptr (pid i) []) :: jV ps (i + 1) d.2
 | .mr _ _ :: ps, i, d => (i, .view (pid i) []) :: jV ps (i + 1) d.2
def jG : (ps : List jL) → Nat → PDens ps → List (Nat × Option Obj)
 | [], _, _ => []
 | .v _ :: ps, i, d => jG ps (i + 1) d.2
 | .r _ :: ps, i, d => jG ps (i + 1) d.2
 | .c _ :: ps, i, d => jG ps (i + 1) d.2
 | .t tid e :: ps, i, d => (pid i, some ⟨true, .list true tid e, d.1⟩) :: jG ps (i + 1) d.2
 | .gm τ :: ps, i, d => (pid i, some ⟨false, τ, d.1⟩) :: jG ps (i + 1) d.2
 | .cm _ τ :: ps, i, d => (pid i, some ⟨false, τ, d.1⟩) :: jG ps (i + 1) d.2
 | .m τ :: ps, i, d => (pid i, some ⟨false, τ, d.1⟩) :: jG ps (i + 1) d.2
 | .mr tid e :: ps, i, d => (pid i, some ⟨true, .list true tid e, d.1⟩) :: jG ps (i + 1) d.2
def qbB (ps : List jL) (d : PDens ps) : St := ⟨jV ps 0 d, jG ps 0 d, none⟩
def jB (s : St) : (ps : List jL) → Nat → Option (MDens ps)
 | [], _ => some ()
 | .v _ :: ps, i => jB s ps (i + 1)
 | .r _ :: ps, i => jB s ps (i + 1)
 | .c _ :: ps, i => jB s ps (i + 1)
 | .t _ _ :: ps, i => jB s ps (i + 1)
 | .gm _ :: ps, i => jB s ps (i + 1)
 | .cm _ τ :: ps, i => match s.obj (pid i) with
  | some o => bif o.row then none else match qL o.τ τ o.x, jB s ps (i + 1) with
   | some x, some d => some (x, d)
   | _, _ => none
  | none => none
 | .m τ :: ps, i => match s.obj (pid i) with
  | some o => bif o.row then none else match qL o.τ τ o.x, jB s ps (i + 1) with
   | some x, some d => some (x, d)
   | _, _ => none
  | none => none
 | .mr tid e :: ps, i => match s.obj (pid i) with
  | some o => bif o.row then (match qL o.τ (.list true tid e) o.x, jB s ps (i + 1) with
   | some x, some d => some (x, d)
   | _, _ => none) else none
  | none => none
def qat : (ps : List jL) → Nat → List Nat
 | [], _ => []
 | .v _ :: ps, i => qat ps (i + 1)
 | .r _ :: ps, i => qat ps (i + 1)
 | .c _ :: ps, i => qat ps (i + 1)
 | .t _ _ :: ps, i => qat ps (i + 1)
 | .gm _ :: ps, i => qat ps (i + 1)
 | .cm _ _ :: ps, i => pid i :: qat ps (i + 1)
 | .m _ :: ps, i => pid i :: qat ps (i + 1)
 | .mr _ _ :: ps, i => pid i :: qat ps (i + 1)
def qdB (li : qcj) (pl : List Nat) (d : PDens li.ps) (x : li.a.den) : St := ⟨bindP pl li.a x ++ li.tl.zip ((jV li.ps 0 d).map (·.2)), jG li.ps 0 d, none⟩
def qix (li : qcj) (n : Nat) (r : List li.a.den) (d : PDens li.ps) (e : X) (s : St) : Option (X × MDens li.ps) :=
 match jB s li.ps 0 with
 | some md => match e with
  | .norm => li.g n r (j2 li.ps d md)
  | e => some (e, md)
 | none => none
def qhk {R : Type} (_ : X) (_ : St) : Option R := none
noncomputable def qga (cfg : qS) (li : qcj) (n : Nat) (body : Code) (r : List li.a.den) (d : PDens li.ps) (s : St) : Option (X × MDens li.ps) :=
 bif s.mp.isNone then run cfg n body (s.killIf AV.isUpd) (qix li n r d) else none
def qi7 (cfg : qS) (li : qcj) (pl : List Nat) (assign body : Code) : Prop :=
 (∀ n d, li.g n [] d = some (.norm, qbt li.ps d)) ∧ ∀ n x r d, li.g n (x :: r) d = run cfg n assign (qdB li pl d x) (qeW (qga cfg li n body r d) qhk)
def qby (cfg : qS) : Code → Prop
 | .seq a b => qby cfg a ∧ qby cfg b
 | .cond _ a b => qby cfg a ∧ qby cfg b
 | .block _ c => qby cfg c
 | .loop c => qby cfg c
 | .rangeFunc _ ps assign body => qac cfg assign ∧ qac cfg body ∧ ∀ key li, qaO assign = some key → lk cfg.rloops key = some li → qi7 cfg li ps.toList assign body
 | _ => True
def qgF {R : Type} (cfg : qS) (s : St) (v : ResultVar) (k : AV → Option R) : Option R :=
 match v with
 | .tmp t => match s.get t with
  | some a => k a
  | none => none
 | .cell t T => match s.get t with
  | some a => qjK s (lk cfg.ty T) a k
  | none => none
def qgh {R : Type} (cfg : qS) (s : St) (used : List Nat) : List ResultVar → (rs : List RTy) → (RDens rs → Option R) → Option R
 | [], [], k => k ()
 | v :: vs, .v τ :: rs, k => qgF cfg s v fun a => bif qaz a.touches used then qbN s a τ fun x => qgh cfg s (a.touches ++ used) vs rs fun d => k (x, d) else none
 | v :: vs, .own tid e :: rs, k => qgF cfg s v fun a => match a with
  | .view id p => bif qaR id used then none else match s.obj id with
   | some o => qbH o.τ o.x p fun σ y => qa (qL σ (.list true tid e) y) fun x => qgh cfg s (id :: used) vs rs fun d => k (x, d)
   | none => none
  | _ => none
 | v :: vs, .ownv τ :: rs, k => qgF cfg s v fun a => match a with
  | .view id p => bif qaR id used || !qeA τ then none else match s.obj id with
   | some o => qbH o.τ o.x p fun σ y => qa (qL σ τ y) fun x => qgh cfg s (id :: used) vs rs fun d => k (x, d)
   | none => none
  | _ => none
 | v :: vs, .sure nn tid e :: rs, k => qgF cfg s v fun a => match a with
  | .view id [] => bif qaR id used || !qeH id nn then none else match s.obj id with
   | some o => bif o.row then qa (qL o.τ (.list true tid e) o.x) fun x => qgh cfg s (id :: used) vs rs fun d => k (x, d) else none
   | none => none
  | _ => none
 | v :: vs, .optr τ :: rs, k => qgF cfg s v fun a => match a with
  | .ptr id [] => bif qaR id used then none else match s.obj id with
   | some o => bif o.row then none else qa (qL o.τ τ o.x) fun x => qgh cfg s (id :: used) vs rs fun d => k (x, d)
   | none => none
  | _ => none
 | _, _, _ => none
def qcP (cfg : qS) (fn : Func) (ps : List jL) (rs : List RTy) (e : X) (s : St) : Option (RDens rs × MDens ps) :=
 match e with
 | .exit _ => none
 | _ => match jB s ps 0 with
  | some md => qgh cfg s (qat ps 0) fn.results.toList rs fun d => some (d, md)
  | none => none
noncomputable def qy (cfg : qS) (n : Nat) (fn : Func) (c : Code) (ps : List jL) (rs : List RTy) (d : PDens ps) : Option (RDens rs × MDens ps) :=
 run cfg n c (qbB ps d) (qcP cfg fn ps rs)
end Go.Vi
namespace Go.Vi
abbrev FH := Nat → Option (Array Value)
def FH.le (H H' : FH) : Prop := ∀ b c, H b = some c → H' b = some c
theorem FH.le_refl (H : FH) : H.le H := fun _ _ h => h
theorem FH.le_trans {A B C : FH} (h : A.le B) (k : B.le C) : A.le C := fun b c e => k b c (h b c e)
def HOk (H : FH) (w : World) : Prop := ∀ b c, H b = some c → ∃ t f, w.heap[b]? = some (.cells c t f)
structure j9 (M : Nat → Prop) (w w' : World) : Prop where
 os : w'.os = w.os
 tape : w'.tape = w.tape
 output : w'.output = w.output
 size : w.heap.size ≤ w'.heap.size
 block : ∀ k, k < w.heap.size → ¬ M k → w'.heap[k]? = w.heap[k]?
theorem j9.refl (M : Nat → Prop) (w : World) : j9 M w w := ⟨rfl, rfl, rfl, Nat.le_refl _, fun _ _ _ => rfl⟩
theorem j9.trans {M : Nat → Prop} {a b c : World} (h : j9 M a b) (k : j9 M b c) : j9 M a c :=
 ⟨k.os.trans h.os, k.tape.trans h.tape, k.output.trans h.output, Nat.le_trans h.size k.size, fun i hi hm => (k.block i (Nat.lt_of_lt_of_le hi h.size) hm).trans (h.block i hi hm)⟩
theorem j9.trans_new {M N : Nat → Prop} {a b c : World} (h : j9 M a b) (k : j9 N b c) (hN : ∀ i, N i → M i ∨ a.heap.size ≤ i) : j9 M a c :=
 ⟨k.os.trans h.os, k.tape.trans h.tape, k.output.trans h.output, Nat.le_trans h.size k.size, fun i hi hm => (k.block i (Nat.lt_of_lt_of_le hi h.size) (fun hn => (hN i hn).elim hm (fun e => by omega))).trans (h.block i hi hm)⟩
theorem j9.mono {M N : Nat → Prop} {a b : World} (h : j9 M a b) (hN : ∀ i, M i → N i) : j9 N a b :=
 ⟨h.os, h.tape, h.output, h.size, fun i hi hm => h.block i hi (fun hh => hm (hN i hh))⟩
def jO : Nat → Prop := fun _ => False
theorem HOk.mod {H : FH} {M : Nat → Prop} {w w' : World} (h : HOk H w) (hm : j9 M w w') (hM : ∀ b, M b → H b = none) : HOk H w' := by
 intro b c hb
 obtain ⟨t, f, hw⟩ := h b c hb
 refine ⟨t, f, ?_⟩
 rw [hm.block b (Array.getElem?_eq_some_iff.1 hw).1 (fun hh => by rw [hM b hh] at hb; cases hb)]
 exact hw
def seg (c : Array Value) (o n : Nat) : List Value := (c.toList.drop o).take n
def jZ (τ : Ty) (cs : List Value) : Value := bif τ.isAgg then .agg cs.toArray else cs.headD undef
def qg {α : Type} (R : α → List Value → List Nat → Prop) : List α → List Value → List Nat → Prop
 | [], xs, fp => xs = [] ∧ fp = []
 | x :: l, xs, fp => ∃ c xs' f fp', xs = c ++ xs' ∧ fp = f ++ fp' ∧ R x c f ∧ qg R l xs' fp'
def jJ (P : Program) (f : Nat) : Prop := ∃ fn, P.funcs[f]? = some fn ∧ (fn.name == "runtime.NumGoroutine") = false ∧ fn.body.isSome = true
def qx (P : Program) : (τ : Ty) → World → FH → τ.den → List Value → List Nat → Prop
 | .int k, _, _, x, cs, fp => cs = [.int k x] ∧ fp = []
 | .bool, _, _, x, cs, fp => cs = [.bool x] ∧ fp = []
 | .list false _ e, w, H, l, cs, fp => fp = [] ∧ ∃ a cap, cs = [.slice a l.length cap] ∧ l.length ≤ cap ∧
   (l = [] ∨ ∃ b o blk, a = some ⟨b, o, none⟩ ∧ H b = some blk ∧ qg (qx P e w H) l (seg blk o (l.length * e.size)) [])
 | .list true tid e, w, H, l, cs, fp => ∃ hdr xs fp', cs = [hdr] ∧ fp = hdr.ownBlock.toList ++ fp' ∧ w.ownsRow 0 tid e.size hdr l.length xs ∧ qg (qx P e w H) l xs fp'
 | .pair a b, w, H, x, cs, fp => ∃ c1 c2 f1 f2, cs = c1 ++ c2 ∧ fp = f1 ++ f2 ∧ qx P a w H x.1 c1 f1 ∧ qx P b w H x.2 c2 f2
 | .str t, w, H, x, cs, fp => qx P t w H x cs fp
 | .ptr t, w, H, x, cs, fp => fp = [] ∧ match x with
   | none => cs = [.pointer none]
   | some y => ∃ b o blk, cs = [.pointer (some ⟨b, o, none⟩)] ∧ H b = some blk ∧ qx P t w H y (seg blk o t.size) []
 | .arr n e, w, H, l, cs, fp => l.length = n ∧ qg (qx P e w H) l cs fp
 | .fn a r, _, H, g, cs, fp => fp = [] ∧ ∃ f first caps, cs = [.func (.func f) first caps] ∧ jJ P f ∧
   ∀ x y, g x = some y → ∀ H' w' cx, H.le H' → HOk H' w' → qx P a w' H' x cx [] →
    Calls P f (first ++ #[jZ a cx] ++ caps) w' fun e w'' => ∃ cy, e = .returned (jZ r cy) ∧ j9 jO w' w'' ∧ qx P r w'' H' y cy []
 | .fn2 a b r, _, H, g, cs, fp => fp = [] ∧ ∃ f first caps, cs = [.func (.func f) first caps] ∧ jJ P f ∧
   ∀ x y z, g x y = some z → ∀ H' w' cx cy, H.le H' → HOk H' w' → qx P a w' H' x cx [] → qx P b w' H' y cy [] →
    Calls P f (first ++ #[jZ a cx, jZ b cy] ++ caps) w' fun e w'' => ∃ cz, e = .returned (jZ r cz) ∧ j9 jO w' w'' ∧ qx P r w'' H' z cz []
section chunks
variable {α : Type} {R S : α → List Value → List Nat → Prop}
theorem qg.mono (h : ∀ x c f, R x c f → S x c f) : ∀ {l : List α} {xs fp}, qg R l xs fp → qg S l xs fp
 | [], _, _, hh => hh
 | _ :: _, _, _, ⟨c, xs', f, fp', e1, e2, h1, h2⟩ => ⟨c, xs', f, fp', e1, e2, h _ _ _ h1, qg.mono h h2⟩
theorem qg.mono_fp {Q : Nat → Prop} (h : ∀ x c f, (∀ b ∈ f, Q b) → R x c f → S x c f) : ∀ {l : List α} {xs fp}, (∀ b ∈ fp, Q b) → qg R l xs fp → qg S l xs fp
 | [], _, _, _, hh => hh
 | _ :: _, _, _, hq, ⟨c, xs', f, fp', e1, e2, h1, h2⟩ =>
  ⟨c, xs', f, fp', e1, e2, h _ _ _ (fun b hb => hq b (by rw [e2]; simp [hb])) h1, qg.mono_fp h (fun b hb => hq b (by rw [e2]; simp [hb])) h2⟩
theorem qg.length {n : Nat} (h : ∀ x c f, R x c f → c.length = n) : ∀ {l : List α} {xs fp}, qg R l xs fp → xs.length = l.length * n
 | [], _, _, ⟨e, _⟩ => by simp [e]
 | _ :: l, _, _, ⟨c, xs', f, fp', e1, e2, h1, h2⟩ => by
  rw [e1, List.length_append, h _ _ _ h1, qg.length h h2, List.length_cons, Nat.add_mul]; omega
theorem qg.all {p : Value → Prop} (h : ∀ x c f, R x c f → ∀ v ∈ c, p v) : ∀ {l : List α} {xs fp}, qg R l xs fp → ∀ v ∈ xs, p v
 | [], _, _, ⟨e, _⟩ => by simp [e]
 | _ :: l, _, _, ⟨c, xs', f, fp', e1, e2, h1, h2⟩ => by
  intro v hv
  rw [e1, List.mem_append] at hv
  exact hv.elim (h _ _ _ h1 v) (qg.all h h2 v)
theorem qg.append : ∀ {l l' : List α} {xs ys fp fq}, qg R l xs fp → qg R l' ys fq → qg R (l ++ l') (xs ++ ys) (fp ++ fq)
 | [], _, _, _, _, _, ⟨e, e'⟩, hh => by simpa [e, e'] using hh
 | _ :: _, _, _, _, _, _, ⟨c, xs', f, fp', e1, e2, h1, h2⟩, hh =>
  ⟨c, xs' ++ _, f, fp' ++ _, by rw [e1, List.append_assoc], by rw [e2, List.append_assoc], h1, qg.append h2 hh⟩
theorem qg.split : ∀ {l l' : List α} {xs fp}, qg R (l ++ l') xs fp → ∃ ys zs f g, xs = ys ++ zs ∧ fp = f ++ g ∧ qg R l ys f ∧ qg R l' zs g
 | [], _, xs, fp, hh => ⟨[], xs, [], fp, rfl, rfl, ⟨rfl, rfl⟩, hh⟩
 | _ :: _, _, _, _, ⟨c, xs', f, fp', e1, e2, h1, h2⟩ => by
  obtain ⟨ys, zs, f2, g2, e3, e4, h3, h4⟩ := qg.split h2
  exact ⟨c ++ ys, zs, f ++ f2, g2, by rw [e1, e3, List.append_assoc], by rw [e2, e4, List.append_assoc], ⟨c, ys, f, f2, rfl, rfl, h1, h3⟩, h4⟩
theorem qg.one {x : α} {c f} (h : R x c f) : qg R [x] c f := ⟨c, [], f, [], by simp, by simp, h, rfl, rfl⟩
theorem qg.at {l : List α} {xs fp} (h : qg R l xs fp) {i : Nat} {x : α} (hx : l[i]? = some x) :
  ∃ pre c post f1 f f2, xs = pre ++ c ++ post ∧ fp = f1 ++ f ++ f2 ∧ qg R (l.take i) pre f1 ∧ R x c f ∧ qg R (l.drop (i + 1)) post f2 := by
 obtain ⟨hi, rfl⟩ := List.getElem?_eq_some_iff.1 hx
 have e : l = l.take i ++ l[i] :: l.drop (i + 1) := by simp
 rw [e] at h
 obtain ⟨ys, zs, f, g, rfl, rfl, h1, c, xs', f', fp', rfl, rfl, h2, h3⟩ := qg.split h
 refine ⟨ys, c, xs', f, f', fp', by simp, by simp, ?_, ?_, ?_⟩
 ·exact h1
 ·exact h2
 ·exact h3
theorem qg.take {n : Nat} (hn : ∀ x c f, R x c f → c.length = n) {l : List α} {xs fp} (h : qg R l xs fp) (i : Nat) : ∃ f, qg R (l.take i) (xs.take (i * n)) f ∧ ∃ g, fp = f ++ g := by
 have e : l = l.take i ++ l.drop i := (List.take_append_drop i l).symm
 rw [e] at h
 obtain ⟨ys, zs, f, g, rfl, rfl, h1, h2⟩ := qg.split h
 refine ⟨f, ?_, g, rfl⟩
 have hl := qg.length hn h1
 by_cases hi : i ≤ l.length
 ·have : ys.length = i * n := by rw [hl]; simp [hi]
  rw [← this, List.take_left]; exact h1
 ·have h0 : l.drop i = [] := List.drop_eq_nil_of_le (by omega)
  rw [h0] at h2
  obtain ⟨rfl, rfl⟩ := h2
  have e2 : ys.take (i * n) = ys := List.take_of_length_le (by rw [hl]; refine Nat.mul_le_mul_right _ ?_; simp; omega)
  rw [List.append_nil, e2]
  exact h1
theorem qg.drop {n : Nat} (hn : ∀ x c f, R x c f → c.length = n) {l : List α} {xs fp} (h : qg R l xs fp) (i : Nat) : ∃ f, qg R (l.drop i) (xs.drop (i * n)) f ∧ ∃ g, fp = g ++ f := by
 have e : l = l.take i ++ l.drop i := (List.take_append_drop i l).symm
 rw [e] at h
 obtain ⟨ys, zs, f, g, rfl, rfl, h1, h2⟩ := qg.split h
 refine ⟨g, ?_, f, rfl⟩
 have hl := qg.length hn h1
 by_cases hi : i ≤ l.length
 ·have : ys.length = i * n := by rw [hl]; simp [hi]
  rw [← this, List.drop_left]; exact h2
 ·have h0 : l.drop i = [] := List.drop_eq_nil_of_le (by omega)
  rw [h0] at h2 ⊢
  obtain ⟨rfl, rfl⟩ := h2
  have e2 : ys.drop (i * n) = [] := List.drop_eq_nil_of_le (by rw [hl]; refine Nat.mul_le_mul_right _ ?_; simp; omega)
  rw [List.append_nil, e2]
  exact ⟨rfl, rfl⟩
theorem qg.replicate {x : α} {c} (h : R x c []) : ∀ n, qg R (List.replicate n x) (List.replicate n c).flatten []
 | 0 => ⟨rfl, rfl⟩
 | n + 1 => ⟨c, (List.replicate n c).flatten, [], [], by simp [List.replicate_succ], rfl, h, qg.replicate h n⟩
end chunks
section laws
variable {P : Program}
theorem Ty.size_pos : (τ : Ty) → τ.isAgg = false → (∀ a b, τ ≠ .pair a b) → τ.size = 1
 | .int _, _, _ => rfl
 | .bool, _, _ => rfl
 | .list _ _ _, _, _ => rfl
 | .pair a b, _, h => absurd rfl (h a b)
 | .ptr _, _, _ => rfl
 | .fn _ _, _, _ => rfl
 | .fn2 _ _ _, _, _ => rfl
 | .str _, h, _ => by simp [Ty.isAgg] at h
 | .arr _ _, h, _ => by simp [Ty.isAgg] at h
theorem qx.length : (τ : Ty) → ∀ {w H x cs fp}, qx P τ w H x cs fp → cs.length = τ.size
 | .int _, _, _, _, _, _, h => by rw [h.1]; rfl
 | .bool, _, _, _, _, _, h => by rw [h.1]; rfl
 | .list false _ _, _, _, _, _, _, h => by obtain ⟨_, _, _, e, _⟩ := h; rw [e]; rfl
 | .list true _ _, _, _, _, _, _, h => by obtain ⟨_, _, _, e, _⟩ := h; rw [e]; rfl
 | .pair a b, _, _, _, _, _, h => by
  obtain ⟨c1, c2, f1, f2, e, _, h1, h2⟩ := h
  rw [e, List.length_append, qx.length a h1, qx.length b h2]; rfl
 | .str t, _, _, _, _, _, h => qx.length t h
 | .ptr t, _, _, x, _, _, h => by
  cases x with
  | none => rw [h.2]; rfl
  | some y => obtain ⟨_, _, _, _, e, _⟩ := h; rw [e]; rfl
 | .arr n e, _, _, _, _, _, h => by
  rw [qg.length (n := e.size) (fun _ _ _ hh => qx.length e hh) h.2, h.1]; rfl
 | .fn _ _, _, _, _, _, _, h => by obtain ⟨_, _, _, _, e, _⟩ := h; rw [e]; rfl
 | .fn2 _ _ _, _, _, _, _, _, h => by obtain ⟨_, _, _, _, e, _⟩ := h; rw [e]; rfl
theorem qgi {w : World} {tid size n : Nat} {v : Value} {xs : List Value} (h : w.ownsRow 0 tid size v n xs) : v.oneCell' = true := by
 rcases h.2 with ⟨rfl, _⟩ | ⟨g, cap, cur, rfl, _⟩ <;> rfl
theorem qx.one : (τ : Ty) → ∀ {w H x cs fp}, qx P τ w H x cs fp → ∀ v ∈ cs, v.oneCell' = true
 | .int _, _, _, _, _, _, h => by rw [h.1]; simp [Value.oneCell']
 | .bool, _, _, _, _, _, h => by rw [h.1]; simp [Value.oneCell']
 | .list false _ _, _, _, _, _, _, h => by obtain ⟨_, _, _, e, _⟩ := h; rw [e]; simp [Value.oneCell']
 | .list true _ _, _, _, _, _, _, h => by
  obtain ⟨_, _, _, e, _, ho, _⟩ := h
  rw [e]; simpa using qgi ho
 | .pair a b, _, _, _, _, _, h => by
  obtain ⟨c1, c2, f1, f2, e, _, h1, h2⟩ := h
  intro v hv
  rw [e, List.mem_append] at hv
  exact hv.elim (qx.one a h1 v) (qx.one b h2 v)
 | .str t, _, _, _, _, _, h => qx.one t h
 | .ptr t, _, _, x, _, _, h => by
  cases x with
  | none => rw [h.2]; simp [Value.oneCell']
  | some y => obtain ⟨_, _, _, _, e, _⟩ := h; rw [e]; simp [Value.oneCell']
 | .arr n e, _, _, _, _, _, h => qg.all (fun _ _ _ hh => qx.one e hh) h.2
 | .fn _ _, _, _, _, _, _, h => by obtain ⟨_, _, _, _, e, _⟩ := h; rw [e]; simp [Value.oneCell']
 | .fn2 _ _ _, _, _, _, _, _, h => by obtain ⟨_, _, _, _, e, _⟩ := h; rw [e]; simp [Value.oneCell']
theorem qhK {w w' : World} {tid size n : Nat} {v : Value} {xs : List Value} (h : w.ownsRow 0 tid size v n xs)
  (hb : ∀ b ∈ v.ownBlock.toList, w'.heap[b]? = w.heap[b]?) : w'.ownsRow 0 tid size v n xs := by
 refine ⟨h.1, ?_⟩
 rcases h.2 with hn | ⟨g, cap, cur, rfl, h0, hg, rest⟩
 ·exact .inl hn
 ·exact .inr ⟨g, cap, cur, rfl, h0, by rw [hb g (by simp [Value.ownBlock])]; exact hg, rest⟩
theorem qx.mono : (τ : Ty) → ∀ {w w' : World} {H H' : FH} {x cs fp}, H.le H' → (∀ b ∈ fp, w'.heap[b]? = w.heap[b]?) → qx P τ w H x cs fp → qx P τ w' H' x cs fp
 | .int _, _, _, _, _, _, _, _, _, _, h => h
 | .bool, _, _, _, _, _, _, _, _, _, h => h
 | .list false _ e, w, w', H, H', l, cs, fp, hH, _, h => by
  obtain ⟨e0, a, cap, e1, hc, h2⟩ := h
  refine ⟨e0, a, cap, e1, hc, h2.imp id ?_⟩
  rintro ⟨b, o, blk, ea, hb, hch⟩
  exact ⟨b, o, blk, ea, hH _ _ hb, qg.mono_fp (Q := fun _ => False) (fun x c f hf hr => qx.mono e hH (fun b hb => (hf b hb).elim) hr) (by simp) hch⟩
 | .list true tid e, w, w', H, H', l, cs, fp, hH, hw, h => by
  obtain ⟨hdr, xs, fp', e1, e2, ho, hch⟩ := h
  refine ⟨hdr, xs, fp', e1, e2, qhK ho (fun b hb => hw b (by rw [e2]; simp [hb])), ?_⟩
  exact qg.mono_fp (Q := fun b => w'.heap[b]? = w.heap[b]?) (fun x c f hf hr => qx.mono e hH hf hr) (fun b hb => hw b (by rw [e2]; simp [hb])) hch
 | .pair a b, w, w', H, H', x, cs, fp, hH, hw, h => by
  obtain ⟨c1, c2, f1, f2, e, ef, h1, h2⟩ := h
  exact ⟨c1, c2, f1, f2, e, ef, qx.mono a hH (fun b hb => hw b (by rw [ef]; simp [hb])) h1, qx.mono b hH (fun b hb => hw b (by rw [ef]; simp [hb])) h2⟩
 | .str t, _, _, _, _, _, _, _, hH, hw, h => qx.mono t hH hw h
 | .ptr t, w, w', H, H', x, cs, fp, hH, hw, h => by
  obtain ⟨e0, h⟩ := h
  refine ⟨e0, ?_⟩
  cases x with
  | none => exact h
  | some y =>
   obtain ⟨b, o, blk, e1, hb, hr⟩ := h
   exact ⟨b, o, blk, e1, hH _ _ hb, qx.mono t hH (by simp) hr⟩
 | .arr n e, w, w', H, H', l, cs, fp, hH, hw, h =>
  ⟨h.1, qg.mono_fp (Q := fun b => w'.heap[b]? = w.heap[b]?) (fun x c f hf hr => qx.mono e hH hf hr) hw h.2⟩
 | .fn a r, w, w', H, H', g, cs, fp, hH, hw, h => by
  obtain ⟨e0, f, first, caps, e1, hc, h2⟩ := h
  exact ⟨e0, f, first, caps, e1, hc, fun x y hg H2 w2 cx hle => h2 x y hg H2 w2 cx (FH.le_trans hH hle)⟩
 | .fn2 a b r, w, w', H, H', g, cs, fp, hH, hw, h => by
  obtain ⟨e0, f, first, caps, e1, hc, h2⟩ := h
  exact ⟨e0, f, first, caps, e1, hc, fun x y z hg H2 w2 cx cy hle => h2 x y z hg H2 w2 cx cy (FH.le_trans hH hle)⟩
theorem qg.fp_nil {α : Type} {R : α → List Value → List Nat → Prop} (h : ∀ x c f, R x c f → f = []) : ∀ {l : List α} {xs fp}, qg R l xs fp → fp = []
 | [], _, _, ⟨_, e⟩ => e
 | _ :: _, _, _, ⟨c, xs', f, fp', e1, e2, h1, h2⟩ => by rw [e2, h _ _ _ h1, qg.fp_nil h h2]; rfl
theorem qx.fz_fp : (τ : Ty) → τ.isFz = true → ∀ {w H x cs fp}, qx P τ w H x cs fp → fp = []
 | .int _, _, _, _, _, _, _, h => h.2
 | .bool, _, _, _, _, _, _, h => h.2
 | .list false _ _, _, _, _, _, _, _, h => h.1
 | .list true _ _, hf, _, _, _, _, _, _ => by simp [Ty.isFz] at hf
 | .pair a b, hf, _, _, _, _, _, h => by
  simp only [Ty.isFz, Bool.and_eq_true] at hf
  obtain ⟨c1, c2, f1, f2, _, ef, h1, h2⟩ := h
  rw [ef, qx.fz_fp a hf.1 h1, qx.fz_fp b hf.2 h2]; rfl
 | .str t, hf, _, _, _, _, _, h => qx.fz_fp t (by simpa [Ty.isFz] using hf) h
 | .ptr _, _, _, _, _, _, _, h => h.1
 | .arr _ e, hf, _, _, _, _, _, h => qg.fp_nil (fun _ _ _ hh => qx.fz_fp e (by simpa [Ty.isFz] using hf) hh) h.2
 | .fn _ _, _, _, _, _, _, _, h => h.1
 | .fn2 _ _ _, _, _, _, _, _, _, h => h.1
theorem qx.closed : (τ : Ty) → τ.isClosed = true → ∀ {w H H' x cs fp}, qx P τ w H x cs fp → qx P τ w H' x cs fp
 | .int _, _, _, _, _, _, _, _, h => h
 | .bool, _, _, _, _, _, _, _, h => h
 | .list false _ _, hf, _, _, _, _, _, _, _ => by simp [Ty.isClosed] at hf
 | .list true _ e, hf, _, _, _, _, _, _, h => by
  obtain ⟨hdr, xs, fp', e1, e2, ho, hch⟩ := h
  exact ⟨hdr, xs, fp', e1, e2, ho, qg.mono (fun _ _ _ hh => qx.closed e (by simpa [Ty.isClosed] using hf) hh) hch⟩
 | .pair a b, hf, _, _, _, _, _, _, h => by
  simp only [Ty.isClosed, Bool.and_eq_true] at hf
  obtain ⟨c1, c2, f1, f2, e, ef, h1, h2⟩ := h
  exact ⟨c1, c2, f1, f2, e, ef, qx.closed a hf.1 h1, qx.closed b hf.2 h2⟩
 | .str t, hf, _, _, _, _, _, _, h => qx.closed t (by simpa [Ty.isClosed] using hf) h
 | .ptr _, hf, _, _, _, _, _, _, _ => by simp [Ty.isClosed] at hf
 | .arr _ e, hf, _, _, _, _, _, _, h => ⟨h.1, qg.mono (fun _ _ _ hh => qx.closed e (by simpa [Ty.isClosed] using hf) hh) h.2⟩
 | .fn _ _, hf, _, _, _, _, _, _, _ => by simp [Ty.isClosed] at hf
 | .fn2 _ _ _, hf, _, _, _, _, _, _, _ => by simp [Ty.isClosed] at hf
theorem Ty.flat_closed : (τ : Ty) → τ.isFlat = true → τ.isClosed = true
 | .int _, _ => rfl
 | .bool, _ => rfl
 | .list _ _ _, h => by simp [Ty.isFlat] at h
 | .pair a b, h => by
  simp only [Ty.isFlat, Bool.and_eq_true] at h
  simp [Ty.isClosed, Ty.flat_closed a h.1, Ty.flat_closed b h.2]
 | .str t, h => Ty.flat_closed t (by simpa [Ty.isFlat] using h)
 | .ptr _, h => by simp [Ty.isFlat] at h
 | .arr _ e, h => Ty.flat_closed e (by simpa [Ty.isFlat] using h)
 | .fn _ _, h => by simp [Ty.isFlat] at h
 | .fn2 _ _ _, h => by simp [Ty.isFlat] at h
theorem Ty.flat_fz : (τ : Ty) → τ.isFlat = true → τ.isFz = true
 | .int _, _ => rfl
 | .bool, _ => rfl
 | .list _ _ _, h => by simp [Ty.isFlat] at h
 | .pair a b, h => by
  simp only [Ty.isFlat, Bool.and_eq_true] at h
  simp [Ty.isFz, Ty.flat_fz a h.1, Ty.flat_fz b h.2]
 | .str t, h => Ty.flat_fz t (by simpa [Ty.isFlat] using h)
 | .ptr _, h => by simp [Ty.isFlat] at h
 | .arr _ e, h => Ty.flat_fz e (by simpa [Ty.isFlat] using h)
 | .fn _ _, h => by simp [Ty.isFlat] at h
 | .fn2 _ _ _, h => by simp [Ty.isFlat] at h
theorem qx.zero : (τ : Ty) → τ.noFn = true → ∀ {w H}, qx P τ w H τ.zero τ.zeroCells []
 | .int _, _, _, _ => ⟨rfl, rfl⟩
 | .bool, _, _, _ => ⟨rfl, rfl⟩
 | .list false _ _, _, _, _ => ⟨rfl, none, 0, rfl, Nat.le_refl _, .inl rfl⟩
 | .list true tid e, _, w, _ => ⟨.slice none 0 0, [], [], rfl, rfl, World.ownsRow_nil w 0 tid e.size, rfl, rfl⟩
 | .pair a b, h, _, _ => by
  simp only [Ty.noFn, Bool.and_eq_true] at h
  exact ⟨_, _, [], [], rfl, rfl, qx.zero a h.1, qx.zero b h.2⟩
 | .str t, h, _, _ => qx.zero t (by simpa [Ty.noFn] using h)
 | .ptr _, _, _, _ => ⟨rfl, rfl⟩
 | .arr n e, h, _, _ => ⟨by simp [Ty.zero], qg.replicate (qx.zero e (by simpa [Ty.noFn] using h)) n⟩
 | .fn _ _, h, _, _ => by simp [Ty.noFn] at h
 | .fn2 _ _ _, h, _, _ => by simp [Ty.noFn] at h
theorem Ty.zero_length : (τ : Ty) → τ.zeroCells.length = τ.size
 | .int _ => rfl
 | .bool => rfl
 | .list _ _ _ => rfl
 | .pair a b => by simp [Ty.zeroCells, Ty.size, Ty.zero_length a, Ty.zero_length b]
 | .str t => Ty.zero_length t
 | .ptr _ => rfl
 | .arr n e => by simp [Ty.zeroCells, Ty.size, Ty.zero_length e]
 | .fn _ _ => rfl
 | .fn2 _ _ _ => rfl
theorem Ty.zero_one : (τ : Ty) → ∀ v ∈ τ.zeroCells, v.oneCell' = true
 | .int _ => by simp [Ty.zeroCells, Value.oneCell']
 | .bool => by simp [Ty.zeroCells, Value.oneCell']
 | .list _ _ _ => by simp [Ty.zeroCells, Value.oneCell']
 | .pair a b => by
  intro v hv
  simp only [Ty.zeroCells, List.mem_append] at hv
  exact hv.elim (Ty.zero_one a v) (Ty.zero_one b v)
 | .str t => Ty.zero_one t
 | .ptr _ => by simp [Ty.zeroCells, Value.oneCell']
 | .arr n e => by
  intro v hv
  simp only [Ty.zeroCells, List.mem_flatten, List.mem_replicate] at hv
  obtain ⟨l, ⟨_, rfl⟩, hv⟩ := hv
  exact Ty.zero_one e v hv
 | .fn _ _ => by simp [Ty.zeroCells, Value.oneCell']
 | .fn2 _ _ _ => by simp [Ty.zeroCells, Value.oneCell']
end laws
end Go.Vi
namespace Go.Vi
theorem qfT {α β : Type} (h1 : α = β) (h : List α = List β) (l : List α) : cast h l = l.map (cast h1) := by
 subst h1
 have e : (cast rfl : α → α) = id := rfl
 rw [e, List.map_id]
 rfl
theorem qlM {α β γ δ : Type} (h1 : α = β) (h2 : γ = δ) (h : (α × γ) = (β × δ)) (x : α × γ) : cast h x = (cast h1 x.1, cast h2 x.2) := by
 subst h1; subst h2
 rfl
theorem cast_opt {α β : Type} (h1 : α = β) (h : Option α = Option β) (x : Option α) : cast h x = x.map (cast h1) := by
 subst h1
 cases x <;> rfl
theorem Ty.size_fz : (τ : Ty) → τ.fz.size = τ.size
 | .int _ => rfl
 | .bool => rfl
 | .list _ _ _ => rfl
 | .pair a b => by simp [Ty.fz, Ty.size, Ty.size_fz a, Ty.size_fz b]
 | .str t => Ty.size_fz t
 | .ptr _ => rfl
 | .arr n e => by simp [Ty.fz, Ty.size, Ty.size_fz e]
 | .fn _ _ => rfl
 | .fn2 _ _ _ => rfl
theorem Ty.isAgg_fz (τ : Ty) : τ.fz.isAgg = τ.isAgg := by cases τ <;> rfl
theorem Ty.isFz_fz : (τ : Ty) → τ.fz.isFz = true
 | .int _ => rfl
 | .bool => rfl
 | .list _ _ e => by simp [Ty.fz, Ty.isFz, Ty.isFz_fz e]
 | .pair a b => by simp [Ty.fz, Ty.isFz, Ty.isFz_fz a, Ty.isFz_fz b]
 | .str t => by simp [Ty.fz, Ty.isFz, Ty.isFz_fz t]
 | .ptr t => by simp [Ty.fz, Ty.isFz, Ty.isFz_fz t]
 | .arr _ e => by simp [Ty.fz, Ty.isFz, Ty.isFz_fz e]
 | .fn a r => by simp [Ty.fz, Ty.isFz, Ty.isFz_fz a, Ty.isFz_fz r]
 | .fn2 a b r => by simp [Ty.fz, Ty.isFz, Ty.isFz_fz a, Ty.isFz_fz b, Ty.isFz_fz r]
theorem Ty.fz_of_isFz : (τ : Ty) → τ.isFz = true → τ.fz = τ
 | .int _, _ => rfl
 | .bool, _ => rfl
 | .list o _ e, h => by
  simp only [Ty.isFz, Bool.and_eq_true, Bool.not_eq_true'] at h
  simp [Ty.fz, h.1, Ty.fz_of_isFz e h.2]
 | .pair a b, h => by
  simp only [Ty.isFz, Bool.and_eq_true] at h
  simp [Ty.fz, Ty.fz_of_isFz a h.1, Ty.fz_of_isFz b h.2]
 | .str t, h => by simp [Ty.fz, Ty.fz_of_isFz t (by simpa [Ty.isFz] using h)]
 | .ptr t, h => by simp [Ty.fz, Ty.fz_of_isFz t (by simpa [Ty.isFz] using h)]
 | .arr _ e, h => by simp [Ty.fz, Ty.fz_of_isFz e (by simpa [Ty.isFz] using h)]
 | .fn a r, h => by
  simp only [Ty.isFz, Bool.and_eq_true] at h
  simp [Ty.fz, Ty.fz_of_isFz a h.1, Ty.fz_of_isFz r h.2]
 | .fn2 a b r, h => by
  simp only [Ty.isFz, Bool.and_eq_true] at h
  simp [Ty.fz, Ty.fz_of_isFz a h.1.1, Ty.fz_of_isFz b h.1.2, Ty.fz_of_isFz r h.2]
theorem qg.map_cast {α β : Type} {R : α → List Value → List Nat → Prop} {S : β → List Value → List Nat → Prop} (h1 : α = β) {Q : Nat → Prop}
  (h : ∀ x c f, (∀ b ∈ f, Q b) → R x c f → S (cast h1 x) c []) : ∀ {l : List α} {xs fp}, (∀ b ∈ fp, Q b) → qg R l xs fp → qg S (l.map (cast h1)) xs []
 | [], _, _, _, ⟨e, _⟩ => ⟨e, rfl⟩
 | _ :: _, _, _, hq, ⟨c, xs', f, fp', e1, e2, h2, h3⟩ =>
  ⟨c, xs', [], [], e1, rfl, h _ _ _ (fun b hb => hq b (by rw [e2]; simp [hb])) h2, qg.map_cast h1 h (fun b hb => hq b (by rw [e2]; simp [hb])) h3⟩
theorem qdV {c : Array Value} {n : Nat} : seg c 0 n = c.toList.take n := by simp [seg]
theorem qx.freeze {P : Program} : (τ : Ty) → τ.noFn = true → ∀ {w : World} (w' : World) {H H' : FH} {x cs fp}, H.le H' →
  (∀ b ∈ fp, ∀ c t f, w.heap[b]? = some (.cells c t f) → H' b = some c) → qx P τ w H x cs fp → ∀ h : τ.den = τ.fz.den, qx P τ.fz w' H' (cast h x) cs []
 | .int _, _, _, _, _, _, _, _, _, _, _, h, _ => ⟨h.1, rfl⟩
 | .bool, _, _, _, _, _, _, _, _, _, _, h, _ => ⟨h.1, rfl⟩
 | .list false tid e, hn, w, w', H, H', l, cs, fp, hH, hfp, h, hc => by
  obtain ⟨e0, a, cap, e1, hcap, h2⟩ := h
  have h1 : e.den = e.fz.den := (Ty.den_fz e).symm
  suffices hs : ∀ l' : List e.fz.den, l' = List.map (cast h1) l → qx P (.list false tid e.fz) w' H' l' cs [] from hs _ (qfT h1 hc l)
  rintro _ rfl
  refine ⟨rfl, a, cap, ?_, ?_, ?_⟩
  ·rw [e1, List.length_map]
  ·rw [List.length_map]; exact hcap
  ·refine h2.imp (fun hh => by rw [hh]; rfl) ?_
   rintro ⟨b, o, blk, ea, hb, hch⟩
   refine ⟨b, o, blk, ea, hH _ _ hb, ?_⟩
   rw [List.length_map, Ty.size_fz]
   exact qg.map_cast h1 (Q := fun _ => False) (fun x c f hf hr => qx.freeze e (by simpa [Ty.noFn] using hn) w' hH (fun b hb => (hf b hb).elim) hr h1) (by simp) hch
 | .list true tid e, hn, w, w', H, H', l, cs, fp, hH, hfp, h, hc => by
  obtain ⟨hdr, xs, fp', e1, e2, ho, hch⟩ := h
  have h1 : e.den = e.fz.den := (Ty.den_fz e).symm
  suffices hs : ∀ l' : List e.fz.den, l' = List.map (cast h1) l → qx P (.list false tid e.fz) w' H' l' cs [] from hs _ (qfT h1 hc l)
  rintro _ rfl
  rcases ho.2 with ⟨rfl, h0⟩ | ⟨g, cap, cur, rfl, _, hg, hcap, _, hsz, htake⟩
  ·refine ⟨rfl, none, 0, ?_, ?_, .inl ?_⟩
   ·rw [e1, List.length_map, h0]
   ·rw [List.length_map, h0]; exact Nat.le_refl _
   ·rw [List.length_eq_zero_iff.1 h0]; rfl
  ·refine ⟨rfl, some ⟨g, 0, none⟩, cap, ?_, ?_, .inr ⟨g, 0, cur, rfl, ?_, ?_⟩⟩
   ·rw [e1, List.length_map]
   ·rw [List.length_map]; exact hcap
   ·exact hfp g (by rw [e2]; simp [Value.ownBlock]) _ _ _ hg
   ·rw [List.length_map, Ty.size_fz, qdV, htake]
    exact qg.map_cast h1 (Q := fun b => ∀ c t f, w.heap[b]? = some (.cells c t f) → H' b = some c) (fun x c f hf hr => qx.freeze e (by simpa [Ty.noFn] using hn) w' hH hf hr h1) (fun b hb => hfp b (by rw [e2]; simp [hb])) hch
 | .pair a b, hn, w, w', H, H', x, cs, fp, hH, hfp, h, hc => by
  simp only [Ty.noFn, Bool.and_eq_true] at hn
  obtain ⟨c1, c2, f1, f2, e, ef, h1, h2⟩ := h
  have ha : a.den = a.fz.den := (Ty.den_fz a).symm
  have hb : b.den = b.fz.den := (Ty.den_fz b).symm
  suffices hs : ∀ x' : a.fz.den × b.fz.den, x' = (cast ha x.1, cast hb x.2) → qx P (.pair a.fz b.fz) w' H' x' cs [] from hs _ (qlM ha hb hc x)
  rintro _ rfl
  exact ⟨c1, c2, [], [], e, rfl, qx.freeze a hn.1 w' hH (fun k hk => hfp k (by rw [ef]; simp [hk])) h1 ha, qx.freeze b hn.2 w' hH (fun k hk => hfp k (by rw [ef]; simp [hk])) h2 hb⟩
 | .str t, hn, _, w', _, _, _, _, _, hH, hfp, h, hc => qx.freeze t (by simpa [Ty.noFn] using hn) w' hH hfp h hc
 | .ptr t, hn, w, w', H, H', x, cs, fp, hH, hfp, h, hc => by
  obtain ⟨e0, h⟩ := h
  have h1 : t.den = t.fz.den := (Ty.den_fz t).symm
  suffices hs : ∀ x' : Option t.fz.den, x' = Option.map (cast h1) x → qx P (.ptr t.fz) w' H' x' cs [] from hs _ (cast_opt h1 hc x)
  rintro _ rfl
  refine ⟨rfl, ?_⟩
  cases x with
  | none => exact h
  | some y =>
   obtain ⟨b, o, blk, e1, hb, hr⟩ := h
   refine ⟨b, o, blk, e1, hH _ _ hb, ?_⟩
   rw [Ty.size_fz]
   exact qx.freeze t (by simpa [Ty.noFn] using hn) w' hH (by simp) hr h1
 | .arr n e, hn, w, w', H, H', l, cs, fp, hH, hfp, h, hc => by
  have h1 : e.den = e.fz.den := (Ty.den_fz e).symm
  suffices hs : ∀ l' : List e.fz.den, l' = List.map (cast h1) l → qx P (.arr n e.fz) w' H' l' cs [] from hs _ (qfT h1 hc l)
  rintro _ rfl
  exact ⟨by rw [List.length_map]; exact h.1, qg.map_cast h1 (fun x c f hf hr => qx.freeze e (by simpa [Ty.noFn] using hn) w' hH hf hr h1) hfp h.2⟩
 | .fn _ _, hn, _, _, _, _, _, _, _, _, _, _, _ => by simp [Ty.noFn] at hn
 | .fn2 _ _ _, hn, _, _, _, _, _, _, _, _, _, _, _ => by simp [Ty.noFn] at hn
def j1 : (τ : Ty) → τ.den → List qJ → Option (Σ σ : Ty, σ.den)
 | .pair a b, x, p => match p with
  | [] => some ⟨.pair a b, x⟩
  | .L :: q => j1 a x.1 q
  | .R :: q => j1 b x.2 q
  | _ => none
 | .str t, x, p => match p with
  | [] => some ⟨.str t, x⟩
  | s :: q => j1 t x (s :: q)
 | .list true tid e, x, p => match p with
  | [] => some ⟨.list true tid e, x⟩
  | .I i :: q => if 0 ≤ i then (x[i.toNat]?).bind fun y => j1 e y q else none
  | _ => none
 | .arr n e, x, p => match p with
  | [] => some ⟨.arr n e, x⟩
  | .I i :: q => if 0 ≤ i then (x[i.toNat]?).bind fun y => j1 e y q else none
  | _ => none
 | t, x, p => match p with
  | [] => some ⟨t, x⟩
  | _ => none
def qal : (τ : Ty) → τ.den → List qJ → (σ : Ty) → σ.den → Option τ.den
 | .pair a b, x, p, σ, y => match p with
  | [] => qL σ (.pair a b) y
  | .L :: q => (qal a x.1 q σ y).map fun z => (z, x.2)
  | .R :: q => (qal b x.2 q σ y).map fun z => (x.1, z)
  | _ => none
 | .str t, x, p, σ, y => match p with
  | [] => qL σ (.str t) y
  | s :: q => qal t x (s :: q) σ y
 | .list true tid e, x, p, σ, y => match p with
  | [] => qL σ (.list true tid e) y
  | .I i :: q => if 0 ≤ i then (x[i.toNat]?).bind fun z => (qal e z q σ y).map fun z' => x.set i.toNat z' else none
  | _ => none
 | .arr n e, x, p, σ, y => match p with
  | [] => qL σ (.arr n e) y
  | .I i :: q => if 0 ≤ i then (x[i.toNat]?).bind fun z => (qal e z q σ y).map fun z' => x.set i.toNat z' else none
  | _ => none
 | t, _, p, σ, y => match p with
  | [] => qL σ t y
  | _ => none
theorem qfg {α R : Type} (l : List α) (i : Int) (k : α → Option R) : qi l i k = if 0 ≤ i then (l[i.toNat]?).bind k else none := by
 unfold qi
 split
 ·cases l[i.toNat]? <;> rfl
 ·rfl
theorem qo {α R : Type} (o : Option α) (k : α → Option R) : qa o k = o.bind k := by cases o <;> rfl
theorem jX {R : Type} : (τ : Ty) → ∀ (x : τ.den) (p : List qJ) (k : (σ : Ty) → σ.den → Option R), qbH τ x p k = (j1 τ x p).bind fun y => k y.1 y.2
 | .pair a b, x, p, k => by
  match p with
  | [] => rfl
  | .L :: q => exact jX a x.1 q k
  | .R :: q => exact jX b x.2 q k
  | .I _ :: _ => rfl
 | .str t, x, p, k => by
  match p with
  | [] => rfl
  | s :: q => exact jX t x (s :: q) k
 | .list true tid e, x, p, k => by
  match p with
  | [] => rfl
  | .L :: _ => rfl
  | .R :: _ => rfl
  | .I i :: q =>
   show qi x i (fun y => qbH e y q k) = _
   rw [qfg]
   simp only [j1]
   split
   ·cases x[i.toNat]? with
    | none => rfl
    | some y => exact jX e y q k
   ·rfl
 | .arr n e, x, p, k => by
  match p with
  | [] => rfl
  | .L :: _ => rfl
  | .R :: _ => rfl
  | .I i :: q =>
   show qi x i (fun y => qbH e y q k) = _
   rw [qfg]
   simp only [j1]
   split
   ·cases x[i.toNat]? with
    | none => rfl
    | some y => exact jX e y q k
   ·rfl
 | .int _, _, p, _ => by cases p <;> rfl
 | .bool, _, p, _ => by cases p <;> rfl
 | .list false _ _, _, p, _ => by cases p <;> rfl
 | .ptr _, _, p, _ => by cases p <;> rfl
 | .fn _ _, _, p, _ => by cases p <;> rfl
 | .fn2 _ _ _, _, p, _ => by cases p <;> rfl
theorem qaK {R : Type} : (τ : Ty) → ∀ (x : τ.den) (p : List qJ) (σ : Ty) (y : σ.den) (k : τ.den → Option R), qbw τ x p σ y k = (qal τ x p σ y).bind k
 | .pair a b, x, p, σ, y, k => by
  match p with
  | [] => exact qo _ _
  | .L :: q =>
   show qbw a x.1 q σ y _ = ((qal a x.1 q σ y).map _).bind k
   rw [qaK a x.1 q σ y]; cases qal a x.1 q σ y <;> rfl
  | .R :: q =>
   show qbw b x.2 q σ y _ = ((qal b x.2 q σ y).map _).bind k
   rw [qaK b x.2 q σ y]; cases qal b x.2 q σ y <;> rfl
  | .I _ :: _ => rfl
 | .str t, x, p, σ, y, k => by
  match p with
  | [] => exact qo _ _
  | s :: q => exact qaK t x (s :: q) σ y k
 | .list true tid e, x, p, σ, y, k => by
  match p with
  | [] => exact qo _ _
  | .L :: _ => rfl
  | .R :: _ => rfl
  | .I i :: q =>
   show qi x i (fun z => qbw e z q σ y fun z' => k (x.set i.toNat z')) = _
   rw [qfg]
   simp only [qal]
   split
   ·cases x[i.toNat]? with
    | none => rfl
    | some z =>
     show qbw e z q σ y _ = ((qal e z q σ y).map _).bind k
     rw [qaK e z q σ y]; cases qal e z q σ y <;> rfl
   ·rfl
 | .arr n e, x, p, σ, y, k => by
  match p with
  | [] => exact qo _ _
  | .L :: _ => rfl
  | .R :: _ => rfl
  | .I i :: q =>
   show qi x i (fun z => qbw e z q σ y fun z' => k (x.set i.toNat z')) = _
   rw [qfg]
   simp only [qal]
   split
   ·cases x[i.toNat]? with
    | none => rfl
    | some z =>
     show qbw e z q σ y _ = ((qal e z q σ y).map _).bind k
     rw [qaK e z q σ y]; cases qal e z q σ y <;> rfl
   ·rfl
 | .int _, _, p, _, _, _ => by cases p with | nil => exact qo _ _ | cons => rfl
 | .bool, _, p, _, _, _ => by cases p with | nil => exact qo _ _ | cons => rfl
 | .list false _ _, _, p, _, _, _ => by cases p with | nil => exact qo _ _ | cons => rfl
 | .ptr _, _, p, _, _, _ => by cases p with | nil => exact qo _ _ | cons => rfl
 | .fn _ _, _, p, _, _, _ => by cases p with | nil => exact qo _ _ | cons => rfl
 | .fn2 _ _ _, _, p, _, _, _ => by cases p with | nil => exact qo _ _ | cons => rfl
theorem qO (τ : Ty) (x : τ.den) : j1 τ x [] = some ⟨τ, x⟩ := by
 cases τ with
 | list o _ _ => cases o <;> rfl
 | _ => rfl
theorem setV_nil (τ : Ty) (x : τ.den) (σ : Ty) (y : σ.den) : qal τ x [] σ y = qL σ τ y := by
 cases τ with
 | list o _ _ => cases o <;> rfl
 | _ => rfl
theorem qeV (τ : Ty) : qb7 τ [] = some τ := by
 cases τ with
 | list o _ _ => cases o <;> rfl
 | _ => rfl
theorem qj {τ σ : Ty} {x : τ.den} {y : σ.den} (h : qL τ σ x = some y) : ∃ e : τ = σ, y = e ▸ x := by
 unfold qL at h
 split at h
 ·rename_i e; subst e; exact ⟨rfl, (Option.some.inj h).symm⟩
 ·cases h
theorem jN : (τ : Ty) → ∀ {x : τ.den} {p : List qJ} {y}, j1 τ x p = some y → qb7 τ p = some y.1
 | .pair a b, x, p, y, h => by
  match p with
  | [] => cases h; rfl
  | .L :: q => exact jN a h
  | .R :: q => exact jN b h
  | .I _ :: _ => cases h
 | .str t, x, p, y, h => by
  match p with
  | [] => cases h; rfl
  | s :: q => exact jN t h
 | .list true tid e, x, p, y, h => by
  match p with
  | [] => cases h; rfl
  | .L :: _ => cases h
  | .R :: _ => cases h
  | .I i :: q =>
   simp only [j1] at h
   split at h
   ·cases hx : x[i.toNat]? with
    | none => rw [hx] at h; cases h
    | some z => rw [hx] at h; exact jN e h
   ·cases h
 | .arr n e, x, p, y, h => by
  match p with
  | [] => cases h; rfl
  | .L :: _ => cases h
  | .R :: _ => cases h
  | .I i :: q =>
   simp only [j1] at h
   split at h
   ·cases hx : x[i.toNat]? with
    | none => rw [hx] at h; cases h
    | some z => rw [hx] at h; exact jN e h
   ·cases h
 | .int _, _, p, _, h => by cases p <;> cases h; rfl
 | .bool, _, p, _, h => by cases p <;> cases h; rfl
 | .list false _ _, _, p, _, h => by cases p <;> cases h; rfl
 | .ptr _, _, p, _, h => by cases p <;> cases h; rfl
 | .fn _ _, _, p, _, h => by cases p <;> cases h; rfl
 | .fn2 _ _ _, _, p, _, h => by cases p <;> cases h; rfl
theorem qdf : (τ : Ty) → ∀ {x : τ.den} {p : List qJ} {y}, qgj τ x p = some y → j1 τ x p = some y
 | .pair a b, x, p, y, h => by
  match p with
  | [] => exact h
  | .L :: q => exact qdf a h
  | .R :: q => exact qdf b h
  | .I _ :: _ => cases h
 | .str t, x, p, y, h => by
  match p with
  | [] => exact h
  | s :: q => exact qdf t h
 | .list true tid e, x, p, y, h => by cases p <;> first | exact h | cases h
 | .arr n e, x, p, y, h => by cases p <;> first | exact h | cases h
 | .int _, _, p, _, h => by cases p <;> first | exact h | cases h
 | .bool, _, p, _, h => by cases p <;> first | exact h | cases h
 | .list false _ _, _, p, _, h => by cases p <;> first | exact h | cases h
 | .ptr _, _, p, _, h => by cases p <;> first | exact h | cases h
 | .fn _ _, _, p, _, h => by cases p <;> first | exact h | cases h
 | .fn2 _ _ _, _, p, _, h => by cases p <;> first | exact h | cases h
end Go.Vi
namespace Go.Vi
def Loc (w : World) : Ty → Nat → Nat → List qJ → Nat → Nat → Prop
 | .pair x y, b, o, p, b', o' => match p with
  | [] => b' = b ∧ o' = o
  | .L :: q => Loc w x b o q b' o'
  | .R :: q => Loc w y b (o + x.size) q b' o'
  | _ => False
 | .str t, b, o, p, b', o' => match p with
  | [] => b' = b ∧ o' = o
  | s :: q => Loc w t b o (s :: q) b' o'
 | .list true _ e, b, o, p, b', o' => match p with
  | [] => b' = b ∧ o' = o
  | .I i :: q => ∃ g n cap, w.cell? ⟨b, o, none⟩ = some (.slice (some ⟨g, 0, none⟩) n cap) ∧ Loc w e g (i.toNat * e.size) q b' o'
  | _ => False
 | .arr _ e, b, o, p, b', o' => match p with
  | [] => b' = b ∧ o' = o
  | .I i :: q => Loc w e b (o + i.toNat * e.size) q b' o'
  | _ => False
 | _, b, o, p, b', o' => p = [] ∧ b' = b ∧ o' = o
theorem jU (w : World) (τ : Ty) (b o : Nat) : Loc w τ b o [] b o := by
 cases τ with
 | list o _ _ => cases o <;> first | exact ⟨rfl, rfl⟩ | exact ⟨rfl, rfl, rfl⟩
 | _ => first | exact ⟨rfl, rfl⟩ | exact ⟨rfl, rfl, rfl⟩
theorem qQ {w : World} {b : Nat} {blk : Array Value} {t : TypeId} {f : Nat × Nat} (h : w.heap[b]? = some (.cells blk t f)) (o : Nat) : w.cell? ⟨b, o, none⟩ = blk[o]? := by
 simp [World.cell?, h]
theorem Loc.static : (τ : Ty) → ∀ {w w' : World} {b o p b' o'}, p.any qJ.isI = false → Loc w τ b o p b' o' → Loc w' τ b o p b' o'
 | .pair x y, _, _, _, _, p, _, _, hp, h => by
  match p with
  | [] => exact h
  | .L :: q => exact Loc.static x (by simpa [qJ.isI] using hp) h
  | .R :: q => exact Loc.static y (by simpa [qJ.isI] using hp) h
  | .I _ :: _ => exact h.elim
 | .str t, _, _, _, _, p, _, _, hp, h => by
  match p with
  | [] => exact h
  | s :: q => exact Loc.static t hp h
 | .list true _ e, _, _, _, _, p, _, _, hp, h => by
  match p with
  | [] => exact h
  | .L :: _ => exact h.elim
  | .R :: _ => exact h.elim
  | .I _ :: _ => simp [qJ.isI] at hp
 | .arr _ e, _, _, _, _, p, _, _, hp, h => by
  match p with
  | [] => exact h
  | .L :: _ => exact h.elim
  | .R :: _ => exact h.elim
  | .I _ :: _ => simp [qJ.isI] at hp
 | .int _, _, _, _, _, _, _, _, _, h => h
 | .bool, _, _, _, _, _, _, _, _, h => h
 | .list false _ _, _, _, _, _, _, _, _, _, h => h
 | .ptr _, _, _, _, _, _, _, _, _, h => h
 | .fn _ _, _, _, _, _, _, _, _, _, h => h
 | .fn2 _ _ _, _, _, _, _, _, _, _, _, h => h
theorem Loc.keep : (τ : Ty) → ∀ {w w' : World}, (∀ a o g n cap, w.cell? ⟨a, o, none⟩ = some (.slice g n cap) → w'.cell? ⟨a, o, none⟩ = some (.slice g n cap)) → ∀ {b o p b' o'}, Loc w τ b o p b' o' → Loc w' τ b o p b' o'
 | .pair x y, _, _, hk, _, _, p, _, _, h => by
  match p with
  | [] => exact h
  | .L :: q => exact Loc.keep x hk h
  | .R :: q => exact Loc.keep y hk h
  | .I _ :: _ => exact h.elim
 | .str t, _, _, hk, _, _, p, _, _, h => by
  match p with
  | [] => exact h
  | s :: q => exact Loc.keep t hk h
 | .list true _ e, _, _, hk, _, _, p, _, _, h => by
  match p with
  | [] => exact h
  | .L :: _ => exact h.elim
  | .R :: _ => exact h.elim
  | .I _ :: _ =>
   obtain ⟨g, n, cap, h1, h2⟩ := h
   exact ⟨g, n, cap, hk _ _ _ _ _ h1, Loc.keep e hk h2⟩
 | .arr _ e, _, _, hk, _, _, p, _, _, h => by
  match p with
  | [] => exact h
  | .L :: _ => exact h.elim
  | .R :: _ => exact h.elim
  | .I _ :: _ => exact Loc.keep e hk h
 | .int _, _, _, _, _, _, _, _, _, h => h
 | .bool, _, _, _, _, _, _, _, _, h => h
 | .list false _ _, _, _, _, _, _, _, _, _, h => h
 | .ptr _, _, _, _, _, _, _, _, _, h => h
 | .fn _ _, _, _, _, _, _, _, _, _, h => h
 | .fn2 _ _ _, _, _, _, _, _, _, _, _, h => h
theorem Loc.det : (τ : Ty) → ∀ {w : World} {b o p b1 o1 b2 o2}, Loc w τ b o p b1 o1 → Loc w τ b o p b2 o2 → b1 = b2 ∧ o1 = o2
 | .pair x y, _, _, _, p, _, _, _, _, h, k => by
  match p with
  | [] => exact ⟨h.1.trans k.1.symm, h.2.trans k.2.symm⟩
  | .L :: q => exact Loc.det x h k
  | .R :: q => exact Loc.det y h k
  | .I _ :: _ => exact h.elim
 | .str t, _, _, _, p, _, _, _, _, h, k => by
  match p with
  | [] => exact ⟨h.1.trans k.1.symm, h.2.trans k.2.symm⟩
  | s :: q => exact Loc.det t h k
 | .list true _ e, _, _, _, p, _, _, _, _, h, k => by
  match p with
  | [] => exact ⟨h.1.trans k.1.symm, h.2.trans k.2.symm⟩
  | .L :: _ => exact h.elim
  | .R :: _ => exact h.elim
  | .I _ :: _ =>
   obtain ⟨g, n, cap, h1, h2⟩ := h
   obtain ⟨g', n', cap', k1, k2⟩ := k
   rw [h1] at k1
   cases k1
   exact Loc.det e h2 k2
 | .arr _ e, _, _, _, p, _, _, _, _, h, k => by
  match p with
  | [] => exact ⟨h.1.trans k.1.symm, h.2.trans k.2.symm⟩
  | .L :: _ => exact h.elim
  | .R :: _ => exact h.elim
  | .I _ :: _ => exact Loc.det e h k
 | .int _, _, _, _, _, _, _, _, _, h, k => ⟨h.2.1.trans k.2.1.symm, h.2.2.trans k.2.2.symm⟩
 | .bool, _, _, _, _, _, _, _, _, h, k => ⟨h.2.1.trans k.2.1.symm, h.2.2.trans k.2.2.symm⟩
 | .list false _ _, _, _, _, _, _, _, _, _, h, k => ⟨h.2.1.trans k.2.1.symm, h.2.2.trans k.2.2.symm⟩
 | .ptr _, _, _, _, _, _, _, _, _, h, k => ⟨h.2.1.trans k.2.1.symm, h.2.2.trans k.2.2.symm⟩
 | .fn _ _, _, _, _, _, _, _, _, _, h, k => ⟨h.2.1.trans k.2.1.symm, h.2.2.trans k.2.2.symm⟩
 | .fn2 _ _ _, _, _, _, _, _, _, _, _, h, k => ⟨h.2.1.trans k.2.1.symm, h.2.2.trans k.2.2.symm⟩
theorem Loc.append : (τ : Ty) → ∀ {w : World} {b o p b1 o1 σ q b2 o2}, qb7 τ p = some σ → Loc w τ b o p b1 o1 → Loc w σ b1 o1 q b2 o2 → Loc w τ b o (p ++ q) b2 o2
 | .pair x y, _, _, _, p, _, _, _, _, _, _, ht, h, k => by
  match p with
  | [] => cases ht; obtain ⟨rfl, rfl⟩ := h; exact k
  | .L :: _ => exact Loc.append x ht h k
  | .R :: _ => exact Loc.append y ht h k
  | .I _ :: _ => exact h.elim
 | .str t, _, _, _, p, _, _, _, _, _, _, ht, h, k => by
  match p with
  | [] => cases ht; obtain ⟨rfl, rfl⟩ := h; exact k
  | s :: _ => exact Loc.append t ht h k
 | .list true _ e, _, _, _, p, _, _, _, _, _, _, ht, h, k => by
  match p with
  | [] => cases ht; obtain ⟨rfl, rfl⟩ := h; exact k
  | .L :: _ => exact h.elim
  | .R :: _ => exact h.elim
  | .I _ :: _ =>
   obtain ⟨g, n, cap, h1, h2⟩ := h
   exact ⟨g, n, cap, h1, Loc.append e ht h2 k⟩
 | .arr _ e, _, _, _, p, _, _, _, _, _, _, ht, h, k => by
  match p with
  | [] => cases ht; obtain ⟨rfl, rfl⟩ := h; exact k
  | .L :: _ => exact h.elim
  | .R :: _ => exact h.elim
  | .I _ :: _ => exact Loc.append e ht h k
 | .int _, _, _, _, _, _, _, _, _, _, _, ht, h, k => by obtain ⟨rfl, rfl, rfl⟩ := h; cases ht; exact k
 | .bool, _, _, _, _, _, _, _, _, _, _, ht, h, k => by obtain ⟨rfl, rfl, rfl⟩ := h; cases ht; exact k
 | .list false _ _, _, _, _, _, _, _, _, _, _, _, ht, h, k => by obtain ⟨rfl, rfl, rfl⟩ := h; cases ht; exact k
 | .ptr _, _, _, _, _, _, _, _, _, _, _, ht, h, k => by obtain ⟨rfl, rfl, rfl⟩ := h; cases ht; exact k
 | .fn _ _, _, _, _, _, _, _, _, _, _, _, ht, h, k => by obtain ⟨rfl, rfl, rfl⟩ := h; cases ht; exact k
 | .fn2 _ _ _, _, _, _, _, _, _, _, _, _, _, ht, h, k => by obtain ⟨rfl, rfl, rfl⟩ := h; cases ht; exact k
theorem qg.cons {α : Type} {R : α → List Value → List Nat → Prop} {x : α} {l : List α} {c xs f fp} (h : R x c f) (k : qg R l xs fp) : qg R (x :: l) (c ++ xs) (f ++ fp) :=
 ⟨c, xs, f, fp, rfl, rfl, h, k⟩
def Focus (P : Program) (τ : Ty) (x : τ.den) (p : List qJ) (σ : Ty) (y : σ.den) (w : World) (H : FH) (fp : List Nat)
  (root : List Nat) (locP : World → Prop) (keepRoot : World → (τ.den) → List Nat → Prop) (b' o' : Nat) : Prop :=
 ∃ blk' t' pre' c post' f1 f f2, w.heap[b']? = some (.cells blk' t' (0, 0)) ∧ blk'.toList = pre' ++ c ++ post' ∧ pre'.length = o' ∧ fp = f1 ++ f ++ f2 ∧
  (b' ∈ root ∨ b' ∈ f1) ∧ qx P σ w H y c f ∧ (∀ w' : World, (∀ k ∈ root ++ f1, w'.heap[k]? = w.heap[k]?) → locP w') ∧
  ∀ (w' : World) (c' : List Value) (f' : List Nat) (σ' : Ty) (y' : σ'.den) (x' : τ.den), qx P σ' w' H y' c' f' → qal τ x p σ' y' = some x' →
   w'.heap[b']? = some (.cells (pre' ++ c' ++ post').toArray t' (0, 0)) → (∀ k ∈ root ++ (f1 ++ f2), k ≠ b' → w'.heap[k]? = w.heap[k]?) → keepRoot w' x' (f1 ++ f' ++ f2)
def qja (P : Program) (τ : Ty) (x : τ.den) (p : List qJ) (σ : Ty) (y : σ.den) (w : World) (H : FH) (fp : List Nat) (b : Nat) (t : TypeId) (pre post : List Value) (b' o' : Nat) : Prop :=
 Focus P τ x p σ y w H fp [b] (fun w' => Loc w' τ b pre.length p b' o') (fun w' x' fp' => ∃ cs', qx P τ w' H x' cs' fp' ∧ w'.heap[b]? = some (.cells (pre ++ cs' ++ post).toArray t (0, 0))) b' o'
theorem qa5 {P : Program} {τ : Ty} {x : τ.den} {w : World} {H : FH} {cs : List Value} {fp : List Nat} {b : Nat} {blk : Array Value} {t : TypeId} {pre post : List Value}
  (h : qx P τ w H x cs fp) (hb : w.heap[b]? = some (.cells blk t (0, 0))) (hblk : blk.toList = pre ++ cs ++ post) :
  qja P τ x [] τ x w H fp b t pre post b pre.length := by
 refine ⟨blk, t, pre, cs, post, [], fp, [], hb, hblk, rfl, by simp, .inl (by simp), h, fun _ _ => jU _ _ _ _, ?_⟩
 intro w' c' f' σ' y' x' hr hs hw _
 rw [setV_nil] at hs
 obtain ⟨e, hx⟩ := qj hs
 subst e
 subst hx
 exact ⟨c', by simpa using hr, hw⟩
def DescAt (P : Program) (τ : Ty) : Prop := ∀ {p : List qJ} {x : τ.den} {σ : Ty} {y : σ.den} {w : World} {H : FH} {cs : List Value} {fp : List Nat} {b : Nat} {blk : Array Value} {t : TypeId} {pre post : List Value},
  j1 τ x p = some ⟨σ, y⟩ → qx P τ w H x cs fp → w.heap[b]? = some (.cells blk t (0, 0)) → blk.toList = pre ++ cs ++ post → (b :: fp).Nodup →
  ∃ b' o', qja P τ x p σ y w H fp b t pre post b' o'
theorem Row.desc {P : Program} {tid : Nat} {e : Ty} (ih : DescAt P e) {i : Int} {q : List qJ} {x : List e.den} {σ : Ty} {y : σ.den} {w : World} {H : FH} {hdr : Value} {fp : List Nat}
  (hg : j1 (.list true tid e) x (.I i :: q) = some ⟨σ, y⟩) (h : qx P (.list true tid e) w H x [hdr] fp) (hnd : fp.Nodup) :
  ∃ b' o' g n cap, hdr = .slice (some ⟨g, 0, none⟩) n cap ∧
   Focus P (.list true tid e) x (.I i :: q) σ y w H fp [] (fun w' => Loc w' e g (i.toNat * e.size) q b' o') (fun w' x' fp' => qx P (.list true tid e) w' H x' [hdr] fp') b' o' := by
 simp only [j1] at hg
 split at hg
 case isFalse => cases hg
 rename_i hi0
 obtain ⟨z, hz, hg⟩ := Option.bind_eq_some_iff.1 hg
 obtain ⟨hdr', xs, fp', he, rfl, ho, hch⟩ := h
 obtain rfl : hdr = hdr' := by simpa using he
 obtain ⟨pre2, c2, post2, g1, g, g2, rfl, rfl, ht1, h2, ht2⟩ := qg.at hch hz
 have hlen : i.toNat < List.length x := (List.getElem?_eq_some_iff.1 hz).1
 rcases ho.2 with ⟨rfl, h0⟩ | ⟨gb, cap, cur, rfl, hgb0, hgb, hcap, hcm, hsz, htake⟩
 ·omega
 have hpl : pre2.length = i.toNat * e.size := by
  rw [qg.length (n := e.size) (fun _ _ _ hh => qx.length e hh) ht1, List.length_take, Nat.min_eq_left (Nat.le_of_lt hlen)]
 have hcur : cur.toList = pre2 ++ c2 ++ (post2 ++ cur.toList.drop (List.length x * e.size)) := by
  have e9 := (List.take_append_drop (List.length x * e.size) cur.toList).symm
  rw [htake] at e9
  exact e9.trans (by simp only [List.append_assoc])
 have hnd' : (gb :: (g1 ++ g ++ g2)).Nodup := by simpa [Value.ownBlock] using hnd
 obtain ⟨b', o', blk', t', pre', c, post', f1, f, f2, e1, e2, e3, e4, e5, e6, hl, e7⟩ := ih (p := q) (pre := pre2) (post := post2 ++ cur.toList.drop (List.length x * e.size)) hg h2 hgb hcur (by
  simp only [List.nodup_cons, List.nodup_append, List.mem_append] at hnd' ⊢
  exact ⟨fun hh => hnd'.1 (.inl (.inr hh)), hnd'.2.1.2.1⟩)
 rw [hpl] at hl
 refine ⟨b', o', gb, List.length x, cap, rfl, blk', t', pre', c, post', gb :: (g1 ++ f1), f, f2 ++ g2, e1, e2, e3, by rw [e4]; simp [Value.ownBlock], ?_, e6, fun w' ha => hl w' (fun k hk => ha k (by simp at hk ⊢; rcases hk with h | h <;> simp [h])), ?_⟩
 ·rcases e5 with h | h
  ·simp only [List.mem_singleton] at h; exact .inr (by simp [h])
  ·exact .inr (by simp [h])
 intro w' c' f' σ' y' x' hr hs hw hk
 simp only [qal, if_pos hi0] at hs
 obtain ⟨z', hz', hs⟩ := Option.bind_eq_some_iff.1 hs
 rw [hz] at hz'
 cases hz'
 obtain ⟨z2, hz2, rfl⟩ := Option.map_eq_some_iff.1 hs
 obtain ⟨cs', hr', hw'⟩ := e7 w' c' f' σ' y' z2 hr hz2 hw (fun k hk' => hk k (by simp at hk' ⊢; rcases hk' with h | h | h <;> simp [h]))
 have hcl : cs'.length = c2.length := (qx.length e hr').trans (qx.length e h2).symm
 have hsl : List.length (List.set x i.toNat z2) = List.length x := List.length_set
 refine ⟨.slice (some ⟨gb, 0, none⟩) (List.length x) cap, pre2 ++ cs' ++ post2, g1 ++ (f1 ++ f' ++ f2) ++ g2, rfl, by simp [Value.ownBlock], ⟨?_, .inr ⟨gb, cap, _, by rw [hsl], Nat.zero_le _, hw', ?_, hcm, ?_, ?_⟩⟩, ?_⟩
 ·have := ho.1
  rw [hsl]
  simp only [List.length_append] at this ⊢
  omega
 ·rw [hsl]; exact hcap
 ·have q0 := congrArg List.length hcur
  rw [Array.length_toList] at q0
  rw [← hsz, q0, List.size_toArray]
  simp only [List.length_append, hcl]
 ·have e8 : (pre2 ++ cs' ++ post2).length = List.length x * e.size := by
   have := ho.1
   simp only [List.length_append] at this ⊢
   omega
  rw [hsl]
  show List.take _ (pre2 ++ cs' ++ (post2 ++ _)) = _
  rw [← List.append_assoc (pre2 ++ cs'), ← e8]
  exact List.take_left
 ·have hset : x.set i.toNat z2 = x.take i.toNat ++ z2 :: x.drop (i.toNat + 1) := List.set_eq_take_append_cons_drop.trans (if_pos hlen)
  rw [hset]
  have hm : ∀ k ∈ g1 ++ g2, w'.heap[k]? = w.heap[k]? := by
   intro k hk'
   refine hk k (by simp at hk' ⊢; rcases hk' with h | h <;> simp [h]) ?_
   rintro rfl
   rcases e5 with h | h
   ·simp only [List.mem_singleton] at h
    subst h
    simp only [List.nodup_cons, List.mem_append] at hnd' hk'
    exact hnd'.1 (hk'.elim (fun h => .inl (.inl h)) .inr)
   ·rw [e4] at hnd'
    simp only [List.nodup_cons, List.nodup_append, List.mem_append] at hnd' hk'
    rcases hk' with hk' | hk'
    ·exact hnd'.2.1.2.2 k hk' k (.inl (.inl h)) rfl
    ·exact hnd'.2.2.2 k (.inr (.inl (.inl h))) k hk' rfl
  have q1 : qg (qx P e w' H) (x.take i.toNat) pre2 g1 := qg.mono_fp (Q := fun k => w'.heap[k]? = w.heap[k]?) (fun _ _ _ hf hh => qx.mono e (FH.le_refl _) hf hh) (fun k hk' => hm k (by simp [hk'])) ht1
  have q2 : qg (qx P e w' H) (x.drop (i.toNat + 1)) post2 g2 := qg.mono_fp (Q := fun k => w'.heap[k]? = w.heap[k]?) (fun _ _ _ hf hh => qx.mono e (FH.le_refl _) hf hh) (fun k hk' => hm k (by simp [hk'])) ht2
  have := qg.append q1 (qg.cons hr' q2)
  simpa using this
theorem qx.desc {P : Program} : (τ : Ty) → ∀ {p : List qJ} {x : τ.den} {σ : Ty} {y : σ.den} {w : World} {H : FH} {cs : List Value} {fp : List Nat} {b : Nat} {blk : Array Value} {t : TypeId} {pre post : List Value},
  j1 τ x p = some ⟨σ, y⟩ → qx P τ w H x cs fp → w.heap[b]? = some (.cells blk t (0, 0)) → blk.toList = pre ++ cs ++ post → (b :: fp).Nodup →
  ∃ b' o', qja P τ x p σ y w H fp b t pre post b' o'
 | .pair u v, p, x, σ, y, w, H, cs, fp, b, blk, t, pre, post, hg, h, hb, hblk, hnd => by
  match p with
  | [] => cases hg; exact ⟨b, pre.length, qa5 h hb hblk⟩
  | .I _ :: _ => cases hg
  | .L :: q =>
   obtain ⟨c1, c2, g1, g2, rfl, rfl, h1, h2⟩ := h
   obtain ⟨b', o', blk', t', pre', c, post', f1, f, f2, e1, e2, e3, e4, e5, e6, hl, e7⟩ := qx.desc u (p := q) (pre := pre) (post := c2 ++ post) hg h1 hb (by rw [hblk]; simp) (by
    rw [← List.cons_append] at hnd; exact (List.nodup_append.1 hnd).1)
   refine ⟨b', o', blk', t', pre', c, post', f1, f, f2 ++ g2, e1, e2, e3, by rw [e4]; simp, e5, e6, hl, ?_⟩
   intro w' c' f' σ' y' x' hr hs hw hk
   obtain ⟨z, hz, rfl⟩ := Option.map_eq_some_iff.1 hs
   obtain ⟨cs', hr', hw'⟩ := e7 w' c' f' σ' y' z hr hz hw (fun k hk' => hk k (by simp at hk' ⊢; rcases hk' with h | h | h <;> simp [h]))
   refine ⟨cs' ++ c2, ⟨cs', c2, f1 ++ f' ++ f2, g2, rfl, by simp, hr', ?_⟩, by rw [hw']; simp⟩
   refine qx.mono v (FH.le_refl _) (fun k hk' => hk k (by simp [hk']) ?_) h2
   rintro rfl
   rw [e4] at hnd
   rcases e5 with h | h
   ·simp only [List.mem_singleton] at h
    subst h
    simp only [List.nodup_cons, List.mem_append] at hnd
    exact hnd.1 (.inr hk')
   ·simp only [List.nodup_cons, List.nodup_append, List.mem_append] at hnd
    exact hnd.2.2.2 k (.inl (.inl h)) k hk' rfl
  | .R :: q =>
   obtain ⟨c1, c2, g1, g2, rfl, rfl, h1, h2⟩ := h
   obtain ⟨b', o', blk', t', pre', c, post', f1, f, f2, e1, e2, e3, e4, e5, e6, hl, e7⟩ := qx.desc v (p := q) (pre := pre ++ c1) (post := post) hg h2 hb (by rw [hblk]; simp) (by
    simp only [List.nodup_cons, List.nodup_append, List.mem_append] at hnd ⊢
    exact ⟨fun hh => hnd.1 (.inr hh), hnd.2.2.1⟩)
   refine ⟨b', o', blk', t', pre', c, post', g1 ++ f1, f, f2, e1, e2, e3, by rw [e4]; simp, e5.imp id (fun h => by simp [h]), e6, fun w' ha => ?_, ?_⟩
   ·show Loc w' v b (pre.length + u.size) q b' o'
    rw [← qx.length u h1, ← List.length_append]
    exact hl w' (fun k hk => ha k (by simp at hk ⊢; rcases hk with h | h <;> simp [h]))
   intro w' c' f' σ' y' x' hr hs hw hk
   obtain ⟨z, hz, rfl⟩ := Option.map_eq_some_iff.1 hs
   obtain ⟨cs', hr', hw'⟩ := e7 w' c' f' σ' y' z hr hz hw (fun k hk' => hk k (by simp at hk' ⊢; rcases hk' with h | h | h <;> simp [h]))
   refine ⟨c1 ++ cs', ⟨c1, cs', g1, f1 ++ f' ++ f2, rfl, by simp, ?_, hr'⟩, by rw [hw']; simp⟩
   refine qx.mono u (FH.le_refl _) (fun k hk' => hk k (by simp [hk']) ?_) h1
   rintro rfl
   rw [e4] at hnd
   rcases e5 with h | h
   ·simp only [List.mem_singleton] at h
    subst h
    simp only [List.nodup_cons, List.mem_append] at hnd
    exact hnd.1 (.inl hk')
   ·simp only [List.nodup_cons, List.nodup_append, List.mem_append] at hnd
    exact hnd.2.2.2 k hk' k (.inl (.inl h)) rfl
 | .str s, p, x, σ, y, w, H, cs, fp, b, blk, t, pre, post, hg, h, hb, hblk, hnd => by
  match p with
  | [] => cases hg; exact ⟨b, pre.length, qa5 h hb hblk⟩
  | a :: q => exact qx.desc s (p := a :: q) hg h hb hblk hnd
 | .list true tid e, p, x, σ, y, w, H, cs, fp, b, blk, t, pre, post, hg, h, hb, hblk, hnd => by
  match p with
  | [] => cases hg; exact ⟨b, pre.length, qa5 h hb hblk⟩
  | .L :: _ => cases hg
  | .R :: _ => cases hg
  | .I i :: q =>
   obtain ⟨hdr, xs, fp', rfl, rfl, ho, hch⟩ := h
   obtain ⟨b', o', g, n, cap, hh, blk', t', pre', c, post', f1, f, f2, e1, e2, e3, e4, e5, e6, hl, e7⟩ := Row.desc (P := P) (tid := tid) (fun a b c d e' => qx.desc e a b c d e') (w := w) (H := H) hg ⟨hdr, xs, fp', rfl, rfl, ho, hch⟩ (List.nodup_cons.1 hnd).2
   have hnb := (List.nodup_cons.1 hnd).1
   have hb' : b' ∈ f1 := by simpa using e5
   have hbn : b ≠ b' := by
    rintro rfl
    exact hnb (by rw [e4]; simp [hb'])
   refine ⟨b', o', blk', t', pre', c, post', f1, f, f2, e1, e2, e3, e4, .inr hb', e6, fun w' ha => ⟨g, n, cap, ?_, hl w' (fun k hk => ha k (by simp at hk ⊢; simp [hk]))⟩, ?_⟩
   ·rw [qQ ((ha b (by simp)).trans hb), ← Array.getElem?_toList, hblk, hh]; simp
   intro w' c' f' σ' y' x' hr hs hw hk
   refine ⟨[hdr], e7 w' c' f' σ' y' x' hr hs hw (fun k hk' => hk k (by simp at hk' ⊢; rcases hk' with h | h <;> simp [h])), ?_⟩
   rw [hk b (by simp) hbn, hb, ← hblk]
 | .arr n e, p, x, σ, y, w, H, cs, fp, b, blk, t, pre, post, hg, h, hb, hblk, hnd => by
  match p with
  | [] => cases hg; exact ⟨b, pre.length, qa5 h hb hblk⟩
  | .L :: _ => cases hg
  | .R :: _ => cases hg
  | .I i :: q =>
   simp only [j1] at hg
   split at hg
   case isFalse => cases hg
   rename_i hi0
   obtain ⟨z, hz, hg⟩ := Option.bind_eq_some_iff.1 hg
   obtain ⟨hln, hch⟩ := h
   obtain ⟨pre2, c2, post2, g1, g, g2, rfl, rfl, ht1, h2, ht2⟩ := qg.at hch hz
   have hlen : i.toNat < List.length x := (List.getElem?_eq_some_iff.1 hz).1
   have hpl : pre2.length = i.toNat * e.size := by
    rw [qg.length (n := e.size) (fun _ _ _ hh => qx.length e hh) ht1, List.length_take, Nat.min_eq_left (Nat.le_of_lt hlen)]
   obtain ⟨b', o', blk', t', pre', c, post', f1, f, f2, e1, e2, e3, e4, e5, e6, hl, e7⟩ := qx.desc e (p := q) (pre := pre ++ pre2) (post := post2 ++ post) hg h2 hb (by rw [hblk]; simp) (by
    simp only [List.nodup_cons, List.nodup_append, List.mem_append] at hnd ⊢
    exact ⟨fun hh => hnd.1 (.inl (.inr hh)), hnd.2.1.2.1⟩)
   rw [List.length_append, hpl] at hl
   refine ⟨b', o', blk', t', pre', c, post', g1 ++ f1, f, f2 ++ g2, e1, e2, e3, by rw [e4]; simp, e5.imp id (fun h => by simp [h]), e6, fun w' ha => hl w' (fun k hk => ha k (by simp at hk ⊢; rcases hk with h | h <;> simp [h])), ?_⟩
   intro w' c' f' σ' y' x' hr hs hw hk
   simp only [qal, if_pos hi0] at hs
   obtain ⟨z', hz', hs⟩ := Option.bind_eq_some_iff.1 hs
   rw [hz] at hz'
   cases hz'
   obtain ⟨z2, hz2, rfl⟩ := Option.map_eq_some_iff.1 hs
   obtain ⟨cs', hr', hw'⟩ := e7 w' c' f' σ' y' z2 hr hz2 hw (fun k hk' => hk k (by simp at hk' ⊢; rcases hk' with h | h | h <;> simp [h]))
   refine ⟨pre2 ++ cs' ++ post2, ⟨by rw [List.length_set]; exact hln, ?_⟩, by rw [hw']; simp⟩
   have hset : x.set i.toNat z2 = x.take i.toNat ++ z2 :: x.drop (i.toNat + 1) := List.set_eq_take_append_cons_drop.trans (if_pos hlen)
   rw [hset]
   have hm : ∀ k ∈ g1 ++ g2, w'.heap[k]? = w.heap[k]? := by
    intro k hk'
    refine hk k (by simp at hk' ⊢; rcases hk' with h | h <;> simp [h]) ?_
    rintro rfl
    rcases e5 with h | h
    ·simp only [List.mem_singleton] at h
     subst h
     simp only [List.nodup_cons, List.mem_append] at hnd hk'
     exact hnd.1 (hk'.elim (fun h => .inl (.inl h)) .inr)
    ·rw [e4] at hnd
     simp only [List.nodup_cons, List.nodup_append, List.mem_append] at hnd hk'
     rcases hk' with hk' | hk'
     ·exact hnd.2.1.2.2 k hk' k (.inl (.inl h)) rfl
     ·exact hnd.2.2.2 k (.inr (.inl (.inl h))) k hk' rfl
   have q1 : qg (qx P e w' H) (x.take i.toNat) pre2 g1 := qg.mono_fp (Q := fun k => w'.heap[k]? = w.heap[k]?) (fun _ _ _ hf hh => qx.mono e (FH.le_refl _) hf hh) (fun k hk' => hm k (by simp [hk'])) ht1
   have q2 : qg (qx P e w' H) (x.drop (i.toNat + 1)) post2 g2 := qg.mono_fp (Q := fun k => w'.heap[k]? = w.heap[k]?) (fun _ _ _ hf hh => qx.mono e (FH.le_refl _) hf hh) (fun k hk' => hm k (by simp [hk'])) ht2
   have := qg.append q1 (qg.cons hr' q2)
   simpa using this
 | .int _, p, _, _, _, _, _, _, _, b, _, _, pre, _, hg, h, hb, hblk, _ => by cases p <;> cases hg; exact ⟨b, pre.length, qa5 h hb hblk⟩
 | .bool, p, _, _, _, _, _, _, _, b, _, _, pre, _, hg, h, hb, hblk, _ => by cases p <;> cases hg; exact ⟨b, pre.length, qa5 h hb hblk⟩
 | .list false _ _, p, _, _, _, _, _, _, _, b, _, _, pre, _, hg, h, hb, hblk, _ => by cases p <;> cases hg; exact ⟨b, pre.length, qa5 h hb hblk⟩
 | .ptr _, p, _, _, _, _, _, _, _, b, _, _, pre, _, hg, h, hb, hblk, _ => by cases p <;> cases hg; exact ⟨b, pre.length, qa5 h hb hblk⟩
 | .fn _ _, p, _, _, _, _, _, _, _, b, _, _, pre, _, hg, h, hb, hblk, _ => by cases p <;> cases hg; exact ⟨b, pre.length, qa5 h hb hblk⟩
 | .fn2 _ _ _, p, _, _, _, _, _, _, _, b, _, _, pre, _, hg, h, hb, hblk, _ => by cases p <;> cases hg; exact ⟨b, pre.length, qa5 h hb hblk⟩
end Go.Vi
namespace Go.Vi
structure qF where
 b : Nat
 hdr : Value
 fp : List Nat
structure Ctx where
 w0 : World
 M0 : Nat → Prop
 H0 : FH
 nt : Nat
 pin : Nat → Option qF
 ds : List Deferred
 gh : Nat → Option Value := fun _ => none
def qak (w : World) (o : Obj) (φ : qF) (p : List qJ) (b off : Nat) : Prop :=
 match o.row with
 | false => Loc w o.τ φ.b 0 p b off
 | true => match o.τ, p with
  | .list true _ e, .I i :: q => ∃ g n cap, φ.hdr = .slice (some ⟨g, 0, none⟩) n cap ∧ Loc w e g (i.toNat * e.size) q b off
  | _, _ => False
def qX (P : Program) (w : World) (H : FH) (o : Obj) (φ : qF) : Prop :=
 o.τ.noFn = true ∧ φ.fp.Nodup ∧ match o.row with
 | false => ∃ blk t fp', w.heap[φ.b]? = some (.cells blk t (0, 0)) ∧ qx P o.τ w H o.x blk.toList fp' ∧ φ.fp = φ.b :: fp'
 | true => qeA o.τ = true ∧ ∃ cs, φ.hdr = jZ o.τ cs ∧ qx P o.τ w H o.x cs φ.fp
theorem qX.frame {P : Program} {w w' : World} {H H' : FH} {o : Obj} {φ : qF} (h : qX P w H o φ) (hH : H.le H') (hw : ∀ b ∈ φ.fp, w'.heap[b]? = w.heap[b]?) : qX P w' H' o φ := by
 obtain ⟨h1, h2, h3⟩ := h
 refine ⟨h1, h2, ?_⟩
 cases hr : o.row with
 | false =>
  rw [hr] at h3
  obtain ⟨blk, t, fp', h4, h5, h6⟩ := h3
  exact ⟨blk, t, fp', by rw [hw _ (by rw [h6]; simp)]; exact h4, qx.mono _ hH (fun b hb => hw b (by rw [h6]; simp [hb])) h5, h6⟩
 | true =>
  rw [hr] at h3
  obtain ⟨h3, cs, h4, h5⟩ := h3
  exact ⟨h3, cs, h4, qx.mono _ hH hw h5⟩
theorem qX.row_list {P : Program} {w : World} {H : FH} {tid : Nat} {e : Ty} {x : List e.den} {φ : qF} (h : qX P w H ⟨true, .list true tid e, x⟩ φ) : qx P (.list true tid e) w H x [φ.hdr] φ.fp := by
 obtain ⟨_, _, _, cs, h4, h5⟩ := h
 obtain ⟨hdr, xs, fp', e1, e2, e3⟩ := h5
 subst e1
 have h4 : φ.hdr = hdr := h4
 rw [h4]
 exact ⟨hdr, xs, fp', rfl, e2, e3⟩
theorem qX.of_list {P : Program} {w : World} {H : FH} {tid : Nat} {e : Ty} {x : List e.den} {φ : qF} (hn : (Ty.list true tid e).noFn = true) (hnd : φ.fp.Nodup) (h : qx P (.list true tid e) w H x [φ.hdr] φ.fp) : qX P w H ⟨true, .list true tid e, x⟩ φ :=
 ⟨hn, hnd, rfl, [φ.hdr], rfl, h⟩
theorem qX.desc2 {P : Program} {w : World} {H : FH} {o : Obj} {φ : qF} (h : qX P w H o φ) {p : List qJ} {σ : Ty} {y : σ.den} (hg : j1 o.τ o.x p = some ⟨σ, y⟩)
  (hloc : ∃ w0 b off, qak w0 o φ p b off) (hp : (o.row && p.isEmpty) = false) :
  ∃ b' o' blk' t' pre' c post' f1 f f2, w.heap[b']? = some (.cells blk' t' (0, 0)) ∧ blk'.toList = pre' ++ c ++ post' ∧ pre'.length = o' ∧ φ.fp = f1 ++ f ++ f2 ∧
    b' ∈ f1 ∧ qx P σ w H y c f ∧ (∀ w' : World, (∀ k ∈ f1, w'.heap[k]? = w.heap[k]?) → qak w' o φ p b' o') ∧
    ∀ (w' : World) (c' : List Value) (f' : List Nat) (σ' : Ty) (y' : σ'.den) (x' : o.τ.den), qx P σ' w' H y' c' f' → qal o.τ o.x p σ' y' = some x' →
     w'.heap[b']? = some (.cells (pre' ++ c' ++ post').toArray t' (0, 0)) → (∀ k ∈ f1 ++ f2, k ≠ b' → w'.heap[k]? = w.heap[k]?) → (f1 ++ f' ++ f2).Nodup →
     qX P w' H ⟨o.row, o.τ, x'⟩ ⟨φ.b, φ.hdr, f1 ++ f' ++ f2⟩ := by
 obtain ⟨h1, h2, h3⟩ := h
 obtain ⟨row, τ, x⟩ := o
 cases row with
 | false =>
  obtain ⟨blk, t, fp', h4, h5, h6⟩ := h3
  obtain ⟨b', o', blk', t', pre', c, post', f1, f, f2, e1, e2, e3, e4, e5, e6, hl, e7⟩ := qx.desc τ (pre := []) (post := []) hg h5 h4 (by simp) (by rw [← h6]; exact h2)
  refine ⟨b', o', blk', t', pre', c, post', φ.b :: f1, f, f2, e1, e2, e3, by rw [h6, e4]; simp, ?_, e6, fun w' ha => hl w' (fun k hk => ha k (by simpa using hk)), ?_⟩
  ·rcases e5 with h | h
   ·simp at h; simp [h]
   ·simp [h]
  ·intro w' c' f' σ' y' x' hr hs hw hk hnd
   obtain ⟨cs', hr', hw'⟩ := e7 w' c' f' σ' y' x' hr hs hw (fun k hk' => hk k (by simpa using hk'))
   exact ⟨h1, hnd, _, t, f1 ++ f' ++ f2, hw', by simpa using hr', by simp⟩
 | true =>
  obtain ⟨w0, b0, off0, hloc⟩ := hloc
  unfold qak at hloc
  simp only at hloc
  split at hloc
  case h_2 => exact hloc.elim
  rename_i tid e i q
  ·have h4 : qx P (.list true tid e) w H x [φ.hdr] φ.fp := qX.row_list ⟨h1, h2, h3⟩
   obtain ⟨b', o', g, n, cap, hh, blk', t', pre', c, post', f1, f, f2, e1, e2, e3, e4, e5, e6, hl, e7⟩ := Row.desc (P := P) (tid := tid) (fun a b c d e' => qx.desc e a b c d e') (w := w) (H := H) hg h4 h2
   refine ⟨b', o', blk', t', pre', c, post', f1, f, f2, e1, e2, e3, e4, by simpa using e5, e6, fun w' ha => ⟨g, n, cap, hh, hl w' (fun k hk => ha k (by simpa using hk))⟩, ?_⟩
   intro w' c' f' σ' y' x' hr hs hw hk hnd
   exact qX.of_list h1 hnd (e7 w' c' f' σ' y' x' hr hs hw (fun k hk' => hk k (by simpa using hk')))
theorem qX.desc {P : Program} {w : World} {H : FH} {o : Obj} {φ : qF} (h : qX P w H o φ) {p : List qJ} {σ : Ty} {y : σ.den} (hg : j1 o.τ o.x p = some ⟨σ, y⟩)
  (hloc : ∃ w0 b off, qak w0 o φ p b off) (hp : (o.row && p.isEmpty) = false) :
  ∃ b' o', (∀ w' : World, (∀ k ∈ φ.fp, w'.heap[k]? = w.heap[k]?) → qak w' o φ p b' o') ∧
   ∃ blk' t' pre' c post' f1 f f2, w.heap[b']? = some (.cells blk' t' (0, 0)) ∧ blk'.toList = pre' ++ c ++ post' ∧ pre'.length = o' ∧ φ.fp = f1 ++ f ++ f2 ∧
    b' ∈ f1 ∧ qx P σ w H y c f ∧
    ∀ (w' : World) (c' : List Value) (f' : List Nat) (σ' : Ty) (y' : σ'.den) (x' : o.τ.den), qx P σ' w' H y' c' f' → qal o.τ o.x p σ' y' = some x' →
     w'.heap[b']? = some (.cells (pre' ++ c' ++ post').toArray t' (0, 0)) → (∀ k ∈ f1 ++ f2, k ≠ b' → w'.heap[k]? = w.heap[k]?) → (f1 ++ f' ++ f2).Nodup →
     qX P w' H ⟨o.row, o.τ, x'⟩ ⟨φ.b, φ.hdr, f1 ++ f' ++ f2⟩ := by
 obtain ⟨b', o', blk', t', pre', c, post', f1, f, f2, e1, e2, e3, e4, e5, e6, hl, e7⟩ := h.desc2 hg hloc hp
 exact ⟨b', o', fun w' ha => hl w' (fun k hk => ha k (by rw [e4]; simp [hk])), blk', t', pre', c, post', f1, f, f2, e1, e2, e3, e4, e5, e6, e7⟩
def qeh (w : World) (o : Obj) (φ : qF) (p : List qJ) (h : Value) : Prop :=
 match o.row && p.isEmpty with
 | true => h = φ.hdr
 | false => ∃ b off, qak w o φ p b off ∧ w.cell? ⟨b, off, none⟩ = some h
structure qaB (C : Ctx) (w : World) (H : FH) (Φ : Nat → qF) (os : Nat → Option Obj) (b : Nat) : Prop where
 fz : H b = none
 obj : ∀ id o, os id = some o → b ∉ (Φ id).fp
 may : C.M0 b ∨ C.w0.heap.size ≤ b
 lt : b < w.heap.size
def ViewAt (w : World) (Φ : Nat → qF) (os : Nat → Option Obj) (id : Nat) (p : List qJ) (v : Value) : Prop := ∃ o y, os id = some o ∧ j1 o.τ o.x p = some y ∧ match o.row && p.isEmpty with
   | true => v = (Φ id).hdr
   | false => ∃ b off blk t, qak w o (Φ id) p b off ∧ w.heap[b]? = some (.cells blk t (0, 0)) ∧ v = jZ y.1 (seg blk off y.1.size)
def CutV (v0 : Value) (sz : Nat) (lo : Int) (v : Value) : Prop := ∃ ad n cap, v0 = .slice ad n cap ∧ 0 ≤ lo ∧ lo.toNat ≤ n ∧ v = .slice (if cap = lo.toNat then ad else ad.map (·.add (lo.toNat * sz))) (n - lo.toNat) (cap - lo.toNat)
def cvBlk (i f b : Nat) (cv : List Value) : Array Value :=
 match i with
 | 2 => cv.toArray
 | _ => #[.func (.func f) #[] (cv ++ [Value.pointer (some ⟨b, 0, none⟩)]).toArray]
def qn (P : Program) (C : Ctx) (w : World) (H : FH) (Φ : Nat → qF) (os : Nat → Option Obj) : AV → Value → Prop
 | .dead, _ => True
 | .val τ x, v => τ.isFz = true ∧ ∃ cs, v = jZ τ cs ∧ qx P τ w H x cs []
 | .ref τ x, v => τ.isFz = true ∧ ∃ b o blk, v = .pointer (some ⟨b, o, none⟩) ∧ H b = some blk ∧ qx P τ w H x (seg blk o τ.size) []
 | .ptr id p, v => ∃ o y b off, os id = some o ∧ (o.row && p.isEmpty) = false ∧ j1 o.τ o.x p = some y ∧ qak w o (Φ id) p b off ∧ v = .pointer (some ⟨b, off, none⟩)
 | .view id p, v => ∃ o y, os id = some o ∧ j1 o.τ o.x p = some y ∧ match o.row && p.isEmpty with
   | true => v = (Φ id).hdr
   | false => ∃ b off blk t, qak w o (Φ id) p b off ∧ w.heap[b]? = some (.cells blk t (0, 0)) ∧ v = jZ y.1 (seg blk off y.1.size)
 | .upd id p tid e l, v => ∃ o, os id = some o ∧ e.isFz = true ∧ e.noFn = true ∧ qb7 o.τ p = some (.list true tid e) ∧
   ∃ fp, qx P (.list true tid e) w H l [v] fp ∧ ∀ b ∈ fp, b < w.heap.size ∧ (qaB C w H Φ os b ∨ ∃ h, qeh w o (Φ id) p h ∧ h.ownBlock = some b)
 | .cut id z lo, v => ∃ v0, ViewAt w Φ os id [] v0 ∧ CutV v0 z lo v
 | .fn f first caps, v => ∃ vs us, v = .func (.func f) vs us ∧ qn P C w H Φ os first (.tuple vs) ∧ qn P C w H Φ os caps (.tuple us)
 | .nil, v => v = .tuple #[]
 | .gh n a, _ => ∃ u, C.gh n = some u ∧ qn P C w H Φ os a u
 | .cv i f n, v => ∃ (b : Nat) (cv : List Value), H b = some (cvBlk i f b cv) ∧ (cv.length = n / 1000 ∧ ∀ j u, cv[j]? = some u → ∃ φ, C.pin (10000000 + (n % 1000 + j)) = some φ ∧ u = .pointer (some ⟨φ.b, 0, none⟩)) ∧
   v = match i with
    | 1 => .func (.func f) #[] (cv ++ [Value.pointer (some ⟨b, 0, none⟩)]).toArray
    | _ => .pointer (some ⟨b, 0, none⟩)
 | .cons a b, v => ∃ u us, v = .tuple (u :: us).toArray ∧ qn P C w H Φ os a u ∧ qn P C w H Φ os b (.tuple us.toArray)
def IsNN (v : Value) : Prop := ∃ a n c, v = .slice (some a) n c
def cls (id : Nat) (v : Value) : Prop := (4000000 ≤ id → id < 7000000 → IsNN v) ∧ (7000000 ≤ id → id < 10000000 → v = .slice none 0 0)
theorem qbb {id : Nat} {v : Value} (h : id < 4000000) : cls id v := ⟨fun _ _ => by omega, fun _ _ => by omega⟩
def sureV : Bool → Value → Prop
 | true, v => IsNN v
 | false, v => v = .slice none 0 0
theorem qhs {nn : Bool} {n : Nat} {v : Value} (hn : n < 3000000) (h : sureV nn v) : cls (qaT nn n) v := by
 cases nn with
 | true => exact ⟨fun _ _ => h, fun h1 _ => by have h1 : 7000000 ≤ 4000000 + n := h1; omega⟩
 | false => exact ⟨fun _ h1 => by have h1 : 7000000 + n < 7000000 := h1; omega, fun _ _ => h⟩
theorem qgA {nn : Bool} {id : Nat} {v : Value} (h : qeH id nn = true) (hc : cls id v) : sureV nn v := by
 cases nn with
 | true =>
  have h : (Nat.ble 4000000 id && Nat.blt id 7000000) = true := h
  rw [Bool.and_eq_true] at h
  exact hc.1 (Nat.le_of_ble_eq_true h.1) (Eq.mp Nat.blt_eq h.2)
 | false =>
  have h : (Nat.ble 7000000 id && Nat.blt id 10000000) = true := h
  rw [Bool.and_eq_true] at h
  exact hc.2 (Nat.le_of_ble_eq_true h.1) (Eq.mp Nat.blt_eq h.2)
theorem qft {nn : Bool} {n : Nat} (hn : n < 3000000) : qaT nn n < 10000000 := by
 cases nn with
 | true => show 4000000 + n < 10000000; omega
 | false => show 7000000 + n < 10000000; omega
theorem qfu {nn : Bool} {n : Nat} : 4000000 ≤ qaT nn n := by
 cases nn with
 | true => show 4000000 ≤ 4000000 + n; omega
 | false => show 4000000 ≤ 7000000 + n; omega
theorem qhS {nn nn' : Bool} {n m : Nat} (hn : n < 3000000) (hm : m < 3000000) (h : n ≠ m) : qaT nn n ≠ qaT nn' m := by
 cases nn <;> cases nn' <;> (intro e; simp only [qaT, cond_true, cond_false] at e; omega)
theorem qjY {id : Nat} {v : Value} (h : 10000000 ≤ id) : cls id v := ⟨fun _ _ => by omega, fun _ _ => by omega⟩
structure qm (P : Program) (C : Ctx) (s : St) (a : Act) (w : World) (H : FH) (Φ : Nat → qF) : Prop where
 defers : a.defers = C.ds
 size : a.tmps.size = C.nt
 le : C.H0.le H
 hok : HOk H w
 hnew : ∀ b c, H b = some c → C.H0 b = some c ∨ C.M0 b ∨ C.w0.heap.size ≤ b
 mod : j9 C.M0 C.w0 w
 ts : ∀ t av, s.get t = some av → qn P C w H Φ s.obj av (a.tmps.getD t undef)
 os : ∀ id o, s.obj id = some o → qX P w H o (Φ id) ∧ ∀ b ∈ (Φ id).fp, H b = none ∧ (C.M0 b ∨ C.w0.heap.size ≤ b) ∧ b < w.heap.size
 disj : ∀ i j o o', i ≠ j → s.obj i = some o → s.obj j = some o' → ∀ b ∈ (Φ i).fp, b ∉ (Φ j).fp
 pins : (∀ id φ, C.pin id = some φ → (Φ id).b = φ.b ∧ (Φ id).hdr = φ.hdr) ∧ ∀ id, cls id (Φ id).hdr
def Sim (P : Program) (C : Ctx) (s : St) (a : Act) (w : World) : Prop := ∃ H Φ, qm P C s a w H Φ
section
variable {P : Program} {C : Ctx}
theorem qn.transfer {w w' : World} {H H' : FH} {Φ Φ' : Nat → qF} {os os' : Nat → Option Obj} (f : AV → Bool) (hH : H.le H')
  (hptr : ∀ id p v, f (.ptr id p) = false → qn P C w H Φ os (.ptr id p) v → qn P C w' H' Φ' os' (.ptr id p) v)
  (hview : ∀ id p v, f (.view id p) = false → qn P C w H Φ os (.view id p) v → qn P C w' H' Φ' os' (.view id p) v)
  (hupd : ∀ id p t e l v, f (.upd id p t e l) = false → qn P C w H Φ os (.upd id p t e l) v → qn P C w' H' Φ' os' (.upd id p t e l) v) :
  ∀ (av : AV) (v : Value), qn P C w H Φ os av v → qn P C w' H' Φ' os' (av.killIf f) v
 | .dead, _, _ => by simp only [AV.killIf]; cases f .dead <;> trivial
 | .val τ x, v, h => by
  simp only [AV.killIf]
  cases f (.val τ x) with
  | true => trivial
  | false => obtain ⟨h1, cs, h2, h3⟩ := h; exact ⟨h1, cs, h2, qx.mono _ hH (by simp) h3⟩
 | .ref τ x, v, h => by
  simp only [AV.killIf]
  cases f (.ref τ x) with
  | true => trivial
  | false => obtain ⟨h1, b, o, blk, h2, h3, h4⟩ := h; exact ⟨h1, b, o, blk, h2, hH _ _ h3, qx.mono _ hH (by simp) h4⟩
 | .ptr id p, v, h => by
  simp only [AV.killIf]
  cases hf : f (.ptr id p) with
  | true => trivial
  | false => exact hptr id p v hf h
 | .view id p, v, h => by
  simp only [AV.killIf]
  cases hf : f (.view id p) with
  | true => trivial
  | false => exact hview id p v hf h
 | .upd id p t e l, v, h => by
  simp only [AV.killIf]
  cases hf : f (.upd id p t e l) with
  | true => trivial
  | false => exact hupd id p t e l v hf h
 | .cut id z lo, v, h => by
  simp only [AV.killIf]
  cases hf : f (.view id []) with
  | true => trivial
  | false => obtain ⟨v0, h1, h2⟩ := h; exact ⟨v0, hview id [] v0 hf h1, h2⟩
 | .fn g first caps, v, h => by
  obtain ⟨vs, us, h1, h2, h3⟩ := h
  exact ⟨vs, us, h1, qn.transfer f hH hptr hview hupd first _ h2, qn.transfer f hH hptr hview hupd caps _ h3⟩
 | .nil, v, h => by simp only [AV.killIf]; cases f .nil <;> first | trivial | exact h
 | .gh n a, v, h => by
  obtain ⟨u, h1, h2⟩ := h
  exact ⟨u, h1, qn.transfer f hH hptr hview hupd a _ h2⟩
 | .cv i g n, v, h => by
  simp only [AV.killIf]
  cases f (.cv i g n) with
  | true => trivial
  | false =>
   obtain ⟨b, cv, h1, h2⟩ := h
   exact ⟨b, cv, hH _ _ h1, h2⟩
 | .cons a b, v, h => by
  obtain ⟨u, us, h1, h2, h3⟩ := h
  exact ⟨u, us, h1, qn.transfer f hH hptr hview hupd a _ h2, qn.transfer f hH hptr hview hupd b _ h3⟩
theorem qak.det {w : World} {o : Obj} {φ : qF} {p : List qJ} {b off b' off' : Nat} (h : qak w o φ p b off) (k : qak w o φ p b' off') : b = b' ∧ off = off' := by
 obtain ⟨row, τ, x⟩ := o
 cases row with
 | false => exact Loc.det _ h k
 | true =>
  cases τ with
  | list own tid e =>
   cases own with
   | false => exact h.elim
   | true =>
    match p with
    | [] => exact h.elim
    | .L :: _ => exact h.elim
    | .R :: _ => exact h.elim
    | .I i :: q =>
     obtain ⟨g, n, cap, e1, e2⟩ := h
     obtain ⟨g', n', cap', e3, e4⟩ := k
     rw [e1] at e3
     cases e3
     exact Loc.det _ e2 e4
  | _ => exact h.elim
theorem qak.keep {w w' : World} (hk : ∀ a o g n cap, w.cell? ⟨a, o, none⟩ = some (.slice g n cap) → w'.cell? ⟨a, o, none⟩ = some (.slice g n cap)) {o : Obj} {φ : qF} {p : List qJ} {b off : Nat} (h : qak w o φ p b off) : qak w' o φ p b off := by
 obtain ⟨row, τ, x⟩ := o
 cases row with
 | false => exact Loc.keep _ hk h
 | true =>
  cases τ with
  | list own tid e =>
   cases own with
   | false => exact h.elim
   | true =>
    match p with
    | [] => exact h.elim
    | .L :: _ => exact h.elim
    | .R :: _ => exact h.elim
    | .I i :: q =>
     obtain ⟨g, n, cap, e1, e2⟩ := h
     exact ⟨g, n, cap, e1, Loc.keep _ hk e2⟩
  | _ => exact h.elim
theorem qX.loc_stay {w w' : World} {H : FH} {o : Obj} {φ : qF} (hok : qX P w H o φ) (hfp : ∀ b ∈ φ.fp, w'.heap[b]? = w.heap[b]?) {p : List qJ} {y} (hg : j1 o.τ o.x p = some y) (hp : (o.row && p.isEmpty) = false)
  {b off : Nat} (h : qak w o φ p b off) : qak w' o φ p b off ∧ b ∈ φ.fp := by
 obtain ⟨b', o', hl, blk', t', pre', c, post', f1, f, f2, e1, e2, e3, e4, e5, _⟩ := hok.desc (y := y.2) hg ⟨w, _, _, h⟩ hp
 obtain ⟨rfl, rfl⟩ := qak.det h (hl w (fun _ _ => rfl))
 exact ⟨hl w' hfp, by rw [e4]; simp [e5]⟩
theorem qn.ptr_stay {w w' : World} {H H' : FH} {Φ Φ' : Nat → qF} {os os' : Nat → Option Obj} {id : Nat} {p : List qJ} {v : Value} (hos : ∀ o, os id = some o → os' id = some o) (hΦ : Φ' id = Φ id)
  (hobj : ∀ o, os id = some o → qX P w H o (Φ id) ∧ ∀ b ∈ (Φ id).fp, w'.heap[b]? = w.heap[b]?)
  (h : qn P C w H Φ os (.ptr id p) v) : qn P C w' H' Φ' os' (.ptr id p) v := by
 obtain ⟨o, y, b, off, h1, h2, h3, h4, h5⟩ := h
 obtain ⟨hok, hfp⟩ := hobj o h1
 exact ⟨o, y, b, off, hos o h1, h2, h3, by rw [hΦ]; exact (hok.loc_stay hfp h3 h2 h4).1, h5⟩
theorem qn.view_stay {w w' : World} {H H' : FH} {Φ Φ' : Nat → qF} {os os' : Nat → Option Obj} {id : Nat} {p : List qJ} {v : Value} (hos : ∀ o, os id = some o → os' id = some o) (hΦ : Φ' id = Φ id)
  (hobj : ∀ o, os id = some o → qX P w H o (Φ id) ∧ ∀ b ∈ (Φ id).fp, w'.heap[b]? = w.heap[b]?)
  (h : qn P C w H Φ os (.view id p) v) : qn P C w' H' Φ' os' (.view id p) v := by
 obtain ⟨o, y, h1, h2, h3⟩ := h
 obtain ⟨hok, hfp⟩ := hobj o h1
 refine ⟨o, y, hos o h1, h2, ?_⟩
 cases hr : o.row && p.isEmpty with
 | true => rw [hr] at h3; simp only at h3 ⊢; rw [hΦ]; exact h3
 | false =>
  rw [hr] at h3
  obtain ⟨b, off, blk, t, h4, h5, h6⟩ := h3
  obtain ⟨h7, h8⟩ := hok.loc_stay hfp h2 hr h4
  exact ⟨b, off, blk, t, by rw [hΦ]; exact h7, by rw [hfp b h8]; exact h5, h6⟩
theorem qn.upd_stay {w w' : World} {H H' : FH} {Φ : Nat → qF} {os : Nat → Option Obj} {id : Nat} {p : List qJ} {tid : Nat} {e : Ty} {l : List e.den} {v : Value} (hH : H.le H')
  (hw : ∀ b, b < w.heap.size → w'.heap[b]? = w.heap[b]?) (hsz : w.heap.size ≤ w'.heap.size) (hfr : ∀ b, qaB C w H Φ os b → H' b = none)
  (h : qn P C w H Φ os (.upd id p tid e l) v) : qn P C w' H' Φ os (.upd id p tid e l) v := by
 obtain ⟨o, h1, h2, h3, h4, fp, h5, h6⟩ := h
 have hcell : ∀ a v, w.cell? a = some v → w'.cell? a = some v := fun a v ha => by
  rw [World.cell?_of_block (hw _ (World.block_lt_of_cell? w a ha))]; exact ha
 have hd : ∀ hh, qeh w o (Φ id) p hh → qeh w' o (Φ id) p hh := by
  intro hh hhd
  unfold qeh at hhd ⊢
  cases hr : o.row && p.isEmpty with
  | true => rw [hr] at hhd; exact hhd
  | false =>
   rw [hr] at hhd
   obtain ⟨b2, off2, q1, q2⟩ := hhd
   exact ⟨b2, off2, qak.keep (fun a o g n cap ha => hcell ⟨a, o, none⟩ _ ha) q1, hcell _ _ q2⟩
 refine ⟨o, h1, h2, h3, h4, fp, qx.mono _ hH (fun b hb => hw b (h6 b hb).1) h5, fun b hb => ?_⟩
 obtain ⟨hlt, h7⟩ := h6 b hb
 refine ⟨Nat.lt_of_lt_of_le hlt hsz, ?_⟩
 rcases h7 with hf | ⟨hh, q1, q2⟩
 ·exact .inl ⟨hfr b hf, hf.obj, hf.may, Nat.lt_of_lt_of_le hf.lt hsz⟩
 ·exact .inr ⟨hh, hd hh q1, q2⟩
theorem qn.id_kill (f : AV → Bool) (hf : ∀ a, f a = false) : ∀ a : AV, a.killIf f = a
 | .dead => by simp [AV.killIf, hf]
 | .val _ _ => by simp [AV.killIf, hf]
 | .ref _ _ => by simp [AV.killIf, hf]
 | .ptr _ _ => by simp [AV.killIf, hf]
 | .view _ _ => by simp [AV.killIf, hf]
 | .upd _ _ _ _ _ => by simp [AV.killIf, hf]
 | .cut _ _ _ => by simp [AV.killIf, hf]
 | .fn _ a b => by simp [AV.killIf, qn.id_kill f hf a, qn.id_kill f hf b]
 | .nil => by simp [AV.killIf, hf]
 | .gh _ a => by simp [AV.killIf, qn.id_kill f hf a]
 | .cv _ _ _ => by simp [AV.killIf, hf]
 | .cons a b => by simp [AV.killIf, qn.id_kill f hf a, qn.id_kill f hf b]
theorem qn.grow {w w' : World} {H H' : FH} {Φ : Nat → qF} {os : Nat → Option Obj} (hH : H.le H')
  (hos : ∀ id o, os id = some o → qX P w H o (Φ id) ∧ ∀ b ∈ (Φ id).fp, b < w.heap.size)
  (hw : ∀ b, b < w.heap.size → w'.heap[b]? = w.heap[b]?) (hsz : w.heap.size ≤ w'.heap.size) (hfr : ∀ b, qaB C w H Φ os b → H' b = none)
  {av : AV} {v : Value} (h : qn P C w H Φ os av v) : qn P C w' H' Φ os av v := by
 have := qn.transfer (P := P) (C := C) (w := w) (w' := w') (H := H) (H' := H') (Φ := Φ) (Φ' := Φ) (os := os) (os' := os) (fun _ => false) hH
  (fun id p v _ hh => qn.ptr_stay (fun _ h => h) rfl (fun o ho => ⟨(hos id o ho).1, fun b hb => hw b ((hos id o ho).2 b hb)⟩) hh)
  (fun id p v _ hh => qn.view_stay (fun _ h => h) rfl (fun o ho => ⟨(hos id o ho).1, fun b hb => hw b ((hos id o ho).2 b hb)⟩) hh)
  (fun id p t e l v _ hh => qn.upd_stay hH hw hsz hfr hh) av v h
 rwa [qn.id_kill _ (fun _ => rfl)] at this
theorem qkr {α β : Type} (g : α → β) : ∀ (l : List (Nat × α)) (n : Nat), lk (l.map fun x => (x.1, g x.2)) n = (lk l n).map g
 | [], _ => rfl
 | (m, a) :: r, n => by
  simp only [List.map_cons, lk]
  cases Nat.beq m n with
  | true => rfl
  | false => exact qkr g r n
theorem St.get_killIf (s : St) (f : AV → Bool) (t : Nat) : (s.killIf f).get t = (s.get t).map (AV.killIf f) := qkr _ _ _
theorem St.obj_killIf (s : St) (f : AV → Bool) : (s.killIf f).obj = s.obj := rfl
theorem St.obj_set (s : St) (t : Nat) (a : AV) : (s.set t a).obj = s.obj := rfl
theorem St.get_setObj (s : St) (id : Nat) (o : Option Obj) : (s.setObj id o).get = s.get := rfl
theorem St.get_set (s : St) (t u : Nat) (a : AV) : (s.set t a).get u = if t = u then some a else s.get u := by
 show (bif Nat.beq t u then some a else lk s.ts u) = _
 cases h : Nat.beq t u with
 | true => rw [if_pos (Nat.eq_of_beq_eq_true h)]; rfl
 | false => rw [if_neg (Nat.ne_of_beq_eq_false h)]; rfl
theorem St.obj_setObj (s : St) (id j : Nat) (o : Option Obj) : (s.setObj id o).obj j = if id = j then o else s.obj j := by
 show (bif Nat.beq id j then some o else lk s.os j).join = _
 cases h : Nat.beq id j with
 | true => rw [if_pos (Nat.eq_of_beq_eq_true h)]; rfl
 | false => rw [if_neg (Nat.ne_of_beq_eq_false h)]; rfl
theorem qcN {a : Act} {d : Nat} {v : Value} (hd : d < a.tmps.size) (t : Nat) : (a.put (some d) v).tmps.getD t undef = if d = t then v else a.tmps.getD t undef := by
 simp only [Act.put, Array.getD_eq_getD_getElem?, Array.getElem?_setIfInBounds]
 by_cases h : d = t
 ·subst h; simp [hd]
 ·simp [h]
theorem put_size (a : Act) (d : Option Nat) (v : Value) : (a.put d v).tmps.size = a.tmps.size := by cases d <;> simp [Act.put]
theorem qm.set {s : St} {a : Act} {w : World} {H : FH} {Φ : Nat → qF} (h : qm P C s a w H Φ) {d : Nat} (hd : d < C.nt) {av : AV} {v : Value} (hv : qn P C w H Φ s.obj av v) :
  qm P C (s.set d av) (a.put (some d) v) w H Φ where
 defers := h.defers
 size := by rw [put_size]; exact h.size
 le := h.le
 hok := h.hok
 hnew := h.hnew
 mod := h.mod
 ts := by
  intro t av' ht
  rw [St.get_set] at ht
  rw [qcN (by rw [h.size]; exact hd)]
  split at ht
  ·rename_i e; rw [if_pos e]; cases ht; exact hv
  ·rename_i e; rw [if_neg e]; exact h.ts t av' ht
 os := h.os
 disj := h.disj
 pins := h.pins
theorem qm.setDst {s : St} {a : Act} {w : World} {H : FH} {Φ : Nat → qF} (h : qm P C s a w H Φ) {d : Option Nat} (hd : qU C.nt d = true) {av : AV} {v : Value} (hv : qn P C w H Φ s.obj av v) :
  qm P C (s.setDst d av) (a.put d v) w H Φ := by
 cases d with
 | none => exact h
 | some d => exact h.set (Eq.mp Nat.blt_eq hd) hv
theorem qm.setAV {s : St} {a : Act} {w : World} {H : FH} {Φ : Nat → qF} {t : Nat} {av : AV} (h : qm P C s a w H Φ) (hr : qn P C w H Φ s.obj av (a.tmps.getD t undef)) : qm P C (s.set t av) a w H Φ := by
 refine ⟨h.defers, h.size, h.le, h.hok, h.hnew, h.mod, ?_, h.os, h.disj, h.pins⟩
 intro u av' hu
 rw [St.get_set] at hu
 split at hu
 ·rename_i e; subst e; cases hu; exact hr
 ·exact h.ts u av' hu
theorem qm.grow {s : St} {a : Act} {w w' : World} {H : FH} {Φ : Nat → qF} (h : qm P C s a w H Φ) (hm : j9 jO w w') : qm P C s a w' H Φ := by
 have hw : ∀ b, b < w.heap.size → w'.heap[b]? = w.heap[b]? := fun b hb => hm.block b hb (fun h => h)
 refine ⟨h.defers, h.size, h.le, h.hok.mod hm (fun _ hb => hb.elim), h.hnew, h.mod.trans (hm.mono (fun _ hb => hb.elim)), ?_, ?_, h.disj, h.pins⟩
 ·intro t av ht
  exact qn.grow (FH.le_refl _) (fun id o ho => ⟨(h.os id o ho).1, fun b hb => ((h.os id o ho).2 b hb).2.2⟩) hw hm.size (fun b hf => hf.fz) (h.ts t av ht)
 ·intro id o ho
  obtain ⟨h1, h2⟩ := h.os id o ho
  exact ⟨h1.frame (FH.le_refl _) (fun b hb => hw b (h2 b hb).2.2), fun b hb => ⟨(h2 b hb).1, (h2 b hb).2.1, Nat.lt_of_lt_of_le (h2 b hb).2.2 hm.size⟩⟩
theorem Sim.grow {s : St} {a : Act} {w w' : World} (h : Sim P C s a w) (hm : j9 jO w w') : Sim P C s a w' := by
 obtain ⟨H, Φ, h⟩ := h
 exact ⟨H, Φ, h.grow hm⟩
theorem qm.weaken {s s' : St} {a : Act} {w : World} {H : FH} {Φ : Nat → qF} (h : qm P C s a w H Φ) (ho : ∀ id o, s'.obj id = some o → s.obj id = some o)
  (ht : ∀ t av, s'.get t = some av → qn P C w H Φ s'.obj av (a.tmps.getD t undef)) : qm P C s' a w H Φ :=
 ⟨h.defers, h.size, h.le, h.hok, h.hnew, h.mod, ht, fun id o hh => h.os id o (ho id o hh), fun i j o o' hij h1 h2 => h.disj i j o o' hij (ho _ _ h1) (ho _ _ h2), h.pins⟩
end
end Go.Vi
namespace Go.Vi
section
variable {P : Program} {C : Ctx}
theorem qaA : (τ : Ty) → τ.noFn = true → ∀ {x : τ.den} {p : List qJ} {y}, j1 τ x p = some y → y.1.noFn = true
 | .pair a b, hn, x, p, y, h => by
  have hn' := hn
  simp only [Ty.noFn, Bool.and_eq_true] at hn'
  match p with
  | [] => cases h; exact hn
  | .L :: q => exact qaA a hn'.1 h
  | .R :: q => exact qaA b hn'.2 h
  | .I _ :: _ => cases h
 | .str t, hn, x, p, y, h => by
  match p with
  | [] => cases h; exact hn
  | s :: q => exact qaA t hn h
 | .list true tid e, hn, x, p, y, h => by
  match p with
  | [] => cases h; exact hn
  | .L :: _ => cases h
  | .R :: _ => cases h
  | .I i :: q =>
   simp only [j1] at h
   split at h
   ·obtain ⟨z, _, h⟩ := Option.bind_eq_some_iff.1 h
    exact qaA e hn h
   ·cases h
 | .arr n e, hn, x, p, y, h => by
  match p with
  | [] => cases h; exact hn
  | .L :: _ => cases h
  | .R :: _ => cases h
  | .I i :: q =>
   simp only [j1] at h
   split at h
   ·obtain ⟨z, _, h⟩ := Option.bind_eq_some_iff.1 h
    exact qaA e hn h
   ·cases h
 | .int _, hn, _, p, _, h => by cases p <;> cases h; exact hn
 | .bool, hn, _, p, _, h => by cases p <;> cases h; exact hn
 | .list false _ _, hn, _, p, _, h => by cases p <;> cases h; exact hn
 | .ptr _, hn, _, p, _, h => by cases p <;> cases h; exact hn
 | .fn _ _, hn, _, p, _, h => by cases p <;> cases h; exact hn
 | .fn2 _ _ _, hn, _, p, _, h => by cases p <;> cases h; exact hn
theorem qm.congr {s s' : St} {a : Act} {w : World} {H : FH} {Φ : Nat → qF} (h : qm P C s a w H Φ) (hg : s'.get = s.get) (ho : s'.obj = s.obj) : qm P C s' a w H Φ :=
 ⟨h.defers, h.size, h.le, h.hok, h.hnew, h.mod, by rw [hg, ho]; exact h.ts, by rw [ho]; exact h.os, by rw [ho]; exact h.disj, h.pins⟩
theorem qd1 {id : Nat} {j : Nat} {p : List qJ} (h : AV.names id (.ptr j p) = false) : j ≠ id := Nat.ne_of_beq_eq_false h
theorem qdw {id : Nat} {j : Nat} {p : List qJ} (h : AV.names id (.view j p) = false) : j ≠ id := Nat.ne_of_beq_eq_false h
theorem qm.remove {s : St} {a : Act} {w : World} {H : FH} {Φ : Nat → qF} (h : qm P C s a w H Φ) (id : Nat) : qm P C ((s.kill id).setObj id none) a w H Φ := by
 have ho : ∀ j o, ((s.kill id).setObj id none).obj j = some o → s.obj j = some o ∧ j ≠ id := by
  intro j o hj
  rw [St.obj_setObj] at hj
  split at hj
  ·cases hj
  ·rename_i hne; exact ⟨hj, fun e => hne e.symm⟩
 refine h.weaken (fun j o hj => (ho j o hj).1) ?_
 intro t av ht
 rw [St.get_setObj, St.kill, St.get_killIf] at ht
 obtain ⟨av0, h0, rfl⟩ := Option.map_eq_some_iff.1 ht
 have hos : ∀ j o, j ≠ id → s.obj j = some o → ((s.kill id).setObj id none).obj j = some o := by
  intro j o hj ho
  rw [St.obj_setObj, if_neg (fun e => hj e.symm)]; exact ho
 refine qn.transfer (AV.names id) (FH.le_refl _) ?_ ?_ ?_ av0 _ (h.ts t av0 h0)
 ·intro j p v hf hr
  exact qn.ptr_stay (fun o ho => hos j o (qd1 hf) ho) rfl (fun o ho => ⟨(h.os j o ho).1, fun _ _ => rfl⟩) hr
 ·intro j p v hf hr
  exact qn.view_stay (fun o ho => hos j o (qdw hf) ho) rfl (fun o ho => ⟨(h.os j o ho).1, fun _ _ => rfl⟩) hr
 ·intro j p t e l v hf; cases hf
theorem qm.killIf {s : St} {a : Act} {w : World} {H : FH} {Φ : Nat → qF} (h : qm P C s a w H Φ) (f : AV → Bool) : qm P C (s.killIf f) a w H Φ := by
 refine h.weaken (fun j o hj => hj) ?_
 intro t av ht
 rw [St.get_killIf] at ht
 obtain ⟨av0, h0, rfl⟩ := Option.map_eq_some_iff.1 ht
 exact qn.transfer f (FH.le_refl _) (fun _ _ _ _ hr => hr) (fun _ _ _ _ hr => hr) (fun _ _ _ _ _ _ _ hr => hr) av0 _ (h.ts t av0 h0)
def qa0 (Φ : Nat → qF) (id : Nat) (φ : qF) (j : Nat) : qF := if j = id then φ else Φ j
theorem qz (Φ : Nat → qF) (id : Nat) (φ : qF) : qa0 Φ id φ id = φ := if_pos rfl
theorem jA (Φ : Nat → qF) {id j : Nat} (φ : qF) (h : j ≠ id) : qa0 Φ id φ j = Φ j := if_neg h
theorem qm.newObj {s : St} {a : Act} {w w' : World} {H : FH} {Φ : Nat → qF} (h : qm P C s a w H Φ) (hm : j9 jO w w') {id : Nat} (hpin : C.pin id = none)
  {row : Bool} {τ : Ty} {x : τ.den} {φ : qF} (hcl : cls id φ.hdr) (hok : qX P w' H ⟨row, τ, x⟩ φ)
  (hfp : ∀ b ∈ φ.fp, H b = none ∧ (C.M0 b ∨ C.w0.heap.size ≤ b) ∧ b < w'.heap.size ∧ ∀ j o', j ≠ id → s.obj j = some o' → b ∉ (Φ j).fp) :
  qm P C (s.newObj id row τ x) a w' H (qa0 Φ id φ) := by
 have hg := h.grow hm
 have hw : ∀ b, b < w.heap.size → w'.heap[b]? = w.heap[b]? := fun b hb => hm.block b hb (fun h => h)
 have hob : ∀ j, (s.newObj id row τ x).obj j = if id = j then some ⟨row, τ, x⟩ else s.obj j := fun j => St.obj_setObj _ _ _ _
 have hos : ∀ j o, j ≠ id → s.obj j = some o → (s.newObj id row τ x).obj j = some o := by
  intro j o hj ho
  rw [hob, if_neg (fun e => hj e.symm)]; exact ho
 refine ⟨h.defers, h.size, h.le, hg.hok, h.hnew, hg.mod, ?_, ?_, ?_, ?_⟩
 ·intro t av ht
  have ht' : (s.kill id).get t = some av := ht
  rw [St.kill, St.get_killIf] at ht'
  obtain ⟨av0, h0, rfl⟩ := Option.map_eq_some_iff.1 ht'
  refine qn.transfer (AV.names id) (FH.le_refl _) ?_ ?_ ?_ av0 _ (h.ts t av0 h0)
  ·intro j p v hf hr
   exact qn.ptr_stay (fun o ho => hos j o (qd1 hf) ho) (jA _ _ (qd1 hf)) (fun o ho => ⟨(h.os j o ho).1, fun b hb => hw b ((h.os j o ho).2 b hb).2.2⟩) hr
  ·intro j p v hf hr
   exact qn.view_stay (fun o ho => hos j o (qdw hf) ho) (jA _ _ (qdw hf)) (fun o ho => ⟨(h.os j o ho).1, fun b hb => hw b ((h.os j o ho).2 b hb).2.2⟩) hr
  ·intro j p t e l v hf; cases hf
 ·intro j o ho
  rw [hob] at ho
  split at ho
  ·rename_i e
   subst e
   cases ho
   rw [qz]
   exact ⟨hok, fun b hb => ⟨(hfp b hb).1, (hfp b hb).2.1, (hfp b hb).2.2.1⟩⟩
  ·rename_i e
   rw [jA _ _ (fun e' => e e'.symm)]
   exact hg.os j o ho
 ·intro i j o o' hij h1 h2 b hb
  rw [hob] at h1 h2
  split at h1
  ·rename_i e
   subst e
   rw [qz] at hb
   rw [if_neg hij] at h2
   rw [jA _ _ (fun e' => hij e'.symm)]
   exact (hfp b hb).2.2.2 j o' (fun e' => hij e'.symm) h2
  ·rename_i e
   rw [jA _ _ (fun e' => e e'.symm)] at hb
   split at h2
   ·rename_i e2
    subst e2
    rw [qz]
    intro hb'
    exact (hfp b hb').2.2.2 i o hij h1 hb
   ·rename_i e2
    rw [jA _ _ (fun e' => e2 e'.symm)]
    exact h.disj i j o o' hij h1 h2 b hb
 ·refine ⟨fun j φ' hj => ?_, fun j => ?_⟩
  ·by_cases e : j = id
   ·subst e; rw [hpin] at hj; cases hj
   ·rw [jA _ _ e]; exact h.pins.1 j φ' hj
  ·by_cases e : j = id
   ·subst e; rw [qz]; exact hcl
   ·rw [jA _ _ e]; exact h.pins.2 j
def frz (w : World) (H : FH) (fp : List Nat) (b : Nat) : Option (Array Value) :=
 if b ∈ fp then (match w.heap[b]? with | some (.cells c _ _) => some c | _ => none) else H b
theorem qiT {w : World} {H : FH} {fp : List Nat} (h : ∀ b ∈ fp, H b = none) : H.le (frz w H fp) := by
 intro b c hb
 unfold frz
 rw [if_neg (fun hh => by rw [h b hh] at hb; cases hb)]
 exact hb
theorem frz_in {w : World} {H : FH} {fp : List Nat} : ∀ b ∈ fp, ∀ c t f, w.heap[b]? = some (.cells c t f) → frz w H fp b = some c := by
 intro b hb c t f hw
 simp [frz, hb, hw]
theorem frz_hok {w : World} {H : FH} {fp : List Nat} (h : HOk H w) : HOk (frz w H fp) w := by
 intro b c hb
 unfold frz at hb
 split at hb
 ·split at hb
  ·rename_i e; cases hb; exact ⟨_, _, e⟩
  ·cases hb
 ·exact h b c hb
theorem qk4 {w : World} {H : FH} {fp : List Nat} {b : Nat} {c : Array Value} (h : frz w H fp b = some c) : H b = some c ∨ b ∈ fp := by
 unfold frz at h
 split at h
 ·exact .inr ‹_›
 ·exact .inl h
theorem j5 {c : Array Value} {pre m post : List Value} {n : Nat} (h : c.toList = pre ++ m ++ post) (hn : m.length = n) : seg c pre.length n = m := by
 unfold seg
 rw [h, List.append_assoc, List.drop_left, ← hn, List.take_left]
theorem qgx (τ : Ty) (cs : List Value) : jZ τ.fz cs = jZ τ cs := by simp [jZ, Ty.isAgg_fz]
theorem qn.frozen {w : World} {H H' : FH} {Φ : Nat → qF} {os os' : Nat → Option Obj} {id : Nat} {o : Obj} (ho : os id = some o) (hH : H.le H')
  (hin : ∀ b ∈ (Φ id).fp, ∀ c t f, w.heap[b]? = some (.cells c t f) → H' b = some c) (hok : ∀ j o, os j = some o → qX P w H o (Φ j)) (hos : ∀ j o, j ≠ id → os j = some o → os' j = some o) :
  ∀ (av : AV) (v : Value), qn P C w H Φ os av v → qn P C w H' Φ os' (av.frozen id o) v
 | .dead, _, _ => trivial
 | .val τ x, v, ⟨h1, cs, h2, h3⟩ => ⟨h1, cs, h2, qx.mono _ hH (by simp) h3⟩
 | .ref τ x, v, ⟨h1, b, off, blk, h2, h3, h4⟩ => ⟨h1, b, off, blk, h2, hH _ _ h3, qx.mono _ hH (by simp) h4⟩
 | .ptr i p, v, h => by
  simp only [AV.frozen]
  cases hi : Nat.beq i id with
  | false =>
   have hne := Nat.ne_of_beq_eq_false hi
   exact qn.ptr_stay (fun o' ho' => hos i o' hne ho') rfl (fun o' ho' => ⟨hok i o' ho', fun _ _ => rfl⟩) h
  | true =>
   obtain rfl := Nat.eq_of_beq_eq_true hi
   cases hr : o.row with
   | true => trivial
   | false =>
    show qn P C w H' Φ os' (match qgj o.τ o.x p with | some y => _ | none => .dead) v
    cases hy : qgj o.τ o.x p with
    | none => trivial
    | some y =>
     obtain ⟨o1, y1, b, off, h1, h2, h3, h4, h5⟩ := h
     rw [ho] at h1
     cases h1
     have hg := qdf _ hy
     rw [hg] at h3
     cases h3
     obtain ⟨b', o', hl, blk', t', pre', c, post', f1, f, f2, e1, e2, e3, e4, e5, e6, _⟩ := (hok i o ho).desc (y := y.2) hg ⟨w, _, _, h4⟩ h2
     obtain ⟨rfl, rfl⟩ := qak.det h4 (hl w (fun _ _ => rfl))
     have hnf : y.1.noFn = true := qaA _ (hok i o ho).1 hg
     refine ⟨Ty.isFz_fz _, b, off, blk', h5, hin b (by rw [e4]; simp [e5]) _ _ _ e1, ?_⟩
     rw [Ty.size_fz, ← e3, j5 e2 (qx.length _ e6)]
     exact qx.freeze y.1 hnf w hH (fun b hb => hin b (by rw [e4]; simp [hb])) e6 _
 | .view i p, v, h => by
  simp only [AV.frozen]
  cases hi : Nat.beq i id with
  | false =>
   have hne := Nat.ne_of_beq_eq_false hi
   exact qn.view_stay (fun o' ho' => hos i o' hne ho') rfl (fun o' ho' => ⟨hok i o' ho', fun _ _ => rfl⟩) h
  | true =>
   obtain rfl := Nat.eq_of_beq_eq_true hi
   show qn P C w H' Φ os' (match qgj o.τ o.x p with | some y => _ | none => .dead) v
   cases hy : qgj o.τ o.x p with
   | none => trivial
   | some y =>
    obtain ⟨o1, y1, h1, h3, h4⟩ := h
    rw [ho] at h1
    cases h1
    have hg := qdf _ hy
    rw [hg] at h3
    cases h3
    have hnf : y.1.noFn = true := qaA _ (hok i o ho).1 hg
    cases hr : o.row && p.isEmpty with
    | true =>
     rw [hr] at h4
     simp only [Bool.and_eq_true, List.isEmpty_iff] at hr
     obtain ⟨hrow, rfl⟩ := hr
     rw [qO] at hg
     cases hg
     obtain ⟨hn, _, h5⟩ := hok i o ho
     rw [hrow] at h5
     obtain ⟨_, cs, hcs, h6⟩ := h5
     refine ⟨Ty.isFz_fz _, cs, ?_, qx.freeze o.τ hn w hH hin h6 _⟩
     simp only at h4
     rw [h4, qgx]
     exact hcs
    | false =>
     rw [hr] at h4
     obtain ⟨b, off, blk, t, h5, h6, h7⟩ := h4
     obtain ⟨b', o', hl, blk', t', pre', c, post', f1, f, f2, e1, e2, e3, e4, e5, e6, _⟩ := (hok i o ho).desc (y := y.2) hg ⟨w, _, _, h5⟩ hr
     obtain ⟨rfl, rfl⟩ := qak.det h5 (hl w (fun _ _ => rfl))
     rw [e1] at h6
     cases h6
     refine ⟨Ty.isFz_fz _, c, ?_, qx.freeze y.1 hnf w hH (fun b hb => hin b (by rw [e4]; simp [hb])) e6 _⟩
     rw [h7, qgx, ← e3, j5 e2 (qx.length _ e6)]
 | .upd _ _ _ _ _, _, _ => trivial
 | .cut i z lo, v, h => by
  simp only [AV.frozen]
  cases hi : Nat.beq i id with
  | true => trivial
  | false =>
   have hne := Nat.ne_of_beq_eq_false hi
   obtain ⟨v0, h1, h2⟩ := h
   exact ⟨v0, qn.view_stay (P := P) (C := C) (H := H) (H' := H') (p := []) (fun o' ho' => hos i o' hne ho') rfl (fun o' ho' => ⟨hok i o' ho', fun _ _ => rfl⟩) h1, h2⟩
 | .fn g a b, v, ⟨vs, us, h1, h2, h3⟩ => ⟨vs, us, h1, qn.frozen ho hH hin hok hos a _ h2, qn.frozen ho hH hin hok hos b _ h3⟩
 | .nil, v, h => h
 | .gh n a, v, ⟨u, h1, h2⟩ => ⟨u, h1, qn.frozen ho hH hin hok hos a _ h2⟩
 | .cv i g n, v, ⟨b, cv, h1, h2⟩ => ⟨b, cv, hH _ _ h1, h2⟩
 | .cons a b, v, ⟨u, us, h1, h2, h3⟩ => ⟨u, us, h1, qn.frozen ho hH hin hok hos a _ h2, qn.frozen ho hH hin hok hos b _ h3⟩
theorem qm.freeze {s : St} {a : Act} {w : World} {H : FH} {Φ : Nat → qF} (h : qm P C s a w H Φ) (id : Nat) :
  ∃ H', H.le H' ∧ (∀ b c, H' b = some c → H b = some c ∨ ∃ o, s.obj id = some o ∧ b ∈ (Φ id).fp) ∧ (∀ o, s.obj id = some o → ∀ b ∈ (Φ id).fp, ∀ c t f, w.heap[b]? = some (.cells c t f) → H' b = some c) ∧ qm P C (s.freeze id) a w H' Φ := by
 unfold St.freeze
 cases ho : s.obj id with
 | none => exact ⟨H, FH.le_refl _, fun _ _ hb => .inl hb, (fun o hh => by cases hh), h⟩
 | some o =>
  have hnone : ∀ b ∈ (Φ id).fp, H b = none := fun b hb => ((h.os id o ho).2 b hb).1
  have hob : ∀ j, (St.mk (s.ts.map fun x => (x.1, x.2.frozen id o)) ((id, none) :: s.os) s.mp).obj j = if id = j then none else s.obj j := fun j => St.obj_setObj s id j none
  have hsub : ∀ j o', (St.mk (s.ts.map fun x => (x.1, x.2.frozen id o)) ((id, none) :: s.os) s.mp).obj j = some o' → s.obj j = some o' ∧ j ≠ id := by
   intro j o' hj
   rw [hob] at hj
   split at hj
   ·cases hj
   ·rename_i e; exact ⟨hj, fun e' => e e'.symm⟩
  refine ⟨frz w H (Φ id).fp, qiT hnone, fun b c hb => (qk4 hb).imp_right (fun hh => ⟨o, rfl, hh⟩), fun o' _ => frz_in, h.defers, h.size, FH.le_trans h.le (qiT hnone), frz_hok h.hok, ?_, h.mod, ?_, ?_, ?_, h.pins⟩
  ·intro b c hb
   rcases qk4 hb with hb | hb
   ·exact h.hnew b c hb
   ·exact .inr ((h.os id o ho).2 b hb).2.1
  ·intro t av ht
   have ht' : lk (s.ts.map fun x => (x.1, x.2.frozen id o)) t = some av := ht
   rw [qkr] at ht'
   obtain ⟨av0, h0, rfl⟩ := Option.map_eq_some_iff.1 ht'
   exact qn.frozen ho (qiT hnone) frz_in (fun j o hj => (h.os j o hj).1) (fun j o' hj hoj => by rw [hob, if_neg (fun e => hj e.symm)]; exact hoj) av0 _ (h.ts t av0 h0)
  ·intro j o' hj
   obtain ⟨hj, hne⟩ := hsub j o' hj
   obtain ⟨h1, h2⟩ := h.os j o' hj
   refine ⟨h1.frame (qiT hnone) (fun _ _ => rfl), fun b hb => ⟨?_, (h2 b hb).2⟩⟩
   unfold frz
   rw [if_neg (h.disj j id o' o hne hj ho b hb)]
   exact (h2 b hb).1
  ·intro i j o1 o2 hij h1 h2
   exact h.disj i j o1 o2 hij (hsub _ _ h1).1 (hsub _ _ h2).1
theorem qaX : (τ : Ty) → ∀ (x : τ.den) {p : List qJ} {σ : Ty}, p.any qJ.isI = false → qb7 τ p = some σ → ∃ y : σ.den, j1 τ x p = some ⟨σ, y⟩
 | .pair a b, x, p, σ, hp, h => by
  match p with
  | [] => cases h; exact ⟨x, rfl⟩
  | .L :: q => exact qaX a x.1 (by simpa [qJ.isI] using hp) h
  | .R :: q => exact qaX b x.2 (by simpa [qJ.isI] using hp) h
  | .I _ :: _ => cases h
 | .str t, x, p, σ, hp, h => by
  match p with
  | [] => cases h; exact ⟨x, rfl⟩
  | s :: q => exact qaX t x hp h
 | .list true tid e, x, p, σ, hp, h => by
  match p with
  | [] => cases h; exact ⟨x, rfl⟩
  | .L :: _ => cases h
  | .R :: _ => cases h
  | .I _ :: _ => simp [qJ.isI] at hp
 | .arr n e, x, p, σ, hp, h => by
  match p with
  | [] => cases h; exact ⟨x, rfl⟩
  | .L :: _ => cases h
  | .R :: _ => cases h
  | .I _ :: _ => simp [qJ.isI] at hp
 | .int _, x, p, _, _, h => by cases p <;> cases h; exact ⟨x, rfl⟩
 | .bool, x, p, _, _, h => by cases p <;> cases h; exact ⟨x, rfl⟩
 | .list false _ _, x, p, _, _, h => by cases p <;> cases h; exact ⟨x, rfl⟩
 | .ptr _, x, p, _, _, h => by cases p <;> cases h; exact ⟨x, rfl⟩
 | .fn _ _, x, p, _, _, h => by cases p <;> cases h; exact ⟨x, rfl⟩
 | .fn2 _ _ _, x, p, _, _, h => by cases p <;> cases h; exact ⟨x, rfl⟩
theorem Loc.range : (τ : Ty) → ∀ {w : World} {b o : Nat} {p : List qJ} {b' o' : Nat} {σ : Ty}, p.any qJ.isI = false → Loc w τ b o p b' o' → qb7 τ p = some σ → b' = b ∧ o ≤ o' ∧ o' + σ.size ≤ o + τ.size
 | .pair x y, w, b, o, p, b', o', σ, hp, h, ht => by
  match p with
  | [] => cases ht; exact ⟨h.1, by have := h.2; omega, by have := h.2; omega⟩
  | .L :: q => obtain ⟨h1, h2, h3⟩ := Loc.range x (by simpa [qJ.isI] using hp) h ht; exact ⟨h1, h2, by simp only [Ty.size]; omega⟩
  | .R :: q => obtain ⟨h1, h2, h3⟩ := Loc.range y (by simpa [qJ.isI] using hp) h ht; exact ⟨h1, by omega, by simp only [Ty.size]; omega⟩
  | .I _ :: _ => cases ht
 | .str t, w, b, o, p, b', o', σ, hp, h, ht => by
  match p with
  | [] => cases ht; exact ⟨h.1, by have := h.2; omega, by have := h.2; omega⟩
  | s :: q => exact Loc.range t hp h ht
 | .list true _ e, w, b, o, p, b', o', σ, hp, h, ht => by
  match p with
  | [] => cases ht; exact ⟨h.1, by have := h.2; omega, by have := h.2; omega⟩
  | .L :: _ => cases ht
  | .R :: _ => cases ht
  | .I _ :: _ => simp [qJ.isI] at hp
 | .arr n e, w, b, o, p, b', o', σ, hp, h, ht => by
  match p with
  | [] => cases ht; exact ⟨h.1, by have := h.2; omega, by have := h.2; omega⟩
  | .L :: _ => cases ht
  | .R :: _ => cases ht
  | .I _ :: _ => simp [qJ.isI] at hp
 | .int _, w, b, o, p, b', o', σ, hp, h, ht => by obtain ⟨rfl, rfl, rfl⟩ := h; cases ht; exact ⟨rfl, Nat.le_refl _, Nat.le_refl _⟩
 | .bool, w, b, o, p, b', o', σ, hp, h, ht => by obtain ⟨rfl, rfl, rfl⟩ := h; cases ht; exact ⟨rfl, Nat.le_refl _, Nat.le_refl _⟩
 | .list false _ _, w, b, o, p, b', o', σ, hp, h, ht => by obtain ⟨rfl, rfl, rfl⟩ := h; cases ht; exact ⟨rfl, Nat.le_refl _, Nat.le_refl _⟩
 | .ptr _, w, b, o, p, b', o', σ, hp, h, ht => by obtain ⟨rfl, rfl, rfl⟩ := h; cases ht; exact ⟨rfl, Nat.le_refl _, Nat.le_refl _⟩
 | .fn _ _, w, b, o, p, b', o', σ, hp, h, ht => by obtain ⟨rfl, rfl, rfl⟩ := h; cases ht; exact ⟨rfl, Nat.le_refl _, Nat.le_refl _⟩
 | .fn2 _ _ _, w, b, o, p, b', o', σ, hp, h, ht => by obtain ⟨rfl, rfl, rfl⟩ := h; cases ht; exact ⟨rfl, Nat.le_refl _, Nat.le_refl _⟩
theorem qm.changeF {F : AV → Bool} {s : St} {a : Act} {w w' : World} {H H' : FH} {Φ : Nat → qF} (h : qm P C s a w H Φ) {id : Nat} {o : Obj} (ho : s.obj id = some o) (x' : o.τ.den) (φ : qF) (hb : φ.b = (Φ id).b)
  (hhdr : φ.hdr = (Φ id).hdr) (hH : H.le H') (hok' : HOk H' w') (hnew : ∀ b c, H' b = some c → C.H0 b = some c ∨ C.M0 b ∨ C.w0.heap.size ≤ b) (hmod : j9 C.M0 C.w0 w') (hsz : w.heap.size ≤ w'.heap.size)
  (hw : ∀ j o', j ≠ id → s.obj j = some o' → ∀ b ∈ (Φ j).fp, w'.heap[b]? = w.heap[b]? ∧ H' b = none)
  (hobj : qX P w' H' ⟨o.row, o.τ, x'⟩ φ) (hfp : ∀ b ∈ φ.fp, H' b = none ∧ (C.M0 b ∨ C.w0.heap.size ≤ b) ∧ b < w'.heap.size ∧ ∀ j o', j ≠ id → s.obj j = some o' → b ∉ (Φ j).fp)
  (hFp : ∀ q, F (.ptr id q) = false → q.any qJ.isI = false ∨ ((∀ b off, qak w o (Φ id) q b off → qak w' ⟨o.row, o.τ, x'⟩ φ q b off) ∧ ∀ y, j1 o.τ o.x q = some y → ∃ y', j1 o.τ x' q = some ⟨y.1, y'⟩)) (hFu : ∀ i p t e l, F (.upd i p t e l) = true)
  (hFv : ∀ q, F (.view id q) = false → (o.row && q.isEmpty) = true ∨ ∀ y b off blk t, (o.row && q.isEmpty) = false → j1 o.τ o.x q = some y → qak w o (Φ id) q b off → w.heap[b]? = some (.cells blk t (0, 0)) → ∃ y' b' off' blk' t', y'.1 = y.1 ∧ j1 o.τ x' q = some y' ∧ qak w' ⟨o.row, o.τ, x'⟩ φ q b' off' ∧ w'.heap[b']? = some (.cells blk' t' (0, 0)) ∧ seg blk' off' y.1.size = seg blk off y.1.size) :
  qm P C ((s.killIf F).setObj id (some ⟨o.row, o.τ, x'⟩)) a w' H' (qa0 Φ id φ) := by
 have hob : ∀ j, ((s.killIf F).setObj id (some ⟨o.row, o.τ, x'⟩)).obj j = if id = j then some ⟨o.row, o.τ, x'⟩ else s.obj j := fun j => St.obj_setObj _ _ _ _
 have hos : ∀ j o', j ≠ id → s.obj j = some o' → ((s.killIf F).setObj id (some ⟨o.row, o.τ, x'⟩)).obj j = some o' := by
  intro j o' hj hoj
  rw [hob, if_neg (fun e => hj e.symm)]; exact hoj
 refine ⟨h.defers, h.size, FH.le_trans h.le hH, hok', hnew, hmod, ?_, ?_, ?_, ?_⟩
 ·intro t av ht
  rw [St.get_setObj, St.get_killIf] at ht
  obtain ⟨av0, h0, rfl⟩ := Option.map_eq_some_iff.1 ht
  refine qn.transfer F hH ?_ ?_ ?_ av0 _ (h.ts t av0 h0)
  ·intro j p v hf hr
   by_cases hj : j = id
   ·subst hj
    obtain ⟨o1, y, b, off, h1, h2, h3, h4, h5⟩ := hr
    rw [ho] at h1
    cases h1
    rcases hFp _ hf with hp | ⟨k1, k2⟩
    case inr =>
     obtain ⟨y', hy'⟩ := k2 y h3
     exact ⟨⟨o.row, o.τ, x'⟩, ⟨y.1, y'⟩, b, off, by rw [hob, if_pos rfl], h2, hy', by rw [qz]; exact k1 _ _ h4, h5⟩
    have hrow : o.row = false := by
     cases hr : o.row with
     | false => rfl
     | true =>
      exfalso
      obtain ⟨row, τ, x⟩ := o
      simp only at hr
      subst hr
      unfold qak at h4
      simp only at h4
      split at h4
      ·simp [qJ.isI] at hp
      ·exact h4
    obtain ⟨y', hy'⟩ := qaX o.τ x' hp (jN _ h3)
    refine ⟨⟨o.row, o.τ, x'⟩, ⟨y.1, y'⟩, b, off, ?_, h2, hy', ?_, h5⟩
    ·rw [hob, if_pos rfl]
    ·rw [qz]
     unfold qak at h4 ⊢
     simp only [hrow] at h4 ⊢
     rw [hb]
     exact Loc.static _ hp h4
   ·exact qn.ptr_stay (fun o ho => hos j o hj ho) (jA _ _ hj) (fun o1 ho1 => ⟨(h.os j o1 ho1).1, fun b hb => (hw j o1 hj ho1 b hb).1⟩) hr
  ·intro j p v hf hr
   by_cases hj : j = id
   ·subst hj
    obtain ⟨o1, y, h1, h2, h3⟩ := hr
    rw [ho] at h1
    cases h1
    cases hp : o.row && p.isEmpty with
    | true =>
     rw [hp] at h3
     simp only [Bool.and_eq_true, List.isEmpty_iff] at hp
     obtain ⟨hrow, rfl⟩ := hp
     refine ⟨⟨o.row, o.τ, x'⟩, ⟨o.τ, x'⟩, by rw [hob, if_pos rfl], qO _ _, ?_⟩
     simp only [hrow, List.isEmpty_nil, Bool.and_self, qz, hhdr]
     exact h3
    | false =>
     rw [hp] at h3
     obtain ⟨b, off, blk, t, h4, h5, h6⟩ := h3
     rcases hFv p hf with hq | hq
     ·rw [hp] at hq; cases hq
     ·obtain ⟨y', b', off', blk', t', g0, g1, g2, g3, g4⟩ := hq y b off blk t hp h2 h4 h5
      refine ⟨⟨o.row, o.τ, x'⟩, y', by rw [hob, if_pos rfl], g1, ?_⟩
      simp only [hp]
      refine ⟨b', off', blk', t', ?_, g3, by rw [g0, g4]; exact h6⟩
      rw [qz]
      exact g2
   ·exact qn.view_stay (fun o ho => hos j o hj ho) (jA _ _ hj) (fun o1 ho1 => ⟨(h.os j o1 ho1).1, fun b hb => (hw j o1 hj ho1 b hb).1⟩) hr
  ·intro j p t e l v hf; rw [hFu] at hf; cases hf
 ·intro j o1 hj
  rw [hob] at hj
  split at hj
  ·rename_i e
   subst e
   cases hj
   rw [qz]
   exact ⟨hobj, fun b hb => ⟨(hfp b hb).1, (hfp b hb).2.1, (hfp b hb).2.2.1⟩⟩
  ·rename_i e
   have e' : j ≠ id := fun e' => e e'.symm
   rw [jA _ _ e']
   obtain ⟨h1, h2⟩ := h.os j o1 hj
   exact ⟨h1.frame hH (fun b hb => (hw j o1 e' hj b hb).1), fun b hb => ⟨(hw j o1 e' hj b hb).2, (h2 b hb).2.1, Nat.lt_of_lt_of_le (h2 b hb).2.2 hsz⟩⟩
 ·intro i j o1 o2 hij h1 h2 b hb
  rw [hob] at h1 h2
  split at h1
  ·rename_i e
   subst e
   rw [qz] at hb
   rw [if_neg hij] at h2
   rw [jA _ _ (fun e' => hij e'.symm)]
   exact (hfp b hb).2.2.2 j o2 (fun e' => hij e'.symm) h2
  ·rename_i e
   rw [jA _ _ (fun e' => e e'.symm)] at hb
   split at h2
   ·rename_i e2
    subst e2
    rw [qz]
    intro hb'
    exact (hfp b hb').2.2.2 i o1 hij h1 hb
   ·rename_i e2
    rw [jA _ _ (fun e' => e2 e'.symm)]
    exact h.disj i j o1 o2 hij h1 h2 b hb
 ·refine ⟨fun j φ' hj => ?_, fun j => ?_⟩
  ·by_cases e : j = id
   ·subst e; rw [qz, hb, hhdr]; exact h.pins.1 j φ' hj
   ·rw [jA _ _ e]; exact h.pins.1 j φ' hj
  ·by_cases e : j = id
   ·subst e; rw [qz, hhdr]; exact h.pins.2 j
   ·rw [jA _ _ e]; exact h.pins.2 j
theorem qm.change {s : St} {a : Act} {w w' : World} {H H' : FH} {Φ : Nat → qF} (h : qm P C s a w H Φ) {id : Nat} {o : Obj} (ho : s.obj id = some o) (x' : o.τ.den) (φ : qF) (hb : φ.b = (Φ id).b)
  (hhdr : φ.hdr = (Φ id).hdr) (hH : H.le H') (hok' : HOk H' w') (hnew : ∀ b c, H' b = some c → C.H0 b = some c ∨ C.M0 b ∨ C.w0.heap.size ≤ b) (hmod : j9 C.M0 C.w0 w') (hsz : w.heap.size ≤ w'.heap.size)
  (hw : ∀ j o', j ≠ id → s.obj j = some o' → ∀ b ∈ (Φ j).fp, w'.heap[b]? = w.heap[b]? ∧ H' b = none)
  (hobj : qX P w' H' ⟨o.row, o.τ, x'⟩ φ) (hfp : ∀ b ∈ φ.fp, H' b = none ∧ (C.M0 b ∨ C.w0.heap.size ≤ b) ∧ b < w'.heap.size ∧ ∀ j o', j ≠ id → s.obj j = some o' → b ∉ (Φ j).fp) :
  qm P C ((s.killIf (AV.stale id o.row)).setObj id (some ⟨o.row, o.τ, x'⟩)) a w' H' (qa0 Φ id φ) := by
 refine h.changeF ho x' φ hb hhdr hH hok' hnew hmod hsz hw hobj hfp (fun q hf => .inl (by simpa [AV.stale] using hf)) (fun _ _ _ _ _ => rfl) (fun q hf => .inl ?_)
 simp only [AV.stale, Nat.beq_refl, Bool.true_and, Bool.not_eq_false'] at hf
 exact hf
theorem qm.changeV {s : St} {a : Act} {w w' : World} {H H' : FH} {Φ : Nat → qF} (h : qm P C s a w H Φ) {id : Nat} {o : Obj} (ho : s.obj id = some o) (x' : o.τ.den) (φ : qF) (hb : φ.b = (Φ id).b)
  (hhdr : φ.hdr = (Φ id).hdr) (hH : H.le H') (hok' : HOk H' w') (hnew : ∀ b c, H' b = some c → C.H0 b = some c ∨ C.M0 b ∨ C.w0.heap.size ≤ b) (hmod : j9 C.M0 C.w0 w') (hsz : w.heap.size ≤ w'.heap.size)
  (hw : ∀ j o', j ≠ id → s.obj j = some o' → ∀ b ∈ (Φ j).fp, w'.heap[b]? = w.heap[b]? ∧ H' b = none)
  (hobj : qX P w' H' ⟨o.row, o.τ, x'⟩ φ) (hfp : ∀ b ∈ φ.fp, H' b = none ∧ (C.M0 b ∨ C.w0.heap.size ≤ b) ∧ b < w'.heap.size ∧ ∀ j o', j ≠ id → s.obj j = some o' → b ∉ (Φ j).fp) (hroot : o.row = false → w'.heap[(Φ id).b]? = w.heap[(Φ id).b]?) :
  qm P C ((s.killIf (AV.staleV id o.row)).setObj id (some ⟨o.row, o.τ, x'⟩)) a w' H' (qa0 Φ id φ) := by
 refine h.changeF ho x' φ hb hhdr hH hok' hnew hmod hsz hw hobj hfp (fun q hf => .inl (by simpa [AV.staleV] using hf)) (fun _ _ _ _ _ => rfl) (fun q hf => ?_)
 simp only [AV.staleV, Nat.beq_refl, Bool.true_and] at hf
 cases hrq : o.row && q.isEmpty with
 | true => exact .inl rfl
 | false =>
 right
 intro y b off blk t _ hg hl he
 rw [hrq, Bool.not_false, Bool.true_and, Bool.or_eq_false_iff] at hf
 obtain ⟨hrow, hq⟩ := hf
 obtain ⟨row, τ, x⟩ := o
 simp only at hrow
 subst hrow
 obtain ⟨y3, h3⟩ := qaX τ x' hq (jN _ hg)
 obtain ⟨r1, _, _⟩ := Loc.range τ hq hl (jN _ hg)
 refine ⟨⟨_, y3⟩, b, off, blk, t, rfl, h3, ?_, by rw [r1, hroot rfl, ← r1]; exact he, rfl⟩
 show Loc w' τ φ.b 0 q b off
 rw [hb]
 exact Loc.static _ hq hl
end
end Go.Vi
namespace Go.Vi
def qkH : Value → Value → Bool
 | .int k n, .int j m => (k == j) && (n == m)
 | .bool a, .bool b => a == b
 | .slice none a b, .slice none c d => Nat.beq a c && Nat.beq b d
 | .pointer none, .pointer none => true
 | .nilFunc, .nilFunc => true
 | _, _ => false
theorem qlL : ∀ {u v : Value}, qkH u v = true → u = v := by
 intro u v h
 unfold qkH at h
 split at h
 ·simp at h; rw [h.1, h.2]
 ·simp at h; rw [h]
 ·simp at h; rw [h.1, h.2]
 ·rfl
 ·rfl
 ·cases h
def qfl : List Value → List Value → Bool
 | [], [] => true
 | a :: l, b :: r => qkH a b && qfl l r
 | _, _ => false
theorem qeQ : ∀ {l r : List Value}, qfl l r = true → l = r
 | [], [], _ => rfl
 | a :: l, b :: r, h => by
  simp only [qfl, Bool.and_eq_true] at h
  rw [qlL h.1, qeQ h.2]
 | [], _ :: _, h => by cases h
 | _ :: _, [], h => by cases h
def qhQ (τ : Ty) : Option Value → Bool
 | some (.agg cs) => τ.isAgg && qfl cs.toList τ.zeroCells
 | some v => !τ.isAgg && qfl [v] τ.zeroCells
 | none => false
theorem zeroB_eq {τ : Ty} {z : Option Value} (h : qhQ τ z = true) : z = some (jZ τ τ.zeroCells) := by
 unfold qhQ at h
 split at h
 ·simp only [Bool.and_eq_true] at h
  simp only [jZ, h.1, cond_true, ← qeQ h.2]
 ·simp only [Bool.and_eq_true, Bool.not_eq_true'] at h
  simp only [jZ, h.1, cond_false, ← qeQ h.2, List.headD_cons]
 ·cases h
def qa2 (P : Program) (t : TypeId) (τ : Ty) : Bool :=
 match P.info? t with
 | some i => Nat.beq i.size τ.size && Nat.blt 0 τ.size && Nat.ble i.bytes 512 && qhQ τ i.zero
 | none => false
def plainS (P : Program) (t : TypeId) (fs : List Field) : Bool := !P.stoodInHeld t && fs.all fun f => f.name != "_"
def tyB (P : Program) : Ty → (TypeId → Bool) × (List Field → Nat → Bool)
 | .int k =>
  let f : TypeId → Bool := fun t => qa2 P t (.int k) && (match P.underlying t with | some (.int j) => j == k | _ => false)
  (f, fun l o => match l with | [x] => Nat.beq x.offset o && f x.type | _ => false)
 | .bool =>
  let f : TypeId → Bool := fun t => qa2 P t .bool && (match P.underlying t with | some .bool => true | _ => false)
  (f, fun l o => match l with | [x] => Nat.beq x.offset o && f x.type | _ => false)
 | .list own tid e =>
  let f : TypeId → Bool := fun t => qa2 P t (.list own tid e) && (match P.underlying t with | some (.slice u) => Nat.beq u tid | _ => false) && (tyB P e).1 tid
  (f, fun l o => match l with | [x] => Nat.beq x.offset o && f x.type | _ => false)
 | .pair a b => (fun _ => false, fun l o => match l with | x :: y :: r => Nat.beq x.offset o && (tyB P a).1 x.type && (tyB P b).2 (y :: r) (o + a.size) | _ => false)
 | .str s =>
  let f : TypeId → Bool := fun t => qa2 P t (.str s) && (match P.underlying t with | some (.struct fs) => (tyB P s).2 fs.toList 0 && plainS P t fs.toList | _ => false)
  (f, fun l o => match l with | [x] => Nat.beq x.offset o && f x.type | _ => false)
 | .ptr s =>
  let f : TypeId → Bool := fun t => qa2 P t (.ptr s) && (match P.underlying t with | some (.pointer _) => true | _ => false)
  (f, fun l o => match l with | [x] => Nat.beq x.offset o && f x.type | _ => false)
 | .arr n e =>
  let f : TypeId → Bool := fun t => qa2 P t (.arr n e) && (match P.underlying t with | some (.array m u) => Nat.beq m n && (tyB P e).1 u | _ => false)
  (f, fun l o => match l with | [x] => Nat.beq x.offset o && f x.type | _ => false)
 | .fn a r =>
  let f : TypeId → Bool := fun t => qa2 P t (.fn a r) && (match P.underlying t with | some (.func _ _ _) => true | _ => false)
  (f, fun l o => match l with | [x] => Nat.beq x.offset o && f x.type | _ => false)
 | .fn2 a b r =>
  let f : TypeId → Bool := fun t => qa2 P t (.fn2 a b r) && (match P.underlying t with | some (.func _ _ _) => true | _ => false)
  (f, fun l o => match l with | [x] => Nat.beq x.offset o && f x.type | _ => false)
def qZ (P : Program) (t : TypeId) (τ : Ty) : Prop := (tyB P τ).1 t = true
def j4 (P : Program) (s : Ty) (l : List Field) (o : Nat) : Prop := (tyB P s).2 l o = true
section
variable {P : Program}
theorem qZ.info {t : TypeId} {τ : Ty} (h : qZ P t τ) : ∃ i, P.info? t = some i ∧ i.size = τ.size ∧ 0 < τ.size ∧ i.bytes ≤ 512 ∧ i.zero = some (jZ τ τ.zeroCells) := by
 have hb : qa2 P t τ = true := by
  unfold qZ at h
  cases τ <;> simp only [tyB, Bool.and_eq_true, Bool.false_eq_true] at h
  all_goals first | exact h.1 | exact h.1.1
 unfold qa2 at hb
 split at hb
 ·rename_i i hi
  simp only [Bool.and_eq_true] at hb
  obtain ⟨⟨⟨h1, h2⟩, h3⟩, h4⟩ := hb
  exact ⟨i, hi, Nat.eq_of_beq_eq_true h1, Eq.mp Nat.blt_eq h2, Nat.le_of_ble_eq_true h3, zeroB_eq h4⟩
 ·cases hb
theorem qZ.not_pair {t : TypeId} {a b : Ty} (h : qZ P t (.pair a b)) : False := by simp [qZ, tyB] at h
theorem qZ.list {t : TypeId} {own : Bool} {tid : TypeId} {e : Ty} (h : qZ P t (.list own tid e)) : P.underlying t = some (.slice tid) ∧ qZ P tid e := by
 simp only [qZ, tyB, Bool.and_eq_true] at h
 obtain ⟨⟨_, h1⟩, h2⟩ := h
 refine ⟨?_, h2⟩
 split at h1
 ·rename_i e1; rw [e1, Nat.eq_of_beq_eq_true h1]
 ·cases h1
theorem qZ.int {t : TypeId} {k : IntKind} (h : qZ P t (.int k)) : P.underlying t = some (.int k) := by
 simp only [qZ, tyB, Bool.and_eq_true] at h
 obtain ⟨_, h1⟩ := h
 split at h1
 ·rename_i e1; rw [e1]; simp at h1; rw [h1]
 ·cases h1
theorem qZ.bool {t : TypeId} (h : qZ P t .bool) : P.underlying t = some .bool := by
 simp only [qZ, tyB, Bool.and_eq_true] at h
 obtain ⟨_, h1⟩ := h
 split at h1
 ·assumption
 ·cases h1
theorem qZ.str {t : TypeId} {s : Ty} (h : qZ P t (.str s)) : ∃ fs, P.underlying t = some (.struct fs) ∧ j4 P s fs.toList 0 := by
 simp only [qZ, tyB, Bool.and_eq_true] at h
 obtain ⟨_, h1⟩ := h
 split at h1
 ·rename_i fs e1; exact ⟨fs, e1, (Bool.and_eq_true_iff.1 h1).1⟩
 ·cases h1
theorem qZ.plain {t : TypeId} {s : Ty} (h : qZ P t (.str s)) : ∃ fs, P.underlying t = some (.struct fs) ∧ j4 P s fs.toList 0 ∧ P.stoodInHeld t = false ∧ ∀ f ∈ fs.toList, f.name ≠ "_" := by
 simp only [qZ, tyB, Bool.and_eq_true] at h
 obtain ⟨_, h1⟩ := h
 split at h1
 ·rename_i fs e1
  obtain ⟨h2, h3⟩ := Bool.and_eq_true_iff.1 h1
  unfold plainS at h3
  rw [Bool.and_eq_true, Bool.not_eq_true', List.all_eq_true] at h3
  exact ⟨fs, e1, h2, h3.1, fun f hf => by simpa using h3.2 f hf⟩
 ·cases h1
theorem qZ.arr {t : TypeId} {n : Nat} {e : Ty} (h : qZ P t (.arr n e)) : ∃ u, P.underlying t = some (.array n u) ∧ qZ P u e := by
 simp only [qZ, tyB, Bool.and_eq_true] at h
 obtain ⟨_, h1⟩ := h
 split at h1
 ·rename_i m u e1
  simp only [Bool.and_eq_true] at h1
  exact ⟨u, by rw [e1, Nat.eq_of_beq_eq_true h1.1], h1.2⟩
 ·cases h1
theorem qZ.isAgg {t : TypeId} {τ : Ty} (h : qZ P t τ) (w : World) : (Go.isAgg t).run P w = .ok τ.isAgg w := by
 have hu : ∃ d, P.underlying t = some d ∧ (match d with | .struct _ | .array _ _ => true | _ => false) = τ.isAgg := by
  cases τ with
  | int k => exact ⟨_, h.int, rfl⟩
  | bool => exact ⟨_, h.bool, rfl⟩
  | list own tid e => exact ⟨_, h.list.1, rfl⟩
  | pair a b => exact h.not_pair.elim
  | str s => obtain ⟨fs, h1, _⟩ := h.str; exact ⟨_, h1, rfl⟩
  | ptr s =>
   simp only [qZ, tyB, Bool.and_eq_true] at h
   obtain ⟨_, h1⟩ := h
   split at h1
   ·exact ⟨_, ‹_›, rfl⟩
   ·cases h1
  | arr n e => obtain ⟨u, h1, _⟩ := h.arr; exact ⟨_, h1, rfl⟩
  | fn a r =>
   simp only [qZ, tyB, Bool.and_eq_true] at h
   obtain ⟨_, h1⟩ := h
   split at h1
   ·exact ⟨_, ‹_›, rfl⟩
   ·cases h1
  | fn2 a b r =>
   simp only [qZ, tyB, Bool.and_eq_true] at h
   obtain ⟨_, h1⟩ := h
   split at h1
   ·exact ⟨_, ‹_›, rfl⟩
   ·cases h1
 obtain ⟨d, h1, h2⟩ := hu
 simp only [Go.isAgg, Sem.run_bind, run_underlying h1, Result.andThen_ok]
 rw [← h2]
 cases d <;> rfl
theorem qZ.sizeOf {t : TypeId} {τ : Ty} (h : qZ P t τ) (w : World) : (Go.sizeOf t).run P w = .ok τ.size w := by
 obtain ⟨i, h1, h2, _⟩ := h.info
 simp [Go.sizeOf, typeInfo, h1, h2]
theorem qZ.zeroValue {t : TypeId} {τ : Ty} (h : qZ P t τ) (w : World) : (Go.zeroValue t).run P w = .ok (jZ τ τ.zeroCells) w := by
 obtain ⟨i, h1, _, _, _, h2⟩ := h.info
 simp [Go.zeroValue, typeInfo, h1, h2]
theorem Ty.zeroCells_fz : (τ : Ty) → τ.fz.zeroCells = τ.zeroCells
 | .int _ => rfl
 | .bool => rfl
 | .list _ _ _ => rfl
 | .pair a b => by simp [Ty.fz, Ty.zeroCells, Ty.zeroCells_fz a, Ty.zeroCells_fz b]
 | .str t => Ty.zeroCells_fz t
 | .ptr _ => rfl
 | .arr n e => by simp [Ty.fz, Ty.zeroCells, Ty.zeroCells_fz e]
 | .fn _ _ => rfl
 | .fn2 _ _ _ => rfl
theorem qdc (t : TypeId) (τ : Ty) : qa2 P t τ.fz = qa2 P t τ := by
 have hz : ∀ z, qhQ τ.fz z = qhQ τ z := by
  intro z
  unfold qhQ
  split <;> simp only [Ty.isAgg_fz, Ty.zeroCells_fz]
 unfold qa2
 simp only [Ty.size_fz, hz]
theorem qfs : (τ : Ty) → tyB P τ.fz = tyB P τ
 | .int _ => rfl
 | .bool => rfl
 | .list own tid e => by
  have h : ∀ t, qa2 P t (.list false tid e.fz) = qa2 P t (.list own tid e) := fun t => qdc t (.list own tid e)
  simp only [Ty.fz, tyB, qfs e, h]
 | .pair a b => by simp only [Ty.fz, tyB, qfs a, qfs b, Ty.size_fz]
 | .str s => by
  have h : ∀ t, qa2 P t (.str s.fz) = qa2 P t (.str s) := fun t => qdc t (.str s)
  simp only [Ty.fz, tyB, qfs s, h]
 | .ptr s => by
  have h : ∀ t, qa2 P t (.ptr s.fz) = qa2 P t (.ptr s) := fun t => qdc t (.ptr s)
  simp only [Ty.fz, tyB, h]
 | .arr n e => by
  have h : ∀ t, qa2 P t (.arr n e.fz) = qa2 P t (.arr n e) := fun t => qdc t (.arr n e)
  simp only [Ty.fz, tyB, qfs e, h]
 | .fn a r => by
  have h : ∀ t, qa2 P t (.fn a.fz r.fz) = qa2 P t (.fn a r) := fun t => qdc t (.fn a r)
  simp only [Ty.fz, tyB, h]
 | .fn2 a b r => by
  have h : ∀ t, qa2 P t (.fn2 a.fz b.fz r.fz) = qa2 P t (.fn2 a b r) := fun t => qdc t (.fn2 a b r)
  simp only [Ty.fz, tyB, h]
theorem qZ.unfz {t : TypeId} {τ : Ty} (h : qZ P t τ.fz) : qZ P t τ := by
 unfold qZ at *; rwa [qfs] at h
theorem j4.at : (s : Ty) → ∀ {l : List Field} {o i : Nat}, j4 P s l o → qaw s i = true →
  ∃ f σ, l[i]? = some f ∧ o ≤ f.offset ∧ qZ P f.type σ ∧ qb7 s (qbk s i) = some σ ∧ (qbk s i).any qJ.isI = false ∧ (∀ w b q, Loc w s b q (qbk s i) b (q + (f.offset - o))) ∧
   ∀ {w H x cs fp}, qx P s w H x cs fp → ∃ y : σ.den, j1 s x (qbk s i) = some ⟨σ, y⟩ ∧ (∀ {R : Type} (k : (σ : Ty) → σ.den → Option R), qh2 s x (qbk s i) k = k σ y) ∧
    ∃ pre c post f1 f2 f3, cs = pre ++ c ++ post ∧ fp = f1 ++ f2 ++ f3 ∧ pre.length = f.offset - o ∧ qx P σ w H y c f2 := by
 have leaf : ∀ s : Ty, (∀ a b, s ≠ .pair a b) → ∀ {l : List Field} {o i : Nat}, j4 P s l o → qaw s i = true →
  ∃ f σ, l[i]? = some f ∧ o ≤ f.offset ∧ qZ P f.type σ ∧ qb7 s (qbk s i) = some σ ∧ (qbk s i).any qJ.isI = false ∧ (∀ w b q, Loc w s b q (qbk s i) b (q + (f.offset - o))) ∧
   ∀ {w H x cs fp}, qx P s w H x cs fp → ∃ y : σ.den, j1 s x (qbk s i) = some ⟨σ, y⟩ ∧ (∀ {R : Type} (k : (σ : Ty) → σ.den → Option R), qh2 s x (qbk s i) k = k σ y) ∧
    ∃ pre c post f1 f2 f3, cs = pre ++ c ++ post ∧ fp = f1 ++ f2 ++ f3 ∧ pre.length = f.offset - o ∧ qx P σ w H y c f2 := by
  intro s hs l o i hf hi
  have hi0 : i = 0 := by
   cases s <;> first | exact absurd rfl (hs _ _) | exact Nat.eq_of_beq_eq_true hi
  have hp : qbk s i = [] := by
   cases s <;> first | exact absurd rfl (hs _ _) | rfl
  have hone : ∃ f, l = [f] ∧ f.offset = o ∧ qZ P f.type s := by
   have hf' : (tyB P s).2 l o = true := hf
   match l with
   | [] => cases s <;> first | exact absurd rfl (hs _ _) | (simp [tyB] at hf')
   | [f] =>
    refine ⟨f, rfl, ?_, ?_⟩
    ·cases s <;> first | exact absurd rfl (hs _ _) | (simp only [tyB, Bool.and_eq_true] at hf'; exact Nat.eq_of_beq_eq_true hf'.1)
    ·cases s <;> first | exact absurd rfl (hs _ _) | (simp only [tyB, Bool.and_eq_true] at hf'; simp only [qZ, tyB, Bool.and_eq_true]; exact hf'.2)
   | _ :: _ :: _ => cases s <;> first | exact absurd rfl (hs _ _) | (simp [tyB] at hf')
  obtain ⟨f, rfl, ho, ht⟩ := hone
  subst hi0
  refine ⟨f, s, rfl, by omega, ht, by rw [hp, qeV], by rw [hp]; rfl, ?_, ?_⟩
  ·intro w b q
   rw [hp, ho, Nat.sub_self]
   exact jU _ _ _ _
  ·intro w H x cs fp hr
   refine ⟨x, by rw [hp, qO], ?_, [], cs, [], [], fp, [], by simp, by simp, by simp [ho], hr⟩
   intro R k
   rw [hp]
   cases s <;> first | exact absurd rfl (hs _ _) | rfl
 intro s
 induction s with
 | pair a b iha ihb =>
  intro l o i hf hi
  have hf' : (tyB P (.pair a b)).2 l o = true := hf
  match l with
  | [] => simp [tyB] at hf'
  | [_] => simp [tyB] at hf'
  | x :: y :: r =>
   simp only [tyB, Bool.and_eq_true] at hf'
   obtain ⟨⟨h1, h2⟩, h3⟩ := hf'
   have ho : x.offset = o := Nat.eq_of_beq_eq_true h1
   match i with
   | 0 =>
    refine ⟨x, a, rfl, by omega, h2, qeV a, rfl, ?_, ?_⟩
    ·intro w b' q
     rw [ho, Nat.sub_self]
     exact jU _ a _ _
    ·rintro w H z cs fp ⟨c1, c2, f1, f2, rfl, rfl, r1, r2⟩
     refine ⟨z.1, qO a z.1, fun k => ?_, [], c1, c2, [], f1, f2, by simp, by simp, by simp [ho], r1⟩
     show qh2 a z.1 [] k = _
     cases a <;> rfl
   | i + 1 =>
    obtain ⟨f, σ, q1, q2, q3, q4, q5, q6, q7⟩ := ihb (l := y :: r) (o := o + a.size) (i := i) h3 hi
    refine ⟨f, σ, q1, by omega, q3, q4, ?_, ?_, ?_⟩
    ·show (qJ.R :: qbk b i).any qJ.isI = false
     simpa [qJ.isI] using q5
    ·intro w b' q
     have := q6 w b' (q + a.size)
     rw [show q + (f.offset - o) = q + a.size + (f.offset - (o + a.size)) by omega]
     exact this
    ·rintro w H z cs fp ⟨c1, c2, f1, f2, rfl, rfl, r1, r2⟩
     obtain ⟨y', g1, g2, pre, c, post, k1, k2, k3, e1, e2, e3, e4⟩ := q7 r2
     refine ⟨y', g1, fun k => g2 k, c1 ++ pre, c, post, f1 ++ k1, k2, k3, by rw [e1]; simp, by rw [e2]; simp, ?_, e4⟩
     rw [List.length_append, e3, qx.length a r1]; omega
 | _ => exact leaf _ (by intro a b h; cases h)
theorem qaH {τ : Ty} {cs : List Value} (hn : ∀ a b, τ ≠ .pair a b) (hl : cs.length = τ.size) (h1 : ∀ v ∈ cs, v.oneCell' = true) : (jZ τ cs).cells.toList = cs := by
 unfold jZ
 cases ha : τ.isAgg with
 | true => rfl
 | false =>
  rw [Ty.size_pos τ ha hn] at hl
  match cs, hl with
  | [v], _ =>
   have := h1 v (by simp)
   cases v <;> first | rfl | simp [Value.oneCell'] at this
theorem qf2 {t : TypeId} {τ : Ty} (h : qZ P t τ) {w : World} {b : Nat} {blk : Array Value} {bt : TypeId} {f : Nat × Nat} {pre c post : List Value} (hb : w.heap[b]? = some (.cells blk bt f))
  (hs : blk.toList = pre ++ c ++ post) (hc : c.length = τ.size) : (loadVar t ⟨b, pre.length, none⟩).run P w = .ok (jZ τ c) w := by
 have hcell : ∀ j v, c[j]? = some v → w.cell? ((⟨b, pre.length, none⟩ : Addr).add j) = some v := by
  intro j v hj
  have : (⟨b, pre.length, none⟩ : Addr).add j = ⟨b, pre.length + j, none⟩ := by unfold Addr.add; split <;> simp_all
  rw [this, qQ hb, ← Array.getElem?_toList, hs, List.append_assoc, List.getElem?_append_right (by omega), Nat.add_sub_cancel_left, List.getElem?_append_left (List.getElem?_eq_some_iff.1 hj).1]
  exact hj
 unfold loadVar
 simp only [Sem.run_bind, h.isAgg, Result.andThen_ok]
 cases ha : τ.isAgg with
 | true =>
  have hl := run_loadCells_list (P := P) w ⟨b, pre.length, none⟩ c hcell
  rw [hc] at hl
  simp [h.sizeOf, hl, jZ, ha]
 | false =>
  have hn : ∀ x y, τ ≠ .pair x y := by rintro x y rfl; exact h.not_pair
  rw [Ty.size_pos τ ha hn] at hc
  match c, hc with
  | [v], _ =>
   have := hcell 0 v rfl
   have e : (⟨b, pre.length, none⟩ : Addr).add 0 = ⟨b, pre.length, none⟩ := by simp [Addr.add]
   rw [e] at this
   simp [jZ, ha, this]
theorem qco {t : TypeId} {τ : Ty} (h : qZ P t τ) {w : World} {b : Nat} {blk : Array Value} {bt : TypeId} {pre c post c' : List Value} (hb : w.heap[b]? = some (.cells blk bt (0, 0)))
  (hs : blk.toList = pre ++ c ++ post) (hc : c.length = τ.size) (hc' : c'.length = τ.size) (h1 : ∀ v ∈ c', v.oneCell' = true) :
  (storeVar t ⟨b, pre.length, none⟩ (jZ τ c')).run P w = .ok () (w.setRow b (pre ++ c' ++ post).toArray) := by
 have hn : ∀ x y, τ ≠ .pair x y := by rintro x y rfl; exact h.not_pair
 have hcells := qaH hn hc' h1
 have hsz : (jZ τ c').cells.size = τ.size := by rw [← Array.length_toList, hcells, hc']
 have hlen : blk.size = pre.length + c.length + post.length := by rw [← Array.length_toList, hs]; simp [Nat.add_assoc]
 unfold storeVar
 simp only [Sem.run_bind, h.sizeOf, Result.andThen_ok, hsz, ne_eq, not_true_eq_false, if_false, hcells]
 have := run_storeCells_at P b pre.length bt c' 0 blk w hb (by rw [hlen]; omega) h1
 simp only [Nat.add_zero] at this
 simp only [this]
 congr 3
 rw [hs, List.append_assoc, List.append_assoc, List.take_left, List.append_assoc, ← List.drop_drop, List.drop_left, hc', ← hc, List.drop_left]
end
end Go.Vi
namespace Go.Vi
def j7 {α β : Type} (R : α → β → Prop) : List α → List β → Prop
 | [], [] => True
 | a :: l, b :: r => R a b ∧ j7 R l r
 | _, _ => False
def qf (l : List qF) : List Nat := l.flatMap (·.fp)
def qah : List Value → Value
 | [v] => v
 | vs => .tuple vs.toArray
def jR (P : Program) (w : World) (H : FH) : (ps : List jL) → PDens ps → List Value → List qF → Prop
 | [], _, vs, Φs => vs = [] ∧ Φs = []
 | .v τ :: ps, d, vs, Φs => ∃ v vs' φ Φs', vs = v :: vs' ∧ Φs = φ :: Φs' ∧ τ.isFz = true ∧ φ.fp = [] ∧ (∃ cs, v = jZ τ cs ∧ qx P τ w H d.1 cs []) ∧ jR P w H ps d.2 vs' Φs'
 | .r τ :: ps, d, vs, Φs => ∃ v vs' φ Φs', vs = v :: vs' ∧ Φs = φ :: Φs' ∧ τ.isFz = true ∧ φ.fp = [] ∧ (∃ b o blk, v = .pointer (some ⟨b, o, none⟩) ∧ H b = some blk ∧ qx P τ w H d.1 (seg blk o τ.size) []) ∧ jR P w H ps d.2 vs' Φs'
 | .c f :: ps, d, vs, Φs => ∃ v vs' φ Φs', vs = v :: vs' ∧ Φs = φ :: Φs' ∧ True ∧ φ.fp = [] ∧ v = .func (.func f) #[] #[] ∧ jR P w H ps d.2 vs' Φs'
 | .m τ :: ps, d, vs, Φs => ∃ v vs' φ Φs', vs = v :: vs' ∧ Φs = φ :: Φs' ∧ v = .pointer (some ⟨φ.b, 0, none⟩) ∧ qX P w H ⟨false, τ, d.1⟩ φ ∧ jR P w H ps d.2 vs' Φs'
 | .gm τ :: ps, d, vs, Φs => ∃ v vs' φ Φs', vs = v :: vs' ∧ Φs = φ :: Φs' ∧ v = .pointer (some ⟨φ.b, 0, none⟩) ∧ qX P w H ⟨false, τ, d.1⟩ φ ∧ jR P w H ps d.2 vs' Φs'
 | .mr tid e :: ps, d, vs, Φs => ∃ v vs' φ Φs', vs = v :: vs' ∧ Φs = φ :: Φs' ∧ v = φ.hdr ∧ qX P w H ⟨true, .list true tid e, d.1⟩ φ ∧ jR P w H ps d.2 vs' Φs'
 | .t tid e :: ps, d, vs, Φs => ∃ v vs' φ Φs', vs = v :: vs' ∧ Φs = φ :: Φs' ∧ v = φ.hdr ∧ qX P w H ⟨true, .list true tid e, d.1⟩ φ ∧ jR P w H ps d.2 vs' Φs'
 | .cm f τ :: ps, d, vs, Φs => ∃ v vs' φ Φs', vs = v :: vs' ∧ Φs = φ :: Φs' ∧ v = .func (.func f) #[] #[.pointer (some ⟨φ.b, 0, none⟩)] ∧ qX P w H ⟨false, τ, d.1⟩ φ ∧ jR P w H ps d.2 vs' Φs'
def jQ (P : Program) (w : World) (H : FH) : (ps : List jL) → MDens ps → List Value → List qF → Prop
 | [], _, vs, Φs => vs = [] ∧ Φs = []
 | .v _ :: ps, d, vs, Φs => ∃ v vs' φ Φs', vs = v :: vs' ∧ Φs = φ :: Φs' ∧ φ.fp = [] ∧ jQ P w H ps d vs' Φs'
 | .r _ :: ps, d, vs, Φs => ∃ v vs' φ Φs', vs = v :: vs' ∧ Φs = φ :: Φs' ∧ φ.fp = [] ∧ jQ P w H ps d vs' Φs'
 | .c _ :: ps, d, vs, Φs => ∃ v vs' φ Φs', vs = v :: vs' ∧ Φs = φ :: Φs' ∧ φ.fp = [] ∧ jQ P w H ps d vs' Φs'
 | .t _ _ :: ps, d, vs, Φs => ∃ v vs' φ Φs', vs = v :: vs' ∧ Φs = φ :: Φs' ∧ φ.fp = [] ∧ jQ P w H ps d vs' Φs'
 | .gm _ :: ps, d, vs, Φs => ∃ v vs' φ Φs', vs = v :: vs' ∧ Φs = φ :: Φs' ∧ φ.fp = [] ∧ jQ P w H ps d vs' Φs'
 | .cm f τ :: ps, d, vs, Φs => ∃ v vs' φ Φs', vs = v :: vs' ∧ Φs = φ :: Φs' ∧ v = .func (.func f) #[] #[.pointer (some ⟨φ.b, 0, none⟩)] ∧ qX P w H ⟨false, τ, d.1⟩ φ ∧ jQ P w H ps d.2 vs' Φs'
 | .m τ :: ps, d, vs, Φs => ∃ v vs' φ Φs', vs = v :: vs' ∧ Φs = φ :: Φs' ∧ v = .pointer (some ⟨φ.b, 0, none⟩) ∧ qX P w H ⟨false, τ, d.1⟩ φ ∧ jQ P w H ps d.2 vs' Φs'
 | .mr tid e :: ps, d, vs, Φs => ∃ v vs' φ Φs', vs = v :: vs' ∧ Φs = φ :: Φs' ∧ v = φ.hdr ∧ qX P w H ⟨true, .list true tid e, d.1⟩ φ ∧ jQ P w H ps d.2 vs' Φs'
def qai (P : Program) (w : World) (H : FH) : (rs : List RTy) → RDens rs → List Value → List qF → Prop
 | [], _, vs, Φs => vs = [] ∧ Φs = []
 | .v τ :: rs, d, vs, Φs => ∃ v vs' φ Φs', vs = v :: vs' ∧ Φs = φ :: Φs' ∧ τ.isFz = true ∧ φ.fp = [] ∧ (∃ cs, v = jZ τ cs ∧ qx P τ w H d.1 cs []) ∧ qai P w H rs d.2 vs' Φs'
 | .own tid e :: rs, d, vs, Φs => ∃ v vs' φ Φs', vs = v :: vs' ∧ Φs = φ :: Φs' ∧ v = φ.hdr ∧ qX P w H ⟨true, .list true tid e, d.1⟩ φ ∧ qai P w H rs d.2 vs' Φs'
 | .sure nn tid e :: rs, d, vs, Φs => ∃ v vs' φ Φs', vs = v :: vs' ∧ Φs = φ :: Φs' ∧ v = φ.hdr ∧ qX P w H ⟨true, .list true tid e, d.1⟩ φ ∧ sureV nn φ.hdr ∧ qai P w H rs d.2 vs' Φs'
 | .ownv τ :: rs, d, vs, Φs => ∃ v vs' φ Φs', vs = v :: vs' ∧ Φs = φ :: Φs' ∧ v = φ.hdr ∧ qX P w H ⟨true, τ, d.1⟩ φ ∧ qai P w H rs d.2 vs' Φs'
 | .optr τ :: rs, d, vs, Φs => ∃ v vs' φ Φs', vs = v :: vs' ∧ Φs = φ :: Φs' ∧ v = .pointer (some ⟨φ.b, 0, none⟩) ∧ qX P w H ⟨false, τ, d.1⟩ φ ∧ qai P w H rs d.2 vs' Φs'
def qir (P : Program) (f : Nat) (p : qE) : Prop := ∀ (d : PDens p.ps) (y : RDens p.rs × MDens p.ps), p.g d = some y → ∀ (w : World) (H : FH) (vs : List Value) (Φs : List qF), HOk H w → jR P w H p.ps d vs Φs →
 (qf Φs).Nodup → (∀ b ∈ qf Φs, H b = none ∧ b < w.heap.size) →
 Calls P f vs.toArray w fun e w' => ∃ us H' Φs' Ψs, e = .returned (qah us) ∧ j9 (· ∈ qf Φs) w w' ∧ H.le H' ∧ HOk H' w' ∧ (∀ b c, H' b = some c → H b = some c ∨ b ∈ qf Φs ∨ w.heap.size ≤ b) ∧
  qai P w' H' p.rs y.1 us Ψs ∧ jQ P w' H' p.ps y.2 vs Φs' ∧ (qf (Ψs ++ Φs')).Nodup ∧ ∀ b ∈ qf (Ψs ++ Φs'), H' b = none ∧ (b ∈ qf Φs ∨ w.heap.size ≤ b) ∧ b < w'.heap.size
def qc6 (P : Program) (f : Nat) (m : qdn) : Prop := ∀ (d : PDens m.p.ps) (y : RDens m.p.rs × MDens m.p.ps), m.p.g d = some y → ∀ (w : World) (H : FH) (vs : List Value) (Φs : List qF), HOk H w → jR P w H m.p.ps d vs Φs →
 (qf Φs).Nodup → (∀ b ∈ qf Φs, H b = none ∧ b < w.heap.size) →
 Calls P f vs.toArray w fun e w' => ∃ us H' Φs' Ψs, e = .returned (.func (.func m.f) #[] us.toArray) ∧ j9 (· ∈ qf Φs) w w' ∧ H.le H' ∧ HOk H' w' ∧ (∀ b c, H' b = some c → H b = some c ∨ b ∈ qf Φs ∨ w.heap.size ≤ b) ∧
  qai P w' H' m.p.rs y.1 us Ψs ∧ jQ P w' H' m.p.ps y.2 vs Φs' ∧ (qf (Ψs ++ Φs')).Nodup ∧ ∀ b ∈ qf (Ψs ++ Φs'), H' b = none ∧ (b ∈ qf Φs ∨ w.heap.size ≤ b) ∧ b < w'.heap.size
def qi8 (w : World) (τ : Ty) (b : Nat) (p : List qJ) (u : Value) : Prop := ∃ σ b' off blk t, qb7 τ p = some σ ∧ Loc w τ b 0 p b' off ∧ w.heap[b']? = some (.cells blk t (0, 0)) ∧ u = jZ σ (seg blk off σ.size)
def qhB (P : Program) (f : Nat) (kp : qef) : Prop := ∀ (d : PDens kp.prim.ps) (y : RDens kp.prim.rs × MDens kp.prim.ps), kp.prim.g d = some y → ∀ (w : World) (H : FH) (vs : List Value) (Φs : List qF), HOk H w → jR P w H kp.prim.ps d vs Φs →
 (qf Φs).Nodup → (∀ b ∈ qf Φs, H b = none ∧ b < w.heap.size) →
 Calls P f vs.toArray w fun e w' => (∃ us H' Φs' Ψs, e = .returned (qah us) ∧ j9 (· ∈ qf Φs) w w' ∧ H.le H' ∧ HOk H' w' ∧ (∀ b c, H' b = some c → H b = some c ∨ b ∈ qf Φs ∨ w.heap.size ≤ b) ∧
  qai P w' H' kp.prim.rs y.1 us Ψs ∧ jQ P w' H' kp.prim.ps y.2 vs Φs' ∧ (qf (Ψs ++ Φs')).Nodup ∧ ∀ b ∈ qf (Ψs ++ Φs'), H' b = none ∧ (b ∈ qf Φs ∨ w.heap.size ≤ b) ∧ b < w'.heap.size) ∧
  ∀ φ ∈ Φs, ∀ u, qi8 w kp.τ φ.b kp.q u → qi8 w' kp.τ φ.b kp.q u
theorem qhB.sound {P : Program} {f : Nat} {kp : qef} (h : qhB P f kp) : qir P f kp.prim := fun d y hy w H vs Φs h1 h2 h3 h4 => (h d y hy w H vs Φs h1 h2 h3 h4).mono fun _ _ h => h.1
def qhA (P : Program) (f : Nat) (mp : qee) : Prop := ∀ (d : PDens mp.rest) (x x' : mp.τ.den), mp.g d x = some x' → ∀ (w : World) (H : FH) (vs : List Value) (Φs : List qF) (φ : qF), HOk H w → jR P w H mp.rest d vs Φs → qf Φs = [] → qX P w H ⟨true, mp.τ, x⟩ φ →
 (∀ b ∈ φ.fp, H b = none ∧ b < w.heap.size) →
 Calls P f (vs.take mp.pos ++ φ.hdr :: vs.drop mp.pos).toArray w fun e w' => ∃ H' fp', e = .returned (qah []) ∧ j9 (· ∈ φ.fp) w w' ∧ H.le H' ∧ HOk H' w' ∧ (∀ b c, H' b = some c → H b = some c ∨ b ∈ φ.fp ∨ w.heap.size ≤ b) ∧
  qX P w' H' ⟨true, mp.τ, x'⟩ ⟨φ.b, φ.hdr, fp'⟩ ∧ ∀ b ∈ fp', H' b = none ∧ (b ∈ φ.fp ∨ w.heap.size ≤ b) ∧ b < w'.heap.size
def SoundL (P : Program) (sp : SelfP) : Prop := ∀ (d : PDens sp.p.ps) (y : RDens sp.p.rs × MDens sp.p.ps), sp.p.g d = some y → ∀ (w : World) (H : FH) (vs : List Value) (Φs : List qF), HOk H w → jR P w H sp.p.ps d vs Φs →
 (qf Φs).Nodup → (∀ b ∈ qf Φs, H b = none ∧ b < w.heap.size) → ∀ b, H b = some #[.func (.func sp.f) #[] (vs.drop sp.n ++ [Value.pointer (some ⟨b, 0, none⟩)]).toArray] →
 Calls P sp.f (vs ++ [Value.pointer (some ⟨b, 0, none⟩)]).toArray w fun e w' => ∃ us H' Φs' Ψs, e = .returned (qah us) ∧ j9 (· ∈ qf Φs) w w' ∧ H.le H' ∧ HOk H' w' ∧ (∀ b c, H' b = some c → H b = some c ∨ b ∈ qf Φs ∨ w.heap.size ≤ b) ∧
  qai P w' H' sp.p.rs y.1 us Ψs ∧ jQ P w' H' sp.p.ps y.2 vs Φs' ∧ (qf (Ψs ++ Φs')).Nodup ∧ ∀ b ∈ qf (Ψs ++ Φs'), H' b = none ∧ (b ∈ qf Φs ∨ w.heap.size ≤ b) ∧ b < w'.heap.size
def qgq (P : Program) (T : Nat) : Bool :=
 match P.underlying T with
 | some (.func _ _ _) => true
 | _ => false
structure qB (P : Program) (cfg : qS) : Prop where
 ty : ∀ t τ, lk cfg.ty t = some τ → qZ P t τ ∧ τ.isFz = true
 prims : ∀ f p, lk cfg.prims f = some p → jJ P f ∧ qir P f p
 alts : ∀ f p, lk cfg.alts f = some p → jJ P f ∧ qir P f p
 small : cfg.nt ≤ 2000
 makers : ∀ f m, lk cfg.makers f = some m → jJ P f ∧ qc6 P f m
 maps : ∀ T kt vt, lk cfg.maps T = some (kt, vt) → P.underlying T = some (.map kt vt) ∧ qZ P kt (.int .i64) ∧ qZ P vt (.int .i64)
 keeps : ∀ f kp, lk cfg.keeps f = some kp → jJ P f ∧ qhB P f kp
 mas : ∀ f mp, lk cfg.mas f = some mp → jJ P f ∧ qhA P f mp
 self : ∀ sp, cfg.self = some sp → jJ P sp.f ∧ SoundL P sp ∧ qgq P sp.T = true
structure qM (C : Ctx) (cfg : qS) : Prop where
 nt : C.nt = cfg.nt
 pin : ∀ id, id < 10000000 → C.pin id = none
def Quiet (P : Program) (C : Ctx) (o : Oper) (a : Act) (w : World) (s' : St) : Prop :=
 ∃ v, (∀ w', j9 jO w w' → Oper.quietAt P o a (j9 jO w) w' v) ∧ Sim P C s' (a.put o.dst v) w
def qaq (P : Program) (C : Ctx) (o : Oper) (a : Act) (w : World) (s' : St) : Prop :=
 ∃ v, (∀ w', j9 jO w w' → (execOp a.eval o).run P w' = .ok (.value v) w') ∧ Sim P C s' (a.put o.dst v) w
def qbc (P : Program) (C : Ctx) (o : Oper) (a : Act) (w : World) (s' : St) : Prop :=
 match (execOp a.eval o).run P w with
 | .ok (.value v) w' => Sim P C s' (a.put o.dst v) w'
 | .ok .skip w' => Sim P C s' (a.put o.dst undef) w'
 | .ok (.enter f args) w' => Calls P f args w' fun e w'' => ∃ v, e = .returned v ∧ Sim P C s' (a.put o.dst v) w''
 | _ => False
section
variable {P : Program} {C : Ctx}
theorem Quiet.goes {o : Oper} {a : Act} {w : World} {s' : St} (h : Quiet P C o a w s') : qbc P C o a w s' := by
 obtain ⟨v, h1, h2⟩ := h
 have := h1 w (j9.refl _ _)
 unfold Oper.quietAt Oper.quietUpon at this
 unfold qbc
 split at this
 ·rename_i u w' e; rw [e]; obtain ⟨rfl, rfl⟩ := this; exact h2
 ·rename_i w' e; rw [e]; obtain ⟨rfl, rfl⟩ := this; exact h2
 ·rename_i f args w' e
  rw [e]
  obtain ⟨rfl, hc⟩ := this
  exact hc.mono fun e w'' ⟨he, hm⟩ => ⟨v, he, h2.grow hm⟩
 ·exact this.elim
theorem qaq.quiet {o : Oper} {a : Act} {w : World} {s' : St} (h : qaq P C o a w s') : Quiet P C o a w s' := by
 obtain ⟨v, hrun, h⟩ := h
 refine ⟨v, fun w' hw => ?_, h⟩
 unfold Oper.quietAt
 rw [hrun w' hw]
 exact ⟨rfl, rfl⟩
theorem qbZ {o : Oper} {a : Act} {w : World} {s' : St} {v : Value} (hrun : ∀ w', j9 jO w w' → (execOp a.eval o).run P w' = .ok (.value v) w') (h : Sim P C s' (a.put o.dst v) w) : qaq P C o a w s' :=
 ⟨v, hrun, h⟩
theorem qda {w w' : World} (hm : j9 jO w w') {b : Nat} {o : Go.Obj} (h : w.heap[b]? = some o) : w'.heap[b]? = some o := by
 rw [hm.block b (Array.getElem?_eq_some_iff.1 h).1 (fun h => h)]; exact h
theorem qkG {w : World} {H : FH} {Φ : Nat → qF} {os : Nat → Option Obj} {τ : Option Ty} (hτ : ∀ t, τ = some t → t.isFz = true) {v : Value} {av : AV} (h : qgt τ v = some av) : qn P C w H Φ os av v := by
 unfold qgt at h
 split at h
 ·cases h; exact ⟨rfl, _, rfl, rfl, rfl⟩
 ·cases h; exact ⟨rfl, _, rfl, rfl, rfl⟩
 ·split at h
  ·rename_i tid e
   cases h
   have := hτ _ rfl
   simp only [Ty.isFz, Bool.and_eq_true] at this
   exact ⟨by simp [Ty.isFz, this.2], _, rfl, rfl, none, 0, rfl, Nat.le_refl _, .inl rfl⟩
  ·cases h
 ·split at h
  ·cases h; exact ⟨hτ _ rfl, [.pointer none], rfl, rfl, rfl⟩
  ·cases h
 ·cases h; trivial
 ·cases h
theorem qs {s : St} {a : Act} {w : World} {H : FH} {Φ : Nat → qF} (hs : qm P C s a w H Φ) {τ : Option Ty} (hτ : ∀ t, τ = some t → t.isFz = true) {x : Operand} {av : AV} (h : jF s τ x = some av) :
  qn P C w H Φ s.obj av (a.eval x) := by
 cases x with
 | tmp t => exact hs.ts t av h
 | const v => exact qkG hτ h
 | func f => cases h; exact ⟨#[], #[], rfl, rfl, rfl⟩
 | global g => cases h
theorem j0 {s : St} {a : Act} {w : World} {H : FH} {Φ : Nat → qF} (hs : qm P C s a w H Φ) {τ : Nat → Option Ty} (hτ : ∀ i t, τ i = some t → t.isFz = true) :
  ∀ {l : List Operand} {i : Nat} {avs : List AV}, qbA s τ l i = some avs → j7 (fun av x => qn P C w H Φ s.obj av (a.eval x)) avs l
 | [], _, _, h => by cases h; trivial
 | x :: r, i, avs, h => by
  unfold qbA at h
  split at h
  ·cases h; exact ⟨qs hs (hτ i) ‹_›, j0 hs hτ ‹_›⟩
  ·cases h
theorem qK : ∀ t : Ty, (none : Option Ty) = some t → t.isFz = true := by intro t h; cases h
theorem qB.fz {cfg : qS} (h : qB P cfg) (t : Nat) : ∀ τ, lk cfg.ty t = some τ → τ.isFz = true := fun τ e => (h.ty t τ e).2
theorem qn.int {w : World} {H : FH} {Φ os} {k : IntKind} {n : Int} {v : Value} (h : qn P C w H Φ os (.val (.int k) n) v) : v = .int k n := by
 obtain ⟨_, cs, rfl, rfl, _⟩ := h; rfl
theorem qn.bool {w : World} {H : FH} {Φ os} {b : Bool} {v : Value} (h : qn P C w H Φ os (.val .bool b) v) : v = .bool b := by
 obtain ⟨_, cs, rfl, rfl, _⟩ := h; rfl
theorem qn.mk_int (w : World) (H : FH) (Φ os) (k : IntKind) (n : Int) : qn P C w H Φ os (.val (.int k) n) (.int k n) := ⟨rfl, [.int k n], rfl, rfl, rfl⟩
theorem qn.mk_bool (w : World) (H : FH) (Φ os) (b : Bool) : qn P C w H Φ os (.val .bool b) (.bool b) := ⟨rfl, [.bool b], rfl, rfl, rfl⟩
variable {cfg : qS}
theorem qv {s : St} {a : Act} {w : World} {H : FH} {Φ : Nat → qF} {o : Oper} (hs : qm P C s a w H Φ) (hC : qM C cfg) (hd : qU cfg.nt o.dst = true) {av : AV} {v : Value} (hv : qn P C w H Φ s.obj av v)
  (hrun : ∀ w', j9 jO w w' → (execOp a.eval o).run P w' = .ok (.value v) w') : qaq P C o a w (s.setDst o.dst av) :=
 qbZ hrun ⟨H, Φ, hs.setDst (by rw [hC.nt]; exact hd) hv⟩
variable {R : Type} {r : R} {s : St} {a : Act} {w : World} {H : FH} {Φ : Nat → qF} {dst : Option Nat} {ty : TypeId} {pos : String} {after : Array Edge} {guard : Option (Nat × Bool)} {k : St → Option R}
theorem op_move (hcfg : qB P cfg) (hC : qM C cfg) {x : Operand} (hs : qm P C s a w H Φ) (hd : qU cfg.nt dst = true) (h : qT cfg ⟨dst, .move x, ty, pos, after, guard⟩ s k = some r) :
  ∃ s', k s' = some r ∧ qaq P C ⟨dst, .move x, ty, pos, after, guard⟩ a w s' := by
 simp only [qT] at h
 split at h
 ·rename_i av he
  exact ⟨_, h, qv hs hC hd (qs hs (hcfg.fz ty) he) (fun w' _ => rfl)⟩
 ·cases h
theorem op_pick (hcfg : qB P cfg) (hC : qM C cfg) {c x y : Operand} (hs : qm P C s a w H Φ) (hd : qU cfg.nt dst = true) (h : qT cfg ⟨dst, .pick c x y, ty, pos, after, guard⟩ s k = some r) :
  ∃ s', k s' = some r ∧ qaq P C ⟨dst, .pick c x y, ty, pos, after, guard⟩ a w s' := by
 simp only [qT] at h
 split at h
 ·rename_i b av bv h1 h2 h3
  have hb := (qs hs qK h1).bool
  have r2 := qs hs (hcfg.fz ty) h2
  have r3 := qs hs (hcfg.fz ty) h3
  cases b with
  | true => exact ⟨_, h, qv hs hC hd r2 (fun w' _ => by simp [execOp, hb, asBool])⟩
  | false => exact ⟨_, h, qv hs hC hd r3 (fun w' _ => by simp [execOp, hb, asBool])⟩
 ·cases h
theorem qjw (hcfg : qB P cfg) (hC : qM C cfg) {x : Operand} (hs : qm P C s a w H Φ) (hd : qU cfg.nt dst = true) (h : qT cfg ⟨dst, .nilCheck x, ty, pos, after, guard⟩ s k = some r) :
  ∃ s', k s' = some r ∧ qaq P C ⟨dst, .nilCheck x, ty, pos, after, guard⟩ a w s' := by
 simp only [qT] at h
 split at h
 ·rename_i τ o he
  rw [qo] at h
  obtain ⟨y, rfl, h⟩ := Option.bind_eq_some_iff.1 h
  obtain ⟨h1, cs, h2, h3, b, off, blk, h4, h5, h6⟩ := qs hs (hcfg.fz ty) he
  have hv : a.eval x = .pointer (some ⟨b, off, none⟩) := by rw [h2, h4]; rfl
  exact ⟨_, h, qv hs hC hd (av := .ref τ y) (v := a.eval x) ⟨h1, b, off, blk, hv, h5, h6⟩ (fun w' _ => by simp [execOp, hv])⟩
 ·rename_i τ y he
  have hr := qs hs (hcfg.fz ty) he
  obtain ⟨_, b, off, blk, hv, _⟩ := hr
  exact ⟨_, h, qv hs hC hd (qs hs (hcfg.fz ty) he) (fun w' _ => by simp [execOp, hv])⟩
 ·rename_i i p he
  obtain ⟨o, y, b, off, _, _, _, _, hv⟩ := qs hs (hcfg.fz ty) he
  exact ⟨_, h, qv hs hC hd (qs hs (hcfg.fz ty) he) (fun w' _ => by simp [execOp, hv])⟩
 ·cases h
theorem op_unOp (_hcfg : qB P cfg) (hC : qM C cfg) {op : UnOp} {T : TypeId} {x : Operand} (hs : qm P C s a w H Φ) (hd : qU cfg.nt dst = true) (h : qT cfg ⟨dst, .unOp op T x, ty, pos, after, guard⟩ s k = some r) :
  ∃ s', k s' = some r ∧ qaq P C ⟨dst, .unOp op T x, ty, pos, after, guard⟩ a w s' := by
 simp only [qT] at h
 split at h
 ·rename_i av he
  have hr := qs hs qK he
  unfold unK at h
  split at h
  ·have hv := hr.bool
   exact ⟨_, h, qv hs hC hd (qn.mk_bool w H Φ s.obj _) (fun w' _ => by simp [execOp, hv, Op.unary])⟩
  ·have hv := hr.int
   exact ⟨_, h, qv hs hC hd (qn.mk_int w H Φ s.obj _ _) (fun w' _ => by simp [execOp, hv, Op.unary, Op.intArith])⟩
  ·cases h
 ·cases h
theorem qkj (hcfg : qB P cfg) (hC : qM C cfg) {src dt : TypeId} {x : Operand} (hs : qm P C s a w H Φ) (hd : qU cfg.nt dst = true) (h : qT cfg ⟨dst, .convert src dt x, ty, pos, after, guard⟩ s k = some r) :
  ∃ s', k s' = some r ∧ qaq P C ⟨dst, .convert src dt x, ty, pos, after, guard⟩ a w s' := by
 simp only [qT] at h
 split at h
 case h_2 => cases h
 rename_i k1 j k2 n h1 h2 h3
 have v := (qs hs qK h3).int
 have e1 := (hcfg.ty src _ h1).1.int
 have e2 := (hcfg.ty dt _ h2).1.int
 have hc : ∀ w' : World, (convert src dt (.int k2 n)).run P w' = .ok (.int j (j.wrap n)) w' := fun w' => by simp [convert, run_underlying e1, run_underlying e2, Conv.intToInt]
 exact ⟨_, h, qv hs hC hd (qn.mk_int w H Φ s.obj _ _) (fun w' _ => by simp [execOp, v, hc])⟩
theorem qht {k : IntKind} {w : World} {H : FH} : ∀ {l : List Int} {cs : List Value} {fp : List Nat}, qg (qx P (.int k) w H) l cs fp → cs = l.map (Value.int k)
 | [], _, _, h => h.1
 | _ :: _, _, _, ⟨_, _, _, _, e1, _, h1, h2⟩ => by rw [e1, h1.1, qht h2]; rfl
theorem qlK {u : TypeId} {k : IntKind} (h : qZ P u (.int k)) : ∃ i, P.info? u = some i ∧ P.cellsOf u = 1 := by
 obtain ⟨i, hi, hs, _⟩ := h.info
 exact ⟨i, hi, by simp [Program.cellsOf, hi, hs, Ty.size]⟩
theorem qhX {u : TypeId} {k : IntKind} (w : World) (d : Nat) (h : qZ P u (.int k)) (a b : List Int) : ∀ (is : List Nat), (∀ i ∈ is, i < a.length ∧ i < b.length) →
  (Op.eqItems (d + 1) u 1 (a.map (Value.int k)).toArray (b.map (Value.int k)).toArray is).run P w = .ok (is.all fun i => a.getD i 0 == b.getD i 0) w
 | [], _ => by simp [Op.eqItems]
 | i :: is, hi => by
  obtain ⟨ha, hb⟩ := hi i List.mem_cons_self
  have hp : P.plainKey u = true := by simp [Program.plainKey, h.int]
  have pa : (part u (a.map (Value.int k)).toArray (i * 1)).run P w = .ok (.int k (a.getD i 0)) w := run_part_plain w hp (by simp [ha])
  have pb : (part u (b.map (Value.int k)).toArray (i * 1)).run P w = .ok (.int k (b.getD i 0)) w := run_part_plain w hp (by simp [hb])
  have ih := qhX w d h a b is fun j hj => hi j (List.mem_cons_of_mem _ hj)
  have pe := run_equalIn_int (P := P) w d u k k (a.getD i 0) (b.getD i 0) h.int
  simp only [Op.eqItems, Sem.run_bind, pa, pb, pe, Result.andThen_ok, List.all_cons]
  cases hc : a.getD i 0 == b.getD i 0 with
  | false => simp
  | true => simpa using ih
theorem all_eqL : ∀ (n : Nat) (a b : List Int), a.length = n → b.length = n → ((List.range n).all fun i => a.getD i 0 == b.getD i 0) = eqL a b := by
 intro n a b ha hb
 rw [Bool.eq_iff_iff, List.all_eq_true]
 unfold eqL
 rw [beq_iff_eq]
 constructor
 ·intro h
  refine List.ext_getElem (by omega) fun i h1 h2 => ?_
  have := h i (List.mem_range.2 (by omega))
  simpa [List.getD_eq_getElem?_getD, h1, h2] using this
 ·intro h i _
  rw [h]
  simp
theorem qdW {t : TypeId} {n : Nat} {k : IntKind} (w : World) (h : qZ P t (.arr n (.int k))) (a b : List Int) (ha : a.length = n) (hb : b.length = n) :
  (Op.equal t (.agg (a.map (Value.int k)).toArray) (.agg (b.map (Value.int k)).toArray)).run P w = .ok (eqL a b) w := by
 obtain ⟨u, hu, he⟩ := h.arr
 obtain ⟨i, hi, hc⟩ := qlK he
 have e := run_equalIn_array w 9999 (a.map (Value.int k)).toArray (b.map (Value.int k)).toArray hu hi
 have e2 := qhX w 9998 he a b (List.range n) fun j hj => by
  have := List.mem_range.1 hj
  omega
 rw [hc, e2, all_eqL n a b ha hb] at e
 exact e
theorem qkv {t : TypeId} {n : Nat} {k : IntKind} (h : qZ P t (.arr n (.int k))) : P.eqGuardType P.depth t = false := by
 obtain ⟨u, hu, he⟩ := h.arr
 obtain ⟨m, hm⟩ : ∃ m, P.depth = m + 2 := ⟨_, rfl⟩
 rw [hm]
 simp [Program.eqGuardType, hu, he.int]
theorem qjU {w w0 : World} {H : FH} (d : Nat) : ∀ (τ : Ty), qcM τ = true → ∀ (l : List Field) (o : Nat), j4 P τ l o → (∀ f ∈ l, f.name ≠ "_") → ∀ (x y : τ.den) (cs cs' : List Value) (fp fp' : List Nat) (xs ys : Array Value) (r r' : List Value), qx P τ w0 H x cs fp → qx P τ w0 H y cs' fp' → xs.toList.drop o = cs ++ r → ys.toList.drop o = cs' ++ r' →
  (Op.eqFields (d + 1) xs ys l).run P w = .ok (eqF τ x y) w := by
 have at0 : ∀ (xs : Array Value) (o : Nat) (v : Value) (r : List Value), xs.toList.drop o = v :: r → xs[o]? = some v := by
  intro xs o v r h
  have h2 : (xs.toList.drop o)[0]? = some v := by rw [h]; rfl
  rw [List.getElem?_drop, Nat.add_zero, Array.getElem?_toList] at h2
  exact h2
 have one : ∀ (τ : Ty), ((∃ k, τ = .int k) ∨ τ = .bool) → ∀ (f : Field) (o : Nat) (t : List Field), f.offset = o → qZ P f.type τ → f.name ≠ "_" → ∀ (x y : τ.den) (cs cs' : List Value) (fp fp' : List Nat) (xs ys : Array Value) (r r' : List Value), qx P τ w0 H x cs fp → qx P τ w0 H y cs' fp' → xs.toList.drop o = cs ++ r → ys.toList.drop o = cs' ++ r' →
   (Op.eqFields (d + 1) xs ys (f :: t)).run P w = (if eqF τ x y then (Op.eqFields (d + 1) xs ys t).run P w else .ok false w) ∧ xs.toList.drop (o + 1) = r ∧ ys.toList.drop (o + 1) = r' := by
  intro τ hτ f o t ho hty hn x y cs cs' fp fp' xs ys r r' hx hy hxs hys
  rcases hτ with ⟨k, rfl⟩ | rfl
  ·obtain ⟨rfl, _⟩ := hx
   obtain ⟨rfl, _⟩ := hy
   have hp : P.plainKey f.type = true := by simp [Program.plainKey, hty.int]
   have pa : (part f.type xs f.offset).run P w = .ok (.int k x) w := run_part_plain w hp (by rw [ho]; exact at0 xs o _ r hxs)
   have pb : (part f.type ys f.offset).run P w = .ok (.int k y) w := run_part_plain w hp (by rw [ho]; exact at0 ys o _ r' hys)
   have pe := run_equalIn_int (P := P) w d f.type k k x y hty.int
   have e : eqF (.int k) x y = (@BEq.beq Int _ x y) := rfl
   refine ⟨?_, by rw [← List.drop_drop, hxs]; rfl, by rw [← List.drop_drop, hys]; rfl⟩
   simp only [Op.eqFields, hn, ne_eq, not_false_eq_true, if_true, Sem.run_bind, pa, pb, pe, Result.andThen_ok, e]
   cases @BEq.beq Int _ x y <;> simp
  ·obtain ⟨rfl, _⟩ := hx
   obtain ⟨rfl, _⟩ := hy
   have hp : P.plainKey f.type = true := by simp [Program.plainKey, hty.bool]
   have pa : (part f.type xs f.offset).run P w = .ok (.bool x) w := run_part_plain w hp (by rw [ho]; exact at0 xs o _ r hxs)
   have pb : (part f.type ys f.offset).run P w = .ok (.bool y) w := run_part_plain w hp (by rw [ho]; exact at0 ys o _ r' hys)
   have pe := run_equalIn_bool' (P := P) w d f.type x y hty.bool
   have e : eqF .bool x y = (@BEq.beq Bool _ x y) := rfl
   refine ⟨?_, by rw [← List.drop_drop, hxs]; rfl, by rw [← List.drop_drop, hys]; rfl⟩
   simp only [Op.eqFields, hn, ne_eq, not_false_eq_true, if_true, Sem.run_bind, pa, pb, pe, Result.andThen_ok, e]
   cases @BEq.beq Bool _ x y <;> simp
 have last : ∀ (τ : Ty), ((∃ k, τ = .int k) ∨ τ = .bool) → ∀ (l : List Field) (o : Nat), j4 P τ l o → (∀ f ∈ l, f.name ≠ "_") → ∃ f, l = [f] ∧ f.offset = o ∧ qZ P f.type τ ∧ f.name ≠ "_" := by
  intro τ hτ l o hl hn
  rcases hτ with ⟨k, rfl⟩ | rfl
  all_goals
   unfold j4 at hl
   simp only [tyB] at hl
   split at hl
   ·rename_i f
    rw [Bool.and_eq_true] at hl
    exact ⟨f, rfl, Nat.eq_of_beq_eq_true hl.1, hl.2, hn f List.mem_cons_self⟩
   ·cases hl
 intro τ
 induction τ with
 | int k =>
  intro _ l o hl hn x y cs cs' fp fp' xs ys r r' hx hy hxs hys
  obtain ⟨f, rfl, ho, ht, hf⟩ := last _ (.inl ⟨k, rfl⟩) l o hl hn
  rw [(one _ (.inl ⟨k, rfl⟩) f o [] ho ht hf x y cs cs' fp fp' xs ys r r' hx hy hxs hys).1]
  cases eqF (.int k) x y <;> simp [Op.eqFields]
 | bool =>
  intro _ l o hl hn x y cs cs' fp fp' xs ys r r' hx hy hxs hys
  obtain ⟨f, rfl, ho, ht, hf⟩ := last _ (.inr rfl) l o hl hn
  rw [(one _ (.inr rfl) f o [] ho ht hf x y cs cs' fp fp' xs ys r r' hx hy hxs hys).1]
  cases eqF .bool x y <;> simp [Op.eqFields]
 | pair a b _ ihb =>
  intro hfl l o hl hn x y cs cs' fp fp' xs ys r r' hx hy hxs hys
  have ha : ((∃ k, a = .int k) ∨ a = .bool) ∧ qcM b = true := by
   cases a <;> simp only [qcM] at hfl <;> first | (cases hfl; done) | exact ⟨.inl ⟨_, rfl⟩, hfl⟩ | exact ⟨.inr rfl, hfl⟩
  obtain ⟨ha, hb⟩ := ha
  have hs : a.size = 1 := by rcases ha with ⟨k, rfl⟩ | rfl <;> rfl
  unfold j4 at hl
  simp only [tyB] at hl
  split at hl
  case h_2 => cases hl
  rename_i f g t
  rw [Bool.and_eq_true, Bool.and_eq_true] at hl
  obtain ⟨⟨h1, h2⟩, h3⟩ := hl
  obtain ⟨c1, c2, f1, f2, rfl, _, hx1, hx2⟩ := hx
  obtain ⟨c1', c2', f1', f2', rfl, _, hy1, hy2⟩ := hy
  rw [List.append_assoc] at hxs hys
  obtain ⟨e1, e2, e3⟩ := one a ha f o (g :: t) (Nat.eq_of_beq_eq_true h1) h2 (hn f List.mem_cons_self) x.1 y.1 c1 c1' f1 f1' xs ys _ _ hx1 hy1 hxs hys
  rw [hs] at h3
  have ih := ihb hb (g :: t) (o + 1) h3 (fun f hf => hn f (List.mem_cons_of_mem _ hf)) x.2 y.2 c2 c2' f2 f2' xs ys r r' hx2 hy2 e2 e3
  rw [e1, ih]
  show _ = Result.ok (eqF a x.1 y.1 && eqF b x.2 y.2) w
  cases eqF a x.1 y.1 <;> simp
 | _ => intro h; cases h
theorem qkw (τ : Ty) (hfl : qcM τ = true) (m : Nat) : ∀ (l : List Field) (o : Nat), j4 P τ l o → ∀ f ∈ l, P.eqGuardType (m + 1) f.type = false := by
 have last : ∀ (τ : Ty), ((∃ k, τ = .int k) ∨ τ = .bool) → ∀ (f : Field), qZ P f.type τ → P.eqGuardType (m + 1) f.type = false := by
  intro τ hτ f hf
  rcases hτ with ⟨k, rfl⟩ | rfl
  ·simp [Program.eqGuardType, hf.int]
  ·simp [Program.eqGuardType, hf.bool]
 induction τ with
 | int k =>
  intro l o hl f hf
  unfold j4 at hl
  simp only [tyB] at hl
  split at hl
  ·rw [Bool.and_eq_true] at hl
   obtain rfl := List.mem_singleton.1 hf
   exact last _ (.inl ⟨k, rfl⟩) _ hl.2
  ·cases hl
 | bool =>
  intro l o hl f hf
  unfold j4 at hl
  simp only [tyB] at hl
  split at hl
  ·rw [Bool.and_eq_true] at hl
   obtain rfl := List.mem_singleton.1 hf
   exact last _ (.inr rfl) _ hl.2
  ·cases hl
 | pair a b _ ihb =>
  intro l o hl f hf
  have ha : ((∃ k, a = .int k) ∨ a = .bool) ∧ qcM b = true := by
   cases a <;> simp only [qcM] at hfl <;> first | (cases hfl; done) | exact ⟨.inl ⟨_, rfl⟩, hfl⟩ | exact ⟨.inr rfl, hfl⟩
  unfold j4 at hl
  simp only [tyB] at hl
  split at hl
  case h_2 => cases hl
  rw [Bool.and_eq_true, Bool.and_eq_true] at hl
  rcases List.mem_cons.1 hf with rfl | hf
  ·exact last a ha.1 _ hl.1.2
  ·exact ihb ha.2 _ _ hl.2 f hf
 | _ => cases hfl
theorem qgI {t : TypeId} {τ : Ty} (hfl : qcM τ = true) (w : World) {w0 : World} {H : FH} (h : qZ P t (.str τ)) {x y : τ.den} {cs cs' : List Value} (hx : qx P τ w0 H x cs []) (hy : qx P τ w0 H y cs' []) :
  (Op.equal t (.agg cs.toArray) (.agg cs'.toArray)).run P w = .ok (eqF τ x y) w ∧ P.eqGuardType P.depth t = false := by
 obtain ⟨fs, hu, hfo, hp, hn⟩ := h.plain
 have hff : P.fieldsOf t = fs := by simp [Program.fieldsOf, hu]
 constructor
 ·have e := run_equalIn_struct (P := P) w 9999 t cs.toArray cs'.toArray (by rw [hff]; exact hu) hp
  rw [hff] at e
  have := qjU (P := P) (w := w) (w0 := w0) (H := H) 9998 τ hfl fs.toList 0 hfo hn x y cs cs' [] [] cs.toArray cs'.toArray [] [] hx hy (by simp) (by simp)
  rw [this] at e
  exact e
 ·obtain ⟨m, hm⟩ : ∃ m, P.depth = m + 2 := ⟨_, rfl⟩
  rw [hm]
  have hg := qkw (P := P) τ hfl m fs.toList 0 hfo
  simp only [Program.eqGuardType, hu]
  rw [Array.any_eq_false']
  intro f hf
  have := hg f (by simpa using hf)
  simp [Program.eqGuardType] at this ⊢
  intro _
  exact this
theorem qn.ints {w : World} {H : FH} {Φ os} {n : Nat} {k : IntKind} {l : List Int} {v : Value} (h : qn P C w H Φ os (.val (.arr n (.int k)) l) v) : v = .agg (l.map (Value.int k)).toArray ∧ l.length = n := by
 obtain ⟨_, cs, rfl, hl, hc⟩ := h
 exact ⟨by rw [qht hc]; rfl, hl⟩
theorem qls (hcfg : qB P cfg) (hC : qM C cfg) {op : BinOp} {T T' : TypeId} {x y : Operand} (hs : qm P C s a w H Φ) (hd : qU cfg.nt dst = true) 
  (h : (match jF s none x, jF s none y with
   | some x, some y => binK op (lk cfg.ty T) x y fun v => k (s.setDst dst v)
   | _, _ => none) = some r) :
  ∃ s', k s' = some r ∧ qaq P C ⟨dst, .binOp op T x y T', ty, pos, after, guard⟩ a w s' := by
 split at h
 ·rename_i av bv h1 h2
  have r1 := qs hs qK h1
  have r2 := qs hs qK h2
  unfold binK at h
  split at h
  ·rename_i i m j n
   have v1 := r1.int
   have v2 := r2.int
   split at h
   ·unfold qdQ at h
    split at h
    ·cases h
    ·rename_i hn
     exact ⟨_, h, qv hs hC hd (qn.mk_int w H Φ s.obj _ _) (fun w' _ => by simp [execOp, v1, v2, eqGuard, binOp, Op.shift, hn, shlI])⟩
   ·unfold qdQ at h
    split at h
    ·cases h
    ·rename_i hn
     exact ⟨_, h, qv hs hC hd (qn.mk_int w H Φ s.obj _ _) (fun w' _ => by simp [execOp, v1, v2, eqGuard, binOp, Op.shift, hn, qdU])⟩
   ·rename_i n1 n2
    cases hij : (i == j) with
    | false => rw [hij] at h; cases h
    | true =>
     rw [hij, cond_true] at h
     have hij' : i = j := by simpa using hij
     subst hij'
     cases op
     case shl => exact absurd rfl n1
     case shr => exact absurd rfl n2
     case quo =>
      simp only [nzK] at h
      split at h
      ·cases h
      ·rename_i hn
       exact ⟨_, h, qv hs hC hd (qn.mk_int w H Φ s.obj _ _) (fun w' _ => by simp [execOp, v1, v2, eqGuard, binOp, Op.intDiv, hn])⟩
     case rem =>
      simp only [nzK] at h
      split at h
      ·cases h
      ·rename_i hn
       exact ⟨_, h, qv hs hC hd (qn.mk_int w H Φ s.obj _ _) (fun w' _ => by simp [execOp, v1, v2, eqGuard, binOp, Op.intDiv, hn])⟩
     case add => exact ⟨_, h, qv hs hC hd (qn.mk_int w H Φ s.obj _ _) (fun w' _ => by simp [execOp, v1, v2, eqGuard, binOp, Op.intArith])⟩
     case sub => exact ⟨_, h, qv hs hC hd (qn.mk_int w H Φ s.obj _ _) (fun w' _ => by simp [execOp, v1, v2, eqGuard, binOp, Op.intArith])⟩
     case mul => exact ⟨_, h, qv hs hC hd (qn.mk_int w H Φ s.obj _ _) (fun w' _ => by simp [execOp, v1, v2, eqGuard, binOp, Op.intArith])⟩
     case and => exact ⟨_, h, qv hs hC hd (qn.mk_int w H Φ s.obj _ _) (fun w' _ => by simp [execOp, v1, v2, eqGuard, binOp, Op.intBits, qbJ])⟩
     case or => exact ⟨_, h, qv hs hC hd (qn.mk_int w H Φ s.obj _ _) (fun w' _ => by simp [execOp, v1, v2, eqGuard, binOp, Op.intBits, qbJ])⟩
     case xor => exact ⟨_, h, qv hs hC hd (qn.mk_int w H Φ s.obj _ _) (fun w' _ => by simp [execOp, v1, v2, eqGuard, binOp, Op.intBits, qbJ])⟩
     case andNot => exact ⟨_, h, qv hs hC hd (qn.mk_int w H Φ s.obj _ _) (fun w' _ => by simp [execOp, v1, v2, eqGuard, binOp, Op.intBits, qbJ])⟩
     all_goals exact ⟨_, h, qv hs hC hd (qn.mk_bool w H Φ s.obj _) (fun w' _ => by simp [execOp, v1, v2, eqGuard, binOp, Op.intCmp])⟩
  ·have v1 := r1.bool
   have v2 := r2.bool
   cases hT : decide (lk cfg.ty T = some .bool) with
   | false => rw [hT] at h; cases h
   | true =>
    rw [hT, cond_true] at h
    have hb := (hcfg.ty T .bool (of_decide_eq_true hT)).1.bool
    split at h
    ·exact ⟨_, h, qv hs hC hd (qn.mk_bool w H Φ s.obj _) (fun w' _ => by simp [execOp, v1, v2, eqGuard, binOp, run_equal_bool w' T _ _ hb])⟩
    ·exact ⟨_, h, qv hs hC hd (qn.mk_bool w H Φ s.obj _) (fun w' _ => by simp [execOp, v1, v2, eqGuard, binOp, run_equal_bool w' T _ _ hb])⟩
    ·cases h
  ·rename_i n i l m j l'
   obtain ⟨v1, len1⟩ := r1.ints
   obtain ⟨v2, len2⟩ := r2.ints
   cases hT : decide (lk cfg.ty T = some (.arr n (.int i))) && Nat.beq n m && (i == j) with
   | false => rw [hT] at h; cases h
   | true =>
    rw [hT, cond_true] at h
    simp only [Bool.and_eq_true] at hT
    obtain rfl : n = m := Nat.eq_of_beq_eq_true hT.1.2
    have hij : i = j := by simpa using hT.2
    subst hij
    have hty := (hcfg.ty T _ (of_decide_eq_true hT.1.1)).1
    have hg := qkv hty
    split at h
    ·exact ⟨_, h, qv hs hC hd (qn.mk_bool w H Φ s.obj _) (fun w' _ => by simp [execOp, v1, v2, run_eqGuard_agg w' _ T x y _ _ hg, binOp, qdW w' hty l l' len1 len2])⟩
    ·exact ⟨_, h, qv hs hC hd (qn.mk_bool w H Φ s.obj _) (fun w' _ => by simp [execOp, v1, v2, run_eqGuard_agg w' _ T x y _ _ hg, binOp, qdW w' hty l l' len1 len2])⟩
    ·cases h
  ·rename_i τ x1 σ y1
   cases hT : decide (lk cfg.ty T = some (.str τ)) && qcM τ with
   | false => rw [hT] at h; cases h
   | true =>
    rw [hT, cond_true] at h
    rw [Bool.and_eq_true] at hT
    rw [qo] at h
    replace h := Option.bind_eq_some_iff.1 h
    obtain ⟨y2, hy2, h⟩ := h
    obtain ⟨e1, e2⟩ := qj hy2
    subst e1
    simp only at e2
    subst e2
    have hty := (hcfg.ty T _ (of_decide_eq_true hT.1)).1
    obtain ⟨_, cs1, v1, p1⟩ := r1
    obtain ⟨_, cs2, v2, p2⟩ := r2
    have v1 : a.eval x = .agg cs1.toArray := v1
    have v2 : a.eval y = .agg cs2.toArray := v2
    have hq : ∀ w' : World, (Op.equal T (.agg cs1.toArray) (.agg cs2.toArray)).run P w' = .ok (eqF σ x1 y2) w' ∧ P.eqGuardType P.depth T = false := fun w' =>
     qgI hT.2 w' hty p1 p2
    split at h
    ·exact ⟨_, h, qv hs hC hd (qn.mk_bool w H Φ s.obj _) (fun w' _ => by simp [execOp, v1, v2, run_eqGuard_agg w' _ T x y _ _ (hq w').2, binOp, (hq w').1])⟩
    ·exact ⟨_, h, qv hs hC hd (qn.mk_bool w H Φ s.obj _) (fun w' _ => by simp [execOp, v1, v2, run_eqGuard_agg w' _ T x y _ _ (hq w').2, binOp, (hq w').1])⟩
    ·cases h
  ·cases h
 ·cases h
theorem qki (_hcfg : qB P cfg) (hC : qM C cfg) {x : Operand} {i : Nat} (hs : qm P C s a w H Φ) (hd : qU cfg.nt dst = true) (h : qT cfg ⟨dst, .extract x i, ty, pos, after, guard⟩ s k = some r) :
  ∃ s', k s' = some r ∧ qaq P C ⟨dst, .extract x i, ty, pos, after, guard⟩ a w s' := by
 have key : ∀ (av : AV) (i : Nat) (b : AV) (us : List Value), qn P C w H Φ s.obj av (.tuple us.toArray) → qfN av i = some b → ∃ u, us[i]? = some u ∧ qn P C w H Φ s.obj b u := by
  intro av
  induction av with
  | cons a1 a2 _ ih2 =>
   intro i b us hr he
   obtain ⟨u, us', h1, h2, h3⟩ := hr
   obtain rfl : us = u :: us' := by simpa using h1
   match i with
   | 0 => cases he; exact ⟨u, rfl, h2⟩
   | i + 1 => exact ih2 i b us' h3 he
  | _ => intro i b us _ he; cases i <;> cases he
 simp only [qT] at h
 split at h
 ·rename_i av he
  split at h
  ·rename_i b hb
   have hr := qs hs qK he
   obtain ⟨us, hus⟩ : ∃ us : List Value, a.eval x = .tuple us.toArray := by
    cases av <;> first | (cases i <;> cases hb; done) | skip
    obtain ⟨u, us, h1, _⟩ := hr
    exact ⟨_, h1⟩
   rw [hus] at hr
   obtain ⟨u, hu, hr'⟩ := key av i b us hr hb
   exact ⟨_, h, qv hs hC hd hr' (fun w' _ => by simp [execOp, hus, Instr.extract, hu])⟩
  ·cases h
 ·cases h
theorem qjy (_hcfg : qB P cfg) (hC : qM C cfg) {f : Nat} {first caps : Array Operand} (hs : qm P C s a w H Φ) (hd : qU cfg.nt dst = true) (h : qT cfg ⟨dst, .makeFunc (.func f) first caps, ty, pos, after, guard⟩ s k = some r) :
  ∃ s', k s' = some r ∧ qaq P C ⟨dst, .makeFunc (.func f) first caps, ty, pos, after, guard⟩ a w s' := by
 have key : ∀ (avs : List AV) (l : List Operand), j7 (fun av x => qn P C w H Φ s.obj av (a.eval x)) avs l → qn P C w H Φ s.obj (AV.ofList avs) (.tuple (l.map a.eval).toArray) := by
  intro avs
  induction avs with
  | nil => intro l hh; cases l <;> first | rfl | exact hh.elim
  | cons av avs ih => intro l hh; cases l <;> first | exact hh.elim | exact ⟨_, _, rfl, hh.1, ih _ hh.2⟩
 simp only [qT] at h
 split at h
 ·rename_i l1 l2 h1 h2
  have r1 := key _ _ (j0 hs (fun _ => qK) h1)
  have r2 := key _ _ (j0 hs (fun _ => qK) h2)
  refine ⟨_, h, qv hs hC hd (v := .func (.func f) (first.map a.eval) (caps.map a.eval)) ⟨_, _, rfl, ?_, ?_⟩ (fun w' _ => by simp [execOp, Instr.makeFunc])⟩
  ·rw [← Array.toArray_toList (xs := first.map a.eval), Array.toList_map]; exact r1
  ·rw [← Array.toArray_toList (xs := caps.map a.eval), Array.toList_map]; exact r2
 ·cases h
end
end Go.Vi
namespace Go.Vi
section
variable {P : Program} {C : Ctx}
theorem qdb : (τ : Ty) → τ.isFz = true → ∀ {p : List qJ} {σ : Ty}, qb7 τ p = some σ → σ.isFz = true
 | .pair a b, hf, p, σ, h => by
  have hf' := hf
  simp only [Ty.isFz, Bool.and_eq_true] at hf'
  match p with
  | [] => cases h; exact hf
  | .L :: q => exact qdb a hf'.1 h
  | .R :: q => exact qdb b hf'.2 h
  | .I _ :: _ => cases h
 | .str t, hf, p, σ, h => by
  match p with
  | [] => cases h; exact hf
  | s :: q => exact qdb t hf h
 | .list true tid e, hf, p, σ, h => by simp [Ty.isFz] at hf
 | .arr n e, hf, p, σ, h => by
  match p with
  | [] => cases h; exact hf
  | .L :: _ => cases h
  | .R :: _ => cases h
  | .I _ :: q => exact qdb e hf h
 | .int _, hf, p, _, h => by cases p <;> cases h; exact hf
 | .bool, hf, p, _, h => by cases p <;> cases h; exact hf
 | .list false _ _, hf, p, _, h => by cases p <;> cases h; exact hf
 | .ptr _, hf, p, _, h => by cases p <;> cases h; exact hf
 | .fn _ _, hf, p, _, h => by cases p <;> cases h; exact hf
 | .fn2 _ _ _, hf, p, _, h => by cases p <;> cases h; exact hf
theorem qaY : (τ : Ty) → ∀ {x : τ.den} {p q : List qJ} {y}, j1 τ x p = some y → j1 τ x (p ++ q) = j1 y.1 y.2 q
 | .pair a b, x, p, q, y, h => by
  match p with
  | [] => cases h; rfl
  | .L :: _ => exact qaY a h
  | .R :: _ => exact qaY b h
  | .I _ :: _ => cases h
 | .str t, x, p, q, y, h => by
  match p with
  | [] => cases h; rfl
  | s :: _ => exact qaY t h
 | .list true tid e, x, p, q, y, h => by
  match p with
  | [] => cases h; rfl
  | .L :: _ => cases h
  | .R :: _ => cases h
  | .I i :: r =>
   simp only [j1, List.cons_append] at h ⊢
   split at h
   ·rename_i hi
    rw [if_pos hi]
    obtain ⟨z, hz, h⟩ := Option.bind_eq_some_iff.1 h
    rw [hz]
    exact qaY e h
   ·cases h
 | .arr n e, x, p, q, y, h => by
  match p with
  | [] => cases h; rfl
  | .L :: _ => cases h
  | .R :: _ => cases h
  | .I i :: r =>
   simp only [j1, List.cons_append] at h ⊢
   split at h
   ·rename_i hi
    rw [if_pos hi]
    obtain ⟨z, hz, h⟩ := Option.bind_eq_some_iff.1 h
    rw [hz]
    exact qaY e h
   ·cases h
 | .int _, _, p, _, _, h => by cases p <;> cases h; rfl
 | .bool, _, p, _, _, h => by cases p <;> cases h; rfl
 | .list false _ _, _, p, _, _, h => by cases p <;> cases h; rfl
 | .ptr _, _, p, _, _, h => by cases p <;> cases h; rfl
 | .fn _ _, _, p, _, _, h => by cases p <;> cases h; rfl
 | .fn2 _ _ _, _, p, _, _, h => by cases p <;> cases h; rfl
theorem qak.append {w : World} {o : Obj} {φ : qF} {p q : List qJ} {b off b2 off2 : Nat} {σ : Ty} (h : qak w o φ p b off) (ht : qb7 o.τ p = some σ) (k : Loc w σ b off q b2 off2) : qak w o φ (p ++ q) b2 off2 := by
 obtain ⟨row, τ, x⟩ := o
 cases row with
 | false => exact Loc.append τ ht h k
 | true =>
  cases τ with
  | list own tid e =>
   cases own with
   | false => exact h.elim
   | true =>
    match p with
    | [] => exact h.elim
    | .L :: _ => exact h.elim
    | .R :: _ => exact h.elim
    | .I i :: r =>
     obtain ⟨g, n, cap, e1, e2⟩ := h
     exact ⟨g, n, cap, e1, Loc.append e ht e2 k⟩
  | _ => exact h.elim
theorem qhf : (s : Ty) → ∀ i, qbk s.fz i = qbk s i ∧ qaw s.fz i = qaw s i
 | .pair a b, 0 => ⟨rfl, rfl⟩
 | .pair a b, i + 1 => by
  have := qhf b i
  exact ⟨congrArg (qJ.R :: ·) this.1, this.2⟩
 | .int _, _ => ⟨rfl, rfl⟩
 | .bool, _ => ⟨rfl, rfl⟩
 | .list _ _ _, _ => ⟨rfl, rfl⟩
 | .str _, _ => ⟨rfl, rfl⟩
 | .ptr _, _ => ⟨rfl, rfl⟩
 | .arr _ _, _ => ⟨rfl, rfl⟩
 | .fn _ _, _ => ⟨rfl, rfl⟩
 | .fn2 _ _ _, _ => ⟨rfl, rfl⟩
theorem Addr.add_none (b o n : Nat) : (⟨b, o, none⟩ : Addr).add n = ⟨b, o + n, none⟩ := by unfold Addr.add; split <;> simp_all
theorem qhV {c : Array Value} {o n : Nat} (h : (seg c o n).length = n) (hn : 0 < n) : ∃ pre post, c.toList = pre ++ seg c o n ++ post ∧ pre.length = o := by
 unfold seg at h ⊢
 refine ⟨c.toList.take o, (c.toList.drop o).drop n, ?_, ?_⟩
 ·rw [List.append_assoc, List.take_append_drop, List.take_append_drop]
 ·rw [List.length_take, List.length_drop] at h
  rw [List.length_take]; omega
theorem qiu {c : Array Value} {o n k m : Nat} {pre x post : List Value} (h : seg c o n = pre ++ x ++ post) (hk : pre.length = k) (hm : x.length = m) : seg c (o + k) m = x := by
 unfold seg at h ⊢
 rw [← List.drop_drop]
 have e := List.take_append_drop n (c.toList.drop o)
 rw [h] at e
 rw [← e, List.append_assoc, List.append_assoc, ← hk, List.drop_left, ← hm, List.take_left]
theorem qcS {t : TypeId} {fs : Array Field} (hu : P.underlying t = some (.struct fs)) {f : Field} {σ : Ty} {i : Nat} (hf : fs.toList[i]? = some f) (ht : qZ P f.type σ) (b o : Nat) (w : World) :
  (Instr.fieldAt t (.pointer (some ⟨b, o, none⟩)) i).run P w = .ok (.pointer (some ⟨b, o + f.offset, none⟩)) w := by
 have hf' : fs[i]? = some f := by simpa using hf
 obtain ⟨j, h1, h2, h3, _⟩ := ht.info
 have hne : ¬ j.size = 0 := by omega
 simp [Instr.fieldAt, run_underlying hu, hf', Instr.sureAddr, fieldPlace, Go.sizeOf, typeInfo, h1, hne, Addr.add_none]
variable {cfg : qS} {R : Type} {r : R} {s : St} {a : Act} {w : World} {H : FH} {Φ : Nat → qF} {dst : Option Nat} {ty : TypeId} {pos : String} {after : Array Edge} {guard : Option (Nat × Bool)} {k : St → Option R}
theorem qiB (hcfg : qB P cfg) (hC : qM C cfg) {T : TypeId} {x : Operand} {i : Nat} (hs : qm P C s a w H Φ) (hd : qU cfg.nt dst = true) (h : qT cfg ⟨dst, .fieldAddr T x i, ty, pos, after, guard⟩ s k = some r) :
  ∃ s', k s' = some r ∧ qaq P C ⟨dst, .fieldAddr T x i, ty, pos, after, guard⟩ a w s' := by
 simp only [qT] at h
 split at h
 case h_2 => cases h
 rename_i av he
 have hr := qs hs qK he
 unfold qhj at h
 split at h
 ·cases h
 rename_i T' hT
 obtain ⟨hty, hfz⟩ := hcfg.ty T T' hT
 split at h
 ·cases h
 rename_i q hq
 unfold qkR at hq
 split at hq
 case h_2 => cases hq
 rename_i t'
 cases hhf : qaw t' i with
 | false => rw [hhf] at hq; cases hq
 | true =>
  rw [hhf] at hq
  cases hq
  split at h
  ·rename_i t y
   cases ht : decide (Ty.str t = .str t') with
   | false => rw [ht] at h; cases h
   | true =>
    rw [ht, cond_true] at h
    have ht := of_decide_eq_true ht
    injection ht with ht
    subst ht
    obtain ⟨_, b, o, blk, hv, hH, hrep⟩ := hr
    obtain ⟨fs, hu, hfs⟩ := hty.str
    obtain ⟨f, σ, q1, q2, q3, q4, q5, q6, q7⟩ := hfs.at t hhf
    obtain ⟨z, g1, g2, pre, c, post, f1, f2, f3, e1, e2, e3, e4⟩ := q7 (show qx P t w H y _ [] from hrep)
    rw [g2] at h
    have ef : f2 = [] := by
     have := congrArg List.length e2; simp at this; exact List.length_eq_zero_iff.1 (by omega)
    subst ef
    refine ⟨_, h, qv hs hC hd (v := .pointer (some ⟨b, o + f.offset, none⟩)) ⟨qdb t (by simpa [Ty.isFz] using hfz) q4, b, o + f.offset, blk, rfl, hH, ?_⟩ (fun w' _ => by simp [execOp, hv, qcS hu q1 q3])⟩
    have := qiu (m := σ.size) e1 (k := f.offset) (by rw [e3]; omega) (qx.length σ e4)
    rw [this]
    exact e4
  ·rename_i id p
   obtain ⟨o, y, b, off, h1, h2, h3, h4, hv⟩ := hr
   rw [h1] at h
   simp only [h2, cond_false] at h
   have hyt := jN _ h3
   rw [hyt] at h
   simp only at h
   cases ht : decide (y.1.fz = .str t') && !(qbk t' i).isEmpty with
   | false => rw [ht] at h; cases h
   | true =>
    rw [ht, cond_true] at h
    rw [Bool.and_eq_true] at ht
    obtain ⟨ht, hne⟩ := ht
    have ht := of_decide_eq_true ht
    obtain ⟨σ0, y0⟩ := y
    simp only at ht hyt
    cases σ0 with
    | str u =>
     injection ht with ht
     subst ht
     obtain ⟨fs, hu, hfs⟩ := (qZ.unfz (τ := .str u) hty).str
     have hhf' : qaw u i = true := by rw [← (qhf u i).2]; exact hhf
     rw [(qhf u i).1] at hne h
     obtain ⟨f, σ, q1, q2, q3, q4, q5, q6, q7⟩ := hfs.at u hhf'
     have hok := (hs.os id o h1).1
     obtain ⟨_, _, _, blk', t', pre', c, post', f1, f', f2, e1, e2, e3, e4, e5, e6, _⟩ := hok.desc (y := y0) h3 ⟨w, _, _, h4⟩ h2
     obtain ⟨z, g1, _⟩ := q7 (show qx P u w H y0 c f' from e6)
     have hstr : j1 (.str u) y0 (qbk u i) = some ⟨σ, z⟩ := by
      cases hpp : qbk u i with
      | nil => rw [hpp] at hne; cases hne
      | cons a l => rw [hpp] at g1; exact g1
     have happ : j1 o.τ o.x (p ++ qbk u i) = some ⟨σ, z⟩ := by
      rw [qaY _ h3]; exact hstr
     have hloc : qak w o (Φ id) (p ++ qbk u i) b (off + f.offset) := by
      refine h4.append hyt ?_
      have := q6 w b off
      rw [Nat.sub_zero] at this
      cases hpp : qbk u i with
      | nil => rw [hpp] at hne; cases hne
      | cons a l => rw [hpp] at this; exact this
     refine ⟨_, h, qv hs hC hd (v := .pointer (some ⟨b, off + f.offset, none⟩)) ⟨o, ⟨σ, z⟩, b, off + f.offset, h1, ?_, happ, hloc, rfl⟩ (fun w' _ => by simp [execOp, hv, qcS hu q1 q3])⟩
     cases hpp : qbk u i with
     | nil => rw [hpp] at hne; cases hne
     | cons a l => simp
    | _ => cases ht
  ·cases h
theorem qbK {w : World} {H : FH} {Φ : Nat → qF} {os : Nat → Option Obj} {id : Nat} {p : List qJ} {v : Value} (h : qn P C w H Φ os (.view id p) v) {o : Obj} (ho : os id = some o) (hok : qX P w H o (Φ id)) {y} (hy : j1 o.τ o.x p = some y) :
  ∃ cs fp, v = jZ y.1 cs ∧ qx P y.1 w H y.2 cs fp ∧ (∀ b ∈ fp, b ∈ (Φ id).fp) ∧ fp.Nodup := by
 obtain ⟨o', y', h1, h2, h3⟩ := h
 rw [ho] at h1
 cases h1
 rw [hy] at h2
 cases h2
 cases hr : o.row && p.isEmpty with
 | true =>
  rw [hr] at h3
  simp only [Bool.and_eq_true, List.isEmpty_iff] at hr
  obtain ⟨hrow, rfl⟩ := hr
  rw [qO] at hy
  cases hy
  obtain ⟨_, hnd, h5⟩ := hok
  rw [hrow] at h5
  obtain ⟨_, cs, hcs, h6⟩ := h5
  refine ⟨cs, (Φ id).fp, ?_, h6, fun _ h => h, hnd⟩
  simp only at h3
  rw [h3]
  exact hcs
 | false =>
  rw [hr] at h3
  obtain ⟨b, off, blk, t, h4, h5, h6⟩ := h3
  have hnd := hok.2.1
  obtain ⟨b', o', hl, blk', t', pre', c, post', f1, f, f2, e1, e2, e3, e4, e5, e6, _⟩ := hok.desc (y := y.2) hy ⟨w, _, _, h4⟩ hr
  obtain ⟨rfl, rfl⟩ := qak.det h4 (hl w (fun _ _ => rfl))
  rw [e1] at h5
  cases h5
  refine ⟨c, f, ?_, e6, fun b hb => by rw [e4]; simp [hb], ?_⟩
  ·rw [h6, ← e3, j5 e2 (qx.length _ e6)]
  ·rw [e4] at hnd
   exact (List.nodup_append.1 (List.nodup_append.1 hnd).1).2.1
theorem qba {t tid : TypeId} {e : Ty} (hu : P.underlying t = some (.slice tid)) (he : qZ P tid e) {b o n cap : Nat} {i : Int} {ik : IntKind} (h0 : 0 ≤ i) (hn : i < n) (w : World) :
  (Instr.indexAt t (.slice (some ⟨b, o, none⟩) n cap) (.int ik i)).run P w = .ok (.pointer (some ⟨b, o + i.toNat * e.size, none⟩)) w := by
 obtain ⟨j, h1, h2, _⟩ := he.info
 simp [Instr.indexAt, asIntOf, run_underlying hu, h0, hn, Go.sizeOf, typeInfo, h1, h2, Addr.add_none]
theorem qci {t tid : TypeId} {e : Ty} {m : Nat} (hu : P.underlying t = some (.array m tid)) (he : qZ P tid e) {b o : Nat} {i : Int} {ik : IntKind} (h0 : 0 ≤ i) (hn : i < m) (w : World) :
  (Instr.indexAt t (.pointer (some ⟨b, o, none⟩)) (.int ik i)).run P w = .ok (.pointer (some ⟨b, o + i.toNat * e.size, none⟩)) w := by
 obtain ⟨j, h1, h2, _⟩ := he.info
 simp [Instr.indexAt, asIntOf, Instr.sureAddr, run_underlying hu, h0, hn, Go.sizeOf, typeInfo, h1, h2, Addr.add_none]
theorem qd3 {av : AV} {n : Int} (h : intOf av = some n) {v : Value} (hr : qn P C w H Φ s.obj av v) : ∃ k, v = .int k n := by
 unfold intOf at h
 split at h
 ·cases h; exact ⟨_, hr.int⟩
 ·cases h
theorem qeu {α R : Type} {l : List α} {i : Int} {k : α → Option R} {r : R} (h : qi l i k = some r) : 0 ≤ i ∧ ∃ x, l[i.toNat]? = some x ∧ k x = some r := by
 rw [qfg] at h
 split at h
 ·obtain ⟨x, h1, h2⟩ := Option.bind_eq_some_iff.1 h
  exact ⟨‹_›, x, h1, h2⟩
 ·cases h
theorem qha {R : Type} {i : Int} {n : Nat} {k : Option R} {r : R} (h : jS i n k = some r) : 0 ≤ i ∧ i < n ∧ k = some r := by
 unfold jS at h
 split at h
 ·exact ⟨by omega, by omega, h⟩
 ·cases h
theorem qiA (hcfg : qB P cfg) (hC : qM C cfg) {T : TypeId} {x ix : Operand} (hs : qm P C s a w H Φ) (hd : qU cfg.nt dst = true) (h : qT cfg ⟨dst, .indexAddr T x ix, ty, pos, after, guard⟩ s k = some r) :
  ∃ s', k s' = some r ∧ qaq P C ⟨dst, .indexAddr T x ix, ty, pos, after, guard⟩ a w s' := by
 simp only [qT] at h
 split at h
 case h_2 => cases h
 rename_i av i he hi
 have hr := qs hs qK he
 obtain ⟨iav, hi1, hi2⟩ := Option.bind_eq_some_iff.1 hi
 obtain ⟨ik, hiv⟩ := qd3 hi2 (qs hs qK hi1)
 unfold qeN at h
 split at h
 ·rename_i own tid e l
  cases hT : decide (lk cfg.ty T = some (.list false tid e.fz)) with
  | false => rw [hT] at h; cases h
  | true =>
   rw [hT, cond_true] at h
   obtain ⟨hty, _⟩ := hcfg.ty T _ (of_decide_eq_true hT)
   replace h := qeu h
   obtain ⟨h0, y, hy, h⟩ := h
   obtain ⟨hf, cs, hv, hrep⟩ := hr
   simp only [Ty.isFz, Bool.and_eq_true, Bool.not_eq_true'] at hf
   obtain ⟨rfl, hef⟩ := hf
   rw [Ty.fz_of_isFz e hef] at hty
   obtain ⟨_, ad, cap, rfl, hcap, hl⟩ := hrep
   have hlt := (List.getElem?_eq_some_iff.1 hy).1
   rcases hl with rfl | ⟨b, o, blk, rfl, hH, hch⟩
   ·simp at hlt
   ·obtain ⟨pre, c, post, f1, f, f2, e1, e2, e3, e4, e5⟩ := hch.at hy
    have ef : f = [] := by have := congrArg List.length e2; simp at this; exact List.length_eq_zero_iff.1 (by omega)
    subst ef
    have hpl : pre.length = i.toNat * e.size := by
     rw [qg.length (n := e.size) (fun _ _ _ hh => qx.length e hh) e3, List.length_take, Nat.min_eq_left (Nat.le_of_lt hlt)]
    have hv' : a.eval x = .slice (some ⟨b, o, none⟩) (List.length l) cap := by rw [hv]; rfl
    refine ⟨_, h, qv hs hC hd (v := .pointer (some ⟨b, o + i.toNat * e.size, none⟩)) ⟨hef, b, _, blk, rfl, hH, ?_⟩ (fun w' _ => by
     simp [execOp, hv', hiv, qba hty.list.1 hty.list.2 h0 (show i < (List.length l : Int) by omega)])⟩
    rw [qiu (m := e.size) e1 hpl (qx.length e e4)]
    exact e4
 ·rename_i n e l
  cases hT : decide (lk cfg.ty T = some (.arr n e)) with
  | false => rw [hT] at h; cases h
  | true =>
   rw [hT, cond_true] at h
   obtain ⟨hty, hfz⟩ := hcfg.ty T _ (of_decide_eq_true hT)
   obtain ⟨u, hu, hue⟩ := hty.arr
   obtain ⟨h0, y, hy, h⟩ := qeu h
   obtain ⟨hf, b, o, blk, hv, hH, hln, hch⟩ := hr
   have hlt := (List.getElem?_eq_some_iff.1 hy).1
   obtain ⟨pre, c, post, f1, f, f2, e1, e2, e3, e4, e5⟩ := hch.at hy
   have ef : f = [] := by have := congrArg List.length e2; simp at this; exact List.length_eq_zero_iff.1 (by omega)
   subst ef
   have hpl : pre.length = i.toNat * e.size := by
    rw [qg.length (n := e.size) (fun _ _ _ hh => qx.length e hh) e3, List.length_take, Nat.min_eq_left (Nat.le_of_lt hlt)]
   refine ⟨_, h, qv hs hC hd (v := .pointer (some ⟨b, o + i.toNat * e.size, none⟩)) ⟨by simpa [Ty.isFz] using hfz, b, _, blk, rfl, hH, ?_⟩ (fun w' _ => by
    simp [execOp, hv, hiv, qci hu hue h0 (show i < (n : Int) by rw [← hln]; omega)])⟩
   rw [qiu (m := e.size) e1 hpl (qx.length e e4)]
   exact e4
 ·rename_i id p
  split at h
  case h_2 => cases h
  rename_i o ho
  rw [jX] at h
  obtain ⟨y, hy, h⟩ := Option.bind_eq_some_iff.1 h
  obtain ⟨σ, y⟩ := y
  simp only at h
  split at h
  case h_2 => cases h
  rename_i own tid e l
  cases hT : own && (decide (lk cfg.ty T = some (.list false tid e.fz))) with
  | false => rw [hT] at h; cases h
  | true =>
   rw [hT, cond_true] at h
   rw [Bool.and_eq_true] at hT
   obtain ⟨rfl, hT⟩ := hT
   obtain ⟨hty, _⟩ := hcfg.ty T _ (of_decide_eq_true hT)
   have hty' := qZ.unfz (τ := .list false tid e) hty
   obtain ⟨h0, hlt, h⟩ := qha h
   have hok := (hs.os id o ho).1
   have hlt' : i.toNat < List.length l := by omega
   have happ : ∃ z, j1 o.τ o.x (p ++ [.I i]) = some ⟨e, z⟩ := by
    refine ⟨l[i.toNat], ?_⟩
    rw [qaY _ hy]
    simp only [j1, if_pos h0, List.getElem?_eq_getElem hlt', Option.bind_some, qO]
   obtain ⟨z, happ⟩ := happ
   have hloc : ∃ g n cap, a.eval x = .slice (some ⟨g, 0, none⟩) n cap ∧ i < n ∧ qak w o (Φ id) (p ++ [.I i]) g (i.toNat * e.size) := by
    obtain ⟨o', y', h1, h2, h3⟩ := hr
    rw [ho] at h1
    cases h1
    cases hrp : o.row && p.isEmpty with
    | true =>
     rw [hrp] at h3
     simp only [Bool.and_eq_true, List.isEmpty_iff] at hrp
     obtain ⟨hrow, rfl⟩ := hrp
     rw [qO] at hy
     obtain ⟨row, τ, xo⟩ := o
     simp only at hrow
     subst hrow
     simp only [Option.some.injEq, Sigma.mk.injEq] at hy
     obtain ⟨rfl, hxl⟩ := hy
     simp only [heq_eq_eq] at hxl
     subst hxl
     obtain ⟨hdr, xs, fp', q1, q2, q3, q4⟩ := hok.row_list
     have hh : (Φ id).hdr = hdr := by simpa using q1
     rcases q3.2 with ⟨rfl, hz⟩ | ⟨g, cap, cur, rfl, _⟩
     ·have hz' : List.length xo = 0 := hz
      omega
     ·simp only at h3
      exact ⟨g, List.length xo, cap, by rw [h3, hh], hlt, ⟨g, List.length xo, cap, hh, jU _ _ _ _⟩⟩
    | false =>
     rw [hrp] at h3
     rw [hy] at h2
     cases h2
     obtain ⟨b, off, blk, t, h4, h5, h6⟩ := h3
     obtain ⟨b', o', hl, blk', t', pre', c, post', f1, f, f2, e1, e2, e3, e4, e5, e6, _⟩ := hok.desc (y := l) hy ⟨w, _, _, h4⟩ hrp
     obtain ⟨rfl, rfl⟩ := qak.det h4 (hl w (fun _ _ => rfl))
     rw [e1] at h5
     cases h5
     obtain ⟨hdr, xs, fp', rfl, q2, q3, q4⟩ := e6
     rcases q3.2 with ⟨rfl, hz⟩ | ⟨g, cap, cur, rfl, _⟩
     ·omega
     ·refine ⟨g, List.length l, cap, ?_, hlt, h4.append (jN _ hy) ⟨g, List.length l, cap, ?_, jU _ _ _ _⟩⟩
      ·rw [h6, ← e3]; exact congrArg (jZ (.list true tid e)) (j5 (n := 1) e2 rfl)
      ·rw [qQ e1, ← Array.getElem?_toList, e2, ← e3]; simp
   obtain ⟨g, n, cap, hv, hin, hloc⟩ := hloc
   refine ⟨_, h, qv hs hC hd (v := .pointer (some ⟨g, 0 + i.toNat * e.size, none⟩)) ⟨o, ⟨e, z⟩, g, i.toNat * e.size, ho, by simp, happ, hloc, by simp⟩ (fun w' _ => by
    simp [execOp, hv, hiv, qba hty'.list.1 hty'.list.2 h0 hin])⟩
 ·rename_i id p
  obtain ⟨o, y, b, off, h1, h2, h3, h4, hv⟩ := hr
  rw [h1] at h
  simp only [h2, cond_false] at h
  have hyt := jN _ h3
  rw [hyt] at h
  obtain ⟨σ, y⟩ := y
  simp only at h hyt
  split at h
  case h_2 => cases h
  rename_i n e he'
  cases he'
  cases hT : decide (lk cfg.ty T = some (.arr n e.fz)) with
  | false => rw [hT] at h; cases h
  | true =>
   rw [hT, cond_true] at h
   obtain ⟨hty, _⟩ := hcfg.ty T _ (of_decide_eq_true hT)
   obtain ⟨u, hu, hue⟩ := (qZ.unfz (τ := .arr n e) hty).arr
   obtain ⟨h0, hlt, h⟩ := qha h
   have hok := (hs.os id o h1).1
   obtain ⟨_, _, _, blk', t', pre', c, post', f1, f', f2, e1, e2, e3, e4, e5, e6, _⟩ := hok.desc (y := y) h3 ⟨w, _, _, h4⟩ h2
   have hlt' : i.toNat < List.length y := by rw [e6.1]; omega
   have happ : j1 o.τ o.x (p ++ [.I i]) = some ⟨e, y[i.toNat]⟩ := by
    rw [qaY _ h3]
    simp only [j1, if_pos h0, List.getElem?_eq_getElem hlt', Option.bind_some, qO]
   refine ⟨_, h, qv hs hC hd (v := .pointer (some ⟨b, off + i.toNat * e.size, none⟩)) ⟨o, ⟨e, y[i.toNat]⟩, b, off + i.toNat * e.size, h1, by simp, happ, h4.append hyt (jU _ _ _ _), rfl⟩ (fun w' _ => by
    simp [execOp, hv, hiv, qci hu hue h0 hlt])⟩
 ·cases h
end
end Go.Vi
