/- The abstract interpreter 'Vi', ninth part: the program's types against the interpreter's; loads, stores and new blocks of typed values. No condition beyond those typed in each theorem. -/
import Derived.Test.YtjhphibadndkcaaVi8
namespace Go.Vi

/-- One cell's zero value, against another. -/
def cellEq : Value → Value → Bool
  | .int k n, .int j m => (k == j) && (n == m)
  | .bool a, .bool b => a == b
  | .slice none a b, .slice none c d => Nat.beq a c && Nat.beq b d
  | .pointer none, .pointer none => true
  | .nilFunc, .nilFunc => true
  | _, _ => false
theorem cellEq_eq : ∀ {u v : Value}, cellEq u v = true → u = v := by
  intro u v h
  unfold cellEq at h
  split at h
  · simp at h; rw [h.1, h.2]
  · simp at h; rw [h]
  · simp at h; rw [h.1, h.2]
  · rfl
  · rfl
  · cases h
def cellsEq : List Value → List Value → Bool
  | [], [] => true
  | a :: l, b :: r => cellEq a b && cellsEq l r
  | _, _ => false
theorem cellsEq_eq : ∀ {l r : List Value}, cellsEq l r = true → l = r
  | [], [], _ => rfl
  | a :: l, b :: r, h => by
    simp only [cellsEq, Bool.and_eq_true] at h
    rw [cellEq_eq h.1, cellsEq_eq h.2]
  | [], _ :: _, h => by cases h
  | _ :: _, [], h => by cases h

def zeroB (τ : Ty) : Option Value → Bool
  | some (.agg cs) => τ.isAgg && cellsEq cs.toList τ.zeroCells
  | some v => !τ.isAgg && cellsEq [v] τ.zeroCells
  | none => false
theorem zeroB_eq {τ : Ty} {z : Option Value} (h : zeroB τ z = true) : z = some (toV τ τ.zeroCells) := by
  unfold zeroB at h
  split at h
  · simp only [Bool.and_eq_true] at h
    simp only [toV, h.1, cond_true, ← cellsEq_eq h.2]
  · simp only [Bool.and_eq_true, Bool.not_eq_true'] at h
    simp only [toV, h.1, cond_false, ← cellsEq_eq h.2, List.headD_cons]
  · cases h

def infoB (P : Program) (t : TypeId) (τ : Ty) : Bool :=
  match P.info? t with
  | some i => Nat.beq i.size τ.size && Nat.blt 0 τ.size && Nat.ble i.bytes 256 && zeroB τ i.zero
  | none => false

/-- A type of the program is what the interpreter takes it for; and, a struct's fields from an offset on. -/
def tyB (P : Program) : Ty → (TypeId → Bool) × (List Field → Nat → Bool)
  | .int k =>
    let f : TypeId → Bool := fun t => infoB P t (.int k) && (match P.underlying t with | some (.int j) => j == k | _ => false)
    (f, fun l o => match l with | [x] => Nat.beq x.offset o && f x.type | _ => false)
  | .bool =>
    let f : TypeId → Bool := fun t => infoB P t .bool && (match P.underlying t with | some .bool => true | _ => false)
    (f, fun l o => match l with | [x] => Nat.beq x.offset o && f x.type | _ => false)
  | .list own tid e =>
    let f : TypeId → Bool := fun t => infoB P t (.list own tid e) && (match P.underlying t with | some (.slice u) => Nat.beq u tid | _ => false) && (tyB P e).1 tid
    (f, fun l o => match l with | [x] => Nat.beq x.offset o && f x.type | _ => false)
  | .pair a b => (fun _ => false, fun l o => match l with | x :: y :: r => Nat.beq x.offset o && (tyB P a).1 x.type && (tyB P b).2 (y :: r) (o + a.size) | _ => false)
  | .str s =>
    let f : TypeId → Bool := fun t => infoB P t (.str s) && (match P.underlying t with | some (.struct fs) => (tyB P s).2 fs.toList 0 | _ => false)
    (f, fun l o => match l with | [x] => Nat.beq x.offset o && f x.type | _ => false)
  | .ptr s =>
    let f : TypeId → Bool := fun t => infoB P t (.ptr s) && (match P.underlying t with | some (.pointer _) => true | _ => false)
    (f, fun l o => match l with | [x] => Nat.beq x.offset o && f x.type | _ => false)
  | .arr n e =>
    let f : TypeId → Bool := fun t => infoB P t (.arr n e) && (match P.underlying t with | some (.array m u) => Nat.beq m n && (tyB P e).1 u | _ => false)
    (f, fun l o => match l with | [x] => Nat.beq x.offset o && f x.type | _ => false)
  | .fn a r =>
    let f : TypeId → Bool := fun t => infoB P t (.fn a r) && (match P.underlying t with | some (.func _ _ _) => true | _ => false)
    (f, fun l o => match l with | [x] => Nat.beq x.offset o && f x.type | _ => false)
  | .fn2 a b r =>
    let f : TypeId → Bool := fun t => infoB P t (.fn2 a b r) && (match P.underlying t with | some (.func _ _ _) => true | _ => false)
    (f, fun l o => match l with | [x] => Nat.beq x.offset o && f x.type | _ => false)

def TyOK (P : Program) (t : TypeId) (τ : Ty) : Prop := (tyB P τ).1 t = true
def FieldsOK (P : Program) (s : Ty) (l : List Field) (o : Nat) : Prop := (tyB P s).2 l o = true

section
variable {P : Program}

theorem TyOK.info {t : TypeId} {τ : Ty} (h : TyOK P t τ) : ∃ i, P.info? t = some i ∧ i.size = τ.size ∧ 0 < τ.size ∧ i.bytes ≤ 256 ∧ i.zero = some (toV τ τ.zeroCells) := by
  have hb : infoB P t τ = true := by
    unfold TyOK at h
    cases τ <;> simp only [tyB, Bool.and_eq_true, Bool.false_eq_true] at h
    all_goals first | exact h.1 | exact h.1.1
  unfold infoB at hb
  split at hb
  · rename_i i hi
    simp only [Bool.and_eq_true] at hb
    obtain ⟨⟨⟨h1, h2⟩, h3⟩, h4⟩ := hb
    exact ⟨i, hi, Nat.eq_of_beq_eq_true h1, Eq.mp Nat.blt_eq h2, Nat.le_of_ble_eq_true h3, zeroB_eq h4⟩
  · cases hb

theorem TyOK.not_pair {t : TypeId} {a b : Ty} (h : TyOK P t (.pair a b)) : False := by simp [TyOK, tyB] at h

theorem TyOK.list {t : TypeId} {own : Bool} {tid : TypeId} {e : Ty} (h : TyOK P t (.list own tid e)) : P.underlying t = some (.slice tid) ∧ TyOK P tid e := by
  simp only [TyOK, tyB, Bool.and_eq_true] at h
  obtain ⟨⟨_, h1⟩, h2⟩ := h
  refine ⟨?_, h2⟩
  split at h1
  · rename_i e1; rw [e1, Nat.eq_of_beq_eq_true h1]
  · cases h1

theorem TyOK.int {t : TypeId} {k : IntKind} (h : TyOK P t (.int k)) : P.underlying t = some (.int k) := by
  simp only [TyOK, tyB, Bool.and_eq_true] at h
  obtain ⟨_, h1⟩ := h
  split at h1
  · rename_i e1; rw [e1]; simp at h1; rw [h1]
  · cases h1
theorem TyOK.bool {t : TypeId} (h : TyOK P t .bool) : P.underlying t = some .bool := by
  simp only [TyOK, tyB, Bool.and_eq_true] at h
  obtain ⟨_, h1⟩ := h
  split at h1
  · assumption
  · cases h1
theorem TyOK.str {t : TypeId} {s : Ty} (h : TyOK P t (.str s)) : ∃ fs, P.underlying t = some (.struct fs) ∧ FieldsOK P s fs.toList 0 := by
  simp only [TyOK, tyB, Bool.and_eq_true] at h
  obtain ⟨_, h1⟩ := h
  split at h1
  · rename_i fs e1; exact ⟨fs, e1, h1⟩
  · cases h1
theorem TyOK.arr {t : TypeId} {n : Nat} {e : Ty} (h : TyOK P t (.arr n e)) : ∃ u, P.underlying t = some (.array n u) ∧ TyOK P u e := by
  simp only [TyOK, tyB, Bool.and_eq_true] at h
  obtain ⟨_, h1⟩ := h
  split at h1
  · rename_i m u e1
    simp only [Bool.and_eq_true] at h1
    exact ⟨u, by rw [e1, Nat.eq_of_beq_eq_true h1.1], h1.2⟩
  · cases h1

theorem TyOK.isAgg {t : TypeId} {τ : Ty} (h : TyOK P t τ) (w : World) : (Go.isAgg t).run P w = .ok τ.isAgg w := by
  have hu : ∃ d, P.underlying t = some d ∧ (match d with | .struct _ | .array _ _ => true | _ => false) = τ.isAgg := by
    cases τ with
    | int k => exact ⟨_, h.int, rfl⟩
    | bool => exact ⟨_, h.bool, rfl⟩
    | list own tid e => exact ⟨_, h.list.1, rfl⟩
    | pair a b => exact h.not_pair.elim
    | str s => obtain ⟨fs, h1, _⟩ := h.str; exact ⟨_, h1, rfl⟩
    | ptr s =>
      simp only [TyOK, tyB, Bool.and_eq_true] at h
      obtain ⟨_, h1⟩ := h
      split at h1
      · exact ⟨_, ‹_›, rfl⟩
      · cases h1
    | arr n e => obtain ⟨u, h1, _⟩ := h.arr; exact ⟨_, h1, rfl⟩
    | fn a r =>
      simp only [TyOK, tyB, Bool.and_eq_true] at h
      obtain ⟨_, h1⟩ := h
      split at h1
      · exact ⟨_, ‹_›, rfl⟩
      · cases h1
    | fn2 a b r =>
      simp only [TyOK, tyB, Bool.and_eq_true] at h
      obtain ⟨_, h1⟩ := h
      split at h1
      · exact ⟨_, ‹_›, rfl⟩
      · cases h1
  obtain ⟨d, h1, h2⟩ := hu
  simp only [Go.isAgg, Sem.run_bind, run_underlying h1, Result.andThen_ok]
  rw [← h2]
  cases d <;> rfl

theorem TyOK.sizeOf {t : TypeId} {τ : Ty} (h : TyOK P t τ) (w : World) : (Go.sizeOf t).run P w = .ok τ.size w := by
  obtain ⟨i, h1, h2, _⟩ := h.info
  simp [Go.sizeOf, typeInfo, h1, h2]
theorem TyOK.zeroValue {t : TypeId} {τ : Ty} (h : TyOK P t τ) (w : World) : (Go.zeroValue t).run P w = .ok (toV τ τ.zeroCells) w := by
  obtain ⟨i, h1, _, _, _, h2⟩ := h.info
  simp [Go.zeroValue, typeInfo, h1, h2]

theorem Ty.zeroCells_fz : (τ : Ty) → τ.fz.zeroCells = τ.zeroCells
  | .int _ => rfl
  | .bool => rfl
  | .list _ _ _ => rfl
  | .pair a b => by simp [Ty.fz, Ty.zeroCells, Ty.zeroCells_fz a, Ty.zeroCells_fz b]
  | .str t => Ty.zeroCells_fz t
  | .ptr _ => rfl
  | .arr n e => by simp [Ty.fz, Ty.zeroCells, Ty.zeroCells_fz e]
  | .fn _ _ => rfl
  | .fn2 _ _ _ => rfl
theorem infoB_fz (t : TypeId) (τ : Ty) : infoB P t τ.fz = infoB P t τ := by
  have hz : ∀ z, zeroB τ.fz z = zeroB τ z := by
    intro z
    unfold zeroB
    split <;> simp only [Ty.isAgg_fz, Ty.zeroCells_fz]
  unfold infoB
  simp only [Ty.size_fz, hz]
theorem tyB_fz : (τ : Ty) → tyB P τ.fz = tyB P τ
  | .int _ => rfl
  | .bool => rfl
  | .list own tid e => by
    have h : ∀ t, infoB P t (.list false tid e.fz) = infoB P t (.list own tid e) := fun t => infoB_fz t (.list own tid e)
    simp only [Ty.fz, tyB, tyB_fz e, h]
  | .pair a b => by simp only [Ty.fz, tyB, tyB_fz a, tyB_fz b, Ty.size_fz]
  | .str s => by
    have h : ∀ t, infoB P t (.str s.fz) = infoB P t (.str s) := fun t => infoB_fz t (.str s)
    simp only [Ty.fz, tyB, tyB_fz s, h]
  | .ptr s => by
    have h : ∀ t, infoB P t (.ptr s.fz) = infoB P t (.ptr s) := fun t => infoB_fz t (.ptr s)
    simp only [Ty.fz, tyB, h]
  | .arr n e => by
    have h : ∀ t, infoB P t (.arr n e.fz) = infoB P t (.arr n e) := fun t => infoB_fz t (.arr n e)
    simp only [Ty.fz, tyB, tyB_fz e, h]
  | .fn a r => by
    have h : ∀ t, infoB P t (.fn a.fz r.fz) = infoB P t (.fn a r) := fun t => infoB_fz t (.fn a r)
    simp only [Ty.fz, tyB, h]
  | .fn2 a b r => by
    have h : ∀ t, infoB P t (.fn2 a.fz b.fz r.fz) = infoB P t (.fn2 a b r) := fun t => infoB_fz t (.fn2 a b r)
    simp only [Ty.fz, tyB, h]
theorem TyOK.unfz {t : TypeId} {τ : Ty} (h : TyOK P t τ.fz) : TyOK P t τ := by
  unfold TyOK at *; rwa [tyB_fz] at h

/-- A struct's field: its type, its place, its cells. -/
theorem FieldsOK.at : (s : Ty) → ∀ {l : List Field} {o i : Nat}, FieldsOK P s l o → hasField s i = true →
    ∃ f σ, l[i]? = some f ∧ o ≤ f.offset ∧ TyOK P f.type σ ∧ tyAt s (fpath s i) = some σ ∧ (fpath s i).any Step.isI = false ∧ (∀ w b q, Loc w s b q (fpath s i) b (q + (f.offset - o))) ∧
      ∀ {w H x cs fp}, Rep P s w H x cs fp → ∃ y : σ.den, getV s x (fpath s i) = some ⟨σ, y⟩ ∧ (∀ {R : Type} (k : (σ : Ty) → σ.den → Option R), projK s x (fpath s i) k = k σ y) ∧
        ∃ pre c post f1 f2 f3, cs = pre ++ c ++ post ∧ fp = f1 ++ f2 ++ f3 ∧ pre.length = f.offset - o ∧ Rep P σ w H y c f2 := by
  have leaf : ∀ s : Ty, (∀ a b, s ≠ .pair a b) → ∀ {l : List Field} {o i : Nat}, FieldsOK P s l o → hasField s i = true →
    ∃ f σ, l[i]? = some f ∧ o ≤ f.offset ∧ TyOK P f.type σ ∧ tyAt s (fpath s i) = some σ ∧ (fpath s i).any Step.isI = false ∧ (∀ w b q, Loc w s b q (fpath s i) b (q + (f.offset - o))) ∧
      ∀ {w H x cs fp}, Rep P s w H x cs fp → ∃ y : σ.den, getV s x (fpath s i) = some ⟨σ, y⟩ ∧ (∀ {R : Type} (k : (σ : Ty) → σ.den → Option R), projK s x (fpath s i) k = k σ y) ∧
        ∃ pre c post f1 f2 f3, cs = pre ++ c ++ post ∧ fp = f1 ++ f2 ++ f3 ∧ pre.length = f.offset - o ∧ Rep P σ w H y c f2 := by
    intro s hs l o i hf hi
    have hi0 : i = 0 := by
      cases s <;> first | exact absurd rfl (hs _ _) | exact Nat.eq_of_beq_eq_true hi
    have hp : fpath s i = [] := by
      cases s <;> first | exact absurd rfl (hs _ _) | rfl
    have hone : ∃ f, l = [f] ∧ f.offset = o ∧ TyOK P f.type s := by
      have hf' : (tyB P s).2 l o = true := hf
      match l with
      | [] => cases s <;> first | exact absurd rfl (hs _ _) | (simp [tyB] at hf')
      | [f] =>
        refine ⟨f, rfl, ?_, ?_⟩
        · cases s <;> first | exact absurd rfl (hs _ _) | (simp only [tyB, Bool.and_eq_true] at hf'; exact Nat.eq_of_beq_eq_true hf'.1)
        · cases s <;> first | exact absurd rfl (hs _ _) | (simp only [tyB, Bool.and_eq_true] at hf'; simp only [TyOK, tyB, Bool.and_eq_true]; exact hf'.2)
      | _ :: _ :: _ => cases s <;> first | exact absurd rfl (hs _ _) | (simp [tyB] at hf')
    obtain ⟨f, rfl, ho, ht⟩ := hone
    subst hi0
    refine ⟨f, s, rfl, by omega, ht, by rw [hp, tyAt_nil], by rw [hp]; rfl, ?_, ?_⟩
    · intro w b q
      rw [hp, ho, Nat.sub_self]
      exact Loc_nil _ _ _ _
    · intro w H x cs fp hr
      refine ⟨x, by rw [hp, getV_nil], ?_, [], cs, [], [], fp, [], by simp, by simp, by simp [ho], hr⟩
      intro R k
      rw [hp]
      cases s <;> first | exact absurd rfl (hs _ _) | rfl
  intro s
  induction s with
  | pair a b iha ihb =>
    intro l o i hf hi
    have hf' : (tyB P (.pair a b)).2 l o = true := hf
    match l with
    | [] => simp [tyB] at hf'
    | [_] => simp [tyB] at hf'
    | x :: y :: r =>
      simp only [tyB, Bool.and_eq_true] at hf'
      obtain ⟨⟨h1, h2⟩, h3⟩ := hf'
      have ho : x.offset = o := Nat.eq_of_beq_eq_true h1
      match i with
      | 0 =>
        refine ⟨x, a, rfl, by omega, h2, tyAt_nil a, rfl, ?_, ?_⟩
        · intro w b' q
          rw [ho, Nat.sub_self]
          exact Loc_nil _ a _ _
        · rintro w H z cs fp ⟨c1, c2, f1, f2, rfl, rfl, r1, r2⟩
          refine ⟨z.1, getV_nil a z.1, fun k => ?_, [], c1, c2, [], f1, f2, by simp, by simp, by simp [ho], r1⟩
          show projK a z.1 [] k = _
          cases a <;> rfl
      | i + 1 =>
        obtain ⟨f, σ, q1, q2, q3, q4, q5, q6, q7⟩ := ihb (l := y :: r) (o := o + a.size) (i := i) h3 hi
        refine ⟨f, σ, q1, by omega, q3, q4, ?_, ?_, ?_⟩
        · show (Step.R :: fpath b i).any Step.isI = false
          simpa [Step.isI] using q5
        · intro w b' q
          have := q6 w b' (q + a.size)
          rw [show q + (f.offset - o) = q + a.size + (f.offset - (o + a.size)) by omega]
          exact this
        · rintro w H z cs fp ⟨c1, c2, f1, f2, rfl, rfl, r1, r2⟩
          obtain ⟨y', g1, g2, pre, c, post, k1, k2, k3, e1, e2, e3, e4⟩ := q7 r2
          refine ⟨y', g1, fun k => g2 k, c1 ++ pre, c, post, f1 ++ k1, k2, k3, by rw [e1]; simp, by rw [e2]; simp, ?_, e4⟩
          rw [List.length_append, e3, Rep.length a r1]; omega
  | _ => exact leaf _ (by intro a b h; cases h)

theorem toV_cells {τ : Ty} {cs : List Value} (hn : ∀ a b, τ ≠ .pair a b) (hl : cs.length = τ.size) (h1 : ∀ v ∈ cs, v.oneCell' = true) : (toV τ cs).cells.toList = cs := by
  unfold toV
  cases ha : τ.isAgg with
  | true => rfl
  | false =>
    rw [Ty.size_pos τ ha hn] at hl
    match cs, hl with
    | [v], _ =>
      have := h1 v (by simp)
      cases v <;> first | rfl | simp [Value.oneCell'] at this

/-- A load of a typed value. -/
theorem run_loadVar {t : TypeId} {τ : Ty} (h : TyOK P t τ) {w : World} {b : Nat} {blk : Array Value} {bt : TypeId} {f : Nat × Nat} {pre c post : List Value} (hb : w.heap[b]? = some (.cells blk bt f))
    (hs : blk.toList = pre ++ c ++ post) (hc : c.length = τ.size) : (loadVar t ⟨b, pre.length, none⟩).run P w = .ok (toV τ c) w := by
  have hcell : ∀ j v, c[j]? = some v → w.cell? ((⟨b, pre.length, none⟩ : Addr).add j) = some v := by
    intro j v hj
    have : (⟨b, pre.length, none⟩ : Addr).add j = ⟨b, pre.length + j, none⟩ := by unfold Addr.add; split <;> simp_all
    rw [this, cell_of_block hb, ← Array.getElem?_toList, hs, List.append_assoc, List.getElem?_append_right (by omega), Nat.add_sub_cancel_left, List.getElem?_append_left (List.getElem?_eq_some_iff.1 hj).1]
    exact hj
  unfold loadVar
  simp only [Sem.run_bind, h.isAgg, Result.andThen_ok]
  cases ha : τ.isAgg with
  | true =>
    have hl := run_loadCells_list (P := P) w ⟨b, pre.length, none⟩ c hcell
    rw [hc] at hl
    simp [h.sizeOf, hl, toV, ha]
  | false =>
    have hn : ∀ x y, τ ≠ .pair x y := by rintro x y rfl; exact h.not_pair
    rw [Ty.size_pos τ ha hn] at hc
    match c, hc with
    | [v], _ =>
      have := hcell 0 v rfl
      have e : (⟨b, pre.length, none⟩ : Addr).add 0 = ⟨b, pre.length, none⟩ := by simp [Addr.add]
      rw [e] at this
      simp [toV, ha, this]

/-- A store of a typed value. -/
theorem run_storeVar {t : TypeId} {τ : Ty} (h : TyOK P t τ) {w : World} {b : Nat} {blk : Array Value} {bt : TypeId} {pre c post c' : List Value} (hb : w.heap[b]? = some (.cells blk bt (0, 0)))
    (hs : blk.toList = pre ++ c ++ post) (hc : c.length = τ.size) (hc' : c'.length = τ.size) (h1 : ∀ v ∈ c', v.oneCell' = true) :
    (storeVar t ⟨b, pre.length, none⟩ (toV τ c')).run P w = .ok () (w.setRow b (pre ++ c' ++ post).toArray) := by
  have hn : ∀ x y, τ ≠ .pair x y := by rintro x y rfl; exact h.not_pair
  have hcells := toV_cells hn hc' h1
  have hsz : (toV τ c').cells.size = τ.size := by rw [← Array.length_toList, hcells, hc']
  have hlen : blk.size = pre.length + c.length + post.length := by rw [← Array.length_toList, hs]; simp [Nat.add_assoc]
  unfold storeVar
  simp only [Sem.run_bind, h.sizeOf, Result.andThen_ok, hsz, ne_eq, not_true_eq_false, if_false, hcells]
  have := run_storeCells_at P b pre.length bt c' 0 blk w hb (by rw [hlen]; omega) h1
  simp only [Nat.add_zero] at this
  simp only [this]
  congr 3
  rw [hs, List.append_assoc, List.append_assoc, List.take_left, List.append_assoc, ← List.drop_drop, List.drop_left, hc', ← hc, List.drop_left]
end
end Go.Vi
