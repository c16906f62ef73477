/- The abstract interpreter 'Vi', twenty-third part: maps that the call has made. No condition beyond those typed in each theorem. -/
import Derived.Test.YtjhphibadndkcaaVi22
import Derived.Maps.Range
import Derived.Maps.RangeWalk
import Derived.Carry
namespace Go.Vi
open Go.Maps (Keyed)

/-! ## Lists of entries -/
theorem lkI_put_same : ∀ (l : List (Int × Int)) (n v : Int), lkI (putI l n v) n = some v
  | [], n, v => by simp [putI, lkI]
  | (m, u) :: r, n, v => by
    unfold putI
    cases h : m == n with
    | true => simp [lkI]
    | false =>
      rw [cond_false]
      unfold lkI
      rw [h, cond_false]
      exact lkI_put_same r n v
theorem lkI_put_other {n k : Int} (hne : k ≠ n) (v : Int) : ∀ (l : List (Int × Int)), lkI (putI l n v) k = lkI l k
  | [] => by
    have : (n == k) = false := by simpa using fun e => hne e.symm
    simp [putI, lkI, this]
  | (m, u) :: r => by
    unfold putI
    cases h : m == n with
    | true =>
      have e : m = n := by simpa using h
      have h2 : (m == k) = false := by rw [e]; simpa using fun e => hne e.symm
      have h3 : (n == k) = false := by simpa using fun e => hne e.symm
      simp [lkI, h2, h3]
    | false =>
      rw [cond_false]
      unfold lkI
      rw [lkI_put_other hne v r]
theorem put_length : ∀ (l : List (Int × Int)) (n v : Int), (putI l n v).length = if (lkI l n).isSome then l.length else l.length + 1
  | [], n, v => by simp [putI, lkI]
  | (m, u) :: r, n, v => by
    unfold putI lkI
    cases h : m == n with
    | true => simp
    | false =>
      rw [cond_false, cond_false, List.length_cons, put_length r n v, List.length_cons]
      split <;> rfl
theorem put_keys : ∀ (l : List (Int × Int)) (n v : Int) (k : Int), k ∈ (putI l n v).map (·.1) ↔ k = n ∨ k ∈ l.map (·.1)
  | [], n, v, k => by simp [putI]
  | (m, u) :: r, n, v, k => by
    unfold putI
    cases h : m == n with
    | true =>
      have e : m = n := by simpa using h
      simp [e]
    | false =>
      rw [cond_false]
      simp only [List.map_cons, List.mem_cons, put_keys r n v k]
      constructor
      · rintro (h | h | h)
        · exact .inr (.inl h)
        · exact .inl h
        · exact .inr (.inr h)
      · rintro (h | h | h)
        · exact .inr (.inl h)
        · exact .inl h
        · exact .inr (.inr h)
theorem put_nodup : ∀ (l : List (Int × Int)) (n v : Int), (l.map (·.1)).Nodup → ((putI l n v).map (·.1)).Nodup
  | [], n, v, _ => by simp [putI]
  | (m, u) :: r, n, v, h => by
    simp only [List.map_cons, List.nodup_cons] at h
    unfold putI
    cases hq : m == n with
    | true =>
      have e : m = n := by simpa using hq
      subst e
      simpa using h
    | false =>
      rw [cond_false]
      simp only [List.map_cons, List.nodup_cons, put_keys]
      have hne : m ≠ n := by simpa using hq
      exact ⟨fun hh => hh.elim hne h.1, put_nodup r n v h.2⟩
theorem lkI_none : ∀ {l : List (Int × Int)} {n : Int}, n ∉ l.map (·.1) → lkI l n = none
  | [], _, _ => rfl
  | (m, u) :: r, n, h => by
    simp only [List.map_cons, List.mem_cons, not_or] at h
    unfold lkI
    have : (m == n) = false := by simpa using fun e => h.1 e.symm
    rw [this, cond_false]
    exact lkI_none h.2
theorem lkI_mem : ∀ {l : List (Int × Int)} {n : Int}, n ∈ l.map (·.1) → (lkI l n).isSome = true
  | [], _, h => by simp at h
  | (m, u) :: r, n, h => by
    unfold lkI
    cases hq : m == n with
    | true => rfl
    | false =>
      rw [cond_false]
      simp only [List.map_cons, List.mem_cons] at h
      have hne : m ≠ n := by simpa using hq
      exact lkI_mem (h.resolve_left (fun e => hne e.symm))
theorem lkI_isSome {l : List (Int × Int)} {n : Int} : (lkI l n).isSome = true ↔ n ∈ l.map (·.1) := by
  constructor
  · intro h
    cases hd : decide (n ∈ l.map (·.1)) with
    | true => exact of_decide_eq_true hd
    | false =>
      rw [lkI_none (of_decide_eq_false hd)] at h
      cases h
  · exact lkI_mem
theorem lkI_del_same : ∀ {l : List (Int × Int)} {n : Int}, (l.map (·.1)).Nodup → lkI (delI l n) n = none
  | [], _, _ => rfl
  | (m, u) :: r, n, h => by
    simp only [List.map_cons, List.nodup_cons] at h
    unfold delI
    cases hq : m == n with
    | true =>
      have e : m = n := by simpa using hq
      rw [cond_true, ← e]
      exact lkI_none h.1
    | false =>
      rw [cond_false]
      unfold lkI
      rw [hq, cond_false]
      exact lkI_del_same h.2
theorem lkI_del_other {n k : Int} (hne : k ≠ n) : ∀ (l : List (Int × Int)), lkI (delI l n) k = lkI l k
  | [] => rfl
  | (m, u) :: r => by
    unfold delI
    cases hq : m == n with
    | true =>
      have e : m = n := by simpa using hq
      have : (m == k) = false := by rw [e]; simpa using fun e => hne e.symm
      rw [cond_true, lkI, this, cond_false]
    | false =>
      rw [cond_false]
      unfold lkI
      rw [lkI_del_other hne r]
theorem del_length : ∀ (l : List (Int × Int)) (n : Int), (delI l n).length + (if (lkI l n).isSome then 1 else 0) = l.length
  | [], _ => rfl
  | (m, u) :: r, n => by
    unfold delI lkI
    cases hq : m == n with
    | true => simp
    | false =>
      have := del_length r n
      rw [cond_false, cond_false, List.length_cons, List.length_cons]
      omega
theorem del_sub : ∀ (l : List (Int × Int)) (n : Int), (delI l n).Sublist l
  | [], _ => List.Sublist.refl _
  | (m, u) :: r, n => by
    unfold delI
    cases m == n with
    | true => exact List.sublist_cons_self _ _
    | false => exact (del_sub r n).cons_cons _
theorem dropI_mem {k n : Int} : ∀ {l : List Int}, n ∈ dropI k l ↔ n ∈ l ∧ n ≠ k
  | [] => by simp [dropI]
  | m :: r => by
    unfold dropI
    cases hq : m == k with
    | true =>
      have e : m = k := by simpa using hq
      rw [cond_true, dropI_mem, List.mem_cons, e]
      constructor
      · rintro ⟨h1, h2⟩; exact ⟨.inr h1, h2⟩
      · rintro ⟨h1, h2⟩; exact ⟨h1.resolve_left h2, h2⟩
    | false =>
      have hne : m ≠ k := by simpa using hq
      rw [cond_false, List.mem_cons, dropI_mem, List.mem_cons]
      constructor
      · rintro (h | ⟨h1, h2⟩)
        · exact ⟨.inl h, by rw [h]; exact hne⟩
        · exact ⟨.inr h1, h2⟩
      · rintro ⟨h1 | h1, h2⟩
        · exact .inl h1
        · exact .inr ⟨h1, h2⟩
theorem hasT_mem {t : Nat} : ∀ {l : List Nat}, hasT t l = true ↔ t ∈ l
  | [] => by simp [hasT]
  | u :: r => by
    unfold hasT
    rw [Bool.or_eq_true, hasT_mem, List.mem_cons]
    constructor
    · rintro (h | h)
      · exact .inl (Nat.eq_of_beq_eq_true h).symm
      · exact .inr h
    · rintro (h | h)
      · exact .inl (by rw [h]; exact Nat.beq_refl _)
      · exact .inr h
theorem dropN_mem {t u : Nat} : ∀ {l : List Nat}, u ∈ dropN t l ↔ u ∈ l ∧ u ≠ t
  | [] => by simp [dropN]
  | m :: r => by
    unfold dropN
    cases hq : Nat.beq m t with
    | true =>
      have e := Nat.eq_of_beq_eq_true hq
      rw [cond_true, dropN_mem, List.mem_cons, e]
      constructor
      · rintro ⟨h1, h2⟩; exact ⟨.inr h1, h2⟩
      · rintro ⟨h1, h2⟩; exact ⟨h1.resolve_left h2, h2⟩
    | false =>
      have hne := Nat.ne_of_beq_eq_false hq
      rw [cond_false, List.mem_cons, dropN_mem, List.mem_cons]
      constructor
      · rintro (h | ⟨h1, h2⟩)
        · exact ⟨.inl h, by rw [h]; exact hne⟩
        · exact ⟨.inr h1, h2⟩
      · rintro ⟨h1 | h1, h2⟩
        · exact .inl h1
        · exact .inr ⟨h1, h2⟩

/-! ## Entries against the model's datum -/
abbrev MD := DataW Unit
structure MRel (D : MD) (kv : List (Int × Int)) : Prop where
  has : ∀ n, Maps.has D (.int .i64 n) = (lkI kv n).isSome
  val : ∀ n z, D.atKey (.int .i64 n) z = match lkI kv n with | some v => .lit (.int .i64 v) | none => z
  size : Maps.size D = kv.length
  nd : (kv.map (·.1)).Nodup

theorem int_ne {n k : Int} (h : k ≠ n) : (Lit.int .i64 k) ≠ .int .i64 n := fun e => h (by injection e)

theorem MRel.empty : MRel (.map []) [] := ⟨fun _ => rfl, fun _ _ => rfl, rfl, List.nodup_nil⟩
theorem MRel.put {D : MD} {kv : List (Int × Int)} (h : MRel D kv) (hD : Maps.Tidy D) {n : Int} (hk : WideAt.IsKeyLit (.int .i64 n)) (v : Int) : MRel (D.put (.int .i64 n) (.lit (.int .i64 v))) (putI kv n v) := by
  refine ⟨fun m => ?_, fun m z => ?_, ?_, put_nodup _ _ _ h.nd⟩
  · by_cases e : m = n
    · subst e; rw [Maps.has_put_same hD.isMap hk, lkI_put_same]; rfl
    · rw [Maps.has_put_other (int_ne e), lkI_put_other e]; exact h.has m
  · by_cases e : m = n
    · subst e; rw [Maps.atKey_put_same hD.isMap hk, lkI_put_same]
    · rw [Maps.atKey_put_other (int_ne e), lkI_put_other e]; exact h.val m z
  · rw [Maps.size_put hD, put_length, h.has, h.size]
theorem MRel.del {D : MD} {kv : List (Int × Int)} (h : MRel D kv) (hD : Maps.Tidy D) (n : Int) : MRel (D.del (.int .i64 n)) (delI kv n) := by
  refine ⟨fun m => ?_, fun m z => ?_, ?_, List.Sublist.nodup ((del_sub kv n).map _) h.nd⟩
  · by_cases e : m = n
    · subst e; rw [Maps.has_del_same, lkI_del_same h.nd]; rfl
    · rw [Maps.has_del_other (int_ne e), lkI_del_other e]; exact h.has m
  · by_cases e : m = n
    · subst e; rw [Maps.atKey_del_same, lkI_del_same h.nd]
    · rw [Maps.atKey_del_other (int_ne e), lkI_del_other e]; exact h.val m z
  · have h1 := Maps.size_del hD (k := .int .i64 n)
    have h2 := del_length kv n
    rw [h.has, h.size] at h1
    omega

/-! ## A map in memory -/
def MapAt (P : Program) (w : World) (m : Ms) (b : Nat) : Prop :=
  ∃ D : MD, w.ownsMap P m.kt (plainElem P m.vt) b m.kv.length D ∧ MRel D m.kv
def IterAt (P : Program) (w : World) (m : Ms) (b r : Nat) (lf : List Int) : Prop :=
  ∃ (D : MD) (left : Lit → Bool) (cnt : Nat), w.ranges P m.kt (plainElem P m.vt) b r m.kv.length D left cnt ∧ MRel D m.kv ∧ ∀ n, left (.int .i64 n) = true ↔ n ∈ lf
def MOKb (P : Program) (C : Ctx) (m : Ms) (os : Nat → Option Obj) (a : Act) (w : World) (H : FH) (Φ : Nat → Info) (b : Nat) : Prop :=
  TyOK P m.kt (.int .i64) ∧ TyOK P m.vt (.int .i64) ∧ Free C w H Φ os b ∧ MapAt P w m b ∧ (∀ t ∈ m.tm, a.tmps.getD t undef = .map (some b)) ∧
    ∀ ti lf, m.it = some (ti, lf) → ∃ r, Free C w H Φ os r ∧ IterAt P w m b r lf ∧ (∀ t ∈ ti, a.tmps.getD t undef = .pointer (some ⟨r, 0, none⟩)) ∧
      ∀ n v, m.cur = some (n, v) → (Instr.entry (.pointer (some ⟨r, 0, none⟩))).run P w = .ok (.tuple #[.int .i64 n, .int .i64 v]) w
def MOK (P : Program) (C : Ctx) (m : Ms) (os : Nat → Option Obj) (a : Act) (w : World) (H : FH) (Φ : Nat → Info) : Prop := ∃ b, MOKb P C m os a w H Φ b
def MapOK (P : Program) (C : Ctx) (mp : Option Ms) (os : Nat → Option Obj) (a : Act) (w : World) (H : FH) (Φ : Nat → Info) : Prop :=
  match mp with
  | none => True
  | some m => MOK P C m os a w H Φ
def SimM (P : Program) (C : Ctx) (s : St) (a : Act) (w : World) : Prop := ∃ H Φ, SimB P C s a w H Φ ∧ MapOK P C s.mp s.obj a w H Φ

section
variable {P : Program} {C : Ctx} {cfg : Cfg} {R : Type} {r : R} {s s' : St} {a : Act} {w w' : World} {H H' : FH} {Φ Φ' : Nat → Info}

theorem SimM.sim (h : SimM P C s a w) : Sim P C s a w := by obtain ⟨H, Φ, h, _⟩ := h; exact ⟨H, Φ, h⟩
theorem Sim.simM (h : Sim P C s a w) (hm : s.mp = none) : SimM P C s a w := by obtain ⟨H, Φ, h⟩ := h; exact ⟨H, Φ, h, by rw [hm]; trivial⟩
theorem SimB.withM (h : SimB P C s a w H Φ) (m : Option Ms) : SimB P C (s.withM m) a w H Φ := h.congr rfl rfl

theorem MapAt.block {m : Ms} {b : Nat} (h : MapAt P w m b) (hb : w'.heap[b]? = w.heap[b]?) : MapAt P w' m b := by
  obtain ⟨D, ⟨es, clock, h1, h2⟩, h3⟩ := h
  exact ⟨D, ⟨es, clock, hb.trans h1, h2⟩, h3⟩
theorem IterAt.block {m : Ms} {b i : Nat} {lf : List Int} (h : IterAt P w m b i lf) (hb : w'.heap[b]? = w.heap[b]?) (hi : w'.heap[i]? = w.heap[i]?) : IterAt P w' m b i lf := by
  obtain ⟨D, left, cnt, ⟨es, clock, since, seen, c0, h1, h2, h3, h4, h5, h6⟩, h7⟩ := h
  exact ⟨D, left, cnt, ⟨es, clock, since, seen, c0, hb.trans h1, h2, h3, h4, hi.trans h5, h6⟩, h7⟩

theorem Chunks.each {α : Type} {Q : α → List Value → List Nat → Prop} {F : Nat → Prop} (h : ∀ x c f, Q x c f → ∀ b ∈ f, F b) : ∀ {l : List α} {xs fp}, Chunks Q l xs fp → ∀ b ∈ fp, F b
  | [], _, _, ⟨_, e⟩, b, hb => by rw [e] at hb; cases hb
  | _ :: _, _, _, ⟨c, xs', f, fp', e1, e2, h1, h2⟩, b, hb => by
    rw [e2] at hb
    rcases List.mem_append.1 hb with hb | hb
    · exact h _ _ _ h1 b hb
    · exact Chunks.each h h2 b hb
/-- What is owned are blocks of cells. -/
theorem Rep.cells : (τ : Ty) → ∀ {w : World} {H : FH} {x cs fp}, Rep P τ w H x cs fp → ∀ b ∈ fp, ∃ c t f, w.heap[b]? = some (.cells c t f)
  | .int _, _, _, _, _, _, h => by rw [h.2]; simp
  | .bool, _, _, _, _, _, h => by rw [h.2]; simp
  | .list false _ _, _, _, _, _, _, h => by rw [h.1]; simp
  | .list true _ e, _, _, _, _, _, h => by
    obtain ⟨hdr, xs, fp', rfl, rfl, ho, hch⟩ := h
    intro b hb
    rcases List.mem_append.1 hb with hb | hb
    · rcases ho.2 with ⟨rfl, _⟩ | ⟨g, cap, cur, rfl, _, hg, _⟩
      · simp [Value.ownBlock] at hb
      · simp [Value.ownBlock] at hb
        subst hb
        exact ⟨_, _, _, hg⟩
    · exact Chunks.each (fun _ _ _ hh => Rep.cells e hh) hch b hb
  | .pair a c, _, _, _, _, _, h => by
    obtain ⟨c1, c2, f1, f2, _, rfl, h1, h2⟩ := h
    intro b hb
    rcases List.mem_append.1 hb with hb | hb
    · exact Rep.cells a h1 b hb
    · exact Rep.cells c h2 b hb
  | .str t, _, _, _, _, _, h => Rep.cells t h
  | .ptr _, _, _, _, _, _, h => by rw [h.1]; simp
  | .arr _ e, _, _, _, _, _, h => Chunks.each (fun _ _ _ hh => Rep.cells e hh) h.2
  | .fn _ _, _, _, _, _, _, h => by rw [h.1]; simp
  | .fn2 _ _ _, _, _, _, _, _, h => by rw [h.1]; simp

theorem ObjOK.cells {o : Obj} {φ : Info} (h : ObjOK P w H o φ) : ∀ b ∈ φ.fp, ∃ c t f, w.heap[b]? = some (.cells c t f) := by
  obtain ⟨_, _, h⟩ := h
  cases hr : o.row with
  | false =>
    rw [hr] at h
    obtain ⟨blk, t, fp', h4, h5, h6⟩ := h
    intro b hb
    rw [h6] at hb
    rcases List.mem_cons.1 hb with rfl | hb
    · exact ⟨_, _, _, h4⟩
    · exact Rep.cells _ h5 b hb
  | true =>
    rw [hr] at h
    obtain ⟨_, cs, _, h5⟩ := h
    exact Rep.cells _ h5

/-- The context of one step: what it may write are blocks of cells that are not frozen. -/
def reC (C : Ctx) (w : World) (H : FH) : Ctx := ⟨w, fun b => (C.M0 b ∨ C.w0.heap.size ≤ b) ∧ H b = none ∧ ∃ c t f, w.heap[b]? = some (.cells c t f), H, C.nt, C.pin⟩
theorem reC_ok (hC : CtxOK C cfg) : CtxOK (reC C w H) cfg := ⟨hC.nt, hC.pin⟩

theorem RepA.ctx {C C' : Ctx} {os : Nat → Option Obj} (hf : ∀ b, Free C w H Φ os b → (∃ c t f, w.heap[b]? = some (.cells c t f)) → Free C' w H Φ os b) : ∀ {av : AV} {v : Value}, RepA P C w H Φ os av v → RepA P C' w H Φ os av v
  | .dead, _, h => h
  | .val _ _, _, h => h
  | .ref _ _, _, h => h
  | .ptr _ _, _, h => h
  | .view _ _, _, h => h
  | .upd id p tid e l, v, h => by
    obtain ⟨o, h1, h2, h3, h4, fp, h5, h6⟩ := h
    exact ⟨o, h1, h2, h3, h4, fp, h5, fun b hb => ⟨(h6 b hb).1, (h6 b hb).2.imp_left (fun hh => hf b hh (Rep.cells _ h5 b hb))⟩⟩
  | .fn _ _ _, _, ⟨vs, us, h1, h2, h3⟩ => ⟨vs, us, h1, RepA.ctx hf h2, RepA.ctx hf h3⟩
  | .nil, _, h => h
  | .cons _ _, _, ⟨u, us, h1, h2, h3⟩ => ⟨u, us, h1, RepA.ctx hf h2, RepA.ctx hf h3⟩

theorem SimB.rebase (hs : SimB P C s a w H Φ) : SimB P (reC C w H) s a w H Φ := by
  refine ⟨hs.defers, hs.size, FH.le_refl _, hs.hok, fun b c hb => .inl hb, Mod.refl _ _, ?_, ?_, hs.disj, hs.pins⟩
  · intro t av ht
    exact RepA.ctx (C := C) (C' := reC C w H) (fun b hb hc => (⟨hb.fz, hb.obj, .inl ⟨hb.may, hb.fz, hc⟩, hb.lt⟩ : Free (reC C w H) w H Φ s.obj b)) (hs.ts t av ht)
  · intro id o ho
    have h := hs.os id o ho
    exact ⟨h.1, fun b hb => ⟨(h.2 b hb).1, .inl ⟨(h.2 b hb).2.1, (h.2 b hb).1, h.1.cells b hb⟩, (h.2 b hb).2.2⟩⟩

theorem SimB.unbase {a' : Act} (hs : SimB P C s a w H Φ) (h : SimB P (reC C w H) s' a' w' H' Φ') : SimB P C s' a' w' H' Φ' ∧
    ∀ b, Free C w H Φ s.obj b → (¬ ∃ c t f, w.heap[b]? = some (.cells c t f)) → Free C w' H' Φ' s'.obj b ∧ w'.heap[b]? = w.heap[b]? := by
  have hmay : ∀ b, (reC C w H).M0 b ∨ (reC C w H).w0.heap.size ≤ b → C.M0 b ∨ C.w0.heap.size ≤ b := by
    rintro b (hb | hb)
    · exact hb.1
    · exact .inr (Nat.le_trans hs.mod.size hb)
  refine ⟨⟨h.defers, h.size, FH.le_trans hs.le h.le, h.hok, ?_, hs.mod.trans_new h.mod (fun i hi => hi.1), ?_, ?_, h.disj, h.pins⟩, ?_⟩
  · intro b c hb
    rcases h.hnew b c hb with h1 | h1 | h1
    · exact hs.hnew b c h1
    · exact .inr (hmay b (.inl h1))
    · exact .inr (hmay b (.inr h1))
  · intro t av ht
    exact RepA.ctx (C := reC C w H) (C' := C) (fun b hb _ => (⟨hb.fz, hb.obj, hmay b hb.may, hb.lt⟩ : Free C w' H' Φ' s'.obj b)) (h.ts t av ht)
  · intro id o ho
    have h1 := h.os id o ho
    exact ⟨h1.1, fun b hb => ⟨(h1.2 b hb).1, hmay b (h1.2 b hb).2.1, (h1.2 b hb).2.2⟩⟩
  · intro b hb hnc
    have hnm : ¬ (reC C w H).M0 b := fun hh => hnc hh.2.2
    refine ⟨⟨?_, ?_, hb.may, Nat.lt_of_lt_of_le hb.lt h.mod.size⟩, h.mod.block b hb.lt hnm⟩
    · cases hq : H' b with
      | none => rfl
      | some c =>
        rcases h.hnew b c hq with h1 | h1 | h1
        · have h1' : H b = some c := h1
          rw [hb.fz] at h1'; cases h1'
        · exact absurd h1 hnm
        · have h1' : w.heap.size ≤ b := h1
          have := hb.lt
          omega
    · intro id o ho hbf
      rcases ((h.os id o ho).2 b hbf).2.1 with h1 | h1
      · exact hnm h1
      · have h1' : w.heap.size ≤ b := h1
        have := hb.lt
        omega

theorem MapAt.not_cells {m : Ms} {b : Nat} (h : MapAt P w m b) : ¬ ∃ c t f, w.heap[b]? = some (.cells c t f) := by
  obtain ⟨D, ⟨es, clock, h1, _⟩, _⟩ := h
  rintro ⟨c, t, f, h2⟩
  rw [h1] at h2; cases h2
theorem IterAt.not_cells {m : Ms} {b i : Nat} {lf : List Int} (h : IterAt P w m b i lf) : ¬ ∃ c t f, w.heap[i]? = some (.cells c t f) := by
  obtain ⟨D, left, cnt, ⟨es, clock, since, seen, c0, _, _, _, _, h5, _⟩, _⟩ := h
  rintro ⟨c, t, f, h2⟩
  rw [h5] at h2; cases h2

theorem getD_put_ne {d : Option Nat} {v : Value} {t : Nat} (h : d ≠ some t) : (a.put d v).tmps.getD t undef = a.tmps.getD t undef := by
  cases d with
  | none => rfl
  | some d =>
    have hne : d ≠ t := fun e => h (by rw [e])
    simp only [Act.put, Array.getD_eq_getD_getElem?, Array.getElem?_setIfInBounds_ne hne]

theorem strike_tm {m : Ms} {d : Option Nat} {t : Nat} (h : t ∈ (m.strike d).tm) : t ∈ m.tm ∧ d ≠ some t := by
  cases d with
  | none => exact ⟨h, by simp⟩
  | some d =>
    have h2 := dropN_mem.1 h
    exact ⟨h2.1, fun e => h2.2 (by injection e with e; exact e.symm)⟩
theorem strike_it {m : Ms} {d : Option Nat} {ti : List Nat} {lf : List Int} (h : (m.strike d).it = some (ti, lf)) : ∃ ti', m.it = some (ti', lf) ∧ ∀ t ∈ ti, t ∈ ti' ∧ d ≠ some t := by
  cases d with
  | none => exact ⟨ti, h, fun t ht => ⟨ht, by simp⟩⟩
  | some d =>
    have h' : (m.it.map fun x => (dropN d x.1, x.2)) = some (ti, lf) := h
    obtain ⟨⟨ti', lf'⟩, h1, h2⟩ := Option.map_eq_some_iff.1 h'
    simp only [Prod.mk.injEq] at h2
    obtain ⟨rfl, rfl⟩ := h2
    exact ⟨ti', h1, fun t ht => by
      have h3 := dropN_mem.1 ht
      exact ⟨h3.1, fun e => h3.2 (by injection e with e; exact e.symm)⟩⟩
theorem strike_kt {m : Ms} {d : Option Nat} : (m.strike d).kt = m.kt ∧ (m.strike d).vt = m.vt ∧ (m.strike d).kv = m.kv ∧ (m.strike d).cur = m.cur := by
  cases d <;> exact ⟨rfl, rfl, rfl, rfl⟩

/-- The map behind a step that does not speak of it. -/
theorem MOKb.step {m : Ms} {os os' : Nat → Option Obj} {d : Option Nat} {v : Value} {b : Nat} (h : MOKb P C m os a w H Φ b)
    (hk : ∀ b, Free C w H Φ os b → (¬ ∃ c t f, w.heap[b]? = some (.cells c t f)) → Free C w' H' Φ' os' b ∧ w'.heap[b]? = w.heap[b]?) {m' : Ms} (hm : m' = (m.strike d).calm ∨ (w' = w ∧ m' = m.strike d)) :
    MOKb P C m' os' (a.put d v) w' H' Φ' b := by
  obtain ⟨h1, h2, hb, hat, htm, hit⟩ := h
  obtain ⟨k1, k2⟩ := hk b hb hat.not_cells
  have e : m'.kt = m.kt ∧ m'.vt = m.vt ∧ m'.kv = m.kv ∧ m'.tm = (m.strike d).tm ∧ m'.it = (m.strike d).it := by
    rcases hm with rfl | ⟨_, rfl⟩
    · exact ⟨strike_kt.1, strike_kt.2.1, strike_kt.2.2.1, rfl, rfl⟩
    · exact ⟨strike_kt.1, strike_kt.2.1, strike_kt.2.2.1, rfl, rfl⟩
  obtain ⟨e1, e2, e3, e4, e5⟩ := e
  refine ⟨by rw [e1]; exact h1, by rw [e2]; exact h2, k1, ?_, ?_, ?_⟩
  · have := hat.block k2
    unfold MapAt at this ⊢
    rw [e1, e2, e3]; exact this
  · intro t ht
    rw [e4] at ht
    obtain ⟨q1, q2⟩ := strike_tm ht
    rw [getD_put_ne q2]
    exact htm t q1
  · intro ti lf hti
    rw [e5] at hti
    obtain ⟨ti', q1, q2⟩ := strike_it hti
    obtain ⟨i, hi, hia, hit2, hcur⟩ := hit ti' lf q1
    obtain ⟨k3, k4⟩ := hk i hi hia.not_cells
    refine ⟨i, k3, ?_, fun t ht => ?_, fun n u hc => ?_⟩
    · have := hia.block k2 k4
      unfold IterAt at this ⊢
      rw [e1, e2, e3]; exact this
    · obtain ⟨q3, q4⟩ := q2 t ht
      rw [getD_put_ne q4]
      exact hit2 t q3
    · rcases hm with rfl | ⟨rfl, rfl⟩
      · cases hc
      · exact hcur n u (by rw [← (strike_kt (m := m) (d := d)).2.2.2]; exact hc)

theorem MOK.step {m : Ms} {os os' : Nat → Option Obj} {d : Option Nat} {v : Value} (h : MOK P C m os a w H Φ)
    (hk : ∀ b, Free C w H Φ os b → (¬ ∃ c t f, w.heap[b]? = some (.cells c t f)) → Free C w' H' Φ' os' b ∧ w'.heap[b]? = w.heap[b]?) {m' : Ms} (hm : m' = (m.strike d).calm ∨ (w' = w ∧ m' = m.strike d)) :
    MOK P C m' os' (a.put d v) w' H' Φ' := by
  obtain ⟨b, h⟩ := h
  exact ⟨b, h.step hk hm⟩

theorem simM_step {d : Option Nat} {v : Value} (hs : SimB P C s a w H Φ) (hM : MapOK P C s.mp s.obj a w H Φ) (h : Sim P (reC C w H) s' (a.put d v) w') {mp : Option Ms}
    (hm : mp = none ∨ ∃ m m', s.mp = some m ∧ mp = some m' ∧ (m' = (m.strike d).calm ∨ (w' = w ∧ m' = m.strike d))) : SimM P C (s'.withM mp) (a.put d v) w' := by
  obtain ⟨H', Φ', h⟩ := h
  obtain ⟨k1, k2⟩ := hs.unbase h
  refine ⟨H', Φ', k1.withM mp, ?_⟩
  rcases hm with rfl | ⟨m, m', e1, rfl, hm⟩
  · trivial
  · rw [e1] at hM
    exact MOK.step hM k2 hm

/-- A change of a block that nobody owns and that holds no cells. -/
theorem SimB.other (hs : SimB P C s a w H Φ) {b : Nat} (hb : Free C w H Φ s.obj b) (hm : Mod (· = b) w w') : SimB P C (s.killIf AV.isUpd) a w' H Φ := by
  have hne : ∀ j o, s.obj j = some o → ∀ c ∈ (Φ j).fp, c ≠ b := fun j o ho c hc e => hb.obj j o ho (by rw [← e]; exact hc)
  have := hs.changes (s' := s.killIf AV.isUpd) (ch := fun _ => none) (F := AV.isUpd) (w' := w') (H' := H) (fun id x hx => by cases hx) (fun id => rfl) (fun t => St.get_killIf _ _ _) (fun id x hx => by cases hx) (fun _ h => h) (FH.le_refl _)
    (hs.hok.mod hm (fun k hk => by rw [hk]; exact hb.fz)) hs.hnew (hs.mod.trans_new hm (fun k hk => by rw [hk]; exact hb.may)) hm.size
    (fun j o' _ ho c hc => ⟨hm.block c ((hs.os j o' ho).2 c hc).2.2 (hne j o' ho c hc), ((hs.os j o' ho).2 c hc).1⟩) (fun id x hx => by cases hx) (fun i j x y _ hx => by cases hx)
  exact this
end

/-! ## Operations -/
def GoesM (P : Program) (C : Ctx) (o : Oper) (a : Act) (w : World) (s' : St) : Prop :=
  match (execOp a.eval o).run P w with
  | .ok (.value v) w' => SimM P C s' (a.put o.dst v) w'
  | .ok .skip w' => SimM P C s' (a.put o.dst undef) w'
  | .ok (.enter f args) w' => Calls P f args w' fun e w'' => ∃ v, e = .returned v ∧ SimM P C s' (a.put o.dst v) w''
  | _ => False

section
variable {P : Program} {C : Ctx} {cfg : Cfg} {R : Type} {r : R} {s s' : St} {a : Act} {w w' : World} {H H' : FH} {Φ Φ' : Nat → Info} {dst : Option Nat} {ty : TypeId} {pos : String} {after : Array Edge} {guard : Option (Nat × Bool)} {k : St → Option R}

theorem goesM_val {o : Oper} {v : Value} (hrun : (execOp a.eval o).run P w = .ok (.value v) w') (h : SimM P C s' (a.put o.dst v) w') : GoesM P C o a w s' := by
  unfold GoesM; rw [hrun]; exact h
theorem goesM_skip {o : Oper} (hrun : (execOp a.eval o).run P w = .ok .skip w') (h : SimM P C s' (a.put o.dst undef) w') : GoesM P C o a w s' := by
  unfold GoesM; rw [hrun]; exact h

theorem goes_lift {o : Oper} (hs : SimB P C s a w H Φ) (hM : MapOK P C s.mp s.obj a w H Φ) (h : Goes P (reC C w H) o a w s') {mp : Option Ms} (hm : mp = none ∨ ∃ m, s.mp = some m ∧ mp = some (m.strike o.dst).calm) : GoesM P C o a w (s'.withM mp) := by
  have hm' : ∀ w', mp = none ∨ ∃ m m', s.mp = some m ∧ mp = some m' ∧ (m' = (m.strike o.dst).calm ∨ (w' = w ∧ m' = m.strike o.dst)) := fun w' => hm.imp_right (fun ⟨m, e1, e2⟩ => ⟨m, _, e1, e2, .inl rfl⟩)
  unfold Goes at h
  unfold GoesM
  split at h
  · rename_i v w' e; rw [e]; exact simM_step hs hM h (hm' _)
  · rename_i w' e; rw [e]; exact simM_step hs hM h (hm' _)
  · rename_i f args w' e
    rw [e]
    refine h.mono ?_
    rintro e w'' ⟨v, he, hsim⟩
    exact ⟨v, he, simM_step hs hM hsim (hm' _)⟩
  · exact h.elim

theorem still_lift {o : Oper} (hs : SimB P C s a w H Φ) (hM : MapOK P C s.mp s.obj a w H Φ) (h : Still P (reC C w H) o a w s') {mp : Option Ms} (hm : mp = none ∨ ∃ m, s.mp = some m ∧ mp = some (m.strike o.dst)) : GoesM P C o a w (s'.withM mp) := by
  obtain ⟨v, h1, h2⟩ := h
  exact goesM_val (h1 w (Mod.refl _ _)) (simM_step hs hM h2 (hm.imp_right (fun ⟨m, e1, e2⟩ => ⟨m, _, e1, e2, .inr ⟨rfl, rfl⟩⟩)))

theorem intArg_ok (hs : SimB P C s a w H Φ) {x : Operand} {n : Int} (h : intArg s x = some n) : a.eval x = .int .i64 n := by
  unfold intArg at h
  split at h
  · rename_i he
    cases h
    exact (evalA_ok hs none_fz he).int
  · cases h
theorem inI_some {n : Int} {k : Option R} (h : inI n k = some r) : (Lit.int .i64 n).wf = true ∧ k = some r := by
  rw [inI_eq] at h
  split at h
  · rename_i hh
    refine ⟨?_, h⟩
    have e1 : IntKind.i64.min = -9223372036854775808 := by decide
    have e2 : IntKind.i64.max = 9223372036854775807 := by decide
    simp only [Lit.wf, e1, e2, Bool.and_eq_true, decide_eq_true_eq]
    exact hh
  · cases h
theorem mapTmp_ok {m : Ms} {x : Operand} {b : Nat} (htm : ∀ t ∈ m.tm, a.tmps.getD t undef = .map (some b)) (h : mapTmp m x = true) : a.eval x = .map (some b) := by
  cases x with
  | tmp t => exact htm t (hasT_mem.1 h)
  | _ => cases h
theorem iterTmp_ok {m : Ms} {x : Operand} (h : iterTmp m x = true) : ∃ t ti lf, x = .tmp t ∧ m.it = some (ti, lf) ∧ t ∈ ti := by
  cases x with
  | tmp t =>
    unfold iterTmp at h
    simp only at h
    split at h
    · rename_i ti lf e; exact ⟨t, ti, lf, rfl, e, hasT_mem.1 h⟩
    · cases h
  | _ => cases h

theorem plain_zero (vt : TypeId) (hv : TyOK P vt (.int .i64)) : plainElem (H := Unit) P vt (.int .i64 0) = some (.lit (.int .i64 0), []) := plainElem_int hv.int (by decide)

theorem ownsMap_size {k : TypeId} {Rd : Value → Option (MD × List MemPlace)} {b n : Nat} {D : MD} (h : w.ownsMap P k Rd b n D) : w.ownsMap P k Rd b (Maps.size D) D := by
  obtain ⟨es, clock, h1, h2, _, rfl⟩ := h
  exact ⟨es, clock, h1, h2, by simp [Maps.size, length_sorted], rfl⟩

theorem Mod.of_grown {b : Nat} (h : w.grownBy w' (some b)) : Mod (· = b) w w' := ⟨h.os, h.tape, h.output, h.size, fun i hi hne => h.block i hi (fun e => hne (by injection e))⟩
theorem Mod.of_grown0 (h : w.grownBy w' none) : Mod noBlock w w' := ⟨h.os, h.tape, h.output, h.size, fun i hi _ => h.block i hi (by simp)⟩

theorem Free.keep {b c : Nat} (h : Free C w H Φ s.obj c) (hm : Mod (· = b) w w') : Free C w' H Φ (s.killIf AV.isUpd).obj c := ⟨h.fz, h.obj, h.may, Nat.lt_of_lt_of_le h.lt hm.size⟩

theorem MOK.iter_at {m : Ms} {os : Nat → Option Obj} (h : MOK P C m os a w H Φ) {x : Operand} (hx : iterTmp m x = true) : ∃ b ti lf i, m.it = some (ti, lf) ∧ a.eval x = .pointer (some ⟨i, 0, none⟩) ∧ Free C w H Φ os b ∧ (∀ t ∈ m.tm, a.tmps.getD t undef = .map (some b)) ∧ Free C w H Φ os i ∧ IterAt P w m b i lf ∧
    (∀ t ∈ ti, a.tmps.getD t undef = .pointer (some ⟨i, 0, none⟩)) ∧ ∀ n v, m.cur = some (n, v) → (Instr.entry (.pointer (some ⟨i, 0, none⟩))).run P w = .ok (.tuple #[.int .i64 n, .int .i64 v]) w := by
  obtain ⟨t, ti, lf, rfl, hit, ht⟩ := iterTmp_ok hx
  obtain ⟨b, _, _, hb, hat, htm, hi⟩ := h
  obtain ⟨i, h1, h2, h3, h4⟩ := hi ti lf hit
  exact ⟨b, ti, lf, i, hit, h3 t ht, hb, htm, h1, h2, h3, h4⟩

theorem absMap_goes (hcfg : CfgOK P cfg) (hC : CtxOK C cfg) (habs : ∀ {C' : Ctx} {o : Oper} {k' : St → Option R}, CtxOK C' cfg → SimB P C' s a w H Φ → dstOK cfg.nt o.dst = true → absOp cfg o s k' = some r → ∃ s', k' s' = some r ∧ (isStill o = true → Still P C' o a w s') ∧ Goes P C' o a w s')
    {o : Oper} {m : Ms} (hs : SimB P C s a w H Φ) (hmp : s.mp = some m) (hM : MOK P C m s.obj a w H Φ) (hd : dstOK cfg.nt o.dst = true) (h : absMap cfg o s m k = some r) : ∃ s', k s' = some r ∧ GoesM P C o a w s' := by
  have hM' : MapOK P C s.mp s.obj a w H Φ := by rw [hmp]; exact hM
  have hdC : dstOK C.nt o.dst = true := by rw [hC.nt]; exact hd
  have def1 : ∀ {k' : St → Option R}, (k' = fun s' => k (s'.withM (some (bif isStill o then m.strike o.dst else (m.strike o.dst).calm)))) → absOp cfg o s k' = some r → ∃ s', k s' = some r ∧ GoesM P C o a w s' := by
    rintro k' rfl h
    obtain ⟨s', h1, h2, h3⟩ := habs (reC_ok hC) hs.rebase hd h
    cases hst : isStill o with
    | true =>
      rw [hst, cond_true] at h1
      exact ⟨_, h1, still_lift hs hM' (h2 hst) (.inr ⟨m, hmp, rfl⟩)⟩
    | false =>
      rw [hst, cond_false] at h1
      exact ⟨_, h1, goes_lift hs hM' h3 (.inr ⟨m, hmp, rfl⟩)⟩
  have same : ∀ {v : Value} {av : AV}, RepA P C w H Φ s.obj av v → (execOp a.eval o).run P w = .ok (.value v) w → GoesM P C o a w ((s.setDst o.dst av).withM (some (m.strike o.dst))) := by
    intro v av hv hrun
    refine goesM_val hrun ⟨H, Φ, (hs.setDst hdC hv).withM _, ?_⟩
    have ho : ((s.setDst o.dst av).withM (some (m.strike o.dst))).obj = s.obj := by unfold St.setDst; cases o.dst <;> rfl
    show MOK P C _ ((s.setDst o.dst av).withM (some (m.strike o.dst))).obj _ w H Φ
    rw [ho]
    exact MOK.step hM (fun b hb _ => ⟨hb, rfl⟩) (.inr ⟨rfl, rfl⟩)
  obtain ⟨b, hk, hv, hb, ⟨D, hown, hrel⟩, htm, hit⟩ := id hM
  have K := Maps.int_keyed hk.int
  have move_case : ∀ (x : Operand), (o.op = .move x ∨ o.op = .assign x) → absOp cfg o s (fun s' => k (s'.withM (some (bif mapTmp m x then (m.strike o.dst).add o.dst else m.strike o.dst)))) = some r → ∃ s', k s' = some r ∧ GoesM P C o a w s' := by
    intro x hop h
    have hst : isStill o = true := by rcases hop with e | e <;> simp [isStill, e]
    cases hq : mapTmp m x with
    | false =>
      rw [hq] at h
      exact def1 (by rw [hst]; rfl) h
    | true =>
      rw [hq] at h
      simp only [cond_true] at h
      obtain ⟨s', h1, h2, _⟩ := habs (reC_ok hC) hs.rebase hd h
      obtain ⟨v, g1, H', Φ', g2⟩ := h2 hst
      have g1 := g1 w (Mod.refl _ _)
      have hrun : (execOp a.eval o).run P w = .ok (.value (a.eval x)) w := by
        obtain ⟨dst, op, ty, pos, after, guard⟩ := o
        rcases hop with e | e <;> (simp only at e; subst e; rfl)
      rw [hrun] at g1
      have hv : v = a.eval x := by injection g1 with g1 _; injection g1 with g1; exact g1.symm
      subst hv
      obtain ⟨k1, k2⟩ := hs.unbase g2
      obtain ⟨b, hM⟩ := id hM
      have hb := hM.step (d := o.dst) (v := a.eval x) k2 (.inr ⟨rfl, rfl⟩)
      refine ⟨_, h1, goesM_val hrun ⟨H', Φ', k1.withM _, b, ?_⟩⟩
      have hx := mapTmp_ok hM.2.2.2.2.1 hq
      cases hdst : o.dst with
      | none => rw [hdst] at hb; exact hb
      | some d =>
        rw [hdst] at hb hd
        obtain ⟨q1, q2, q3, q4, q5, q6⟩ := hb
        refine ⟨q1, q2, q3, q4, fun t ht => ?_, q6⟩
        rcases List.mem_cons.1 ht with rfl | ht
        · rw [getD_put (by rw [hs.size, hC.nt]; exact Eq.mp Nat.blt_eq hd), if_pos rfl]
          exact hx
        · exact q5 t ht
  obtain ⟨dst, op, ty, pos, after, guard⟩ := o
  simp only at hdC
  unfold absMap at h
  split at h
  · -- lookup
    rename_i T x i hop
    simp only at hop
    subst hop
    cases hq : mapTmp m x && decide (lk cfg.maps T = some (m.kt, m.vt)) with
    | false => rw [hq] at h; cases h
    | true =>
    rw [hq, cond_true] at h
    rw [Bool.and_eq_true] at hq
    have hx := mapTmp_ok htm hq.1
    obtain ⟨hT, _, _⟩ := hcfg.maps T _ _ (of_decide_eq_true hq.2)
    split at h
    case h_2 => cases h
    rename_i n hn
    have hi := intArg_ok hs hn
    obtain ⟨hwf, h⟩ := inI_some h
    obtain ⟨v, ps, hrun, hRv⟩ := hown.look_ok K hT (hv.zeroValue w) (plain_zero m.vt hv) (Maps.keyOf_int_mk hk.int hwf)
    rw [hrel.val] at hRv
    rw [hrel.has] at hrun
    split at h
    · rename_i u hu
      rw [hu] at hRv hrun
      obtain ⟨c, rfl, hc, _⟩ := plainElem_int_inv hv.int hRv
      simp only [Prod.mk.injEq, DataW.lit.injEq, Lit.int.injEq, true_and] at hc
      obtain ⟨rfl, _⟩ := hc
      exact ⟨_, h, same (v := .tuple #[.int .i64 u, .bool true]) ⟨.int .i64 u, [.bool true], rfl, RepA.mk_int _ _ _ _ _ _, .bool true, [], rfl, RepA.mk_bool _ _ _ _ _, rfl⟩ (by simp [execOp, hx, hi, hrun])⟩
    · rename_i hu
      rw [hu] at hRv hrun
      obtain ⟨c, rfl, hc, _⟩ := plainElem_int_inv hv.int hRv
      simp only [Prod.mk.injEq, DataW.lit.injEq, Lit.int.injEq, true_and] at hc
      obtain ⟨rfl, _⟩ := hc
      exact ⟨_, h, same (v := .tuple #[.int .i64 0, .bool false]) ⟨.int .i64 0, [.bool false], rfl, RepA.mk_int _ _ _ _ _ _, .bool false, [], rfl, RepA.mk_bool _ _ _ _ _, rfl⟩ (by simp [execOp, hx, hi, hrun])⟩
  · -- a store
    rename_i T x i y hop
    simp only at hop
    subst hop
    cases hq : mapTmp m x && decide (lk cfg.maps T = some (m.kt, m.vt)) with
    | false => rw [hq] at h; cases h
    | true =>
    rw [hq, cond_true] at h
    rw [Bool.and_eq_true] at hq
    have hx := mapTmp_ok htm hq.1
    obtain ⟨hT, _, _⟩ := hcfg.maps T _ _ (of_decide_eq_true hq.2)
    split at h
    case h_2 => cases h
    rename_i n u hn hu
    have hi := intArg_ok hs hn
    have hy := intArg_ok hs hu
    obtain ⟨hwf, h⟩ := inI_some h
    obtain ⟨hwf2, h⟩ := inI_some h
    obtain ⟨_, hlen, h⟩ := lenK_some h
    have hkey := Maps.keyOf_int_mk hk.int hwf
    obtain ⟨w', hrun, hown', hturn⟩ := hown.store K hT (by unfold maxLen; omega) hkey (plainElem_int hv.int hwf2)
    have hmod := Mod.of_grown hturn.grown
    have hrel' := hrel.put (hown.tidy K) (K.key hkey) u
    refine ⟨_, h, goesM_skip (w' := w') (by simp [execOp, hx, hi, hy, hrun]) ⟨H, Φ, ((hs.other hb hmod).setDst hdC (av := .dead) (v := undef) trivial).withM _, ?_⟩⟩
    have ho : ∀ mm, ((((s.killIf AV.isUpd).setDst dst .dead)).withM mm).obj = s.obj := by intro mm; unfold St.setDst; cases dst <;> rfl
    show MOK P C _ _ _ _ _ _
    rw [ho]
    refine ⟨b, hk, hv, hb.keep hmod, ⟨_, ?_, hrel'⟩, fun t ht => ?_, fun ti lf e => by cases e⟩
    · rw [← hrel'.size]
      exact ownsMap_size hown'
    · obtain ⟨q1, q2⟩ := strike_tm ht
      rw [getD_put_ne q2]; exact htm t q1
  · -- range
    rename_i T x hop
    simp only at hop
    subst hop
    split at h
    case h_2 => cases h
    rename_i d hdst
    simp only at hdst
    subst hdst
    cases hq : mapTmp m x && decide (lk cfg.maps T = some (m.kt, m.vt)) with
    | false => rw [hq] at h; cases h
    | true =>
    rw [hq, cond_true] at h
    rw [Bool.and_eq_true] at hq
    have hx := mapTmp_ok htm hq.1
    obtain ⟨hT, _, _⟩ := hcfg.maps T _ _ (of_decide_eq_true hq.2)
    obtain ⟨w', hrun, hrg, hgr, hsz⟩ := hown.range K hT
    have hmod := Mod.of_grown0 hgr
    have hs2 := (hs.grow hmod).set (d := d) (av := .dead) (v := .pointer (some ⟨w.heap.size, 0, none⟩)) (Eq.mp Nat.blt_eq hdC) trivial
    refine ⟨_, h, goesM_val (w' := w') (v := .pointer (some ⟨w.heap.size, 0, none⟩)) (by simp [execOp, hx, hrun]) ⟨H, Φ, hs2.withM _, ?_⟩⟩
    have hfr : ∀ c, Free C w H Φ s.obj c → Free C w' H Φ s.obj c := fun c hc => ⟨hc.fz, hc.obj, hc.may, by have := hc.lt; omega⟩
    refine ⟨b, hk, hv, hfr b hb, ⟨D, ?_, hrel⟩, fun t ht => ?_, ?_⟩
    · exact hrg.owns
    · have ht' := dropN_mem.1 ht
      rw [getD_put_ne (fun e => ht'.2 (by injection e with e; exact e.symm))]
      exact htm t ht'.1
    · rintro ti lf e
      cases e
      refine ⟨w.heap.size, ⟨?_, ?_, .inr hs.mod.size, by omega⟩, ⟨D, _, _, hrg, hrel, fun n => ?_⟩, fun t ht => ?_, fun n v e => by cases e⟩
      · cases hq : H w.heap.size with
        | none => rfl
        | some c => obtain ⟨t, f, h⟩ := hs.hok _ _ hq; exact absurd (Array.getElem?_eq_some_iff.1 h).1 (by omega)
      · intro id o ho hbf
        have := ((hs.os id o ho).2 _ hbf).2.2
        omega
      · rw [hrel.has]; exact lkI_isSome
      · rw [List.mem_singleton.1 ht]
        rw [getD_put (by rw [hs.size]; exact Eq.mp Nat.blt_eq hdC), if_pos rfl]
  · -- next
    rename_i x hop
    simp only at hop
    subst hop
    cases hq : iterTmp m x with
    | false => rw [hq] at h; cases h
    | true =>
    rw [hq, cond_true] at h
    obtain ⟨b2, ti0, lf0, i, hit0, hx, hb2, htm2, hi, hia, hti, hcur⟩ := hM.iter_at hq
    split at h
    case h_2 => cases h
    rename_i ti lf hti'
    obtain ⟨ti'', e1, e2⟩ := strike_it hti'
    rw [hit0] at e1
    obtain ⟨rfl, rfl⟩ : ti'' = ti0 ∧ lf = lf0 := by injection e1 with e1; injection e1 with e1 e2; exact ⟨e1.symm, e2.symm⟩
    obtain ⟨D2, left, cnt, hrg, hrel2, hleft⟩ := hia
    rcases hrg.next K ty with ⟨_, hnone, hrun⟩ | ⟨key, val, kl, y, w', cnt', hkey, hlk, hRv, hat, hrun, hrg', _, hgr, hsz, hent⟩
    · have hnil : lf = [] := by
        match lf, hleft with
        | [], _ => rfl
        | n :: l, hleft =>
          have := (hleft n).2 (by simp)
          rw [hnone] at this; cases this
      subst hnil
      simp only at h
      refine ⟨_, h, goesM_val (w' := w) (v := .tuple #[.bool false]) (by simp [execOp, hx, hrun]) ⟨H, Φ, (hs.setDst hdC (av := .cons (.val .bool false) .nil) (v := .tuple #[.bool false]) ⟨.bool false, [], rfl, RepA.mk_bool _ _ _ _ _, rfl⟩).withM _, ?_⟩⟩
      have ho : ∀ mm, (((s.setDst dst (.cons (.val .bool false) .nil))).withM mm).obj = s.obj := by intro mm; unfold St.setDst; cases dst <;> rfl
      show MOK P C _ _ _ _ _ _
      rw [ho]
      exact MOK.step hM (fun b hb _ => ⟨hb, rfl⟩) (.inl rfl)
    · obtain ⟨n, rfl, rfl, hwf⟩ := Maps.keyOf_int_inv hk.int hkey
      have hmem : n ∈ lf := (hleft n).1 hlk
      have h' : (match lkI m.kv n with
        | some v => k (((s.killIf AV.isUpd).setDst dst (.cons (.val .bool true) (.cons (avI n) (.cons (avI v) .nil)))).withM (some ⟨m.kt, m.vt, (m.strike dst).tm, m.kv, some (ti, dropI n lf), some (n, v)⟩))
        | none => none) = some r := by
        split at h
        · cases hmem
        · exact dem_some h n hmem
      obtain ⟨v0, hv0⟩ : ∃ v0, lkI m.kv n = some v0 := by
        cases hq : lkI m.kv n with
        | none => rw [hq] at h'; cases h'
        | some v0 => exact ⟨v0, rfl⟩
      rw [hv0] at h'
      have hval := hat (.lit (.int .i64 0))
      rw [hrel2.val, hv0] at hval
      simp only at hval
      obtain ⟨y1, y2⟩ := y
      simp only at hval
      subst hval
      obtain ⟨c, rfl, hc, _⟩ := plainElem_int_inv hv.int hRv
      simp only [Prod.mk.injEq, DataW.lit.injEq, Lit.int.injEq, true_and] at hc
      obtain ⟨rfl, _⟩ := hc
      have hmod := Mod.of_grown hgr
      refine ⟨_, h', goesM_val (w' := w') (v := .tuple #[.bool true, .int .i64 n, .int .i64 v0]) (by simp [execOp, hx, hrun])
        ⟨H, Φ, ((hs.other hi hmod).setDst hdC (av := .cons (.val .bool true) (.cons (avI n) (.cons (avI v0) .nil))) (v := .tuple #[.bool true, .int .i64 n, .int .i64 v0])
          ⟨.bool true, [.int .i64 n, .int .i64 v0], rfl, RepA.mk_bool _ _ _ _ _, .int .i64 n, [.int .i64 v0], rfl, RepA.mk_int _ _ _ _ _ _, .int .i64 v0, [], rfl, RepA.mk_int _ _ _ _ _ _, rfl⟩).withM _, ?_⟩⟩
      have ho : ∀ av mm, ((((s.killIf AV.isUpd).setDst dst av)).withM mm).obj = s.obj := by intro av mm; unfold St.setDst; cases dst <;> rfl
      show MOK P C _ _ _ _ _ _
      rw [ho]
      refine ⟨b2, hk, hv, hb2.keep hmod, ⟨D2, hrg'.owns, hrel2⟩, fun t ht => ?_, ?_⟩
      · obtain ⟨q1, q2⟩ := strike_tm ht
        rw [getD_put_ne q2]; exact htm2 t q1
      · rintro ti3 lf3 e
        cases e
        refine ⟨i, hi.keep hmod, ⟨D2, _, cnt', hrg', hrel2, fun j => ?_⟩, fun t ht => ?_, ?_⟩
        · rw [Bool.and_eq_true, hleft, dropI_mem]
          refine and_congr_right (fun _ => ?_)
          constructor
          · intro hs2 e
            subst e
            rw [WideAt.sameKey_self (K.key hkey)] at hs2
            cases hs2
          · intro hne
            rw [Maps.sameKey_ne (int_ne hne)]; rfl
        · obtain ⟨q1, q2⟩ := e2 t ht
          rw [getD_put_ne q2]; exact hti t q1
        · rintro n2 v2 e
          cases e
          exact hent
  · -- entry
    rename_i x hop
    simp only at hop
    subst hop
    cases hq : iterTmp m x with
    | false => rw [hq] at h; cases h
    | true =>
    rw [hq, cond_true] at h
    obtain ⟨b2, ti0, lf0, i, hit0, hx, hb2, htm2, hi, hia, hti, hcur⟩ := hM.iter_at hq
    split at h
    case h_2 => cases h
    rename_i n v hc
    have hrun := hcur n v hc
    exact ⟨_, h, same (v := .tuple #[.int .i64 n, .int .i64 v]) ⟨.int .i64 n, [.int .i64 v], rfl, RepA.mk_int _ _ _ _ _ _, .int .i64 v, [], rfl, RepA.mk_int _ _ _ _ _ _, rfl⟩ (by simp [execOp, hx, hrun])⟩
  · -- a call
    rename_i c hop
    simp only at hop
    subst hop
    split at h
    · -- len
      rename_i hc
      split at h
      case h_2 => cases h
      rename_i x T hxl hTl
      cases hq : mapTmp m x && decide (lk cfg.maps T = some (m.kt, m.vt)) with
      | false =>
        rw [hq, cond_false] at h
        have hst : isStill ⟨dst, .call c, ty, pos, after, guard⟩ = true := by simp [isStill, hc]
        exact def1 (by rw [hst]; rfl) h
      | true =>
        rw [hq, cond_true] at h
        rw [Bool.and_eq_true] at hq
        have hx := mapTmp_ok htm hq.1
        obtain ⟨hT, _, _⟩ := hcfg.maps T _ _ (of_decide_eq_true hq.2)
        have hrun := hown.len hT ty
        rw [hrel.size] at hrun
        have e2 : c = ⟨.builtin .len, #[x], #[T]⟩ := by
          obtain ⟨c1, c2, c3⟩ := c
          simp only at hc hxl hTl
          rw [hc, ← Array.toArray_toList (xs := c2), hxl, ← Array.toArray_toList (xs := c3), hTl]
        subst e2
        exact ⟨_, h, same (RepA.mk_int w H Φ s.obj .i64 m.kv.length) (by simp [execOp, resolve, invoke, builtin, hx, hrun])⟩
    · -- delete
      rename_i hc
      split at h
      case h_2 => cases h
      rename_i x i T T' hxl hTl
      cases hq : mapTmp m x && decide (lk cfg.maps T = some (m.kt, m.vt)) && Nat.beq T' m.kt with
      | false => rw [hq] at h; cases h
      | true =>
      rw [hq, cond_true] at h
      rw [Bool.and_eq_true, Bool.and_eq_true] at hq
      have hx := mapTmp_ok htm hq.1.1
      have hT' := Nat.eq_of_beq_eq_true hq.2
      subst hT'
      obtain ⟨hT, _, _⟩ := hcfg.maps T _ _ (of_decide_eq_true hq.1.2)
      split at h
      case h_2 => cases h
      rename_i n hn
      have hi := intArg_ok hs hn
      obtain ⟨hwf, h⟩ := inI_some h
      have hkey := Maps.keyOf_int_mk hk.int hwf
      obtain ⟨w', hrun, hown', hturn⟩ := hown.drop K hT hkey ty
      have hmod := Mod.of_grown hturn.grown
      have hrel' := hrel.del (hown.tidy K) n
      have e2 : c = ⟨.builtin .delete, #[x, i], #[T, m.kt]⟩ := by
        obtain ⟨c1, c2, c3⟩ := c
        simp only at hc hxl hTl
        rw [hc, ← Array.toArray_toList (xs := c2), hxl, ← Array.toArray_toList (xs := c3), hTl]
      subst e2
      refine ⟨_, h, goesM_val (w' := w') (v := .tuple #[]) (by simp [execOp, resolve, invoke, builtin, hx, hi, hrun]) ⟨H, Φ, ((hs.other hb hmod).setDst hdC (av := .nil) (v := .tuple #[]) rfl).withM _, ?_⟩⟩
      have ho : ∀ mm, ((((s.killIf AV.isUpd).setDst dst .nil)).withM mm).obj = s.obj := by intro mm; unfold St.setDst; cases dst <;> rfl
      show MOK P C _ _ _ _ _ _
      rw [ho]
      refine ⟨b, hk, hv, hb.keep hmod, ⟨_, ?_, hrel'⟩, fun t ht => ?_, fun ti lf e => by cases e⟩
      · rw [← hrel'.size]
        exact ownsMap_size hown'
      · obtain ⟨q1, q2⟩ := strike_tm ht
        rw [getD_put_ne q2]; exact htm t q1
    · exact def1 rfl h
  · rename_i x hop
    simp only at hop
    subst hop
    exact move_case x (.inl rfl) h
  · rename_i x hop
    simp only at hop
    subst hop
    exact move_case x (.inr rfl) h
  · exact def1 rfl h
end
end Go.Vi
