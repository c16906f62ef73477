/- The abstract interpreter 'Vi', last part: what a law's arguments read as, and the law's statement from its contract. No condition beyond those typed in each theorem. -/
import Derived.Test.YtjhphibadndkcaaVi30
import Derived.Test.YtjhphibadndkcaaRows
import Derived.Below
import Derived.ChangeSame
import Derived.OpenShut
import Derived.ProofKit
import Derived.WideKeyArgs
import Derived.JoinedCond
namespace Go.Vi
open Go.ChangeShapes Go.WideShapes Go.ChangeAt Go.RowKit Go.WideElems Go.Proofs.Ytjhphibadndkcaa

/-- Types that a law's parameters may have here. -/
def Ty.plain : Ty → Bool
  | .int _ => true
  | .bool => true
  | .list own _ e => !own && e.plain
  | .pair a b => a.plain && b.plain
  | .str t => t.plain
  | _ => false
/-- Integers fit their kinds. -/
def WfD : (τ : Ty) → τ.den → Prop
  | .int k, x => k.min ≤ x ∧ x ≤ k.max
  | .list _ _ e, l => ∀ y ∈ l, WfD e y
  | .pair a b, x => WfD a x.1 ∧ WfD b x.2
  | .str t, x => WfD t x
  | _, _ => True
def bulk : (τ : Ty) → τ.den → Nat
  | .list _ _ e, l => (l.map (bulk e)).sum + 1
  | .pair a b, x => bulk a x.1 + bulk b x.2
  | .str t, x => bulk t x + 1
  | _, _ => 1
def WfAll : (ps : List PTy) → PDens ps → Prop
  | [], _ => True
  | .v τ :: ps, d => WfD τ d.1 ∧ WfAll ps d.2
  | .r _ :: ps, d => WfAll ps d.2
  | .m _ :: ps, d => WfAll ps d.2
  | .mr _ _ :: ps, d => WfAll ps d.2
def bulkAll : (ps : List PTy) → PDens ps → Nat
  | [], _ => 0
  | .v τ :: ps, d => bulk τ d.1 + bulkAll ps d.2
  | .r _ :: ps, d => bulkAll ps d.2
  | .m _ :: ps, d => bulkAll ps d.2
  | .mr _ _ :: ps, d => bulkAll ps d.2
/-- The parameters' types. -/
def parsB (P : Program) : List PTy → List TypeId → Bool
  | [], [] => true
  | .v τ :: ps, t :: ts => τ.plain && τ.isFz && (tyB P τ).1 t && P.readableRec t && Nat.blt t P.types.size && parsB P ps ts
  | _, _ => false

def allH (w : World) : FH := fun b => match w.heap[b]? with
  | some (.cells c _ _) => some c
  | _ => none
theorem allH_ok (w : World) : HOk (allH w) w := by
  intro b c h
  unfold allH at h
  split at h
  · rename_i c' t f e; cases h; exact ⟨t, f, e⟩
  · cases h

section
variable {H : Type} {enc : TypeId × Value → H} {P : Program} {W : World}

theorem cells_seg {a : Addr} {n : Nat} {cs : List Value} (h : W.cells? 0 a n = some cs) (hn : 0 < n) : ∃ b o blk, a = ⟨b, o, none⟩ ∧ allH W b = some blk ∧ cs = seg blk o n ∧ cs.length = n := by
  unfold World.cells? at h
  rw [if_pos (Nat.zero_le _)] at h
  have hl : cs.length = n := by simpa using mapM_some_length h
  have hg := mapM_some_get h
  have h0 := hg 0 0 (by simp [hn])
  obtain ⟨b, o, sp⟩ := a
  have hc : ∃ c t f, W.heap[b]? = some (.cells c t f) ∧ sp = none := by
    simp only [Addr.add, if_true] at h0
    unfold World.cell? at h0
    simp only at h0
    have : cs[0]? ≠ none := by rw [List.getElem?_eq_getElem (by omega)]; simp
    cases hb : W.heap[b]? with
    | none => rw [hb] at h0; exact absurd h0.symm this
    | some ob =>
      rw [hb] at h0
      cases ob with
      | cells c t f =>
        cases sp with
        | none => exact ⟨c, t, f, rfl, rfl⟩
        | some u => simp only [Option.isSome_some, if_true] at h0; exact absurd h0.symm this
      | _ => exact absurd h0.symm this
  obtain ⟨c, t, f, hb, rfl⟩ := hc
  refine ⟨b, o, c, rfl, by unfold allH; rw [hb], ?_, hl⟩
  have hi : ∀ i, i < n → c[o + i]? = cs[i]? := by
    intro i hi
    have := hg i i (by simp [hi])
    have e : (⟨b, o, none⟩ : Addr).add i = ⟨b, o + i, none⟩ := by
      unfold Addr.add
      split
      · rename_i e; subst e; rfl
      · rfl
    rw [e] at this
    rw [← this]
    simp [World.cell?, hb]
  unfold seg
  apply List.ext_getElem?
  intro i
  rw [List.getElem?_take]
  split
  · rename_i hlt
    rw [List.getElem?_drop, ← hi i hlt, Array.getElem?_toList]
  · rename_i hlt
    rw [List.getElem?_eq_none (by omega)]

theorem seg_succ (blk : Array Value) (o z n : Nat) : seg blk o ((n + 1) * z) = seg blk o z ++ seg blk (o + z) (n * z) := by
  unfold seg
  rw [show (n + 1) * z = z + n * z by rw [Nat.succ_mul, Nat.add_comm], List.take_add, List.drop_drop]

/-- The elements of a row. -/
theorem chunks_of {α : Type} {R : α → List Value → List Nat → Prop} {Q : α → Prop} {g : α → Nat} {blk : Array Value} {z : Nat} : ∀ {l : List (DataW H)} {o : Nat}, (∀ (i : Nat) d, l[i]? = some d → ∃ x, R x (seg blk (o + i * z) z) [] ∧ Q x ∧ g x ≤ Rows.uptoBulk d) →
    ∃ xs : List α, xs.length = l.length ∧ Chunks R xs (seg blk o (xs.length * z)) [] ∧ (∀ x ∈ xs, Q x) ∧ (xs.map g).sum ≤ Rows.uptoBulkAll l
  | [], o, _ => ⟨[], rfl, ⟨by simp [seg], rfl⟩, by simp, by simp⟩
  | d :: l, o, h => by
    obtain ⟨x, h1, h2, h3⟩ := h 0 d rfl
    obtain ⟨xs, k1, k2, k3, k4⟩ := chunks_of (R := R) (Q := Q) (g := g) (l := l) (o := o + z) (blk := blk) (z := z) (fun i d hd => by
      have := h (i + 1) d hd
      rw [show o + (i + 1) * z = o + z + i * z by rw [Nat.succ_mul]; omega] at this
      exact this)
    refine ⟨x :: xs, by simp [k1], ?_, ?_, ?_⟩
    · rw [List.length_cons, seg_succ]
      exact ⟨_, _, [], [], rfl, rfl, by simpa using h1, k2⟩
    · intro y hy
      rcases List.mem_cons.1 hy with rfl | hy
      · exact h2
      · exact k3 y hy
    · simp only [List.map_cons, List.sum_cons, Rows.uptoBulkAll]
      omega

theorem trodAll_len {base : Nat} {spare : Nat → Bool} {held : Bool} : ∀ {ts : List TypeId} {vs : List Value} {ds : List (DataW H)} {ps : List MemPlace}, DataW.TrodAll enc P W base spare held ts vs ds ps → ds.length = ts.length
  | [], _, _, _, h => by obtain ⟨rfl, rfl, _⟩ := trodAll_nil h; rfl
  | _ :: _, _, _, _, h => by
    obtain ⟨_, _, _, _, _, _, rfl, rfl, _, _, hr⟩ := trodAll_cons h
    rw [List.length_cons, List.length_cons, trodAll_len hr]

theorem cellsOf_of {t : TypeId} {τ : Ty} (h : TyOK P t τ) : P.cellsOf t = τ.size := by
  obtain ⟨i, hi, hs, _⟩ := h.info
  unfold Program.cellsOf
  rw [hi]
  exact hs

def ReadsTo (P : Program) (W : World) (τ : Ty) (cs : List Value) (n : Nat) : Prop := ∃ x : τ.den, Rep P τ W (allH W) x cs [] ∧ WfD τ x ∧ bulk τ x ≤ n

theorem read_fields_one {τ : Ty} (hA : ∀ ⦃t : TypeId⦄ ⦃n : Nat⦄ ⦃cs : List Value⦄ ⦃y : DataW H × List MemPlace⦄, TyOK P t τ → DataW.trod enc P W 0 (fun _ => true) true n t cs = some y → ReadsTo P W τ cs (Rows.uptoBulk y.1))
    {l : List Field} {o n : Nat} {cs : List Value} {xs : List (DataW H × List MemPlace)} (hf : ∃ x, l = [x] ∧ x.offset = o ∧ TyOK P x.type τ) (hl : xs.length = l.length)
    (h : ∀ (i : Nat) (f : Field), l[i]? = some f → DataW.trod enc P W 0 (fun _ => true) true n f.type ((cs.drop f.offset).take (P.cellsOf f.type)) = xs[i]?) :
    ReadsTo P W τ ((cs.drop o).take τ.size) (Rows.uptoBulkAll (xs.map (·.1))) := by
  obtain ⟨x, rfl, rfl, ht⟩ := hf
  match xs, hl with
  | [y], _ =>
    have := h 0 x rfl
    rw [cellsOf_of ht] at this
    obtain ⟨v, h1, h2, h3⟩ := hA ht this
    exact ⟨v, h1, h2, by simpa [Rows.uptoBulkAll] using h3⟩

theorem fields_one {τ : Ty} (hp : ∀ a b, τ ≠ .pair a b) {l : List Field} {o : Nat} (h : FieldsOK P τ l o) : ∃ x, l = [x] ∧ x.offset = o ∧ TyOK P x.type τ := by
  unfold FieldsOK at h
  match l with
  | [x] =>
    refine ⟨x, rfl, ?_⟩
    cases τ <;> simp only [tyB, Bool.and_eq_true] at h
    case pair a b => exact absurd rfl (hp a b)
    all_goals exact ⟨Nat.eq_of_beq_eq_true h.1, by unfold TyOK; simp only [tyB, Bool.and_eq_true]; exact h.2⟩
  | [] => cases τ <;> simp [tyB] at h
  | x :: y :: r =>
    cases τ <;> simp [tyB] at h
    case pair a b => exact absurd rfl (hp a b)

theorem read_ok : ∀ (τ : Ty), τ.plain = true →
    (∀ ⦃t : TypeId⦄ ⦃n : Nat⦄ ⦃cs : List Value⦄ ⦃y : DataW H × List MemPlace⦄, TyOK P t τ → DataW.trod enc P W 0 (fun _ => true) true n t cs = some y → ReadsTo P W τ cs (Rows.uptoBulk y.1)) ∧
    (∀ ⦃l : List Field⦄ ⦃o n : Nat⦄ ⦃cs : List Value⦄ ⦃xs : List (DataW H × List MemPlace)⦄, FieldsOK P τ l o → xs.length = l.length →
      (∀ (i : Nat) (f : Field), l[i]? = some f → DataW.trod enc P W 0 (fun _ => true) true n f.type ((cs.drop f.offset).take (P.cellsOf f.type)) = xs[i]?) →
      ReadsTo P W τ ((cs.drop o).take τ.size) (Rows.uptoBulkAll (xs.map (·.1))))
  | .int k, _ => by
    have hA : ∀ ⦃t : TypeId⦄ ⦃n : Nat⦄ ⦃cs : List Value⦄ ⦃y : DataW H × List MemPlace⦄, TyOK P t (.int k) → DataW.trod enc P W 0 (fun _ => true) true n t cs = some y → ReadsTo P W (.int k) cs (Rows.uptoBulk y.1) := by
      intro t n cs y ht h
      obtain ⟨x, rfl, rfl, hw⟩ := DataW.trod_int ht.int h
      simp only [Lit.wf, Bool.and_eq_true, decide_eq_true_eq] at hw
      exact ⟨x, ⟨rfl, rfl⟩, hw, by simp [bulk, Rows.uptoBulk]⟩
    exact ⟨hA, fun _ _ _ _ _ hf => read_fields_one hA (fields_one (fun _ _ h => by cases h) hf)⟩
  | .bool, _ => by
    have hA : ∀ ⦃t : TypeId⦄ ⦃n : Nat⦄ ⦃cs : List Value⦄ ⦃y : DataW H × List MemPlace⦄, TyOK P t .bool → DataW.trod enc P W 0 (fun _ => true) true n t cs = some y → ReadsTo P W .bool cs (Rows.uptoBulk y.1) := by
      intro t n cs y ht h
      obtain ⟨x, rfl, rfl⟩ := DataW.trod_bool ht.bool h
      exact ⟨x, ⟨rfl, rfl⟩, trivial, by simp [bulk, Rows.uptoBulk]⟩
    exact ⟨hA, fun _ _ _ _ _ hf => read_fields_one hA (fields_one (fun _ _ h => by cases h) hf)⟩
  | .list false tid e, hp => by
    have ih := (read_ok e (by simpa [Ty.plain] using hp)).1
    have hA : ∀ ⦃t : TypeId⦄ ⦃n : Nat⦄ ⦃cs : List Value⦄ ⦃y : DataW H × List MemPlace⦄, TyOK P t (.list false tid e) → DataW.trod enc P W 0 (fun _ => true) true n t cs = some y → ReadsTo P W (.list false tid e) cs (Rows.uptoBulk y.1) := by
      intro t n cs y ht h
      obtain ⟨hu, he⟩ := ht.list
      have hz := cellsOf_of he
      obtain ⟨_, _, _, hpos, _⟩ := he.info
      rcases DataW.trod_slice hu h with ⟨rfl, rfl⟩ | ⟨a, len, cap, elems, rest, m, rfl, rfl, rfl, _, hlc, _, hel, hget, _, _⟩
      · exact ⟨([] : List e.den), ⟨rfl, none, 0, rfl, Nat.le_refl _, .inl rfl⟩, (fun y hy => by cases hy), by simp [bulk, Rows.uptoBulk]⟩
      · cases len with
        | zero =>
          refine ⟨([] : List e.den), ⟨rfl, some a, cap, rfl, Nat.zero_le _, .inl rfl⟩, (fun y hy => by cases hy), ?_⟩
          simp [bulk, Rows.uptoBulk]
        | succ len =>
          have hne : ∀ i, i < len + 1 → ∃ y, elems[i]? = some y := fun i hi => ⟨_, List.getElem?_eq_getElem (by omega)⟩
          have hc0 : ∃ cs0, W.cells? 0 a e.size = some cs0 := by
            obtain ⟨y, hy⟩ := hne 0 (by omega)
            have := hget 0 (by omega)
            rw [hy, hz] at this
            obtain ⟨cs0, h1, _⟩ := Option.bind_eq_some_iff.1 this
            exact ⟨cs0, by simpa [Addr.add] using h1⟩
          obtain ⟨cs0, hc0⟩ := hc0
          obtain ⟨b, o, blk, rfl, hb, _, _⟩ := cells_seg hc0 hpos
          obtain ⟨xs, k1, k2, k3, k4⟩ := chunks_of (R := Rep P e W (allH W)) (Q := WfD e) (g := bulk e) (l := elems.map (·.1)) (o := o) (blk := blk) (z := e.size) (fun i d hd => by
            rw [List.getElem?_map] at hd
            obtain ⟨y, hy, rfl⟩ := Option.map_eq_some_iff.1 hd
            have hi : i < len + 1 := by
              have := (List.getElem?_eq_some_iff.1 hy).1
              omega
            have := hget i hi
            rw [hy, hz] at this
            obtain ⟨cs1, h1, h2⟩ := Option.bind_eq_some_iff.1 this
            obtain ⟨b', o', blk', e1, hb', rfl, _⟩ := cells_seg h1 hpos
            have e2 : b' = b ∧ o' = o + i * e.size := by
              unfold Addr.add at e1
              split at e1
              · rename_i e0
                cases e1
                exact ⟨rfl, by rw [e0]; rfl⟩
              · cases e1; exact ⟨rfl, rfl⟩
            obtain ⟨rfl, rfl⟩ := e2
            rw [hb] at hb'
            cases hb'
            exact ih he h2)
          refine ⟨xs, ⟨rfl, some ⟨b, o, none⟩, cap, ?_, ?_, .inr ⟨b, o, blk, rfl, hb, k2⟩⟩, k3, ?_⟩
          · rw [k1, List.length_map, hel]
          · rw [k1, List.length_map, hel]; exact hlc
          · simp only [bulk, Rows.uptoBulk]
            omega
    exact ⟨hA, fun _ _ _ _ _ hf => read_fields_one hA (fields_one (fun _ _ h => by cases h) hf)⟩
  | .pair a b, hp => by
    simp only [Ty.plain, Bool.and_eq_true] at hp
    have iha := (read_ok a hp.1).1
    have ihb := (read_ok b hp.2).2
    refine ⟨fun _ _ _ _ ht => ht.not_pair.elim, ?_⟩
    intro l o n cs xs hf hl h
    unfold FieldsOK at hf
    match l with
    | [] => simp [tyB] at hf
    | [x] => simp [tyB] at hf
    | x :: y :: r =>
      simp only [tyB, Bool.and_eq_true] at hf
      obtain ⟨⟨e1, hx⟩, hr⟩ := hf
      obtain rfl := Nat.eq_of_beq_eq_true e1
      match xs, hl with
      | z :: zs, hl =>
        have h0 := h 0 x rfl
        have hx : TyOK P x.type a := hx
        rw [cellsOf_of hx] at h0
        obtain ⟨u, h1, h2, h3⟩ := iha hx h0
        obtain ⟨v, k1, k2, k3⟩ := ihb (l := y :: r) (o := x.offset + a.size) (n := n) (cs := cs) (xs := zs) hr (by simpa using hl) (fun i f hi => h (i + 1) f hi)
        refine ⟨(u, v), ⟨_, _, [], [], ?_, rfl, h1, k1⟩, ⟨h2, k2⟩, ?_⟩
        · rw [show (Ty.pair a b).size = a.size + b.size from rfl, List.take_add, List.drop_drop]
        · simp only [bulk, List.map_cons, Rows.uptoBulkAll]
          omega
  | .str s, hp => by
    have ih := (read_ok s (by simpa [Ty.plain] using hp)).2
    have hA : ∀ ⦃t : TypeId⦄ ⦃n : Nat⦄ ⦃cs : List Value⦄ ⦃y : DataW H × List MemPlace⦄, TyOK P t (.str s) → DataW.trod enc P W 0 (fun _ => true) true n t cs = some y → ReadsTo P W (.str s) cs (Rows.uptoBulk y.1) := by
      intro t n cs y ht h
      obtain ⟨fs, hu, hf⟩ := ht.str
      obtain ⟨xs, m, rfl, rfl, hl, hx, hget⟩ := DataW.trod_struct hu h
      obtain ⟨v, h1, h2, h3⟩ := ih (l := fs.toList) (o := 0) (n := m) (cs := cs) (xs := xs) hf (by simpa using hx) (fun i f hi => hget i f (by simpa using hi))
      have hsz : cs.length = s.size := by rw [hl, cellsOf_of ht]; rfl
      refine ⟨v, ?_, h2, ?_⟩
      · have e : (cs.drop 0).take s.size = cs := by rw [List.drop_zero, ← hsz, List.take_length]
        rw [e] at h1
        exact h1
      · simp only [bulk, Rows.uptoBulk]
        omega
    exact ⟨hA, fun _ _ _ _ _ hf => read_fields_one hA (fields_one (fun _ _ h => by cases h) hf)⟩
  | .list true _ _, h => by simp [Ty.plain] at h
  | .ptr _, h => by cases h
  | .arr _ _, h => by cases h
  | .fn _ _, h => by cases h
  | .fn2 _ _ _, h => by cases h

theorem toV_of {t : TypeId} {τ : Ty} (hp : τ.plain = true) (ht : TyOK P t τ) {r : Reach} {b0 : Nat} {v : Value} (h : Value.okWide P W r b0 t v) : v = toV τ v.cells.toList := by
  cases τ with
  | int k => obtain ⟨n, rfl⟩ := okWide_int ht.int h; rfl
  | bool => obtain ⟨n, rfl⟩ := okWide_bool ht.bool h; rfl
  | list own tid e => obtain ⟨a, l, c, rfl⟩ := okWide_slice ht.list.1 h; rfl
  | pair a b => exact ht.not_pair.elim
  | str s =>
    obtain ⟨fs, hu, _⟩ := ht.str
    unfold Value.okWide at h
    rw [hu] at h
    obtain ⟨cs, rfl, _⟩ := h
    simp [toV, Ty.isAgg, Value.cells]
  | _ => cases hp

theorem args_read : ∀ {ps : List PTy} {ts : List TypeId} {vs : List Value} {ds : List (DataW H)} {pl : List MemPlace}, parsB P ps ts = true →
    (∀ (j : Nat) t v, ts[j]? = some t → vs[j]? = some v → ∃ r b0, Value.okWide P W r b0 t v) → DataW.TrodAll enc P W 0 (fun _ => true) true ts vs ds pl →
    ∃ (d : PDens ps) (Φs : List Info), ArgsOK P W (allH W) ps d vs Φs ∧ fpsOf Φs = [] ∧ WfAll ps d ∧ bulkAll ps d ≤ Rows.uptoBulkAll ds
  | [], [], vs, ds, pl, _, _, h => by
    obtain ⟨rfl, rfl, _⟩ := trodAll_nil h
    exact ⟨(), [], ⟨rfl, rfl⟩, rfl, trivial, Nat.le_refl _⟩
  | .v τ :: ps, t :: ts, vs, ds, pl, hp, hval, h => by
    simp only [parsB, Bool.and_eq_true] at hp
    obtain ⟨⟨⟨⟨⟨h1, h2⟩, h3⟩, _⟩, _⟩, h6⟩ := hp
    obtain ⟨v, vs', d, ds', p, q, rfl, rfl, _, hd, hr⟩ := trodAll_cons h
    obtain ⟨d', Φs, k1, k2, k3, k4⟩ := args_read (ps := ps) h6 (fun j t v hj hv => hval (j + 1) t v hj hv) hr
    obtain ⟨n, hn⟩ := hd
    obtain ⟨x, e1, e2, e3⟩ := (read_ok (enc := enc) (P := P) (W := W) τ h1).1 (t := t) h3 hn
    obtain ⟨r, b0, ho⟩ := hval 0 t v rfl rfl
    refine ⟨(x, d'), nilInfo :: Φs, ⟨v, vs', nilInfo, Φs, rfl, rfl, h2, rfl, ⟨v.cells.toList, toV_of h1 h3 ho, e1⟩, k1⟩, by simpa [fpsOf, nilInfo] using k2, ⟨e2, k3⟩, ?_⟩
    show bulk τ x + bulkAll ps d' ≤ Rows.uptoBulk d + Rows.uptoBulkAll ds'
    have e3' : bulk τ x ≤ Rows.uptoBulk d := e3
    omega
  | [], _ :: _, _, _, _, hp, _, _ => by cases hp
  | .v _ :: _, [], _, _, _, hp, _, _ => by cases hp
  | .r _ :: _, _, _, _, _, hp, _, _ => by simp [parsB] at hp
  | .m _ :: _, _, _, _, _, hp, _, _ => by simp [parsB] at hp
  | .mr _ _ :: _, _, _, _, _, hp, _, _ => by simp [parsB] at hp

theorem args_stay {W' : World} {sp : Nat → Bool} (hl : laidOutB P = true) : ∀ {ps : List PTy} {ts : List TypeId} {vs : List Value} {ds : List (DataW H)} {pl : List MemPlace}, parsB P ps ts = true →
    DataW.TrodAll enc P W 0 (fun _ => true) true ts vs ds pl → (∀ p ∈ pl, W.sameAt W' p) → (∀ p ∈ pl, sp p.block = true) → DataW.TrodAll enc P W' 0 sp true ts vs ds pl
  | [], [], vs, ds, pl, _, h, _, _ => by
    obtain ⟨rfl, rfl, rfl⟩ := trodAll_nil h
    exact rfl
  | .v τ :: ps, t :: ts, vs, ds, pl, hp, h, hs, hb => by
    simp only [parsB, Bool.and_eq_true] at hp
    obtain ⟨⟨⟨⟨⟨_, _⟩, _⟩, h4⟩, h5⟩, h6⟩ := hp
    obtain ⟨v, vs', d, ds', p, q, rfl, rfl, rfl, hd, hr⟩ := trodAll_cons h
    exact ⟨p, q, Trod_stays hl h4 (Eq.mp Nat.blt_eq h5) hd (fun x hx => hs x (List.mem_append_left _ hx)) (fun x hx => hb x (List.mem_append_left _ hx)),
      args_stay hl h6 hr (fun x hx => hs x (List.mem_append_right _ hx)) (fun x hx => hb x (List.mem_append_right _ hx)), rfl⟩
  | [], _ :: _, _, _, _, hp, _, _, _ => by cases hp
  | .v _ :: _, [], _, _, _, hp, _, _, _ => by cases hp
  | .r _ :: _, _, _, _, _, hp, _, _, _ => by simp [parsB] at hp
  | .m _ :: _, _, _, _, _, hp, _, _, _ => by simp [parsB] at hp
  | .mr _ _ :: _, _, _, _, _, hp, _, _, _ => by simp [parsB] at hp

theorem post_of_below {f : Func} {s : ChangeSpec} {apart fresh handsOn again : Bool} {W W' : World} {args : Array Value} {v : Value} {ds gs : List (DataW H)} {before pa pv : List MemPlace}
    (hW : DataW.Whole enc P f.params.toList s.vars apart W args.toList ds gs before)
    (hres : ∀ (b : Nat) (sp : Nat → Bool) (hd : Bool), DataW.TrodAll enc P W' b sp hd f.resultTypes.toList (v.resultList f.resultTypes.size) (s.fn H (ds ++ gs)).results [])
    (hargs : ∀ sp : Nat → Bool, (∀ p ∈ before, sp p.block = true) → DataW.TrodAll enc P W' 0 sp true f.params.toList args.toList (s.fn H (ds ++ gs)).args pa)
    (hvars : ∀ sp : Nat → Bool, (∀ p ∈ before, sp p.block = true) → DataW.TrodVars enc P W' sp s.vars (s.fn H (ds ++ gs)).vars pv)
    (hps : before = pa ++ pv) (hb : Below W.heap.size W W')
    (hok : ∀ (j : Nat) (t : TypeId) (r : Value), f.resultTypes[j]? = some t → (v.resultList f.resultTypes.size)[j]? = some r → Value.okWide P W' .any 0 t r) :
    s.post enc P f apart fresh handsOn again W args v W' := by
  have hlt : ∀ p ∈ before, p.block < W.heap.size := fun p hp => hW.lt p hp
  have hold : ∀ p ∈ before, (fun b => decide (b < W.heap.size)) p.block = true := fun p hp => by simpa using hlt p hp
  refine ⟨ds, gs, before, [], pa, pv, hW, hres _ _ _, hargs _ hold, hvars _ hold, World.keptBut_mono (fun p hp => ⟨hp, ?_⟩) (hb.frame (· ∈ before)), fun _ => ?_⟩
  · rw [hps, List.mem_append] at hp
    exact Or.inr hp
  · obtain ⟨_, _, _, _, _, hz, hn⟩ := hW
    refine ⟨hok, _, _, ([] ++ pa) ++ pv, ⟨[] ++ pa, pv, trodAll_append (hargs _ (fun _ _ => rfl)) (hres _ _ _), hvars _ (fun _ _ => rfl), rfl, ?_, ?_⟩, ?_⟩
    · intro b off hp
      have hin : MemPlace.cell b off ∈ before := by rw [hps]; simpa using hp
      rw [hb.frozen (hlt _ hin)]
      exact hz b off hin
    · intro ha
      have := hn ha
      rw [hps] at this
      simpa using this
    · intro p hp _
      rw [hps]
      simpa using hp

/-- A law's step: where its contract gives 'true' for arguments of small bulk. -/
theorem law_post {f : FuncId} {fn : Func} {ps : List PTy} {g : PDens ps → Option (RDens [.v .bool] × MDens ps)} (hp : GoodF P f ⟨ps, [.v .bool], g⟩) (hl : laidOutB P = true) (hps : parsB P ps fn.params.toList = true)
    {rt : TypeId} (hrt : fn.resultTypes = #[rt]) (hb : P.underlying rt = some .bool) {s : ChangeSpec} (hv : s.vars = []) (hfn : ∀ ds : List (DataW H), ds.length = fn.params.size → s.fn H ds = { results := [.lit (.bool true)], args := ds })
    (hlaw : ∀ d, WfAll ps d → bulkAll ps d ≤ 1048576 → ∃ md, g d = some ((true, ()), md))
    {r : Reach} {base : Nat} {args : Array Value} {ds gs : List (DataW H)} {before : List MemPlace} {apart fresh handsOn again : Bool}
    (hval : ∀ (j : Nat) t v, fn.params[j]? = some t → args[j]? = some v → Value.okWide P W r base t v)
    (hW : DataW.Whole enc P fn.params.toList s.vars apart W args.toList ds gs before) (hk : Rows.uptoSmall H (ds ++ gs) = true) :
    Calls P f args W fun e W' => ∃ v, e = .returned v ∧ s.post enc P fn apart fresh handsOn again W args v W' := by
  have hW' := hW
  obtain ⟨p, q, hA, hV, rfl, hfz, hnd⟩ := hW
  rw [hv] at hV
  obtain ⟨rfl, rfl⟩ := trodVars_none hV
  rw [List.append_nil] at hk
  obtain ⟨d, Φs, k1, k2, k3, k4⟩ := args_read hps (fun j t v hj hv => ⟨r, base, hval j t v (by simpa using hj) (by simpa using hv)⟩) hA
  have hsm : Rows.uptoBulkAll ds ≤ 1048576 := of_decide_eq_true hk
  obtain ⟨md, hg⟩ := hlaw d k3 (Nat.le_trans k4 hsm)
  have hc := hp.2 d _ hg W (allH W) args.toList Φs (allH_ok W) k1 (by rw [k2]; exact List.nodup_nil) (by rw [k2]; simp)
  rw [Array.toArray_toList] at hc
  refine hc.mono ?_
  rintro e W' ⟨us, H', Φs', Ψs, rfl, hmod, _, _, _, hres, _⟩
  obtain ⟨v, vs', φ, Φs2, rfl, _, _, _, ⟨cs, rfl, hrep⟩, hnil⟩ := hres
  obtain ⟨rfl, _⟩ := hnil
  obtain ⟨rfl, _⟩ := hrep
  have hdl : ds.length = fn.params.size := by rw [trodAll_len hA]; simp
  have hbelow : Below W.heap.size W W' := ⟨hmod.os, hmod.tape, hmod.output, hmod.size, fun k hk => hmod.block k hk (by rw [k2]; simp)⟩
  have hlt : ∀ x ∈ p, x.block < W.heap.size := fun x hx => hW'.lt x (List.mem_append_left _ hx)
  have hsame : ∀ x ∈ p, W.sameAt W' x := by
    intro x hx
    have hb := hbelow.block x.block (hlt x hx)
    cases x with
    | cell b off => exact World.cell?_of_block (w := W) hb
    | map b => exact hb
  refine ⟨.bool true, rfl, post_of_below (pa := p) (pv := []) hW' ?_ ?_ ?_ rfl hbelow ?_⟩
  · intro b sp hd
    rw [List.append_nil, hfn ds hdl, hrt]
    exact trodAll_mk1 (shut_bool hb true)
  · intro sp hsp
    rw [List.append_nil, hfn ds hdl]
    exact args_stay hl hps hA hsame (fun x hx => hsp x (List.mem_append_left _ hx))
  · intro sp _
    rw [hv, List.append_nil, hfn ds hdl]
    exact rfl
  · exact ok_one hrt rfl (okWide_bool_mk hb true)
end
end Go.Vi
