/- The abstract interpreter 'Vi', eighteenth part: literals of structs and slices. No condition beyond those typed in each theorem. -/
import Derived.Test.YtjhphibadndkcaaVi17
import Derived.Great.BuildSlice
namespace Go.Vi
section
variable {P : Program} {C : Ctx} {cfg : Cfg} {R : Type} {r : R} {s : St} {a : Act} {w : World} {H : FH} {Φ : Nat → Info} {dst : Option Nat} {ty : TypeId} {pos : String} {after : Array Edge} {guard : Option (Nat × Bool)} {k : St → Option R}

/-! ## 'fill' over chunks -/
def setChunks (css : List (List Value)) : List (Nat × Value) → List (List Value)
  | [] => css
  | (i, v) :: r => setChunks (css.set i v.cells.toList) r

theorem flatten_set {α : Type} : ∀ (css : List (List α)) (i : Nat) (c d : List α), css[i]? = some c → ∃ pre post, css.flatten = pre ++ c ++ post ∧ (css.set i d).flatten = pre ++ d ++ post ∧ pre.length = ((css.take i).map List.length).sum
  | [], i, c, d, h => by simp at h
  | x :: css, 0, c, d, h => by
    simp only [List.getElem?_cons_zero, Option.some.injEq] at h
    subst h
    exact ⟨[], css.flatten, by simp, by simp, by simp⟩
  | x :: css, i + 1, c, d, h => by
    obtain ⟨pre, post, e1, e2, e3⟩ := flatten_set css i c d (by simpa using h)
    exact ⟨x ++ pre, post, by simp [e1], by simp [e2], by simp [e3]⟩

theorem foldl_set_list (pre mid post : List Value) (l : Array Value) (cells : Array Value) (h : cells.toList = pre ++ mid ++ post) (hl : l.size = mid.length) :
    (l.zipIdx.foldl (fun cs (x : Value × Nat) => cs.setIfInBounds (pre.length + x.2) x.1) cells).toList = pre ++ l.toList ++ post := by
  rw [← Array.foldl_toList, Array.toList_zipIdx]
  obtain ⟨h1, h2⟩ := Great.foldl_set pre.length l.toList 0 cells
  have hsz : cells.size = pre.length + mid.length + post.length := by rw [← Array.length_toList, h]; simp [Nat.add_assoc]
  apply List.ext_getElem?
  intro k
  rw [Array.getElem?_toList, h2 k, ← Array.getElem?_toList, h]
  simp only [Nat.add_zero, Array.length_toList]
  by_cases hk : pre.length ≤ k ∧ k < pre.length + l.size ∧ k < cells.size
  · rw [if_pos hk, List.append_assoc, List.getElem?_append_right hk.1, List.getElem?_append_left (by rw [Array.length_toList (xs := l)]; omega)]
  · rw [if_neg hk]
    by_cases hk1 : k < pre.length
    · rw [List.append_assoc, List.append_assoc, List.getElem?_append_left hk1, List.getElem?_append_left hk1]
    · rw [List.getElem?_append_right (by simp; omega), List.getElem?_append_right (by simp; omega)]
      simp [hl]

theorem fill_chunks (place : Nat → Option (Nat × Nat)) (szs : List Nat) (hplace : ∀ i n, szs[i]? = some n → place i = some ((szs.take i).sum, n)) :
    ∀ (parts : List (Nat × Value)) (css : List (List Value)) (cells : Array Value), css.map List.length = szs → cells.toList = css.flatten → (∀ x ∈ parts, szs[x.1]? = some x.2.cells.size) →
      ∃ cells', Instr.fill place cells parts = some cells' ∧ cells'.toList = (setChunks css parts).flatten
  | [], css, cells, _, h, _ => ⟨cells, rfl, h⟩
  | (i, v) :: rest, css, cells, hs, h, hp => by
    have hi := hp (i, v) List.mem_cons_self
    simp only at hi
    have hc : ∃ c, css[i]? = some c ∧ c.length = v.cells.size := by
      rw [← hs, List.getElem?_map] at hi
      obtain ⟨c, h1, h2⟩ := Option.map_eq_some_iff.1 hi
      exact ⟨c, h1, h2⟩
    obtain ⟨c, hc, hl⟩ := hc
    obtain ⟨pre, post, e1, e2, e3⟩ := flatten_set css i c v.cells.toList hc
    have hpre : pre.length = (szs.take i).sum := by rw [e3, ← hs, List.map_take]
    have hfold := foldl_set_list pre c post v.cells cells (by rw [h, e1]) hl.symm
    have hsz : cells.size = pre.length + c.length + post.length := by rw [← Array.length_toList, h, e1]; simp [Nat.add_assoc]
    unfold Instr.fill
    rw [hplace i _ hi]
    simp only
    rw [if_neg (by simp; omega), ← hpre]
    refine fill_chunks place szs hplace rest (css.set i v.cells.toList) _ ?_ (by rw [e2]; exact hfold) (fun x hx => hp x (List.mem_cons_of_mem _ hx))
    rw [List.map_set, Array.length_toList, ← hs]
    apply List.ext_getElem?
    intro j
    rw [List.getElem?_set]
    split
    · rename_i e
      subst e
      split
      · rw [List.getElem?_map, hc, Option.map_some, hl]
      · rename_i hn
        simp only [List.length_map, Nat.not_lt] at hn
        rw [List.getElem?_eq_none (by simpa using hn)]
    · rfl

theorem hasNat_mem {n : Nat} : ∀ {l : List Nat}, hasNat n l = true ↔ n ∈ l
  | [] => by simp [hasNat]
  | m :: r => by
    simp only [hasNat, Bool.or_eq_true, List.mem_cons, hasNat_mem (l := r)]
    constructor
    · rintro (h | h)
      · exact .inl (Nat.eq_of_beq_eq_true h).symm
      · exact .inr h
    · rintro (h | h)
      · subst h; exact .inl (Nat.beq_refl _)
      · exact .inr h

theorem apart_ok : ∀ {l r : List Nat}, apart l r = true → l.Nodup ∧ ∀ x ∈ l, x ∉ r
  | [], _, _ => by simp
  | m :: l, r, h => by
    simp only [apart, Bool.and_eq_true, Bool.not_eq_true'] at h
    obtain ⟨⟨h1, h2⟩, h3⟩ := h
    obtain ⟨h4, h5⟩ := apart_ok h3
    have h1' : m ∉ l := fun hm => by rw [hasNat_mem.2 hm] at h1; cases h1
    have h2' : m ∉ r := fun hm => by rw [hasNat_mem.2 hm] at h2; cases h2
    refine ⟨List.nodup_cons.2 ⟨h1', h4⟩, ?_⟩
    intro x hx
    rcases List.mem_cons.1 hx with rfl | hx
    · exact h2'
    · exact h5 x hx

theorem lk_cons {α : Type} (m n : Nat) (a : α) (r : List (Nat × α)) : lk ((m, a) :: r) n = bif Nat.beq m n then some a else lk r n := rfl

theorem lk_none {α : Type} {n : Nat} : ∀ {l : List (Nat × α)}, n ∉ l.map (·.1) → lk l n = none
  | [], _ => rfl
  | (m, a) :: l, h => by
    simp only [List.map_cons, List.mem_cons, not_or] at h
    unfold lk
    have : Nat.beq m n = false := by
      cases hb : Nat.beq m n with
      | false => rfl
      | true => exact absurd (Nat.eq_of_beq_eq_true hb).symm h.1
    rw [this]
    exact lk_none h.2

theorem setChunks_get : ∀ (parts : List (Nat × Value)) (css : List (List Value)), (parts.map (·.1)).Nodup → ∀ i, i < css.length → (setChunks css parts)[i]? = match lk parts i with | some v => some v.cells.toList | none => css[i]?
  | [], css, _, i, _ => rfl
  | (j, v) :: rest, css, hnd, i, hi => by
    simp only [List.map_cons, List.nodup_cons] at hnd
    unfold setChunks
    rw [setChunks_get rest _ hnd.2 i (by simpa using hi)]
    rw [lk_cons]
    cases hb : Nat.beq j i with
    | true =>
      obtain rfl := Nat.eq_of_beq_eq_true hb
      rw [lk_none hnd.1]
      simp [hi]
    | false =>
      have := Nat.ne_of_beq_eq_false hb
      simp [List.getElem?_set_ne this]
theorem setChunks_length : ∀ (parts : List (Nat × Value)) (css : List (List Value)), (setChunks css parts).length = css.length
  | [], _ => rfl
  | (j, v) :: rest, css => by unfold setChunks; rw [setChunks_length rest]; simp

/-- What 'fill' yields: each chunk is its part's, or the old one. -/
theorem fill_parts (place : Nat → Option (Nat × Nat)) (parts : List (Nat × Value)) (zs css : List (List Value)) (cells : Array Value) (hplace : ∀ i z, zs[i]? = some z → place i = some (((zs.take i).map List.length).sum, z.length)) (hcells : cells.toList = zs.flatten)
    (hnd : (parts.map (·.1)).Nodup) (hin : ∀ x ∈ parts, x.1 < zs.length) (hlen : css.length = zs.length) (hcs : ∀ i c, css[i]? = some c → (∀ z, zs[i]? = some z → c.length = z.length) ∧ match lk parts i with | some v => v.cells.toList = c | none => zs[i]? = some c) :
    ∃ cells', Instr.fill place cells parts = some cells' ∧ cells'.toList = css.flatten := by
  have hlk : ∀ {l : List (Nat × Value)}, (l.map (·.1)).Nodup → ∀ x ∈ l, lk l x.1 = some x.2 := by
    intro l
    induction l with
    | nil => intro _ x hx; cases hx
    | cons y l ih =>
      intro hnd x hx
      simp only [List.map_cons, List.nodup_cons] at hnd
      obtain ⟨j, v⟩ := y
      unfold lk
      rcases List.mem_cons.1 hx with rfl | hx
      · simp [Nat.beq_refl]
      · have : Nat.beq j x.1 = false := by
          cases hb : Nat.beq j x.1 with
          | false => rfl
          | true =>
            have := Nat.eq_of_beq_eq_true hb
            exact absurd (List.mem_map.2 ⟨x, hx, this.symm⟩) hnd.1
        rw [this]
        exact ih hnd.2 x hx
  obtain ⟨cells', h1, h2⟩ := fill_chunks place (zs.map List.length) (fun i n hn => by
    rw [List.getElem?_map] at hn
    obtain ⟨z, h3, h4⟩ := Option.map_eq_some_iff.1 hn
    rw [hplace i z h3, ← List.map_take, h4]) parts zs cells rfl hcells (fun x hx => by
    have hlt := hin x hx
    have hlt2 : x.1 < css.length := by omega
    obtain ⟨h3, h4⟩ := hcs x.1 css[x.1] (List.getElem?_eq_getElem hlt2)
    rw [hlk hnd x hx] at h4
    simp only at h4
    rw [List.getElem?_map, List.getElem?_eq_getElem hlt, Option.map_some, ← h3 _ (List.getElem?_eq_getElem hlt), ← h4, Array.length_toList])
  refine ⟨cells', h1, ?_⟩
  rw [h2]
  congr 1
  apply List.ext_getElem?
  intro i
  by_cases hi : i < zs.length
  · rw [setChunks_get parts zs hnd i hi]
    have hi2 : i < css.length := by omega
    obtain ⟨_, h4⟩ := hcs i css[i] (List.getElem?_eq_getElem hi2)
    rw [List.getElem?_eq_getElem hi2]
    cases hv : lk parts i with
    | some v => rw [hv] at h4; simp only at h4 ⊢; rw [h4]
    | none => rw [hv] at h4; exact h4
  · rw [List.getElem?_eq_none (by rw [setChunks_length]; omega), List.getElem?_eq_none (by omega)]

/-! ## Parts -/
/-- A part: its value, and what it reads as. -/
theorem partDen_ok {s0 : St} {H0 : FH} {parts : List (Nat × AV)} {vals : List (Nat × Value)} (hparts : ∀ n, (lk parts n = none ∧ lk vals n = none) ∨ ∃ av v, lk parts n = some av ∧ lk vals n = some v ∧ RepA P C w H0 Φ s0.obj av v)
    (hs : SimB P C s a w H Φ) (hle : H0.le H) (hsub : ∀ id o, s.obj id = some o → s0.obj id = some o) {τ : Ty} (hn : τ.noFn = true) {n : Nat} {s' : St} {x : τ.den} (h : partDen s parts τ n = some (s', x)) :
    ∃ H' c, H.le H' ∧ SimB P C s' a w H' Φ ∧ (∀ id o, s'.obj id = some o → s.obj id = some o) ∧ Rep P τ w H' x c [] ∧ (∀ b c, H' b = some c → H b = some c ∨ ∃ id o, s.obj id = some o ∧ b ∈ (Φ id).fp) ∧ (match lk vals n with | some v => v = toV τ c | none => c = τ.zeroCells) := by
  unfold partDen at h
  rcases hparts n with ⟨h1, h2⟩ | ⟨av, v, h1, h2, hr⟩
  · rw [h1] at h
    cases h
    exact ⟨H, _, FH.le_refl _, hs, fun _ _ h => h, Rep.zero τ hn, fun _ _ h => .inl h, by rw [h2]⟩
  · rw [h1] at h
    rw [h2]
    split at h
    · rename_i e; cases e
    · rename_i σ y e
      cases e
      split at h
      · rename_i y' hy
        cases h
        obtain ⟨e, hy⟩ := castTy_self hy
        subst e
        subst hy
        obtain ⟨_, cs, hv, hrep⟩ := hr
        exact ⟨H, cs, FH.le_refl _, hs, fun _ _ h => h, Rep.mono _ hle (by simp) hrep, fun _ _ h => .inl h, hv⟩
      · cases h
    · rename_i σ y e
      cases e
      split at h
      · rename_i y' hy
        cases h
        obtain ⟨e, hy⟩ := castTy_self hy
        subst e
        subst hy
        obtain ⟨_, b, o, blk, hv, hH, hrep⟩ := hr
        exact ⟨H, [v], FH.le_refl _, hs, fun _ _ h => h, ⟨rfl, b, o, blk, by rw [hv], hle _ _ hH, Rep.mono _ hle (by simp) hrep⟩, fun _ _ h => .inl h, rfl⟩
      · cases h
    · rename_i id e
      cases e
      split at h
      · rename_i o ho
        cases hrow : o.row with
        | false => rw [hrow] at h; cases h
        | true =>
          rw [hrow, cond_true] at h
          split at h
          · rename_i y' hy
            cases h
            obtain ⟨e, hy⟩ := castTy_self hy
            subst e
            subst hy
            obtain ⟨o', y2, q1, q2, q3⟩ := hr
            rw [hsub id o ho] at q1
            cases q1
            rw [hrow] at q3
            simp only [List.isEmpty_nil, Bool.and_self] at q3
            obtain ⟨hn2, _, g3⟩ := (hs.os id o ho).1
            rw [hrow] at g3
            obtain ⟨_, cs, hcs, hrep⟩ := g3
            obtain ⟨H', hle', hnw, hin, hs'⟩ := hs.freeze id
            refine ⟨H', cs, hle', hs', ?_, Rep.freeze o.τ hn2 w hle' (hin o ho) hrep _, fun b c hb => (hnw b c hb).imp_right (fun hh => ⟨id, hh⟩), ?_⟩
            · intro j o2 hj
              unfold St.freeze at hj
              rw [ho] at hj
              have hj' : (St.setObj s id none).obj j = some o2 := hj
              rw [St.obj_setObj] at hj'
              split at hj'
              · cases hj'
              · exact hj'
            · simp only [q3]
              rw [toV_fz]
              exact hcs
          · cases h
      · cases h
    · cases h

/-- The types of a struct's fields. -/
def fts : Ty → List Ty
  | .pair a b => a :: fts b
  | t => [t]

theorem fts_has : (τ : Ty) → ∀ {i}, hasField τ i = true → i < (fts τ).length
  | .pair a b, 0, _ => by simp [fts]
  | .pair a b, i + 1, h => by simpa [fts] using fts_has b h
  | .int _, i, h => by have := Nat.eq_of_beq_eq_true h; subst this; simp [fts]
  | .bool, i, h => by have := Nat.eq_of_beq_eq_true h; subst this; simp [fts]
  | .list _ _ _, i, h => by have := Nat.eq_of_beq_eq_true h; subst this; simp [fts]
  | .str _, i, h => by have := Nat.eq_of_beq_eq_true h; subst this; simp [fts]
  | .ptr _, i, h => by have := Nat.eq_of_beq_eq_true h; subst this; simp [fts]
  | .arr _ _, i, h => by have := Nat.eq_of_beq_eq_true h; subst this; simp [fts]
  | .fn _ _, i, h => by have := Nat.eq_of_beq_eq_true h; subst this; simp [fts]
  | .fn2 _ _ _, i, h => by have := Nat.eq_of_beq_eq_true h; subst this; simp [fts]

theorem fts_zero : (τ : Ty) → τ.zeroCells = ((fts τ).map Ty.zeroCells).flatten
  | .pair a b => by simp [fts, Ty.zeroCells, fts_zero b]
  | .int _ => by simp [fts]
  | .bool => by simp [fts]
  | .list _ _ _ => by simp [fts]
  | .str _ => by simp [fts]
  | .ptr _ => by simp [fts]
  | .arr _ _ => by simp [fts]
  | .fn _ _ => by simp [fts]
  | .fn2 _ _ _ => by simp [fts]

theorem fts_leaf (τ : Ty) (h1 : fts τ = [τ]) (h2 : ∀ l o, (tyB P τ).2 l o = (match l with | [x] => Nat.beq x.offset o && (tyB P τ).1 x.type | _ => false)) {l : List Field} {o : Nat} (h : FieldsOK P τ l o) :
    (∀ σ ∈ fts τ, ∃ t, TyOK P t σ) ∧ l.mapM (fun f => (P.info? f.type).map fun i => (f.offset, i.size)) = some ((List.range (fts τ).length).map fun i => (o + (((fts τ).take i).map Ty.size).sum, (((fts τ)[i]?).map Ty.size).getD 0)) := by
  unfold FieldsOK at h
  rw [h2] at h
  split at h
  · rename_i f
    rw [Bool.and_eq_true] at h
    have e := Nat.eq_of_beq_eq_true h.1
    have ht : TyOK P f.type τ := h.2
    obtain ⟨i, hi, hsz, _⟩ := ht.info
    rw [h1]
    refine ⟨fun σ hσ => ⟨f.type, by rw [List.mem_singleton.1 hσ]; exact ht⟩, ?_⟩
    simp [hi, hsz, e]
  · cases h

/-- A struct's fields: their types, sizes and places. -/
theorem fts_fields : (τ : Ty) → ∀ {l : List Field} {o : Nat}, FieldsOK P τ l o →
    (∀ σ ∈ fts τ, ∃ t, TyOK P t σ) ∧ l.mapM (fun f => (P.info? f.type).map fun i => (f.offset, i.size)) = some ((List.range (fts τ).length).map fun i => (o + (((fts τ).take i).map Ty.size).sum, (((fts τ)[i]?).map Ty.size).getD 0))
  | .pair a b, l, o, h => by
    unfold FieldsOK tyB at h
    simp only at h
    split at h
    · rename_i f g rest
      simp only [Bool.and_eq_true] at h
      obtain ⟨⟨h1, h2⟩, h3⟩ := h
      have e := Nat.eq_of_beq_eq_true h1
      have ht : TyOK P f.type a := h2
      obtain ⟨i, hi, hsz, _⟩ := ht.info
      obtain ⟨k1, k2⟩ := fts_fields b (l := g :: rest) (o := o + a.size) h3
      refine ⟨?_, ?_⟩
      · intro σ hσ
        rcases List.mem_cons.1 hσ with rfl | hσ
        · exact ⟨f.type, ht⟩
        · exact k1 σ hσ
      · rw [List.mapM_cons, k2]
        simp only [hi, fts, List.length_cons, List.range_succ_eq_map, Option.map_some]
        simp [e, hsz, Nat.add_assoc, Function.comp_def]
    · cases h
  | .int k, _, _, h => fts_leaf (.int k) rfl (fun _ _ => rfl) h
  | .bool, _, _, h => fts_leaf (.bool) rfl (fun _ _ => rfl) h
  | .list a b c, _, _, h => fts_leaf (.list a b c) rfl (fun _ _ => rfl) h
  | .str t, _, _, h => fts_leaf (.str t) rfl (fun _ _ => rfl) h
  | .ptr t, _, _, h => fts_leaf (.ptr t) rfl (fun _ _ => rfl) h
  | .arr n e, _, _, h => fts_leaf (.arr n e) rfl (fun _ _ => rfl) h
  | .fn a b, _, _, h => fts_leaf (.fn a b) rfl (fun _ _ => rfl) h
  | .fn2 a b c, _, _, h => fts_leaf (.fn2 a b c) rfl (fun _ _ => rfl) h

theorem mkDen_leaf {s0 : St} {H0 : FH} {parts : List (Nat × AV)} {vals : List (Nat × Value)} (hparts : ∀ n, (lk parts n = none ∧ lk vals n = none) ∨ ∃ av v, lk parts n = some av ∧ lk vals n = some v ∧ RepA P C w H0 Φ s0.obj av v)
    (τ : Ty) (h1 : fts τ = [τ]) (h2 : ∀ s n, mkDen s parts τ n = partDen s parts τ n) {s : St} {H : FH} {n : Nat} {s' : St} {x : τ.den} (hs : SimB P C s a w H Φ) (hle : H0.le H) (hsub : ∀ id o, s.obj id = some o → s0.obj id = some o) (hn : τ.noFn = true) (h : mkDen s parts τ n = some (s', x)) :
    ∃ (H' : FH) (css : List (List Value)), H.le H' ∧ SimB P C s' a w H' Φ ∧ (∀ id o, s'.obj id = some o → s.obj id = some o) ∧ Rep P τ w H' x css.flatten [] ∧ css.length = (fts τ).length ∧
      ∀ i σ, (fts τ)[i]? = some σ → ∃ c, css[i]? = some c ∧ c.length = σ.size ∧ (∀ v ∈ c, v.oneCell' = true) ∧ match lk vals (n + i) with | some v => v = toV σ c | none => c = σ.zeroCells := by
  rw [h2] at h
  obtain ⟨H', c, k1, k2, k3, k4, _, k5⟩ := partDen_ok hparts hs hle hsub hn h
  rw [h1]
  refine ⟨H', [c], k1, k2, k3, by simpa using k4, rfl, ?_⟩
  intro i σ hi
  match i with
  | 0 =>
    simp only [List.getElem?_cons_zero, Option.some.injEq] at hi
    subst hi
    exact ⟨c, rfl, Rep.length _ k4, Rep.one _ k4, k5⟩
  | i + 1 => simp at hi

theorem mkDen_ok {s0 : St} {H0 : FH} {parts : List (Nat × AV)} {vals : List (Nat × Value)} (hparts : ∀ n, (lk parts n = none ∧ lk vals n = none) ∨ ∃ av v, lk parts n = some av ∧ lk vals n = some v ∧ RepA P C w H0 Φ s0.obj av v) :
    (τ : Ty) → ∀ {s : St} {H : FH} {n : Nat} {s' : St} {x : τ.den}, SimB P C s a w H Φ → H0.le H → (∀ id o, s.obj id = some o → s0.obj id = some o) → τ.noFn = true → mkDen s parts τ n = some (s', x) →
    ∃ (H' : FH) (css : List (List Value)), H.le H' ∧ SimB P C s' a w H' Φ ∧ (∀ id o, s'.obj id = some o → s.obj id = some o) ∧ Rep P τ w H' x css.flatten [] ∧ css.length = (fts τ).length ∧
      ∀ i σ, (fts τ)[i]? = some σ → ∃ c, css[i]? = some c ∧ c.length = σ.size ∧ (∀ v ∈ c, v.oneCell' = true) ∧ match lk vals (n + i) with | some v => v = toV σ c | none => c = σ.zeroCells
  | .pair t1 t2, s, H, n, s', x, hs, hle, hsub, hn, h => by
    simp only [Ty.noFn, Bool.and_eq_true] at hn
    unfold mkDen at h
    split at h
    · rename_i s1 x1 h1
      split at h
      · rename_i s2 x2 h2
        cases h
        obtain ⟨H1, c, k1, k2, k3, k4, _, k5⟩ := partDen_ok hparts hs hle hsub hn.1 h1
        obtain ⟨H2, css, m1, m2, m3, m4, m5, m6⟩ := mkDen_ok hparts t2 k2 (FH.le_trans hle k1) (fun id o ho => hsub id o (k3 id o ho)) hn.2 h2
        refine ⟨H2, c :: css, FH.le_trans k1 m1, m2, fun id o ho => k3 id o (m3 id o ho), ⟨c, css.flatten, [], [], by simp, rfl, Rep.mono _ m1 (by simp) k4, m4⟩, by simp [fts, m5], ?_⟩
        intro i σ hi
        match i with
        | 0 =>
          simp only [fts, List.getElem?_cons_zero, Option.some.injEq] at hi
          subst hi
          exact ⟨c, rfl, Rep.length _ k4, Rep.one _ k4, k5⟩
        | i + 1 =>
          obtain ⟨c', q1, q2, q3, q4⟩ := m6 i σ (by simpa [fts] using hi)
          exact ⟨c', by simpa using q1, q2, q3, by rw [show n + (i + 1) = n + 1 + i by omega]; exact q4⟩
      · cases h
    · cases h
  | .int k, _, _, _, _, _, hs, hle, hsub, hn, h => mkDen_leaf hparts (.int k) rfl (fun _ _ => rfl) hs hle hsub hn h
  | .bool, _, _, _, _, _, hs, hle, hsub, hn, h => mkDen_leaf hparts (.bool) rfl (fun _ _ => rfl) hs hle hsub hn h
  | .list a b c, _, _, _, _, _, hs, hle, hsub, hn, h => mkDen_leaf hparts (.list a b c) rfl (fun _ _ => rfl) hs hle hsub hn h
  | .str t, _, _, _, _, _, hs, hle, hsub, hn, h => mkDen_leaf hparts (.str t) rfl (fun _ _ => rfl) hs hle hsub hn h
  | .ptr t, _, _, _, _, _, hs, hle, hsub, hn, h => mkDen_leaf hparts (.ptr t) rfl (fun _ _ => rfl) hs hle hsub hn h
  | .arr n e, _, _, _, _, _, hs, hle, hsub, hn, h => mkDen_leaf hparts (.arr n e) rfl (fun _ _ => rfl) hs hle hsub hn h
  | .fn a b, _, _, _, _, _, hs, hle, hsub, hn, h => mkDen_leaf hparts (.fn a b) rfl (fun _ _ => rfl) hs hle hsub hn h
  | .fn2 a b c, _, _, _, _, _, hs, hle, hsub, hn, h => mkDen_leaf hparts (.fn2 a b c) rfl (fun _ _ => rfl) hs hle hsub hn h

/-- A part that may own: the same, with what it owns. -/
theorem partOwn_ok {s0 : St} {H0 : FH} {parts : List (Nat × AV)} {vals : List (Nat × Value)} (hparts : ∀ n, (lk parts n = none ∧ lk vals n = none) ∨ ∃ av v, lk parts n = some av ∧ lk vals n = some v ∧ RepA P C w H0 Φ s0.obj av v)
    (hs : SimB P C s a w H Φ) (hle : H0.le H) (hsub : ∀ id o, s.obj id = some o → s0.obj id = some o) {τ : Ty} (hn : τ.noFn = true) {n : Nat} {s' : St} {x : τ.den} (h : partOwn s parts τ n = some (s', x)) :
    ∃ H' c fp, H.le H' ∧ SimB P C s' a w H' Φ ∧ (∀ id o, s'.obj id = some o → s.obj id = some o) ∧ Rep P τ w H' x c fp ∧ fp.Nodup ∧ (∀ b ∈ fp, Free C w H' Φ s'.obj b ∧ ¬ Free C w H Φ s.obj b) ∧ (∀ b, Free C w H Φ s.obj b → Free C w H' Φ s'.obj b) ∧ (match lk vals n with | some v => v = toV τ c | none => c = τ.zeroCells) := by
  unfold partOwn at h
  cases hf : τ.isFz with
  | true =>
    rw [hf, cond_true] at h
    obtain ⟨H', c, k1, k2, k3, k4, k5, k6⟩ := partDen_ok hparts hs hle hsub hn h
    refine ⟨H', c, [], k1, k2, k3, k4, List.nodup_nil, by simp, fun b hb => ⟨?_, fun id o ho => hb.obj id o (k3 id o ho), hb.may, hb.lt⟩, k6⟩
    cases hq : H' b with
    | none => rfl
    | some c =>
      rcases k5 b c hq with h1 | ⟨id, o, ho, hb'⟩
      · rw [hb.fz] at h1; cases h1
      · exact absurd hb' (hb.obj id o ho)
  | false =>
    rw [hf, cond_false] at h
    rcases hparts n with ⟨h1, h2⟩ | ⟨av, v, h1, h2, hr⟩
    · rw [h1] at h
      cases h
      exact ⟨H, _, [], FH.le_refl _, hs, fun _ _ h => h, Rep.zero τ hn, List.nodup_nil, by simp, fun _ h => h, by rw [h2]⟩
    · rw [h1] at h
      rw [h2]
      split at h
      · rename_i e; cases e
      · rename_i id e
        cases e
        split at h
        · rename_i o ho
          cases hrow : o.row with
          | false => rw [hrow] at h; cases h
          | true =>
            rw [hrow, cond_true] at h
            split at h
            · rename_i y' hy
              cases h
              obtain ⟨e, hy⟩ := castTy_self hy
              obtain ⟨row, σ, ox⟩ := o
              simp only at e hrow
              subst e
              subst hrow
              subst hy
              obtain ⟨o', y2, q1, q2, q3⟩ := hr
              rw [hsub id _ ho] at q1
              cases q1
              simp only [List.isEmpty_nil, Bool.and_self] at q3
              obtain ⟨hn2, hnd, g3⟩ := (hs.os id _ ho).1
              obtain ⟨_, cs, hcs, hrep⟩ := g3
              have hfr := (hs.os id _ ho).2
              refine ⟨H, cs, (Φ id).fp, FH.le_refl _, hs.remove id, ?_, hrep, hnd, ?_, ?_, ?_⟩
              · intro j o2 hj
                rw [St.obj_setObj] at hj
                split at hj
                · cases hj
                · exact hj
              · intro b hb
                obtain ⟨p1, p2, p3⟩ := hfr b hb
                refine ⟨⟨p1, fun j o2 hj => ?_, p2, p3⟩, fun hh => hh.obj id _ ho hb⟩
                rw [St.obj_setObj] at hj
                split at hj
                · cases hj
                · rename_i hne
                  exact hs.disj id j _ o2 hne ho hj b hb
              · intro b hb
                refine ⟨hb.fz, fun j o2 hj => ?_, hb.may, hb.lt⟩
                rw [St.obj_setObj] at hj
                split at hj
                · cases hj
                · exact hb.obj j o2 hj
              · simp only [q3]
                exact hcs
            · cases h
        · cases h
      · cases h

theorem mkOwn_leaf {s0 : St} {H0 : FH} {parts : List (Nat × AV)} {vals : List (Nat × Value)} (hparts : ∀ n, (lk parts n = none ∧ lk vals n = none) ∨ ∃ av v, lk parts n = some av ∧ lk vals n = some v ∧ RepA P C w H0 Φ s0.obj av v)
    (τ : Ty) (h1 : fts τ = [τ]) (h2 : ∀ s n, mkOwn s parts τ n = partOwn s parts τ n) {s : St} {H : FH} {n : Nat} {s' : St} {x : τ.den} (hs : SimB P C s a w H Φ) (hle : H0.le H) (hsub : ∀ id o, s.obj id = some o → s0.obj id = some o) (hn : τ.noFn = true) (h : mkOwn s parts τ n = some (s', x)) :
    ∃ (H' : FH) (css : List (List Value)) (fp : List Nat), H.le H' ∧ SimB P C s' a w H' Φ ∧ (∀ id o, s'.obj id = some o → s.obj id = some o) ∧ Rep P τ w H' x css.flatten fp ∧ css.length = (fts τ).length ∧ fp.Nodup ∧ (∀ b ∈ fp, Free C w H' Φ s'.obj b ∧ ¬ Free C w H Φ s.obj b) ∧ (∀ b, Free C w H Φ s.obj b → Free C w H' Φ s'.obj b) ∧
      ∀ i σ, (fts τ)[i]? = some σ → ∃ c, css[i]? = some c ∧ c.length = σ.size ∧ (∀ v ∈ c, v.oneCell' = true) ∧ match lk vals (n + i) with | some v => v = toV σ c | none => c = σ.zeroCells := by
  rw [h2] at h
  obtain ⟨H', c, fp, k1, k2, k3, k4, k6, k7, k8, k5⟩ := partOwn_ok hparts hs hle hsub hn h
  rw [h1]
  refine ⟨H', [c], fp, k1, k2, k3, by simpa using k4, rfl, k6, k7, k8, ?_⟩
  intro i σ hi
  match i with
  | 0 =>
    simp only [List.getElem?_cons_zero, Option.some.injEq] at hi
    subst hi
    exact ⟨c, rfl, Rep.length _ k4, Rep.one _ k4, k5⟩
  | i + 1 => simp at hi

theorem mkOwn_ok {s0 : St} {H0 : FH} {parts : List (Nat × AV)} {vals : List (Nat × Value)} (hparts : ∀ n, (lk parts n = none ∧ lk vals n = none) ∨ ∃ av v, lk parts n = some av ∧ lk vals n = some v ∧ RepA P C w H0 Φ s0.obj av v) :
    (τ : Ty) → ∀ {s : St} {H : FH} {n : Nat} {s' : St} {x : τ.den}, SimB P C s a w H Φ → H0.le H → (∀ id o, s.obj id = some o → s0.obj id = some o) → τ.noFn = true → mkOwn s parts τ n = some (s', x) →
    ∃ (H' : FH) (css : List (List Value)) (fp : List Nat), H.le H' ∧ SimB P C s' a w H' Φ ∧ (∀ id o, s'.obj id = some o → s.obj id = some o) ∧ Rep P τ w H' x css.flatten fp ∧ css.length = (fts τ).length ∧ fp.Nodup ∧ (∀ b ∈ fp, Free C w H' Φ s'.obj b ∧ ¬ Free C w H Φ s.obj b) ∧ (∀ b, Free C w H Φ s.obj b → Free C w H' Φ s'.obj b) ∧
      ∀ i σ, (fts τ)[i]? = some σ → ∃ c, css[i]? = some c ∧ c.length = σ.size ∧ (∀ v ∈ c, v.oneCell' = true) ∧ match lk vals (n + i) with | some v => v = toV σ c | none => c = σ.zeroCells
  | .pair t1 t2, s, H, n, s', x, hs, hle, hsub, hn, h => by
    simp only [Ty.noFn, Bool.and_eq_true] at hn
    unfold mkOwn at h
    split at h
    · rename_i s1 x1 h1
      split at h
      · rename_i s2 x2 h2
        cases h
        obtain ⟨H1, c, fp1, k1, k2, k3, k4, k6, k7, k8, k5⟩ := partOwn_ok hparts hs hle hsub hn.1 h1
        obtain ⟨H2, css, fp2, m1, m2, m3, m4, m5, m7, m8, m9, m6⟩ := mkOwn_ok hparts t2 k2 (FH.le_trans hle k1) (fun id o ho => hsub id o (k3 id o ho)) hn.2 h2
        refine ⟨H2, c :: css, fp1 ++ fp2, FH.le_trans k1 m1, m2, fun id o ho => k3 id o (m3 id o ho), ⟨c, css.flatten, fp1, fp2, by simp, rfl, Rep.mono _ m1 (fun _ _ => rfl) k4, m4⟩, by simp [fts, m5], ?_, ?_, fun b hb => m9 b (k8 b hb), ?_⟩
        · rw [List.nodup_append]
          refine ⟨k6, m7, ?_⟩
          rintro b hb1 _ hb2 rfl
          exact (m8 b hb2).2 (k7 b hb1).1
        · intro b hb
          rcases List.mem_append.1 hb with hb | hb
          · exact ⟨m9 b (k7 b hb).1, (k7 b hb).2⟩
          · exact ⟨(m8 b hb).1, fun hh => (m8 b hb).2 (k8 b hh)⟩
        · intro i σ hi
          match i with
          | 0 =>
            simp only [fts, List.getElem?_cons_zero, Option.some.injEq] at hi
            subst hi
            exact ⟨c, rfl, Rep.length _ k4, Rep.one _ k4, k5⟩
          | i + 1 =>
            obtain ⟨c', q1, q2, q3, q4⟩ := m6 i σ (by simpa [fts] using hi)
            exact ⟨c', by simpa using q1, q2, q3, by rw [show n + (i + 1) = n + 1 + i by omega]; exact q4⟩
      · cases h
    · cases h
  | .int k, _, _, _, _, _, hs, hle, hsub, hn, h => mkOwn_leaf hparts (.int k) rfl (fun _ _ => rfl) hs hle hsub hn h
  | .bool, _, _, _, _, _, hs, hle, hsub, hn, h => mkOwn_leaf hparts (.bool) rfl (fun _ _ => rfl) hs hle hsub hn h
  | .list a b c, _, _, _, _, _, hs, hle, hsub, hn, h => mkOwn_leaf hparts (.list a b c) rfl (fun _ _ => rfl) hs hle hsub hn h
  | .str t, _, _, _, _, _, hs, hle, hsub, hn, h => mkOwn_leaf hparts (.str t) rfl (fun _ _ => rfl) hs hle hsub hn h
  | .ptr t, _, _, _, _, _, hs, hle, hsub, hn, h => mkOwn_leaf hparts (.ptr t) rfl (fun _ _ => rfl) hs hle hsub hn h
  | .arr n e, _, _, _, _, _, hs, hle, hsub, hn, h => mkOwn_leaf hparts (.arr n e) rfl (fun _ _ => rfl) hs hle hsub hn h
  | .fn a b, _, _, _, _, _, hs, hle, hsub, hn, h => mkOwn_leaf hparts (.fn a b) rfl (fun _ _ => rfl) hs hle hsub hn h
  | .fn2 a b c, _, _, _, _, _, hs, hle, hsub, hn, h => mkOwn_leaf hparts (.fn2 a b c) rfl (fun _ _ => rfl) hs hle hsub hn h

theorem mkList_ok {s0 : St} {H0 : FH} {parts : List (Nat × AV)} {vals : List (Nat × Value)} (hparts : ∀ n, (lk parts n = none ∧ lk vals n = none) ∨ ∃ av v, lk parts n = some av ∧ lk vals n = some v ∧ RepA P C w H0 Φ s0.obj av v)
    {e : Ty} (hn : e.noFn = true) : ∀ (len : Nat) {s : St} {H : FH} {n : Nat} {s' : St} {x : List e.den}, SimB P C s a w H Φ → H0.le H → (∀ id o, s.obj id = some o → s0.obj id = some o) → mkList s parts e n len = some (s', x) →
    ∃ (H' : FH) (css : List (List Value)), H.le H' ∧ SimB P C s' a w H' Φ ∧ (∀ id o, s'.obj id = some o → s.obj id = some o) ∧ Chunks (Rep P e w H') x css.flatten [] ∧ css.length = len ∧ x.length = len ∧
      ∀ i, i < len → ∃ c, css[i]? = some c ∧ c.length = e.size ∧ (∀ v ∈ c, v.oneCell' = true) ∧ match lk vals (n + i) with | some v => v = toV e c | none => c = e.zeroCells
  | 0, s, H, n, s', x, hs, hle, hsub, h => by
    cases h
    exact ⟨H, [], FH.le_refl _, hs, fun _ _ h => h, ⟨rfl, rfl⟩, rfl, rfl, fun i hi => by omega⟩
  | len + 1, s, H, n, s', x, hs, hle, hsub, h => by
    unfold mkList at h
    split at h
    · rename_i s1 x1 h1
      split at h
      · rename_i s2 x2 h2
        cases h
        obtain ⟨H1, c, k1, k2, k3, k4, _, k5⟩ := partDen_ok hparts hs hle hsub hn h1
        obtain ⟨H2, css, m1, m2, m3, m4, m5, m6, m7⟩ := mkList_ok hparts hn len k2 (FH.le_trans hle k1) (fun id o ho => hsub id o (k3 id o ho)) h2
        refine ⟨H2, c :: css, FH.le_trans k1 m1, m2, fun id o ho => k3 id o (m3 id o ho), ⟨c, css.flatten, [], [], by simp, rfl, Rep.mono _ m1 (by simp) k4, m4⟩, by simp [m5], by simp [m6], ?_⟩
        intro i hi
        match i with
        | 0 => exact ⟨c, rfl, Rep.length _ k4, Rep.one _ k4, k5⟩
        | i + 1 =>
          obtain ⟨c', q1, q2, q3, q4⟩ := m7 i (by omega)
          exact ⟨c', by simpa using q1, q2, q3, by rw [show n + (i + 1) = n + 1 + i by omega]; exact q4⟩
      · cases h
    · cases h

theorem parts_rel (hs : SimB P C s a w H Φ) : ∀ (parts : List (Nat × Operand)) {l : List AV}, evalAll s (fun _ => none) (parts.map (·.2)) 0 = some l →
    ∀ n, (lk ((parts.map (·.1)).zip l) n = none ∧ lk (parts.map fun x => (x.1, a.eval x.2)) n = none) ∨ ∃ av v, lk ((parts.map (·.1)).zip l) n = some av ∧ lk (parts.map fun x => (x.1, a.eval x.2)) n = some v ∧ RepA P C w H Φ s.obj av v := by
  intro parts l h
  have hr := evalAll_ok hs (fun _ => none_fz) h
  clear h
  induction parts generalizing l with
  | nil => intro n; exact .inl ⟨rfl, rfl⟩
  | cons x parts ih =>
    match l, hr with
    | [], hr => exact hr.elim
    | av :: l, hr =>
      intro n
      simp only [List.map_cons, List.zip_cons_cons, lk_cons]
      cases hb : Nat.beq x.1 n with
      | true => exact .inr ⟨av, _, rfl, rfl, hr.1⟩
      | false => exact ih hr.2 n

theorem run_build_css {T : TypeId} {τ : Ty} (hty : TyOK P T (.str τ)) {parts : Array (Nat × Operand)} (hap : apart (parts.toList.map (·.1)) [] = true) (hin : (parts.toList.map (·.1)).all (hasField τ) = true) {css : List (List Value)} (m5 : css.length = (fts τ).length)
    (m6 : ∀ i σ, (fts τ)[i]? = some σ → ∃ c, css[i]? = some c ∧ c.length = σ.size ∧ (∀ v ∈ c, v.oneCell' = true) ∧ match lk (parts.toList.map fun x => (x.1, a.eval x.2)) (0 + i) with | some v => v = toV σ c | none => c = σ.zeroCells) :
    ∃ cells', (Instr.build T (parts.map fun x => (x.1, a.eval x.2))).run P w = .ok (.agg cells') w ∧ cells'.toList = css.flatten := by
  obtain ⟨fs, hu, hfs⟩ := hty.str
  obtain ⟨k1, k2⟩ := fts_fields τ hfs
  obtain ⟨it, hit, hsz, hpos, _, hz⟩ := hty.info
  have hzc : (toV (.str τ) τ.zeroCells).cells.toList = τ.zeroCells := rfl
  obtain ⟨cells', g1, g2⟩ := fill_parts (((List.range (fts τ).length).map fun i => (0 + (((fts τ).take i).map Ty.size).sum, (((fts τ)[i]?).map Ty.size).getD 0)).toArray[·]?) (parts.toList.map fun x => (x.1, a.eval x.2)) ((fts τ).map Ty.zeroCells) css
    (toV (.str τ) τ.zeroCells).cells (by
      intro i z hi
      rw [List.getElem?_map] at hi
      obtain ⟨σ, h1, rfl⟩ := Option.map_eq_some_iff.1 hi
      have hlt := (List.getElem?_eq_some_iff.1 h1).1
      simp only [List.getElem?_toArray, List.getElem?_map, List.getElem?_range hlt, Option.map_some, Nat.zero_add, h1, Option.getD_some, Option.some.injEq, Prod.mk.injEq]
      refine ⟨?_, (Ty.zero_length σ).symm⟩
      rw [← List.map_take, List.map_map]
      congr 1
      apply List.map_congr_left
      intro t _
      exact (Ty.zero_length t).symm)
    (by rw [hzc]; exact fts_zero τ) (by
      rw [List.map_map]
      exact (apart_ok hap).1)
    (by
      intro x hx
      obtain ⟨y, hy, rfl⟩ := List.mem_map.1 hx
      rw [List.length_map]
      exact fts_has τ (List.all_eq_true.1 hin _ (List.mem_map.2 ⟨y, hy, rfl⟩)))
    (by rw [m5, List.length_map]) (by
      intro i c hc
      have hlt : i < (fts τ).length := by rw [← m5]; exact (List.getElem?_eq_some_iff.1 hc).1
      obtain ⟨c', q1, q2, q3, q4⟩ := m6 i (fts τ)[i] (List.getElem?_eq_getElem hlt)
      rw [hc] at q1
      cases q1
      rw [List.getElem?_map, List.getElem?_eq_getElem hlt]
      refine ⟨fun z hz => ?_, ?_⟩
      · simp only [Option.map_some, Option.some.injEq] at hz
        rw [← hz, Ty.zero_length, q2]
      · rw [Nat.zero_add] at q4
        split
        · rename_i v hv
          rw [hv] at q4
          simp only at q4
          obtain ⟨t, ht⟩ := k1 (fts τ)[i] (List.getElem_mem hlt)
          rw [q4]
          exact toV_cells (by rintro x y e; rw [e] at ht; exact ht.not_pair) q2 q3
        · rename_i hv
          rw [hv] at q4
          simp only at q4
          rw [q4]; rfl)
  refine ⟨cells', ?_, g2⟩
  refine run_build w T _ cells' ?_
  unfold Program.built
  rw [hit, hu]
  simp only [hz, k2, Array.toList_map]
  exact g1

theorem op_build (hcfg : CfgOK P cfg) (hC : CtxOK C cfg) {T : TypeId} {parts : Array (Nat × Operand)} (hs : SimB P C s a w H Φ) (hd : dstOK cfg.nt dst = true) (h : absOp cfg ⟨dst, .build T parts, ty, pos, after, guard⟩ s k = some r) :
    ∃ s', k s' = some r ∧ Goes P C ⟨dst, .build T parts, ty, pos, after, guard⟩ a w s' := by
  simp only [absOp] at h
  split at h
  · rename_i τ σ l hsite hT hl
    split at h
    case h_2 => cases h
    rename_i d
    cases hq : τ.noFn && decide ((Ty.str τ).fz = σ) && apart (parts.toList.map (·.1)) [] && (parts.toList.map (·.1)).all (hasField τ) with
    | false => rw [hq] at h; cases h
    | true =>
    rw [hq, cond_true] at h
    simp only [Bool.and_eq_true] at hq
    obtain ⟨⟨⟨hn, hfz⟩, hap⟩, hin⟩ := hq
    have hfz := of_decide_eq_true hfz
    subst hfz
    split at h
    case h_2 => cases h
    rename_i s1 x1 hm
    have hty := TyOK.unfz (τ := .str τ) (hcfg.ty T _ hT).1
    obtain ⟨H1, css, fp, m1, m2, m3, m4, m5, m7, m8, m9, m6⟩ := mkOwn_ok (parts_rel hs parts.toList hl) τ hs (FH.le_refl _) (fun _ _ h => h) hn hm
    obtain ⟨cells', hrun, hcells⟩ := run_build_css (w := w) hty hap hin m5 m6
    have hd' : d < C.nt := by rw [hC.nt]; exact Eq.mp Nat.blt_eq hd
    have hd2 : d < 10000000 := Nat.lt_of_lt_of_le hd' (by rw [hC.nt]; exact Nat.le_trans hcfg.small (by decide))
    have hno := m2.newObj (Mod.refl _ _) (hC.pin d hd2) (row := true) (τ := .str τ) (x := x1) (φ := ⟨0, .agg cells', fp⟩)
      ⟨hn, m7, rfl, css.flatten, by show _ = Value.agg _; rw [← hcells], m4⟩ (fun b hb => ⟨(m8 b hb).1.fz, (m8 b hb).1.may, (m8 b hb).1.lt, fun j o' _ hj => (m8 b hb).1.obj j o' hj⟩)
    refine ⟨_, h, goes_val (w' := w) (v := .agg cells') ?_ ⟨H1, _, hno.set hd' (v := .agg cells') ⟨⟨true, .str τ, x1⟩, ⟨.str τ, x1⟩, ?_, getV_nil _ _, ?_⟩⟩⟩
    · simp [execOp, hrun]
    · rw [St.newObj, St.obj_setObj, if_pos rfl]
    · simp only [List.isEmpty_nil, Bool.and_self, putInfo_same]
  · rename_i τ l hsite hT hl
    cases hq : τ.noFn && apart (parts.toList.map (·.1)) [] && (parts.toList.map (·.1)).all (hasField τ) with
    | false => rw [hq] at h; cases h
    | true =>
    rw [hq, cond_true] at h
    simp only [Bool.and_eq_true] at hq
    obtain ⟨⟨hn, hap⟩, hin⟩ := hq
    split at h
    case h_2 => cases h
    rename_i s1 x1 hm
    obtain ⟨hty, hfz⟩ := hcfg.ty T _ hT
    obtain ⟨H1, css, m1, m2, m3, m4, m5, m6⟩ := mkDen_ok (parts_rel hs parts.toList hl) τ hs (FH.le_refl _) (fun _ _ h => h) hn hm
    obtain ⟨cells', hrun, hcells⟩ := run_build_css (w := w) hty hap hin m5 m6
    refine ⟨_, h, goes_val (w' := w) (v := .agg cells') ?_ ⟨H1, Φ, m2.setDst (by rw [hC.nt]; exact hd) ⟨hfz, css.flatten, ?_, m4⟩⟩⟩
    · simp [execOp, hrun]
    · show _ = Value.agg _
      rw [← hcells]
  · cases h

theorem op_buildSlice (hcfg : CfgOK P cfg) (hC : CtxOK C cfg) {T : TypeId} {len : Nat} {parts : Array (Nat × Operand)} (hs : SimB P C s a w H Φ) (hd : dstOK cfg.nt dst = true) (h : absOp cfg ⟨dst, .buildSlice T len parts, ty, pos, after, guard⟩ s k = some r) :
    ∃ s', k s' = some r ∧ Goes P C ⟨dst, .buildSlice T len parts, ty, pos, after, guard⟩ a w s' := by
  simp only [absOp] at h
  split at h
  case h_2 => cases h
  rename_i d own tid e l hT hl
  cases hq : e.noFn && Nat.ble (len * e.size) 16777216 && apart (parts.toList.map (·.1)) [] && (parts.toList.map (·.1)).all (fun i => Nat.blt i len) with
  | false => rw [hq] at h; cases h
  | true =>
  rw [hq, cond_true] at h
  simp only [Bool.and_eq_true] at hq
  obtain ⟨⟨⟨hn, hsm⟩, hap⟩, hin⟩ := hq
  have hsm := Nat.le_of_ble_eq_true hsm
  split at h
  case h_2 => cases h
  rename_i s1 x1 hm
  obtain ⟨hty, hfz⟩ := hcfg.ty T _ hT
  obtain ⟨hu, he⟩ := hty.list
  obtain ⟨ie, hie, hsz, hpos, hby, hz⟩ := he.info
  have hnp : ∀ x y, e ≠ .pair x y := by rintro x y rfl; exact he.not_pair
  obtain ⟨H1, css, m1, m2, m3, m4, m5, m6, m7⟩ := mkList_ok (parts_rel hs parts.toList hl) hn len hs (FH.le_refl _) (fun _ _ h => h) hm
  have hzc : (toV e e.zeroCells).cells.toList = e.zeroCells := toV_cells hnp (Ty.zero_length e) (Ty.zero_one e)
  have hzs : (toV e e.zeroCells).cells.size = e.size := by rw [← Array.length_toList, hzc, Ty.zero_length]
  have hml : ((Array.range (len * e.size)).map ((toV e e.zeroCells).cells[· % (toV e e.zeroCells).cells.size]!)).toList = (List.replicate len e.zeroCells).flatten := by
    have := made_list (toV e e.zeroCells).cells (by omega) len
    rw [hzs, hzc] at this
    rw [← this, hzs]
    simp [madeCells, hzs]
  obtain ⟨cells', g1, g2⟩ := fill_parts (fun i => some (i * e.size, e.size)) (parts.toList.map fun x => (x.1, a.eval x.2)) (List.replicate len e.zeroCells) css
    ((Array.range (len * e.size)).map ((toV e e.zeroCells).cells[· % (toV e e.zeroCells).cells.size]!)) (by
      intro i z hi
      have hlt := (List.getElem?_eq_some_iff.1 hi).1
      rw [List.length_replicate] at hlt
      obtain rfl : e.zeroCells = z := by simpa [List.getElem?_replicate, hlt] using hi
      have hmin : min i len = i := by omega
      simp only [List.take_replicate, hmin, List.map_replicate, List.sum_replicate_nat, Ty.zero_length])
    hml (by
      rw [List.map_map]
      exact (apart_ok hap).1)
    (by
      intro x hx
      obtain ⟨y, hy, rfl⟩ := List.mem_map.1 hx
      rw [List.length_replicate]
      exact Eq.mp Nat.blt_eq (List.all_eq_true.1 hin _ (List.mem_map.2 ⟨y, hy, rfl⟩)))
    (by rw [m5, List.length_replicate]) (by
      intro i c hc
      have hlt : i < len := by rw [← m5]; exact (List.getElem?_eq_some_iff.1 hc).1
      obtain ⟨c', q1, q2, q3, q4⟩ := m7 i hlt
      rw [hc] at q1
      cases q1
      have hrep : (List.replicate len e.zeroCells)[i]? = some e.zeroCells := by simp [hlt]
      rw [hrep]
      refine ⟨fun z hz => ?_, ?_⟩
      · simp only [Option.some.injEq] at hz
        rw [← hz, Ty.zero_length, q2]
      · rw [Nat.zero_add] at q4
        split
        · rename_i v hv
          rw [hv] at q4
          simp only at q4
          rw [q4]
          exact toV_cells hnp q2 q3
        · rename_i hv
          rw [hv] at q4
          simp only at q4
          rw [q4])
  have hrun : (Instr.buildSlice T len (parts.map fun x => (x.1, a.eval x.2))).run P w = .ok (.slice (some ⟨w.heap.size, 0, none⟩) len len) (w.alloc (.cells cells' tid)) := by
    by_cases hl0 : len = 0
    · subst hl0
      have hp : parts = #[] := by
        rw [← Array.toArray_toList (xs := parts)]
        match hpl : parts.toList, hin with
        | [], _ => rfl
        | x :: r, hin => simp [Nat.blt] at hin
      subst hp
      have : cells' = #[] := by
        rw [← Array.toArray_toList (xs := cells'), g2, List.eq_nil_of_length_eq_zero m5]; rfl
      subst this
      have e0 : ∀ f : Nat → Value, Array.map f (Array.range 0) = #[] := fun f => Array.eq_empty_of_size_eq_zero (by simp)
      simp [Instr.buildSlice, run_underlying hu, sizeOf, typeInfo, hie, Instr.fill, newRow, e0]
    · refine run_buildSlice w T tid len _ cells' ie _ hu hie hz (by rw [hsz]; omega) ?_ ?_
      · rw [hsz]
        have := Nat.mul_pos (Nat.pos_of_ne_zero hl0) hpos
        omega
      · rw [hsz, Array.toList_map]; exact g1
  have hsize : cells'.size = len * e.size := by
    rw [← Array.length_toList, g2, Chunks.length (fun _ _ _ hh => Rep.length e hh) m4, m6]
  have hm2 := mod_alloc w (.cells cells' tid)
  obtain ⟨Φ', h4⟩ := m2.newRow (w' := w.alloc (.cells cells' tid)) (tid := tid) (e := e) (l := x1) (v := .slice (some ⟨w.heap.size, 0, none⟩) len len) (xs := css.flatten) hcfg hC (Eq.mp Nat.blt_eq hd) hn hm2
    ⟨by rw [Chunks.length (fun _ _ _ hh => Rep.length e hh) m4], .inr ⟨w.heap.size, len, cells', by rw [m6], Nat.zero_le _, heap_alloc_new w _, by omega, by
      have := Nat.mul_le_mul_left len (show 1 ≤ e.size from hpos)
      unfold maxLen; omega, hsize, by rw [m6, g2, List.take_of_length_le]; rw [Chunks.length (fun _ _ _ hh => Rep.length e hh) m4, m6]; exact Nat.le_refl _⟩⟩
    (Chunks.mono (fun _ _ _ hh => by
      have hf0 := Rep.fz_fp e (by simp only [Ty.isFz, Bool.and_eq_true] at hfz; exact hfz.2) hh
      subst hf0
      exact Rep.mono e (FH.le_refl _) (by simp) hh) m4)
    (by intro b hb; simp only [Value.ownBlock, Option.some.injEq] at hb; subst hb; exact ⟨Nat.le_refl _, by simp⟩)
  refine ⟨_, h, goes_val (w' := w.alloc (.cells cells' tid)) (v := .slice (some ⟨w.heap.size, 0, none⟩) len len) ?_ ⟨H1, Φ', h4⟩⟩
  simp [execOp, hrun]
end
end Go.Vi
