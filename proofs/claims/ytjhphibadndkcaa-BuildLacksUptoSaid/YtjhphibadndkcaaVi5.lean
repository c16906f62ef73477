/- The abstract interpreter 'Vi', fifth part: freezing; paths and places. No condition beyond those typed in each theorem. -/
import Derived.Test.YtjhphibadndkcaaVi4
namespace Go.Vi

theorem cast_list {α β : Type} (h1 : α = β) (h : List α = List β) (l : List α) : cast h l = l.map (cast h1) := by
  subst h1
  have e : (cast rfl : α → α) = id := rfl
  rw [e, List.map_id]
  rfl
theorem cast_pair {α β γ δ : Type} (h1 : α = β) (h2 : γ = δ) (h : (α × γ) = (β × δ)) (x : α × γ) : cast h x = (cast h1 x.1, cast h2 x.2) := by
  subst h1; subst h2
  rfl
theorem cast_opt {α β : Type} (h1 : α = β) (h : Option α = Option β) (x : Option α) : cast h x = x.map (cast h1) := by
  subst h1
  cases x <;> rfl

theorem Ty.size_fz : (τ : Ty) → τ.fz.size = τ.size
  | .int _ => rfl
  | .bool => rfl
  | .list _ _ _ => rfl
  | .pair a b => by simp [Ty.fz, Ty.size, Ty.size_fz a, Ty.size_fz b]
  | .str t => Ty.size_fz t
  | .ptr _ => rfl
  | .arr n e => by simp [Ty.fz, Ty.size, Ty.size_fz e]
  | .fn _ _ => rfl
  | .fn2 _ _ _ => rfl
theorem Ty.isAgg_fz (τ : Ty) : τ.fz.isAgg = τ.isAgg := by cases τ <;> rfl
theorem Ty.isFz_fz : (τ : Ty) → τ.fz.isFz = true
  | .int _ => rfl
  | .bool => rfl
  | .list _ _ e => by simp [Ty.fz, Ty.isFz, Ty.isFz_fz e]
  | .pair a b => by simp [Ty.fz, Ty.isFz, Ty.isFz_fz a, Ty.isFz_fz b]
  | .str t => by simp [Ty.fz, Ty.isFz, Ty.isFz_fz t]
  | .ptr t => by simp [Ty.fz, Ty.isFz, Ty.isFz_fz t]
  | .arr _ e => by simp [Ty.fz, Ty.isFz, Ty.isFz_fz e]
  | .fn a r => by simp [Ty.fz, Ty.isFz, Ty.isFz_fz a, Ty.isFz_fz r]
  | .fn2 a b r => by simp [Ty.fz, Ty.isFz, Ty.isFz_fz a, Ty.isFz_fz b, Ty.isFz_fz r]
theorem Ty.fz_of_isFz : (τ : Ty) → τ.isFz = true → τ.fz = τ
  | .int _, _ => rfl
  | .bool, _ => rfl
  | .list o _ e, h => by
    simp only [Ty.isFz, Bool.and_eq_true, Bool.not_eq_true'] at h
    simp [Ty.fz, h.1, Ty.fz_of_isFz e h.2]
  | .pair a b, h => by
    simp only [Ty.isFz, Bool.and_eq_true] at h
    simp [Ty.fz, Ty.fz_of_isFz a h.1, Ty.fz_of_isFz b h.2]
  | .str t, h => by simp [Ty.fz, Ty.fz_of_isFz t (by simpa [Ty.isFz] using h)]
  | .ptr t, h => by simp [Ty.fz, Ty.fz_of_isFz t (by simpa [Ty.isFz] using h)]
  | .arr _ e, h => by simp [Ty.fz, Ty.fz_of_isFz e (by simpa [Ty.isFz] using h)]
  | .fn a r, h => by
    simp only [Ty.isFz, Bool.and_eq_true] at h
    simp [Ty.fz, Ty.fz_of_isFz a h.1, Ty.fz_of_isFz r h.2]
  | .fn2 a b r, h => by
    simp only [Ty.isFz, Bool.and_eq_true] at h
    simp [Ty.fz, Ty.fz_of_isFz a h.1.1, Ty.fz_of_isFz b h.1.2, Ty.fz_of_isFz r h.2]

theorem Chunks.map_cast {α β : Type} {R : α → List Value → List Nat → Prop} {S : β → List Value → List Nat → Prop} (h1 : α = β) {Q : Nat → Prop}
    (h : ∀ x c f, (∀ b ∈ f, Q b) → R x c f → S (cast h1 x) c []) : ∀ {l : List α} {xs fp}, (∀ b ∈ fp, Q b) → Chunks R l xs fp → Chunks S (l.map (cast h1)) xs []
  | [], _, _, _, ⟨e, _⟩ => ⟨e, rfl⟩
  | _ :: _, _, _, hq, ⟨c, xs', f, fp', e1, e2, h2, h3⟩ =>
    ⟨c, xs', [], [], e1, rfl, h _ _ _ (fun b hb => hq b (by rw [e2]; simp [hb])) h2, Chunks.map_cast h1 h (fun b hb => hq b (by rw [e2]; simp [hb])) h3⟩

theorem seg_zero {c : Array Value} {n : Nat} : seg c 0 n = c.toList.take n := by simp [seg]

/-- What is owned is frozen. -/
theorem Rep.freeze {P : Program} : (τ : Ty) → τ.noFn = true → ∀ {w : World} (w' : World) {H H' : FH} {x cs fp}, H.le H' →
    (∀ b ∈ fp, ∀ c t f, w.heap[b]? = some (.cells c t f) → H' b = some c) → Rep P τ w H x cs fp → ∀ h : τ.den = τ.fz.den, Rep P τ.fz w' H' (cast h x) cs []
  | .int _, _, _, _, _, _, _, _, _, _, _, h, _ => ⟨h.1, rfl⟩
  | .bool, _, _, _, _, _, _, _, _, _, _, h, _ => ⟨h.1, rfl⟩
  | .list false tid e, hn, w, w', H, H', l, cs, fp, hH, hfp, h, hc => by
    obtain ⟨e0, a, cap, e1, hcap, h2⟩ := h
    have h1 : e.den = e.fz.den := (Ty.den_fz e).symm
    suffices hs : ∀ l' : List e.fz.den, l' = List.map (cast h1) l → Rep P (.list false tid e.fz) w' H' l' cs [] from hs _ (cast_list h1 hc l)
    rintro _ rfl
    refine ⟨rfl, a, cap, ?_, ?_, ?_⟩
    · rw [e1, List.length_map]
    · rw [List.length_map]; exact hcap
    · refine h2.imp (fun hh => by rw [hh]; rfl) ?_
      rintro ⟨b, o, blk, ea, hb, hch⟩
      refine ⟨b, o, blk, ea, hH _ _ hb, ?_⟩
      rw [List.length_map, Ty.size_fz]
      exact Chunks.map_cast h1 (Q := fun _ => False) (fun x c f hf hr => Rep.freeze e (by simpa [Ty.noFn] using hn) w' hH (fun b hb => (hf b hb).elim) hr h1) (by simp) hch
  | .list true tid e, hn, w, w', H, H', l, cs, fp, hH, hfp, h, hc => by
    obtain ⟨hdr, xs, fp', e1, e2, ho, hch⟩ := h
    have h1 : e.den = e.fz.den := (Ty.den_fz e).symm
    suffices hs : ∀ l' : List e.fz.den, l' = List.map (cast h1) l → Rep P (.list false tid e.fz) w' H' l' cs [] from hs _ (cast_list h1 hc l)
    rintro _ rfl
    rcases ho.2 with ⟨rfl, h0⟩ | ⟨g, cap, cur, rfl, _, hg, hcap, _, hsz, htake⟩
    · refine ⟨rfl, none, 0, ?_, ?_, .inl ?_⟩
      · rw [e1, List.length_map, h0]
      · rw [List.length_map, h0]; exact Nat.le_refl _
      · rw [List.length_eq_zero_iff.1 h0]; rfl
    · refine ⟨rfl, some ⟨g, 0, none⟩, cap, ?_, ?_, .inr ⟨g, 0, cur, rfl, ?_, ?_⟩⟩
      · rw [e1, List.length_map]
      · rw [List.length_map]; exact hcap
      · exact hfp g (by rw [e2]; simp [Value.ownBlock]) _ _ _ hg
      · rw [List.length_map, Ty.size_fz, seg_zero, htake]
        exact Chunks.map_cast h1 (Q := fun b => ∀ c t f, w.heap[b]? = some (.cells c t f) → H' b = some c) (fun x c f hf hr => Rep.freeze e (by simpa [Ty.noFn] using hn) w' hH hf hr h1) (fun b hb => hfp b (by rw [e2]; simp [hb])) hch
  | .pair a b, hn, w, w', H, H', x, cs, fp, hH, hfp, h, hc => by
    simp only [Ty.noFn, Bool.and_eq_true] at hn
    obtain ⟨c1, c2, f1, f2, e, ef, h1, h2⟩ := h
    have ha : a.den = a.fz.den := (Ty.den_fz a).symm
    have hb : b.den = b.fz.den := (Ty.den_fz b).symm
    suffices hs : ∀ x' : a.fz.den × b.fz.den, x' = (cast ha x.1, cast hb x.2) → Rep P (.pair a.fz b.fz) w' H' x' cs [] from hs _ (cast_pair ha hb hc x)
    rintro _ rfl
    exact ⟨c1, c2, [], [], e, rfl, Rep.freeze a hn.1 w' hH (fun k hk => hfp k (by rw [ef]; simp [hk])) h1 ha, Rep.freeze b hn.2 w' hH (fun k hk => hfp k (by rw [ef]; simp [hk])) h2 hb⟩
  | .str t, hn, _, w', _, _, _, _, _, hH, hfp, h, hc => Rep.freeze t (by simpa [Ty.noFn] using hn) w' hH hfp h hc
  | .ptr t, hn, w, w', H, H', x, cs, fp, hH, hfp, h, hc => by
    obtain ⟨e0, h⟩ := h
    have h1 : t.den = t.fz.den := (Ty.den_fz t).symm
    suffices hs : ∀ x' : Option t.fz.den, x' = Option.map (cast h1) x → Rep P (.ptr t.fz) w' H' x' cs [] from hs _ (cast_opt h1 hc x)
    rintro _ rfl
    refine ⟨rfl, ?_⟩
    cases x with
    | none => exact h
    | some y =>
      obtain ⟨b, o, blk, e1, hb, hr⟩ := h
      refine ⟨b, o, blk, e1, hH _ _ hb, ?_⟩
      rw [Ty.size_fz]
      exact Rep.freeze t (by simpa [Ty.noFn] using hn) w' hH (by simp) hr h1
  | .arr n e, hn, w, w', H, H', l, cs, fp, hH, hfp, h, hc => by
    have h1 : e.den = e.fz.den := (Ty.den_fz e).symm
    suffices hs : ∀ l' : List e.fz.den, l' = List.map (cast h1) l → Rep P (.arr n e.fz) w' H' l' cs [] from hs _ (cast_list h1 hc l)
    rintro _ rfl
    exact ⟨by rw [List.length_map]; exact h.1, Chunks.map_cast h1 (fun x c f hf hr => Rep.freeze e (by simpa [Ty.noFn] using hn) w' hH hf hr h1) hfp h.2⟩
  | .fn _ _, hn, _, _, _, _, _, _, _, _, _, _, _ => by simp [Ty.noFn] at hn
  | .fn2 _ _ _, hn, _, _, _, _, _, _, _, _, _, _, _ => by simp [Ty.noFn] at hn

/-! ## Paths, without continuations -/
def getV : (τ : Ty) → τ.den → List Step → Option (Σ σ : Ty, σ.den)
  | .pair a b, x, p => match p with
    | [] => some ⟨.pair a b, x⟩
    | .L :: q => getV a x.1 q
    | .R :: q => getV b x.2 q
    | _ => none
  | .str t, x, p => match p with
    | [] => some ⟨.str t, x⟩
    | s :: q => getV t x (s :: q)
  | .list true tid e, x, p => match p with
    | [] => some ⟨.list true tid e, x⟩
    | .I i :: q => if 0 ≤ i then (x[i.toNat]?).bind fun y => getV e y q else none
    | _ => none
  | .arr n e, x, p => match p with
    | [] => some ⟨.arr n e, x⟩
    | .I i :: q => if 0 ≤ i then (x[i.toNat]?).bind fun y => getV e y q else none
    | _ => none
  | t, x, p => match p with
    | [] => some ⟨t, x⟩
    | _ => none

def setV : (τ : Ty) → τ.den → List Step → (σ : Ty) → σ.den → Option τ.den
  | .pair a b, x, p, σ, y => match p with
    | [] => castTy σ (.pair a b) y
    | .L :: q => (setV a x.1 q σ y).map fun z => (z, x.2)
    | .R :: q => (setV b x.2 q σ y).map fun z => (x.1, z)
    | _ => none
  | .str t, x, p, σ, y => match p with
    | [] => castTy σ (.str t) y
    | s :: q => setV t x (s :: q) σ y
  | .list true tid e, x, p, σ, y => match p with
    | [] => castTy σ (.list true tid e) y
    | .I i :: q => if 0 ≤ i then (x[i.toNat]?).bind fun z => (setV e z q σ y).map fun z' => x.set i.toNat z' else none
    | _ => none
  | .arr n e, x, p, σ, y => match p with
    | [] => castTy σ (.arr n e) y
    | .I i :: q => if 0 ≤ i then (x[i.toNat]?).bind fun z => (setV e z q σ y).map fun z' => x.set i.toNat z' else none
    | _ => none
  | t, _, p, σ, y => match p with
    | [] => castTy σ t y
    | _ => none

theorem getI_eq {α R : Type} (l : List α) (i : Int) (k : α → Option R) : getI l i k = if 0 ≤ i then (l[i.toNat]?).bind k else none := by
  unfold getI
  split
  · cases l[i.toNat]? <;> rfl
  · rfl
theorem derefK_eq {α R : Type} (o : Option α) (k : α → Option R) : derefK o k = o.bind k := by cases o <;> rfl

theorem getPK_eq {R : Type} : (τ : Ty) → ∀ (x : τ.den) (p : List Step) (k : (σ : Ty) → σ.den → Option R), getPK τ x p k = (getV τ x p).bind fun y => k y.1 y.2
  | .pair a b, x, p, k => by
    match p with
    | [] => rfl
    | .L :: q => exact getPK_eq a x.1 q k
    | .R :: q => exact getPK_eq b x.2 q k
    | .I _ :: _ => rfl
  | .str t, x, p, k => by
    match p with
    | [] => rfl
    | s :: q => exact getPK_eq t x (s :: q) k
  | .list true tid e, x, p, k => by
    match p with
    | [] => rfl
    | .L :: _ => rfl
    | .R :: _ => rfl
    | .I i :: q =>
      show getI x i (fun y => getPK e y q k) = _
      rw [getI_eq]
      simp only [getV]
      split
      · cases x[i.toNat]? with
        | none => rfl
        | some y => exact getPK_eq e y q k
      · rfl
  | .arr n e, x, p, k => by
    match p with
    | [] => rfl
    | .L :: _ => rfl
    | .R :: _ => rfl
    | .I i :: q =>
      show getI x i (fun y => getPK e y q k) = _
      rw [getI_eq]
      simp only [getV]
      split
      · cases x[i.toNat]? with
        | none => rfl
        | some y => exact getPK_eq e y q k
      · rfl
  | .int _, _, p, _ => by cases p <;> rfl
  | .bool, _, p, _ => by cases p <;> rfl
  | .list false _ _, _, p, _ => by cases p <;> rfl
  | .ptr _, _, p, _ => by cases p <;> rfl
  | .fn _ _, _, p, _ => by cases p <;> rfl
  | .fn2 _ _ _, _, p, _ => by cases p <;> rfl

theorem setPK_eq {R : Type} : (τ : Ty) → ∀ (x : τ.den) (p : List Step) (σ : Ty) (y : σ.den) (k : τ.den → Option R), setPK τ x p σ y k = (setV τ x p σ y).bind k
  | .pair a b, x, p, σ, y, k => by
    match p with
    | [] => exact derefK_eq _ _
    | .L :: q =>
      show setPK a x.1 q σ y _ = ((setV a x.1 q σ y).map _).bind k
      rw [setPK_eq a x.1 q σ y]; cases setV a x.1 q σ y <;> rfl
    | .R :: q =>
      show setPK b x.2 q σ y _ = ((setV b x.2 q σ y).map _).bind k
      rw [setPK_eq b x.2 q σ y]; cases setV b x.2 q σ y <;> rfl
    | .I _ :: _ => rfl
  | .str t, x, p, σ, y, k => by
    match p with
    | [] => exact derefK_eq _ _
    | s :: q => exact setPK_eq t x (s :: q) σ y k
  | .list true tid e, x, p, σ, y, k => by
    match p with
    | [] => exact derefK_eq _ _
    | .L :: _ => rfl
    | .R :: _ => rfl
    | .I i :: q =>
      show getI x i (fun z => setPK e z q σ y fun z' => k (x.set i.toNat z')) = _
      rw [getI_eq]
      simp only [setV]
      split
      · cases x[i.toNat]? with
        | none => rfl
        | some z =>
          show setPK e z q σ y _ = ((setV e z q σ y).map _).bind k
          rw [setPK_eq e z q σ y]; cases setV e z q σ y <;> rfl
      · rfl
  | .arr n e, x, p, σ, y, k => by
    match p with
    | [] => exact derefK_eq _ _
    | .L :: _ => rfl
    | .R :: _ => rfl
    | .I i :: q =>
      show getI x i (fun z => setPK e z q σ y fun z' => k (x.set i.toNat z')) = _
      rw [getI_eq]
      simp only [setV]
      split
      · cases x[i.toNat]? with
        | none => rfl
        | some z =>
          show setPK e z q σ y _ = ((setV e z q σ y).map _).bind k
          rw [setPK_eq e z q σ y]; cases setV e z q σ y <;> rfl
      · rfl
  | .int _, _, p, _, _, _ => by cases p with | nil => exact derefK_eq _ _ | cons => rfl
  | .bool, _, p, _, _, _ => by cases p with | nil => exact derefK_eq _ _ | cons => rfl
  | .list false _ _, _, p, _, _, _ => by cases p with | nil => exact derefK_eq _ _ | cons => rfl
  | .ptr _, _, p, _, _, _ => by cases p with | nil => exact derefK_eq _ _ | cons => rfl
  | .fn _ _, _, p, _, _, _ => by cases p with | nil => exact derefK_eq _ _ | cons => rfl
  | .fn2 _ _ _, _, p, _, _, _ => by cases p with | nil => exact derefK_eq _ _ | cons => rfl

theorem getV_nil (τ : Ty) (x : τ.den) : getV τ x [] = some ⟨τ, x⟩ := by
  cases τ with
  | list o _ _ => cases o <;> rfl
  | _ => rfl
theorem setV_nil (τ : Ty) (x : τ.den) (σ : Ty) (y : σ.den) : setV τ x [] σ y = castTy σ τ y := by
  cases τ with
  | list o _ _ => cases o <;> rfl
  | _ => rfl
theorem tyAt_nil (τ : Ty) : tyAt τ [] = some τ := by
  cases τ with
  | list o _ _ => cases o <;> rfl
  | _ => rfl
theorem castTy_self {τ σ : Ty} {x : τ.den} {y : σ.den} (h : castTy τ σ x = some y) : ∃ e : τ = σ, y = e ▸ x := by
  unfold castTy at h
  split at h
  · rename_i e; subst e; exact ⟨rfl, (Option.some.inj h).symm⟩
  · cases h
theorem castTy_eq {τ : Ty} {x y : τ.den} (h : castTy τ τ x = some y) : y = x := by
  obtain ⟨e, h⟩ := castTy_self h
  exact h

theorem getV_tyAt : (τ : Ty) → ∀ {x : τ.den} {p : List Step} {y}, getV τ x p = some y → tyAt τ p = some y.1
  | .pair a b, x, p, y, h => by
    match p with
    | [] => cases h; rfl
    | .L :: q => exact getV_tyAt a h
    | .R :: q => exact getV_tyAt b h
    | .I _ :: _ => cases h
  | .str t, x, p, y, h => by
    match p with
    | [] => cases h; rfl
    | s :: q => exact getV_tyAt t h
  | .list true tid e, x, p, y, h => by
    match p with
    | [] => cases h; rfl
    | .L :: _ => cases h
    | .R :: _ => cases h
    | .I i :: q =>
      simp only [getV] at h
      split at h
      · cases hx : x[i.toNat]? with
        | none => rw [hx] at h; cases h
        | some z => rw [hx] at h; exact getV_tyAt e h
      · cases h
  | .arr n e, x, p, y, h => by
    match p with
    | [] => cases h; rfl
    | .L :: _ => cases h
    | .R :: _ => cases h
    | .I i :: q =>
      simp only [getV] at h
      split at h
      · cases hx : x[i.toNat]? with
        | none => rw [hx] at h; cases h
        | some z => rw [hx] at h; exact getV_tyAt e h
      · cases h
  | .int _, _, p, _, h => by cases p <;> cases h; rfl
  | .bool, _, p, _, h => by cases p <;> cases h; rfl
  | .list false _ _, _, p, _, h => by cases p <;> cases h; rfl
  | .ptr _, _, p, _, h => by cases p <;> cases h; rfl
  | .fn _ _, _, p, _, h => by cases p <;> cases h; rfl
  | .fn2 _ _ _, _, p, _, h => by cases p <;> cases h; rfl

theorem getP_getV : (τ : Ty) → ∀ {x : τ.den} {p : List Step} {y}, getP τ x p = some y → getV τ x p = some y
  | .pair a b, x, p, y, h => by
    match p with
    | [] => exact h
    | .L :: q => exact getP_getV a h
    | .R :: q => exact getP_getV b h
    | .I _ :: _ => cases h
  | .str t, x, p, y, h => by
    match p with
    | [] => exact h
    | s :: q => exact getP_getV t h
  | .list true tid e, x, p, y, h => by cases p <;> first | exact h | cases h
  | .arr n e, x, p, y, h => by cases p <;> first | exact h | cases h
  | .int _, _, p, _, h => by cases p <;> first | exact h | cases h
  | .bool, _, p, _, h => by cases p <;> first | exact h | cases h
  | .list false _ _, _, p, _, h => by cases p <;> first | exact h | cases h
  | .ptr _, _, p, _, h => by cases p <;> first | exact h | cases h
  | .fn _ _, _, p, _, h => by cases p <;> first | exact h | cases h
  | .fn2 _ _ _, _, p, _, h => by cases p <;> first | exact h | cases h

end Go.Vi
