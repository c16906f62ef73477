/- The abstract interpreter 'Vi', fourth part: what it means that memory reads as a typed value; the laws of that. No condition beyond those typed in each theorem. -/
import Derived.Test.YtjhphibadndkcaaVi3
namespace Go.Vi

/-- The frozen heap: blocks that nothing writes any more. -/
abbrev FH := Nat → Option (Array Value)
def FH.le (H H' : FH) : Prop := ∀ b c, H b = some c → H' b = some c
theorem FH.le_refl (H : FH) : H.le H := fun _ _ h => h
theorem FH.le_trans {A B C : FH} (h : A.le B) (k : B.le C) : A.le C := fun b c e => k b c (h b c e)
def HOk (H : FH) (w : World) : Prop := ∀ b c, H b = some c → ∃ t f, w.heap[b]? = some (.cells c t f)

/-- Between two worlds only blocks of M may have changed; new ones may be there. -/
structure Mod (M : Nat → Prop) (w w' : World) : Prop where
  os : w'.os = w.os
  tape : w'.tape = w.tape
  output : w'.output = w.output
  size : w.heap.size ≤ w'.heap.size
  block : ∀ k, k < w.heap.size → ¬ M k → w'.heap[k]? = w.heap[k]?
theorem Mod.refl (M : Nat → Prop) (w : World) : Mod M w w := ⟨rfl, rfl, rfl, Nat.le_refl _, fun _ _ _ => rfl⟩
theorem Mod.trans {M : Nat → Prop} {a b c : World} (h : Mod M a b) (k : Mod M b c) : Mod M a c :=
  ⟨k.os.trans h.os, k.tape.trans h.tape, k.output.trans h.output, Nat.le_trans h.size k.size, fun i hi hm => (k.block i (Nat.lt_of_lt_of_le hi h.size) hm).trans (h.block i hi hm)⟩
/-- The second step may change what is new behind the first one. -/
theorem Mod.trans_new {M N : Nat → Prop} {a b c : World} (h : Mod M a b) (k : Mod N b c) (hN : ∀ i, N i → M i ∨ a.heap.size ≤ i) : Mod M a c :=
  ⟨k.os.trans h.os, k.tape.trans h.tape, k.output.trans h.output, Nat.le_trans h.size k.size, fun i hi hm => (k.block i (Nat.lt_of_lt_of_le hi h.size) (fun hn => (hN i hn).elim hm (fun e => by omega))).trans (h.block i hi hm)⟩
theorem Mod.mono {M N : Nat → Prop} {a b : World} (h : Mod M a b) (hN : ∀ i, M i → N i) : Mod N a b :=
  ⟨h.os, h.tape, h.output, h.size, fun i hi hm => h.block i hi (fun hh => hm (hN i hh))⟩
def noBlock : Nat → Prop := fun _ => False
theorem HOk.mod {H : FH} {M : Nat → Prop} {w w' : World} (h : HOk H w) (hm : Mod M w w') (hM : ∀ b, M b → H b = none) : HOk H w' := by
  intro b c hb
  obtain ⟨t, f, hw⟩ := h b c hb
  refine ⟨t, f, ?_⟩
  rw [hm.block b (Array.getElem?_eq_some_iff.1 hw).1 (fun hh => by rw [hM b hh] at hb; cases hb)]
  exact hw

def seg (c : Array Value) (o n : Nat) : List Value := (c.toList.drop o).take n
def toV (τ : Ty) (cs : List Value) : Value := bif τ.isAgg then .agg cs.toArray else cs.headD undef

def Chunks {α : Type} (R : α → List Value → List Nat → Prop) : List α → List Value → List Nat → Prop
  | [], xs, fp => xs = [] ∧ fp = []
  | x :: l, xs, fp => ∃ c xs' f fp', xs = c ++ xs' ∧ fp = f ++ fp' ∧ R x c f ∧ Chunks R l xs' fp'

/-- A function that a call enters. -/
def Callable (P : Program) (f : Nat) : Prop := ∃ fn, P.funcs[f]? = some fn ∧ (fn.name == "runtime.NumGoroutine") = false ∧ fn.body.isSome = true

/-- Cells that read as a typed value; 'fp': the blocks that are owned below. -/
def Rep (P : Program) : (τ : Ty) → World → FH → τ.den → List Value → List Nat → Prop
  | .int k, _, _, x, cs, fp => cs = [.int k x] ∧ fp = []
  | .bool, _, _, x, cs, fp => cs = [.bool x] ∧ fp = []
  | .list false _ e, w, H, l, cs, fp => fp = [] ∧ ∃ a cap, cs = [.slice a l.length cap] ∧ l.length ≤ cap ∧
      (l = [] ∨ ∃ b o blk, a = some ⟨b, o, none⟩ ∧ H b = some blk ∧ Chunks (Rep P e w H) l (seg blk o (l.length * e.size)) [])
  | .list true tid e, w, H, l, cs, fp => ∃ hdr xs fp', cs = [hdr] ∧ fp = hdr.ownBlock.toList ++ fp' ∧ w.ownsRow 0 tid e.size hdr l.length xs ∧ Chunks (Rep P e w H) l xs fp'
  | .pair a b, w, H, x, cs, fp => ∃ c1 c2 f1 f2, cs = c1 ++ c2 ∧ fp = f1 ++ f2 ∧ Rep P a w H x.1 c1 f1 ∧ Rep P b w H x.2 c2 f2
  | .str t, w, H, x, cs, fp => Rep P t w H x cs fp
  | .ptr t, w, H, x, cs, fp => fp = [] ∧ match x with
      | none => cs = [.pointer none]
      | some y => ∃ b o blk, cs = [.pointer (some ⟨b, o, none⟩)] ∧ H b = some blk ∧ Rep P t w H y (seg blk o t.size) []
  | .arr n e, w, H, l, cs, fp => l.length = n ∧ Chunks (Rep P e w H) l cs fp
  | .fn a r, _, H, g, cs, fp => fp = [] ∧ ∃ f first caps, cs = [.func (.func f) first caps] ∧ Callable P f ∧
      ∀ x y, g x = some y → ∀ H' w' cx, H.le H' → HOk H' w' → Rep P a w' H' x cx [] →
        Calls P f (first ++ #[toV a cx] ++ caps) w' fun e w'' => ∃ cy, e = .returned (toV r cy) ∧ Mod noBlock w' w'' ∧ Rep P r w'' H' y cy []
  | .fn2 a b r, _, H, g, cs, fp => fp = [] ∧ ∃ f first caps, cs = [.func (.func f) first caps] ∧ Callable P f ∧
      ∀ x y z, g x y = some z → ∀ H' w' cx cy, H.le H' → HOk H' w' → Rep P a w' H' x cx [] → Rep P b w' H' y cy [] →
        Calls P f (first ++ #[toV a cx, toV b cy] ++ caps) w' fun e w'' => ∃ cz, e = .returned (toV r cz) ∧ Mod noBlock w' w'' ∧ Rep P r w'' H' z cz []

/-! ## Chunks -/
section chunks
variable {α : Type} {R S : α → List Value → List Nat → Prop}
theorem Chunks.mono (h : ∀ x c f, R x c f → S x c f) : ∀ {l : List α} {xs fp}, Chunks R l xs fp → Chunks S l xs fp
  | [], _, _, hh => hh
  | _ :: _, _, _, ⟨c, xs', f, fp', e1, e2, h1, h2⟩ => ⟨c, xs', f, fp', e1, e2, h _ _ _ h1, Chunks.mono h h2⟩
/-- with the footprints at hand -/
theorem Chunks.mono_fp {Q : Nat → Prop} (h : ∀ x c f, (∀ b ∈ f, Q b) → R x c f → S x c f) : ∀ {l : List α} {xs fp}, (∀ b ∈ fp, Q b) → Chunks R l xs fp → Chunks S l xs fp
  | [], _, _, _, hh => hh
  | _ :: _, _, _, hq, ⟨c, xs', f, fp', e1, e2, h1, h2⟩ =>
    ⟨c, xs', f, fp', e1, e2, h _ _ _ (fun b hb => hq b (by rw [e2]; simp [hb])) h1, Chunks.mono_fp h (fun b hb => hq b (by rw [e2]; simp [hb])) h2⟩
theorem Chunks.length {n : Nat} (h : ∀ x c f, R x c f → c.length = n) : ∀ {l : List α} {xs fp}, Chunks R l xs fp → xs.length = l.length * n
  | [], _, _, ⟨e, _⟩ => by simp [e]
  | _ :: l, _, _, ⟨c, xs', f, fp', e1, e2, h1, h2⟩ => by
    rw [e1, List.length_append, h _ _ _ h1, Chunks.length h h2, List.length_cons, Nat.add_mul]; omega
theorem Chunks.all {p : Value → Prop} (h : ∀ x c f, R x c f → ∀ v ∈ c, p v) : ∀ {l : List α} {xs fp}, Chunks R l xs fp → ∀ v ∈ xs, p v
  | [], _, _, ⟨e, _⟩ => by simp [e]
  | _ :: l, _, _, ⟨c, xs', f, fp', e1, e2, h1, h2⟩ => by
    intro v hv
    rw [e1, List.mem_append] at hv
    exact hv.elim (h _ _ _ h1 v) (Chunks.all h h2 v)
theorem Chunks.append : ∀ {l l' : List α} {xs ys fp fq}, Chunks R l xs fp → Chunks R l' ys fq → Chunks R (l ++ l') (xs ++ ys) (fp ++ fq)
  | [], _, _, _, _, _, ⟨e, e'⟩, hh => by simpa [e, e'] using hh
  | _ :: _, _, _, _, _, _, ⟨c, xs', f, fp', e1, e2, h1, h2⟩, hh =>
    ⟨c, xs' ++ _, f, fp' ++ _, by rw [e1, List.append_assoc], by rw [e2, List.append_assoc], h1, Chunks.append h2 hh⟩
theorem Chunks.split : ∀ {l l' : List α} {xs fp}, Chunks R (l ++ l') xs fp → ∃ ys zs f g, xs = ys ++ zs ∧ fp = f ++ g ∧ Chunks R l ys f ∧ Chunks R l' zs g
  | [], _, xs, fp, hh => ⟨[], xs, [], fp, rfl, rfl, ⟨rfl, rfl⟩, hh⟩
  | _ :: _, _, _, _, ⟨c, xs', f, fp', e1, e2, h1, h2⟩ => by
    obtain ⟨ys, zs, f2, g2, e3, e4, h3, h4⟩ := Chunks.split h2
    exact ⟨c ++ ys, zs, f ++ f2, g2, by rw [e1, e3, List.append_assoc], by rw [e2, e4, List.append_assoc], ⟨c, ys, f, f2, rfl, rfl, h1, h3⟩, h4⟩
theorem Chunks.one {x : α} {c f} (h : R x c f) : Chunks R [x] c f := ⟨c, [], f, [], by simp, by simp, h, rfl, rfl⟩
/-- The element number i and what stands around it. -/
theorem Chunks.at {l : List α} {xs fp} (h : Chunks R l xs fp) {i : Nat} {x : α} (hx : l[i]? = some x) :
    ∃ pre c post f1 f f2, xs = pre ++ c ++ post ∧ fp = f1 ++ f ++ f2 ∧ Chunks R (l.take i) pre f1 ∧ R x c f ∧ Chunks R (l.drop (i + 1)) post f2 := by
  obtain ⟨hi, rfl⟩ := List.getElem?_eq_some_iff.1 hx
  have e : l = l.take i ++ l[i] :: l.drop (i + 1) := by simp
  rw [e] at h
  obtain ⟨ys, zs, f, g, rfl, rfl, h1, c, xs', f', fp', rfl, rfl, h2, h3⟩ := Chunks.split h
  refine ⟨ys, c, xs', f, f', fp', by simp, by simp, ?_, ?_, ?_⟩
  · exact h1
  · exact h2
  · exact h3
theorem Chunks.take {n : Nat} (hn : ∀ x c f, R x c f → c.length = n) {l : List α} {xs fp} (h : Chunks R l xs fp) (i : Nat) : ∃ f, Chunks R (l.take i) (xs.take (i * n)) f ∧ ∃ g, fp = f ++ g := by
  have e : l = l.take i ++ l.drop i := (List.take_append_drop i l).symm
  rw [e] at h
  obtain ⟨ys, zs, f, g, rfl, rfl, h1, h2⟩ := Chunks.split h
  refine ⟨f, ?_, g, rfl⟩
  have hl := Chunks.length hn h1
  by_cases hi : i ≤ l.length
  · have : ys.length = i * n := by rw [hl]; simp [hi]
    rw [← this, List.take_left]; exact h1
  · have h0 : l.drop i = [] := List.drop_eq_nil_of_le (by omega)
    rw [h0] at h2
    obtain ⟨rfl, rfl⟩ := h2
    have e2 : ys.take (i * n) = ys := List.take_of_length_le (by rw [hl]; refine Nat.mul_le_mul_right _ ?_; simp; omega)
    rw [List.append_nil, e2]
    exact h1
theorem Chunks.drop {n : Nat} (hn : ∀ x c f, R x c f → c.length = n) {l : List α} {xs fp} (h : Chunks R l xs fp) (i : Nat) : ∃ f, Chunks R (l.drop i) (xs.drop (i * n)) f ∧ ∃ g, fp = g ++ f := by
  have e : l = l.take i ++ l.drop i := (List.take_append_drop i l).symm
  rw [e] at h
  obtain ⟨ys, zs, f, g, rfl, rfl, h1, h2⟩ := Chunks.split h
  refine ⟨g, ?_, f, rfl⟩
  have hl := Chunks.length hn h1
  by_cases hi : i ≤ l.length
  · have : ys.length = i * n := by rw [hl]; simp [hi]
    rw [← this, List.drop_left]; exact h2
  · have h0 : l.drop i = [] := List.drop_eq_nil_of_le (by omega)
    rw [h0] at h2 ⊢
    obtain ⟨rfl, rfl⟩ := h2
    have e2 : ys.drop (i * n) = [] := List.drop_eq_nil_of_le (by rw [hl]; refine Nat.mul_le_mul_right _ ?_; simp; omega)
    rw [List.append_nil, e2]
    exact ⟨rfl, rfl⟩
theorem Chunks.replicate {x : α} {c} (h : R x c []) : ∀ n, Chunks R (List.replicate n x) (List.replicate n c).flatten []
  | 0 => ⟨rfl, rfl⟩
  | n + 1 => ⟨c, (List.replicate n c).flatten, [], [], by simp [List.replicate_succ], rfl, h, Chunks.replicate h n⟩
end chunks

/-! ## The laws of reading -/
section laws
variable {P : Program}

theorem Ty.size_pos : (τ : Ty) → τ.isAgg = false → (∀ a b, τ ≠ .pair a b) → τ.size = 1
  | .int _, _, _ => rfl
  | .bool, _, _ => rfl
  | .list _ _ _, _, _ => rfl
  | .pair a b, _, h => absurd rfl (h a b)
  | .ptr _, _, _ => rfl
  | .fn _ _, _, _ => rfl
  | .fn2 _ _ _, _, _ => rfl
  | .str _, h, _ => by simp [Ty.isAgg] at h
  | .arr _ _, h, _ => by simp [Ty.isAgg] at h

theorem Rep.length : (τ : Ty) → ∀ {w H x cs fp}, Rep P τ w H x cs fp → cs.length = τ.size
  | .int _, _, _, _, _, _, h => by rw [h.1]; rfl
  | .bool, _, _, _, _, _, h => by rw [h.1]; rfl
  | .list false _ _, _, _, _, _, _, h => by obtain ⟨_, _, _, e, _⟩ := h; rw [e]; rfl
  | .list true _ _, _, _, _, _, _, h => by obtain ⟨_, _, _, e, _⟩ := h; rw [e]; rfl
  | .pair a b, _, _, _, _, _, h => by
    obtain ⟨c1, c2, f1, f2, e, _, h1, h2⟩ := h
    rw [e, List.length_append, Rep.length a h1, Rep.length b h2]; rfl
  | .str t, _, _, _, _, _, h => Rep.length t h
  | .ptr t, _, _, x, _, _, h => by
    cases x with
    | none => rw [h.2]; rfl
    | some y => obtain ⟨_, _, _, _, e, _⟩ := h; rw [e]; rfl
  | .arr n e, _, _, _, _, _, h => by
    rw [Chunks.length (n := e.size) (fun _ _ _ hh => Rep.length e hh) h.2, h.1]; rfl
  | .fn _ _, _, _, _, _, _, h => by obtain ⟨_, _, _, _, e, _⟩ := h; rw [e]; rfl
  | .fn2 _ _ _, _, _, _, _, _, h => by obtain ⟨_, _, _, _, e, _⟩ := h; rw [e]; rfl

theorem ownsRow_oneCell {w : World} {tid size n : Nat} {v : Value} {xs : List Value} (h : w.ownsRow 0 tid size v n xs) : v.oneCell' = true := by
  rcases h.2 with ⟨rfl, _⟩ | ⟨g, cap, cur, rfl, _⟩ <;> rfl

theorem Rep.one : (τ : Ty) → ∀ {w H x cs fp}, Rep P τ w H x cs fp → ∀ v ∈ cs, v.oneCell' = true
  | .int _, _, _, _, _, _, h => by rw [h.1]; simp [Value.oneCell']
  | .bool, _, _, _, _, _, h => by rw [h.1]; simp [Value.oneCell']
  | .list false _ _, _, _, _, _, _, h => by obtain ⟨_, _, _, e, _⟩ := h; rw [e]; simp [Value.oneCell']
  | .list true _ _, _, _, _, _, _, h => by
    obtain ⟨_, _, _, e, _, ho, _⟩ := h
    rw [e]; simpa using ownsRow_oneCell ho
  | .pair a b, _, _, _, _, _, h => by
    obtain ⟨c1, c2, f1, f2, e, _, h1, h2⟩ := h
    intro v hv
    rw [e, List.mem_append] at hv
    exact hv.elim (Rep.one a h1 v) (Rep.one b h2 v)
  | .str t, _, _, _, _, _, h => Rep.one t h
  | .ptr t, _, _, x, _, _, h => by
    cases x with
    | none => rw [h.2]; simp [Value.oneCell']
    | some y => obtain ⟨_, _, _, _, e, _⟩ := h; rw [e]; simp [Value.oneCell']
  | .arr n e, _, _, _, _, _, h => Chunks.all (fun _ _ _ hh => Rep.one e hh) h.2
  | .fn _ _, _, _, _, _, _, h => by obtain ⟨_, _, _, _, e, _⟩ := h; rw [e]; simp [Value.oneCell']
  | .fn2 _ _ _, _, _, _, _, _, h => by obtain ⟨_, _, _, _, e, _⟩ := h; rw [e]; simp [Value.oneCell']

theorem ownsRow_block {w w' : World} {tid size n : Nat} {v : Value} {xs : List Value} (h : w.ownsRow 0 tid size v n xs)
    (hb : ∀ b ∈ v.ownBlock.toList, w'.heap[b]? = w.heap[b]?) : w'.ownsRow 0 tid size v n xs := by
  refine ⟨h.1, ?_⟩
  rcases h.2 with hn | ⟨g, cap, cur, rfl, h0, hg, rest⟩
  · exact .inl hn
  · exact .inr ⟨g, cap, cur, rfl, h0, by rw [hb g (by simp [Value.ownBlock])]; exact hg, rest⟩

/-- More may be frozen, and what is not owned may change. -/
theorem Rep.mono : (τ : Ty) → ∀ {w w' : World} {H H' : FH} {x cs fp}, H.le H' → (∀ b ∈ fp, w'.heap[b]? = w.heap[b]?) → Rep P τ w H x cs fp → Rep P τ w' H' x cs fp
  | .int _, _, _, _, _, _, _, _, _, _, h => h
  | .bool, _, _, _, _, _, _, _, _, _, h => h
  | .list false _ e, w, w', H, H', l, cs, fp, hH, _, h => by
    obtain ⟨e0, a, cap, e1, hc, h2⟩ := h
    refine ⟨e0, a, cap, e1, hc, h2.imp id ?_⟩
    rintro ⟨b, o, blk, ea, hb, hch⟩
    exact ⟨b, o, blk, ea, hH _ _ hb, Chunks.mono_fp (Q := fun _ => False) (fun x c f hf hr => Rep.mono e hH (fun b hb => (hf b hb).elim) hr) (by simp) hch⟩
  | .list true tid e, w, w', H, H', l, cs, fp, hH, hw, h => by
    obtain ⟨hdr, xs, fp', e1, e2, ho, hch⟩ := h
    refine ⟨hdr, xs, fp', e1, e2, ownsRow_block ho (fun b hb => hw b (by rw [e2]; simp [hb])), ?_⟩
    exact Chunks.mono_fp (Q := fun b => w'.heap[b]? = w.heap[b]?) (fun x c f hf hr => Rep.mono e hH hf hr) (fun b hb => hw b (by rw [e2]; simp [hb])) hch
  | .pair a b, w, w', H, H', x, cs, fp, hH, hw, h => by
    obtain ⟨c1, c2, f1, f2, e, ef, h1, h2⟩ := h
    exact ⟨c1, c2, f1, f2, e, ef, Rep.mono a hH (fun b hb => hw b (by rw [ef]; simp [hb])) h1, Rep.mono b hH (fun b hb => hw b (by rw [ef]; simp [hb])) h2⟩
  | .str t, _, _, _, _, _, _, _, hH, hw, h => Rep.mono t hH hw h
  | .ptr t, w, w', H, H', x, cs, fp, hH, hw, h => by
    obtain ⟨e0, h⟩ := h
    refine ⟨e0, ?_⟩
    cases x with
    | none => exact h
    | some y =>
      obtain ⟨b, o, blk, e1, hb, hr⟩ := h
      exact ⟨b, o, blk, e1, hH _ _ hb, Rep.mono t hH (by simp) hr⟩
  | .arr n e, w, w', H, H', l, cs, fp, hH, hw, h =>
    ⟨h.1, Chunks.mono_fp (Q := fun b => w'.heap[b]? = w.heap[b]?) (fun x c f hf hr => Rep.mono e hH hf hr) hw h.2⟩
  | .fn a r, w, w', H, H', g, cs, fp, hH, hw, h => by
    obtain ⟨e0, f, first, caps, e1, hc, h2⟩ := h
    exact ⟨e0, f, first, caps, e1, hc, fun x y hg H2 w2 cx hle => h2 x y hg H2 w2 cx (FH.le_trans hH hle)⟩
  | .fn2 a b r, w, w', H, H', g, cs, fp, hH, hw, h => by
    obtain ⟨e0, f, first, caps, e1, hc, h2⟩ := h
    exact ⟨e0, f, first, caps, e1, hc, fun x y z hg H2 w2 cx cy hle => h2 x y z hg H2 w2 cx cy (FH.le_trans hH hle)⟩

theorem Chunks.fp_nil {α : Type} {R : α → List Value → List Nat → Prop} (h : ∀ x c f, R x c f → f = []) : ∀ {l : List α} {xs fp}, Chunks R l xs fp → fp = []
  | [], _, _, ⟨_, e⟩ => e
  | _ :: _, _, _, ⟨c, xs', f, fp', e1, e2, h1, h2⟩ => by rw [e2, h _ _ _ h1, Chunks.fp_nil h h2]; rfl

theorem Rep.fz_fp : (τ : Ty) → τ.isFz = true → ∀ {w H x cs fp}, Rep P τ w H x cs fp → fp = []
  | .int _, _, _, _, _, _, _, h => h.2
  | .bool, _, _, _, _, _, _, h => h.2
  | .list false _ _, _, _, _, _, _, _, h => h.1
  | .list true _ _, hf, _, _, _, _, _, _ => by simp [Ty.isFz] at hf
  | .pair a b, hf, _, _, _, _, _, h => by
    simp only [Ty.isFz, Bool.and_eq_true] at hf
    obtain ⟨c1, c2, f1, f2, _, ef, h1, h2⟩ := h
    rw [ef, Rep.fz_fp a hf.1 h1, Rep.fz_fp b hf.2 h2]; rfl
  | .str t, hf, _, _, _, _, _, h => Rep.fz_fp t (by simpa [Ty.isFz] using hf) h
  | .ptr _, _, _, _, _, _, _, h => h.1
  | .arr _ e, hf, _, _, _, _, _, h => Chunks.fp_nil (fun _ _ _ hh => Rep.fz_fp e (by simpa [Ty.isFz] using hf) hh) h.2
  | .fn _ _, _, _, _, _, _, _, h => h.1
  | .fn2 _ _ _, _, _, _, _, _, _, h => h.1

/-- A closed type's reading does not hang on what is frozen. -/
theorem Rep.closed : (τ : Ty) → τ.isClosed = true → ∀ {w H H' x cs fp}, Rep P τ w H x cs fp → Rep P τ w H' x cs fp
  | .int _, _, _, _, _, _, _, _, h => h
  | .bool, _, _, _, _, _, _, _, h => h
  | .list false _ _, hf, _, _, _, _, _, _, _ => by simp [Ty.isClosed] at hf
  | .list true _ e, hf, _, _, _, _, _, _, h => by
    obtain ⟨hdr, xs, fp', e1, e2, ho, hch⟩ := h
    exact ⟨hdr, xs, fp', e1, e2, ho, Chunks.mono (fun _ _ _ hh => Rep.closed e (by simpa [Ty.isClosed] using hf) hh) hch⟩
  | .pair a b, hf, _, _, _, _, _, _, h => by
    simp only [Ty.isClosed, Bool.and_eq_true] at hf
    obtain ⟨c1, c2, f1, f2, e, ef, h1, h2⟩ := h
    exact ⟨c1, c2, f1, f2, e, ef, Rep.closed a hf.1 h1, Rep.closed b hf.2 h2⟩
  | .str t, hf, _, _, _, _, _, _, h => Rep.closed t (by simpa [Ty.isClosed] using hf) h
  | .ptr _, hf, _, _, _, _, _, _, _ => by simp [Ty.isClosed] at hf
  | .arr _ e, hf, _, _, _, _, _, _, h => ⟨h.1, Chunks.mono (fun _ _ _ hh => Rep.closed e (by simpa [Ty.isClosed] using hf) hh) h.2⟩
  | .fn _ _, hf, _, _, _, _, _, _, _ => by simp [Ty.isClosed] at hf
  | .fn2 _ _ _, hf, _, _, _, _, _, _, _ => by simp [Ty.isClosed] at hf

theorem Ty.flat_closed : (τ : Ty) → τ.isFlat = true → τ.isClosed = true
  | .int _, _ => rfl
  | .bool, _ => rfl
  | .list _ _ _, h => by simp [Ty.isFlat] at h
  | .pair a b, h => by
    simp only [Ty.isFlat, Bool.and_eq_true] at h
    simp [Ty.isClosed, Ty.flat_closed a h.1, Ty.flat_closed b h.2]
  | .str t, h => Ty.flat_closed t (by simpa [Ty.isFlat] using h)
  | .ptr _, h => by simp [Ty.isFlat] at h
  | .arr _ e, h => Ty.flat_closed e (by simpa [Ty.isFlat] using h)
  | .fn _ _, h => by simp [Ty.isFlat] at h
  | .fn2 _ _ _, h => by simp [Ty.isFlat] at h
theorem Ty.flat_fz : (τ : Ty) → τ.isFlat = true → τ.isFz = true
  | .int _, _ => rfl
  | .bool, _ => rfl
  | .list _ _ _, h => by simp [Ty.isFlat] at h
  | .pair a b, h => by
    simp only [Ty.isFlat, Bool.and_eq_true] at h
    simp [Ty.isFz, Ty.flat_fz a h.1, Ty.flat_fz b h.2]
  | .str t, h => Ty.flat_fz t (by simpa [Ty.isFlat] using h)
  | .ptr _, h => by simp [Ty.isFlat] at h
  | .arr _ e, h => Ty.flat_fz e (by simpa [Ty.isFlat] using h)
  | .fn _ _, h => by simp [Ty.isFlat] at h
  | .fn2 _ _ _, h => by simp [Ty.isFlat] at h

theorem Rep.zero : (τ : Ty) → τ.noFn = true → ∀ {w H}, Rep P τ w H τ.zero τ.zeroCells []
  | .int _, _, _, _ => ⟨rfl, rfl⟩
  | .bool, _, _, _ => ⟨rfl, rfl⟩
  | .list false _ _, _, _, _ => ⟨rfl, none, 0, rfl, Nat.le_refl _, .inl rfl⟩
  | .list true tid e, _, w, _ => ⟨.slice none 0 0, [], [], rfl, rfl, World.ownsRow_nil w 0 tid e.size, rfl, rfl⟩
  | .pair a b, h, _, _ => by
    simp only [Ty.noFn, Bool.and_eq_true] at h
    exact ⟨_, _, [], [], rfl, rfl, Rep.zero a h.1, Rep.zero b h.2⟩
  | .str t, h, _, _ => Rep.zero t (by simpa [Ty.noFn] using h)
  | .ptr _, _, _, _ => ⟨rfl, rfl⟩
  | .arr n e, h, _, _ => ⟨by simp [Ty.zero], Chunks.replicate (Rep.zero e (by simpa [Ty.noFn] using h)) n⟩
  | .fn _ _, h, _, _ => by simp [Ty.noFn] at h
  | .fn2 _ _ _, h, _, _ => by simp [Ty.noFn] at h
theorem Ty.zero_length : (τ : Ty) → τ.zeroCells.length = τ.size
  | .int _ => rfl
  | .bool => rfl
  | .list _ _ _ => rfl
  | .pair a b => by simp [Ty.zeroCells, Ty.size, Ty.zero_length a, Ty.zero_length b]
  | .str t => Ty.zero_length t
  | .ptr _ => rfl
  | .arr n e => by simp [Ty.zeroCells, Ty.size, Ty.zero_length e]
  | .fn _ _ => rfl
  | .fn2 _ _ _ => rfl
theorem Ty.zero_one : (τ : Ty) → ∀ v ∈ τ.zeroCells, v.oneCell' = true
  | .int _ => by simp [Ty.zeroCells, Value.oneCell']
  | .bool => by simp [Ty.zeroCells, Value.oneCell']
  | .list _ _ _ => by simp [Ty.zeroCells, Value.oneCell']
  | .pair a b => by
    intro v hv
    simp only [Ty.zeroCells, List.mem_append] at hv
    exact hv.elim (Ty.zero_one a v) (Ty.zero_one b v)
  | .str t => Ty.zero_one t
  | .ptr _ => by simp [Ty.zeroCells, Value.oneCell']
  | .arr n e => by
    intro v hv
    simp only [Ty.zeroCells, List.mem_flatten, List.mem_replicate] at hv
    obtain ⟨l, ⟨_, rfl⟩, hv⟩ := hv
    exact Ty.zero_one e v hv
  | .fn _ _ => by simp [Ty.zeroCells, Value.oneCell']
  | .fn2 _ _ _ => by simp [Ty.zeroCells, Value.oneCell']
end laws
end Go.Vi
