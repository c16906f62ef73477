/- The abstract interpreter 'Vi', sixth part: places in memory; what a store at a place does to the reading of the whole. No condition beyond those typed in each theorem. -/
import Derived.Test.YtjhphibadndkcaaVi5
namespace Go.Vi

/-- From the place (b, o), where a value of type τ lies, a path leads to (b', o'). -/
def Loc (w : World) : Ty → Nat → Nat → List Step → Nat → Nat → Prop
  | .pair x y, b, o, p, b', o' => match p with
    | [] => b' = b ∧ o' = o
    | .L :: q => Loc w x b o q b' o'
    | .R :: q => Loc w y b (o + x.size) q b' o'
    | _ => False
  | .str t, b, o, p, b', o' => match p with
    | [] => b' = b ∧ o' = o
    | s :: q => Loc w t b o (s :: q) b' o'
  | .list true _ e, b, o, p, b', o' => match p with
    | [] => b' = b ∧ o' = o
    | .I i :: q => ∃ g n cap, w.cell? ⟨b, o, none⟩ = some (.slice (some ⟨g, 0, none⟩) n cap) ∧ Loc w e g (i.toNat * e.size) q b' o'
    | _ => False
  | .arr _ e, b, o, p, b', o' => match p with
    | [] => b' = b ∧ o' = o
    | .I i :: q => Loc w e b (o + i.toNat * e.size) q b' o'
    | _ => False
  | _, b, o, p, b', o' => p = [] ∧ b' = b ∧ o' = o

theorem Loc_nil (w : World) (τ : Ty) (b o : Nat) : Loc w τ b o [] b o := by
  cases τ with
  | list o _ _ => cases o <;> first | exact ⟨rfl, rfl⟩ | exact ⟨rfl, rfl, rfl⟩
  | _ => first | exact ⟨rfl, rfl⟩ | exact ⟨rfl, rfl, rfl⟩

theorem cell_of_block {w : World} {b : Nat} {blk : Array Value} {t : TypeId} {f : Nat × Nat} (h : w.heap[b]? = some (.cells blk t f)) (o : Nat) : w.cell? ⟨b, o, none⟩ = blk[o]? := by
  simp [World.cell?, h]

/-- Paths without an index lead to the same place in every world. -/
theorem Loc.static : (τ : Ty) → ∀ {w w' : World} {b o p b' o'}, p.any Step.isI = false → Loc w τ b o p b' o' → Loc w' τ b o p b' o'
  | .pair x y, _, _, _, _, p, _, _, hp, h => by
    match p with
    | [] => exact h
    | .L :: q => exact Loc.static x (by simpa [Step.isI] using hp) h
    | .R :: q => exact Loc.static y (by simpa [Step.isI] using hp) h
    | .I _ :: _ => exact h.elim
  | .str t, _, _, _, _, p, _, _, hp, h => by
    match p with
    | [] => exact h
    | s :: q => exact Loc.static t hp h
  | .list true _ e, _, _, _, _, p, _, _, hp, h => by
    match p with
    | [] => exact h
    | .L :: _ => exact h.elim
    | .R :: _ => exact h.elim
    | .I _ :: _ => simp [Step.isI] at hp
  | .arr _ e, _, _, _, _, p, _, _, hp, h => by
    match p with
    | [] => exact h
    | .L :: _ => exact h.elim
    | .R :: _ => exact h.elim
    | .I _ :: _ => simp [Step.isI] at hp
  | .int _, _, _, _, _, _, _, _, _, h => h
  | .bool, _, _, _, _, _, _, _, _, h => h
  | .list false _ _, _, _, _, _, _, _, _, _, h => h
  | .ptr _, _, _, _, _, _, _, _, _, h => h
  | .fn _ _, _, _, _, _, _, _, _, _, h => h
  | .fn2 _ _ _, _, _, _, _, _, _, _, _, h => h

/-- A store that keeps every slice's header where it is keeps the places. -/
theorem Loc.keep : (τ : Ty) → ∀ {w w' : World}, (∀ a g n cap, w.cell? a = some (.slice g n cap) → w'.cell? a = some (.slice g n cap)) → ∀ {b o p b' o'}, Loc w τ b o p b' o' → Loc w' τ b o p b' o'
  | .pair x y, _, _, hk, _, _, p, _, _, h => by
    match p with
    | [] => exact h
    | .L :: q => exact Loc.keep x hk h
    | .R :: q => exact Loc.keep y hk h
    | .I _ :: _ => exact h.elim
  | .str t, _, _, hk, _, _, p, _, _, h => by
    match p with
    | [] => exact h
    | s :: q => exact Loc.keep t hk h
  | .list true _ e, _, _, hk, _, _, p, _, _, h => by
    match p with
    | [] => exact h
    | .L :: _ => exact h.elim
    | .R :: _ => exact h.elim
    | .I _ :: _ =>
      obtain ⟨g, n, cap, h1, h2⟩ := h
      exact ⟨g, n, cap, hk _ _ _ _ h1, Loc.keep e hk h2⟩
  | .arr _ e, _, _, hk, _, _, p, _, _, h => by
    match p with
    | [] => exact h
    | .L :: _ => exact h.elim
    | .R :: _ => exact h.elim
    | .I _ :: _ => exact Loc.keep e hk h
  | .int _, _, _, _, _, _, _, _, _, h => h
  | .bool, _, _, _, _, _, _, _, _, h => h
  | .list false _ _, _, _, _, _, _, _, _, _, h => h
  | .ptr _, _, _, _, _, _, _, _, _, h => h
  | .fn _ _, _, _, _, _, _, _, _, _, h => h
  | .fn2 _ _ _, _, _, _, _, _, _, _, _, h => h

/-- There is one place. -/
theorem Loc.det : (τ : Ty) → ∀ {w : World} {b o p b1 o1 b2 o2}, Loc w τ b o p b1 o1 → Loc w τ b o p b2 o2 → b1 = b2 ∧ o1 = o2
  | .pair x y, _, _, _, p, _, _, _, _, h, k => by
    match p with
    | [] => exact ⟨h.1.trans k.1.symm, h.2.trans k.2.symm⟩
    | .L :: q => exact Loc.det x h k
    | .R :: q => exact Loc.det y h k
    | .I _ :: _ => exact h.elim
  | .str t, _, _, _, p, _, _, _, _, h, k => by
    match p with
    | [] => exact ⟨h.1.trans k.1.symm, h.2.trans k.2.symm⟩
    | s :: q => exact Loc.det t h k
  | .list true _ e, _, _, _, p, _, _, _, _, h, k => by
    match p with
    | [] => exact ⟨h.1.trans k.1.symm, h.2.trans k.2.symm⟩
    | .L :: _ => exact h.elim
    | .R :: _ => exact h.elim
    | .I _ :: _ =>
      obtain ⟨g, n, cap, h1, h2⟩ := h
      obtain ⟨g', n', cap', k1, k2⟩ := k
      rw [h1] at k1
      cases k1
      exact Loc.det e h2 k2
  | .arr _ e, _, _, _, p, _, _, _, _, h, k => by
    match p with
    | [] => exact ⟨h.1.trans k.1.symm, h.2.trans k.2.symm⟩
    | .L :: _ => exact h.elim
    | .R :: _ => exact h.elim
    | .I _ :: _ => exact Loc.det e h k
  | .int _, _, _, _, _, _, _, _, _, h, k => ⟨h.2.1.trans k.2.1.symm, h.2.2.trans k.2.2.symm⟩
  | .bool, _, _, _, _, _, _, _, _, h, k => ⟨h.2.1.trans k.2.1.symm, h.2.2.trans k.2.2.symm⟩
  | .list false _ _, _, _, _, _, _, _, _, _, h, k => ⟨h.2.1.trans k.2.1.symm, h.2.2.trans k.2.2.symm⟩
  | .ptr _, _, _, _, _, _, _, _, _, h, k => ⟨h.2.1.trans k.2.1.symm, h.2.2.trans k.2.2.symm⟩
  | .fn _ _, _, _, _, _, _, _, _, _, h, k => ⟨h.2.1.trans k.2.1.symm, h.2.2.trans k.2.2.symm⟩
  | .fn2 _ _ _, _, _, _, _, _, _, _, _, h, k => ⟨h.2.1.trans k.2.1.symm, h.2.2.trans k.2.2.symm⟩

/-- A path behind a path. -/
theorem Loc.append : (τ : Ty) → ∀ {w : World} {b o p b1 o1 σ q b2 o2}, tyAt τ p = some σ → Loc w τ b o p b1 o1 → Loc w σ b1 o1 q b2 o2 → Loc w τ b o (p ++ q) b2 o2
  | .pair x y, _, _, _, p, _, _, _, _, _, _, ht, h, k => by
    match p with
    | [] => cases ht; obtain ⟨rfl, rfl⟩ := h; exact k
    | .L :: _ => exact Loc.append x ht h k
    | .R :: _ => exact Loc.append y ht h k
    | .I _ :: _ => exact h.elim
  | .str t, _, _, _, p, _, _, _, _, _, _, ht, h, k => by
    match p with
    | [] => cases ht; obtain ⟨rfl, rfl⟩ := h; exact k
    | s :: _ => exact Loc.append t ht h k
  | .list true _ e, _, _, _, p, _, _, _, _, _, _, ht, h, k => by
    match p with
    | [] => cases ht; obtain ⟨rfl, rfl⟩ := h; exact k
    | .L :: _ => exact h.elim
    | .R :: _ => exact h.elim
    | .I _ :: _ =>
      obtain ⟨g, n, cap, h1, h2⟩ := h
      exact ⟨g, n, cap, h1, Loc.append e ht h2 k⟩
  | .arr _ e, _, _, _, p, _, _, _, _, _, _, ht, h, k => by
    match p with
    | [] => cases ht; obtain ⟨rfl, rfl⟩ := h; exact k
    | .L :: _ => exact h.elim
    | .R :: _ => exact h.elim
    | .I _ :: _ => exact Loc.append e ht h k
  | .int _, _, _, _, _, _, _, _, _, _, _, ht, h, k => by obtain ⟨rfl, rfl, rfl⟩ := h; cases ht; exact k
  | .bool, _, _, _, _, _, _, _, _, _, _, ht, h, k => by obtain ⟨rfl, rfl, rfl⟩ := h; cases ht; exact k
  | .list false _ _, _, _, _, _, _, _, _, _, _, _, ht, h, k => by obtain ⟨rfl, rfl, rfl⟩ := h; cases ht; exact k
  | .ptr _, _, _, _, _, _, _, _, _, _, _, ht, h, k => by obtain ⟨rfl, rfl, rfl⟩ := h; cases ht; exact k
  | .fn _ _, _, _, _, _, _, _, _, _, _, _, ht, h, k => by obtain ⟨rfl, rfl, rfl⟩ := h; cases ht; exact k
  | .fn2 _ _ _, _, _, _, _, _, _, _, _, _, _, ht, h, k => by obtain ⟨rfl, rfl, rfl⟩ := h; cases ht; exact k

theorem tyAt_append : (τ : Ty) → ∀ {p σ q}, tyAt τ p = some σ → tyAt τ (p ++ q) = tyAt σ q
  | .pair x y, p, _, _, ht => by
    match p with
    | [] => cases ht; rfl
    | .L :: _ => exact tyAt_append x ht
    | .R :: _ => exact tyAt_append y ht
    | .I _ :: _ => cases ht
  | .str t, p, _, _, ht => by
    match p with
    | [] => cases ht; rfl
    | s :: _ => exact tyAt_append t ht
  | .list true _ e, p, _, _, ht => by
    match p with
    | [] => cases ht; rfl
    | .L :: _ => cases ht
    | .R :: _ => cases ht
    | .I _ :: _ => exact tyAt_append e ht
  | .arr _ e, p, _, _, ht => by
    match p with
    | [] => cases ht; rfl
    | .L :: _ => cases ht
    | .R :: _ => cases ht
    | .I _ :: _ => exact tyAt_append e ht
  | .int _, p, _, _, ht => by cases p <;> cases ht; rfl
  | .bool, p, _, _, ht => by cases p <;> cases ht; rfl
  | .list false _ _, p, _, _, ht => by cases p <;> cases ht; rfl
  | .ptr _, p, _, _, ht => by cases p <;> cases ht; rfl
  | .fn _ _, p, _, _, ht => by cases p <;> cases ht; rfl
  | .fn2 _ _ _, p, _, _, ht => by cases p <;> cases ht; rfl

theorem Chunks.cons {α : Type} {R : α → List Value → List Nat → Prop} {x : α} {l : List α} {c xs f fp} (h : R x c f) (k : Chunks R l xs fp) : Chunks R (x :: l) (c ++ xs) (f ++ fp) :=
  ⟨c, xs, f, fp, rfl, rfl, h, k⟩

/-- What is known of a place in a reading, and what a store there does. -/
def Focus (P : Program) (τ : Ty) (x : τ.den) (p : List Step) (σ : Ty) (y : σ.den) (w : World) (H : FH) (fp : List Nat)
    (root : List Nat) (locP : World → Prop) (keepRoot : World → (τ.den) → List Nat → Prop) (b' o' : Nat) : Prop :=
  ∃ blk' t' pre' c post' f1 f f2, w.heap[b']? = some (.cells blk' t' (0, 0)) ∧ blk'.toList = pre' ++ c ++ post' ∧ pre'.length = o' ∧ fp = f1 ++ f ++ f2 ∧
    (b' ∈ root ∨ b' ∈ f1) ∧ Rep P σ w H y c f ∧ (∀ w' : World, (∀ k ∈ root ++ f1, w'.heap[k]? = w.heap[k]?) → locP w') ∧
    ∀ (w' : World) (c' : List Value) (f' : List Nat) (σ' : Ty) (y' : σ'.den) (x' : τ.den), Rep P σ' w' H y' c' f' → setV τ x p σ' y' = some x' →
      w'.heap[b']? = some (.cells (pre' ++ c' ++ post').toArray t' (0, 0)) → (∀ k ∈ root ++ (f1 ++ f2), k ≠ b' → w'.heap[k]? = w.heap[k]?) → keepRoot w' x' (f1 ++ f' ++ f2)

/-- The same for a value whose cells lie in the block b. -/
def FocusAt (P : Program) (τ : Ty) (x : τ.den) (p : List Step) (σ : Ty) (y : σ.den) (w : World) (H : FH) (fp : List Nat) (b : Nat) (t : TypeId) (pre post : List Value) (b' o' : Nat) : Prop :=
  Focus P τ x p σ y w H fp [b] (fun w' => Loc w' τ b pre.length p b' o') (fun w' x' fp' => ∃ cs', Rep P τ w' H x' cs' fp' ∧ w'.heap[b]? = some (.cells (pre ++ cs' ++ post).toArray t (0, 0))) b' o'

theorem focus_nil {P : Program} {τ : Ty} {x : τ.den} {w : World} {H : FH} {cs : List Value} {fp : List Nat} {b : Nat} {blk : Array Value} {t : TypeId} {pre post : List Value}
    (h : Rep P τ w H x cs fp) (hb : w.heap[b]? = some (.cells blk t (0, 0))) (hblk : blk.toList = pre ++ cs ++ post) :
    FocusAt P τ x [] τ x w H fp b t pre post b pre.length := by
  refine ⟨blk, t, pre, cs, post, [], fp, [], hb, hblk, rfl, by simp, .inl (by simp), h, fun _ _ => Loc_nil _ _ _ _, ?_⟩
  intro w' c' f' σ' y' x' hr hs hw _
  rw [setV_nil] at hs
  obtain ⟨e, hx⟩ := castTy_self hs
  subst e
  subst hx
  exact ⟨c', by simpa using hr, hw⟩

/-- What 'Rep.desc' says of a type. -/
def DescAt (P : Program) (τ : Ty) : Prop := ∀ {p : List Step} {x : τ.den} {σ : Ty} {y : σ.den} {w : World} {H : FH} {cs : List Value} {fp : List Nat} {b : Nat} {blk : Array Value} {t : TypeId} {pre post : List Value},
    getV τ x p = some ⟨σ, y⟩ → Rep P τ w H x cs fp → w.heap[b]? = some (.cells blk t (0, 0)) → blk.toList = pre ++ cs ++ post → (b :: fp).Nodup →
    ∃ b' o', FocusAt P τ x p σ y w H fp b t pre post b' o'

/-- A row, by its header alone. -/
theorem Row.desc {P : Program} {tid : Nat} {e : Ty} (ih : DescAt P e) {i : Int} {q : List Step} {x : List e.den} {σ : Ty} {y : σ.den} {w : World} {H : FH} {hdr : Value} {fp : List Nat}
    (hg : getV (.list true tid e) x (.I i :: q) = some ⟨σ, y⟩) (h : Rep P (.list true tid e) w H x [hdr] fp) (hnd : fp.Nodup) :
    ∃ b' o' g n cap, hdr = .slice (some ⟨g, 0, none⟩) n cap ∧
      Focus P (.list true tid e) x (.I i :: q) σ y w H fp [] (fun w' => Loc w' e g (i.toNat * e.size) q b' o') (fun w' x' fp' => Rep P (.list true tid e) w' H x' [hdr] fp') b' o' := by
  simp only [getV] at hg
  split at hg
  case isFalse => cases hg
  rename_i hi0
  obtain ⟨z, hz, hg⟩ := Option.bind_eq_some_iff.1 hg
  obtain ⟨hdr', xs, fp', he, rfl, ho, hch⟩ := h
  obtain rfl : hdr = hdr' := by simpa using he
  obtain ⟨pre2, c2, post2, g1, g, g2, rfl, rfl, ht1, h2, ht2⟩ := Chunks.at hch hz
  have hlen : i.toNat < List.length x := (List.getElem?_eq_some_iff.1 hz).1
  rcases ho.2 with ⟨rfl, h0⟩ | ⟨gb, cap, cur, rfl, hgb0, hgb, hcap, hcm, hsz, htake⟩
  · omega
  have hpl : pre2.length = i.toNat * e.size := by
    rw [Chunks.length (n := e.size) (fun _ _ _ hh => Rep.length e hh) ht1, List.length_take, Nat.min_eq_left (Nat.le_of_lt hlen)]
  have hcur : cur.toList = pre2 ++ c2 ++ (post2 ++ cur.toList.drop (List.length x * e.size)) := by
    have e9 := (List.take_append_drop (List.length x * e.size) cur.toList).symm
    rw [htake] at e9
    exact e9.trans (by simp only [List.append_assoc])
  have hnd' : (gb :: (g1 ++ g ++ g2)).Nodup := by simpa [Value.ownBlock] using hnd
  obtain ⟨b', o', blk', t', pre', c, post', f1, f, f2, e1, e2, e3, e4, e5, e6, hl, e7⟩ := ih (p := q) (pre := pre2) (post := post2 ++ cur.toList.drop (List.length x * e.size)) hg h2 hgb hcur (by
    simp only [List.nodup_cons, List.nodup_append, List.mem_append] at hnd' ⊢
    exact ⟨fun hh => hnd'.1 (.inl (.inr hh)), hnd'.2.1.2.1⟩)
  rw [hpl] at hl
  refine ⟨b', o', gb, List.length x, cap, rfl, blk', t', pre', c, post', gb :: (g1 ++ f1), f, f2 ++ g2, e1, e2, e3, by rw [e4]; simp [Value.ownBlock], ?_, e6, fun w' ha => hl w' (fun k hk => ha k (by simp at hk ⊢; rcases hk with h | h <;> simp [h])), ?_⟩
  · rcases e5 with h | h
    · simp only [List.mem_singleton] at h; exact .inr (by simp [h])
    · exact .inr (by simp [h])
  intro w' c' f' σ' y' x' hr hs hw hk
  simp only [setV, if_pos hi0] at hs
  obtain ⟨z', hz', hs⟩ := Option.bind_eq_some_iff.1 hs
  rw [hz] at hz'
  cases hz'
  obtain ⟨z2, hz2, rfl⟩ := Option.map_eq_some_iff.1 hs
  obtain ⟨cs', hr', hw'⟩ := e7 w' c' f' σ' y' z2 hr hz2 hw (fun k hk' => hk k (by simp at hk' ⊢; rcases hk' with h | h | h <;> simp [h]))
  have hcl : cs'.length = c2.length := (Rep.length e hr').trans (Rep.length e h2).symm
  have hsl : List.length (List.set x i.toNat z2) = List.length x := List.length_set
  refine ⟨.slice (some ⟨gb, 0, none⟩) (List.length x) cap, pre2 ++ cs' ++ post2, g1 ++ (f1 ++ f' ++ f2) ++ g2, rfl, by simp [Value.ownBlock], ⟨?_, .inr ⟨gb, cap, _, by rw [hsl], Nat.zero_le _, hw', ?_, hcm, ?_, ?_⟩⟩, ?_⟩
  · have := ho.1
    rw [hsl]
    simp only [List.length_append] at this ⊢
    omega
  · rw [hsl]; exact hcap
  · have q0 := congrArg List.length hcur
    rw [Array.length_toList] at q0
    rw [← hsz, q0, List.size_toArray]
    simp only [List.length_append, hcl]
  · have e8 : (pre2 ++ cs' ++ post2).length = List.length x * e.size := by
      have := ho.1
      simp only [List.length_append] at this ⊢
      omega
    rw [hsl]
    show List.take _ (pre2 ++ cs' ++ (post2 ++ _)) = _
    rw [← List.append_assoc (pre2 ++ cs'), ← e8]
    exact List.take_left
  · have hset : x.set i.toNat z2 = x.take i.toNat ++ z2 :: x.drop (i.toNat + 1) := List.set_eq_take_append_cons_drop.trans (if_pos hlen)
    rw [hset]
    have hm : ∀ k ∈ g1 ++ g2, w'.heap[k]? = w.heap[k]? := by
      intro k hk'
      refine hk k (by simp at hk' ⊢; rcases hk' with h | h <;> simp [h]) ?_
      rintro rfl
      rcases e5 with h | h
      · simp only [List.mem_singleton] at h
        subst h
        simp only [List.nodup_cons, List.mem_append] at hnd' hk'
        exact hnd'.1 (hk'.elim (fun h => .inl (.inl h)) .inr)
      · rw [e4] at hnd'
        simp only [List.nodup_cons, List.nodup_append, List.mem_append] at hnd' hk'
        rcases hk' with hk' | hk'
        · exact hnd'.2.1.2.2 k hk' k (.inl (.inl h)) rfl
        · exact hnd'.2.2.2 k (.inr (.inl (.inl h))) k hk' rfl
    have q1 : Chunks (Rep P e w' H) (x.take i.toNat) pre2 g1 := Chunks.mono_fp (Q := fun k => w'.heap[k]? = w.heap[k]?) (fun _ _ _ hf hh => Rep.mono e (FH.le_refl _) hf hh) (fun k hk' => hm k (by simp [hk'])) ht1
    have q2 : Chunks (Rep P e w' H) (x.drop (i.toNat + 1)) post2 g2 := Chunks.mono_fp (Q := fun k => w'.heap[k]? = w.heap[k]?) (fun _ _ _ hf hh => Rep.mono e (FH.le_refl _) hf hh) (fun k hk' => hm k (by simp [hk'])) ht2
    have := Chunks.append q1 (Chunks.cons hr' q2)
    simpa using this

theorem Rep.desc {P : Program} : (τ : Ty) → ∀ {p : List Step} {x : τ.den} {σ : Ty} {y : σ.den} {w : World} {H : FH} {cs : List Value} {fp : List Nat} {b : Nat} {blk : Array Value} {t : TypeId} {pre post : List Value},
    getV τ x p = some ⟨σ, y⟩ → Rep P τ w H x cs fp → w.heap[b]? = some (.cells blk t (0, 0)) → blk.toList = pre ++ cs ++ post → (b :: fp).Nodup →
    ∃ b' o', FocusAt P τ x p σ y w H fp b t pre post b' o'
  | .pair u v, p, x, σ, y, w, H, cs, fp, b, blk, t, pre, post, hg, h, hb, hblk, hnd => by
    match p with
    | [] => cases hg; exact ⟨b, pre.length, focus_nil h hb hblk⟩
    | .I _ :: _ => cases hg
    | .L :: q =>
      obtain ⟨c1, c2, g1, g2, rfl, rfl, h1, h2⟩ := h
      obtain ⟨b', o', blk', t', pre', c, post', f1, f, f2, e1, e2, e3, e4, e5, e6, hl, e7⟩ := Rep.desc u (p := q) (pre := pre) (post := c2 ++ post) hg h1 hb (by rw [hblk]; simp) (by
        rw [← List.cons_append] at hnd; exact (List.nodup_append.1 hnd).1)
      refine ⟨b', o', blk', t', pre', c, post', f1, f, f2 ++ g2, e1, e2, e3, by rw [e4]; simp, e5, e6, hl, ?_⟩
      intro w' c' f' σ' y' x' hr hs hw hk
      obtain ⟨z, hz, rfl⟩ := Option.map_eq_some_iff.1 hs
      obtain ⟨cs', hr', hw'⟩ := e7 w' c' f' σ' y' z hr hz hw (fun k hk' => hk k (by simp at hk' ⊢; rcases hk' with h | h | h <;> simp [h]))
      refine ⟨cs' ++ c2, ⟨cs', c2, f1 ++ f' ++ f2, g2, rfl, by simp, hr', ?_⟩, by rw [hw']; simp⟩
      refine Rep.mono v (FH.le_refl _) (fun k hk' => hk k (by simp [hk']) ?_) h2
      rintro rfl
      rw [e4] at hnd
      rcases e5 with h | h
      · simp only [List.mem_singleton] at h
        subst h
        simp only [List.nodup_cons, List.mem_append] at hnd
        exact hnd.1 (.inr hk')
      · simp only [List.nodup_cons, List.nodup_append, List.mem_append] at hnd
        exact hnd.2.2.2 k (.inl (.inl h)) k hk' rfl
    | .R :: q =>
      obtain ⟨c1, c2, g1, g2, rfl, rfl, h1, h2⟩ := h
      obtain ⟨b', o', blk', t', pre', c, post', f1, f, f2, e1, e2, e3, e4, e5, e6, hl, e7⟩ := Rep.desc v (p := q) (pre := pre ++ c1) (post := post) hg h2 hb (by rw [hblk]; simp) (by
        simp only [List.nodup_cons, List.nodup_append, List.mem_append] at hnd ⊢
        exact ⟨fun hh => hnd.1 (.inr hh), hnd.2.2.1⟩)
      refine ⟨b', o', blk', t', pre', c, post', g1 ++ f1, f, f2, e1, e2, e3, by rw [e4]; simp, e5.imp id (fun h => by simp [h]), e6, fun w' ha => ?_, ?_⟩
      · show Loc w' v b (pre.length + u.size) q b' o'
        rw [← Rep.length u h1, ← List.length_append]
        exact hl w' (fun k hk => ha k (by simp at hk ⊢; rcases hk with h | h <;> simp [h]))
      intro w' c' f' σ' y' x' hr hs hw hk
      obtain ⟨z, hz, rfl⟩ := Option.map_eq_some_iff.1 hs
      obtain ⟨cs', hr', hw'⟩ := e7 w' c' f' σ' y' z hr hz hw (fun k hk' => hk k (by simp at hk' ⊢; rcases hk' with h | h | h <;> simp [h]))
      refine ⟨c1 ++ cs', ⟨c1, cs', g1, f1 ++ f' ++ f2, rfl, by simp, ?_, hr'⟩, by rw [hw']; simp⟩
      refine Rep.mono u (FH.le_refl _) (fun k hk' => hk k (by simp [hk']) ?_) h1
      rintro rfl
      rw [e4] at hnd
      rcases e5 with h | h
      · simp only [List.mem_singleton] at h
        subst h
        simp only [List.nodup_cons, List.mem_append] at hnd
        exact hnd.1 (.inl hk')
      · simp only [List.nodup_cons, List.nodup_append, List.mem_append] at hnd
        exact hnd.2.2.2 k hk' k (.inl (.inl h)) rfl
  | .str s, p, x, σ, y, w, H, cs, fp, b, blk, t, pre, post, hg, h, hb, hblk, hnd => by
    match p with
    | [] => cases hg; exact ⟨b, pre.length, focus_nil h hb hblk⟩
    | a :: q => exact Rep.desc s (p := a :: q) hg h hb hblk hnd
  | .list true tid e, p, x, σ, y, w, H, cs, fp, b, blk, t, pre, post, hg, h, hb, hblk, hnd => by
    match p with
    | [] => cases hg; exact ⟨b, pre.length, focus_nil h hb hblk⟩
    | .L :: _ => cases hg
    | .R :: _ => cases hg
    | .I i :: q =>
      obtain ⟨hdr, xs, fp', rfl, rfl, ho, hch⟩ := h
      obtain ⟨b', o', g, n, cap, hh, blk', t', pre', c, post', f1, f, f2, e1, e2, e3, e4, e5, e6, hl, e7⟩ := Row.desc (P := P) (tid := tid) (fun a b c d e' => Rep.desc e a b c d e') (w := w) (H := H) hg ⟨hdr, xs, fp', rfl, rfl, ho, hch⟩ (List.nodup_cons.1 hnd).2
      have hnb := (List.nodup_cons.1 hnd).1
      have hb' : b' ∈ f1 := by simpa using e5
      have hbn : b ≠ b' := by
        rintro rfl
        exact hnb (by rw [e4]; simp [hb'])
      refine ⟨b', o', blk', t', pre', c, post', f1, f, f2, e1, e2, e3, e4, .inr hb', e6, fun w' ha => ⟨g, n, cap, ?_, hl w' (fun k hk => ha k (by simp at hk ⊢; simp [hk]))⟩, ?_⟩
      · rw [cell_of_block ((ha b (by simp)).trans hb), ← Array.getElem?_toList, hblk, hh]; simp
      intro w' c' f' σ' y' x' hr hs hw hk
      refine ⟨[hdr], e7 w' c' f' σ' y' x' hr hs hw (fun k hk' => hk k (by simp at hk' ⊢; rcases hk' with h | h <;> simp [h])), ?_⟩
      rw [hk b (by simp) hbn, hb, ← hblk]
  | .arr n e, p, x, σ, y, w, H, cs, fp, b, blk, t, pre, post, hg, h, hb, hblk, hnd => by
    match p with
    | [] => cases hg; exact ⟨b, pre.length, focus_nil h hb hblk⟩
    | .L :: _ => cases hg
    | .R :: _ => cases hg
    | .I i :: q =>
      simp only [getV] at hg
      split at hg
      case isFalse => cases hg
      rename_i hi0
      obtain ⟨z, hz, hg⟩ := Option.bind_eq_some_iff.1 hg
      obtain ⟨hln, hch⟩ := h
      obtain ⟨pre2, c2, post2, g1, g, g2, rfl, rfl, ht1, h2, ht2⟩ := Chunks.at hch hz
      have hlen : i.toNat < List.length x := (List.getElem?_eq_some_iff.1 hz).1
      have hpl : pre2.length = i.toNat * e.size := by
        rw [Chunks.length (n := e.size) (fun _ _ _ hh => Rep.length e hh) ht1, List.length_take, Nat.min_eq_left (Nat.le_of_lt hlen)]
      obtain ⟨b', o', blk', t', pre', c, post', f1, f, f2, e1, e2, e3, e4, e5, e6, hl, e7⟩ := Rep.desc e (p := q) (pre := pre ++ pre2) (post := post2 ++ post) hg h2 hb (by rw [hblk]; simp) (by
        simp only [List.nodup_cons, List.nodup_append, List.mem_append] at hnd ⊢
        exact ⟨fun hh => hnd.1 (.inl (.inr hh)), hnd.2.1.2.1⟩)
      rw [List.length_append, hpl] at hl
      refine ⟨b', o', blk', t', pre', c, post', g1 ++ f1, f, f2 ++ g2, e1, e2, e3, by rw [e4]; simp, e5.imp id (fun h => by simp [h]), e6, fun w' ha => hl w' (fun k hk => ha k (by simp at hk ⊢; rcases hk with h | h <;> simp [h])), ?_⟩
      intro w' c' f' σ' y' x' hr hs hw hk
      simp only [setV, if_pos hi0] at hs
      obtain ⟨z', hz', hs⟩ := Option.bind_eq_some_iff.1 hs
      rw [hz] at hz'
      cases hz'
      obtain ⟨z2, hz2, rfl⟩ := Option.map_eq_some_iff.1 hs
      obtain ⟨cs', hr', hw'⟩ := e7 w' c' f' σ' y' z2 hr hz2 hw (fun k hk' => hk k (by simp at hk' ⊢; rcases hk' with h | h | h <;> simp [h]))
      refine ⟨pre2 ++ cs' ++ post2, ⟨by rw [List.length_set]; exact hln, ?_⟩, by rw [hw']; simp⟩
      have hset : x.set i.toNat z2 = x.take i.toNat ++ z2 :: x.drop (i.toNat + 1) := List.set_eq_take_append_cons_drop.trans (if_pos hlen)
      rw [hset]
      have hm : ∀ k ∈ g1 ++ g2, w'.heap[k]? = w.heap[k]? := by
        intro k hk'
        refine hk k (by simp at hk' ⊢; rcases hk' with h | h <;> simp [h]) ?_
        rintro rfl
        rcases e5 with h | h
        · simp only [List.mem_singleton] at h
          subst h
          simp only [List.nodup_cons, List.mem_append] at hnd hk'
          exact hnd.1 (hk'.elim (fun h => .inl (.inl h)) .inr)
        · rw [e4] at hnd
          simp only [List.nodup_cons, List.nodup_append, List.mem_append] at hnd hk'
          rcases hk' with hk' | hk'
          · exact hnd.2.1.2.2 k hk' k (.inl (.inl h)) rfl
          · exact hnd.2.2.2 k (.inr (.inl (.inl h))) k hk' rfl
      have q1 : Chunks (Rep P e w' H) (x.take i.toNat) pre2 g1 := Chunks.mono_fp (Q := fun k => w'.heap[k]? = w.heap[k]?) (fun _ _ _ hf hh => Rep.mono e (FH.le_refl _) hf hh) (fun k hk' => hm k (by simp [hk'])) ht1
      have q2 : Chunks (Rep P e w' H) (x.drop (i.toNat + 1)) post2 g2 := Chunks.mono_fp (Q := fun k => w'.heap[k]? = w.heap[k]?) (fun _ _ _ hf hh => Rep.mono e (FH.le_refl _) hf hh) (fun k hk' => hm k (by simp [hk'])) ht2
      have := Chunks.append q1 (Chunks.cons hr' q2)
      simpa using this
  | .int _, p, _, _, _, _, _, _, _, b, _, _, pre, _, hg, h, hb, hblk, _ => by cases p <;> cases hg; exact ⟨b, pre.length, focus_nil h hb hblk⟩
  | .bool, p, _, _, _, _, _, _, _, b, _, _, pre, _, hg, h, hb, hblk, _ => by cases p <;> cases hg; exact ⟨b, pre.length, focus_nil h hb hblk⟩
  | .list false _ _, p, _, _, _, _, _, _, _, b, _, _, pre, _, hg, h, hb, hblk, _ => by cases p <;> cases hg; exact ⟨b, pre.length, focus_nil h hb hblk⟩
  | .ptr _, p, _, _, _, _, _, _, _, b, _, _, pre, _, hg, h, hb, hblk, _ => by cases p <;> cases hg; exact ⟨b, pre.length, focus_nil h hb hblk⟩
  | .fn _ _, p, _, _, _, _, _, _, _, b, _, _, pre, _, hg, h, hb, hblk, _ => by cases p <;> cases hg; exact ⟨b, pre.length, focus_nil h hb hblk⟩
  | .fn2 _ _ _, p, _, _, _, _, _, _, _, b, _, _, pre, _, hg, h, hb, hblk, _ => by cases p <;> cases hg; exact ⟨b, pre.length, focus_nil h hb hblk⟩

end Go.Vi
