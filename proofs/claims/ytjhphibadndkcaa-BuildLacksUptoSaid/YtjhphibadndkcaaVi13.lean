/- The abstract interpreter 'Vi', thirteenth part: slices of slices; append. No condition beyond those typed in each theorem. -/
import Derived.Test.YtjhphibadndkcaaVi12
namespace Go.Vi
section
variable {P : Program} {C : Ctx} {cfg : Cfg} {R : Type} {r : R} {s : St} {a : Act} {w : World} {H : FH} {Φ : Nat → Info} {dst : Option Nat} {ty : TypeId} {pos : String} {after : Array Edge} {guard : Option (Nat × Bool)} {k : St → Option R}

theorem setV_getV : (τ : Ty) → ∀ {x : τ.den} {p : List Step} {y}, getV τ x p = some y → setV τ x p y.1 y.2 = some x
  | .pair a b, x, p, y, h => by
    match p with
    | [] => cases h; simp [setV, castTy]
    | .L :: q => simp only [setV, setV_getV a h, Option.map_some]
    | .R :: q => simp only [setV, setV_getV b h, Option.map_some]
    | .I _ :: _ => cases h
  | .str t, x, p, y, h => by
    match p with
    | [] => cases h; simp [setV, castTy]
    | s :: q => exact setV_getV t h
  | .list true tid e, x, p, y, h => by
    match p with
    | [] => cases h; simp [setV, castTy]
    | .L :: _ => cases h
    | .R :: _ => cases h
    | .I i :: r =>
      simp only [getV, setV] at h ⊢
      split at h
      · rename_i hi
        rw [if_pos hi]
        obtain ⟨z, hz, h⟩ := Option.bind_eq_some_iff.1 h
        rw [hz]
        simp only [Option.bind_some, setV_getV e h, Option.map_some]
        congr 1
        apply List.ext_getElem?
        intro j
        rw [List.getElem?_set]
        split
        · rename_i e; subst e; split <;> simp_all
        · rfl
      · cases h
  | .arr n e, x, p, y, h => by
    match p with
    | [] => cases h; simp [setV, castTy]
    | .L :: _ => cases h
    | .R :: _ => cases h
    | .I i :: r =>
      simp only [getV, setV] at h ⊢
      split at h
      · rename_i hi
        rw [if_pos hi]
        obtain ⟨z, hz, h⟩ := Option.bind_eq_some_iff.1 h
        rw [hz]
        simp only [Option.bind_some, setV_getV e h, Option.map_some]
        congr 1
        apply List.ext_getElem?
        intro j
        rw [List.getElem?_set]
        split
        · rename_i e; subst e; split <;> simp_all
        · rfl
      · cases h
  | .int _, x, p, _, h => by cases p <;> cases h; simp [setV, castTy]
  | .bool, x, p, _, h => by cases p <;> cases h; simp [setV, castTy]
  | .list false _ _, x, p, _, h => by cases p <;> cases h; simp [setV, castTy]
  | .ptr _, x, p, _, h => by cases p <;> cases h; simp [setV, castTy]
  | .fn _ _, x, p, _, h => by cases p <;> cases h; simp [setV, castTy]
  | .fn2 _ _ _, x, p, _, h => by cases p <;> cases h; simp [setV, castTy]

/-- The cells of a slice's elements, of a frozen kind. -/
def Elems (P : Program) (w : World) (H : FH) (e : Ty) (l : List e.den) (v : Value) : Prop :=
  (l = [] ∧ v = .slice none 0 0) ∨ ∃ b o cap xs, v = .slice (some ⟨b, o, none⟩) l.length cap ∧ Chunks (Rep P e w H) l xs [] ∧ ∀ j u, xs[j]? = some u → w.cell? ((⟨b, o, none⟩ : Addr).add j) = some u

theorem cells_of_seg {b o n : Nat} {blk : Array Value} {t : TypeId} {f : Nat × Nat} (hb : w.heap[b]? = some (.cells blk t f)) : ∀ j u, (seg blk o n)[j]? = some u → w.cell? ((⟨b, o, none⟩ : Addr).add j) = some u := by
  intro j u hj
  unfold seg at hj
  rw [List.getElem?_take] at hj
  split at hj
  · rw [Addr.add_none, cell_of_block hb, ← Array.getElem?_toList]
    rw [List.getElem?_drop] at hj
    exact hj
  · cases hj

theorem Rep.elems {own : Bool} {tid : TypeId} {e : Ty} (he : e.isFz = true) (hok : HOk H w) {l : List e.den} {cs fp} (h : Rep P (.list own tid e) w H l cs fp) : Elems P w H e l (toV (.list own tid e) cs) ∨ (l = [] ∧ ∃ ad cap, toV (.list own tid e) cs = .slice ad 0 cap) := by
  cases own with
  | false =>
    obtain ⟨_, ad, cap, rfl, hc, hl⟩ := h
    rcases hl with rfl | ⟨b, o, blk, rfl, hH, hch⟩
    · exact .inr ⟨rfl, ad, cap, rfl⟩
    · obtain ⟨t, f, hb⟩ := hok b blk hH
      exact .inl (.inr ⟨b, o, cap, _, rfl, hch, cells_of_seg hb⟩)
  | true =>
    obtain ⟨hdr, xs, fp', rfl, _, ho, hch⟩ := h
    have hf := Chunks.fp_nil (fun _ _ _ hh => Rep.fz_fp e he hh) hch
    subst hf
    rcases ho.2 with ⟨rfl, h0⟩ | ⟨g, cap, cur, rfl, _, hg, _, _, _, htake⟩
    · exact .inl (.inl ⟨List.length_eq_zero_iff.1 h0, rfl⟩)
    · refine .inl (.inr ⟨g, 0, cap, xs, rfl, hch, ?_⟩)
      rw [← htake, ← seg_zero]
      exact cells_of_seg hg

theorem list_cast {b c : Bool} {tid tid' : Nat} {σ e : Ty} {l : List σ.den} {y : List e.den} (h : castTy (.list b tid σ) (.list c tid' e) l = some y) : b = c ∧ tid = tid' ∧ ∃ he : σ = e, y = he ▸ l := by
  obtain ⟨e1, h2⟩ := castTy_self h
  have e2 := e1
  injection e2 with e3 e4 e5
  subst e3; subst e4; subst e5
  exact ⟨rfl, rfl, rfl, h2⟩

theorem elemsK_ok (hs : SimB P C s a w H Φ) {av : AV} {v : Value} (hr : RepA P C w H Φ s.obj av v) {e : Ty} (he : e.isFz = true) {f : List e.den → Option R} (h : elemsK s av e f = some r) :
    ∃ l, f l = some r ∧ (Elems P w H e l v ∨ (l = [] ∧ ∃ ad cap, v = .slice ad 0 cap)) := by
  unfold elemsK at h
  split at h
  · rename_i o tid σ l
    rw [derefK_eq] at h
    replace h := Option.bind_eq_some_iff.1 h
    obtain ⟨y, hy, h⟩ := h
    obtain ⟨_, _, rfl, rfl⟩ := list_cast hy
    obtain ⟨_, cs, rfl, hrep⟩ := hr
    exact ⟨_, h, Rep.elems he hs.hok hrep⟩
  · rename_i id p
    split at h
    case h_2 => cases h
    rename_i o ho
    rw [getPK_eq] at h
    obtain ⟨y, hy, h⟩ := Option.bind_eq_some_iff.1 h
    obtain ⟨cs, fp, hv, hrep, _⟩ := view_rep hr ho (hs.os id o ho).1 hy
    obtain ⟨σ, y⟩ := y
    simp only at h
    split at h
    · rw [derefK_eq] at h
      replace h := Option.bind_eq_some_iff.1 h
      obtain ⟨y, hy', h⟩ := h
      obtain ⟨_, _, rfl, rfl⟩ := list_cast hy'
      rw [hv]
      exact ⟨_, h, Rep.elems he hs.hok hrep⟩
    · cases h
  · rename_i id p tid σ l
    rw [derefK_eq] at h
    replace h := Option.bind_eq_some_iff.1 h
    obtain ⟨y, hy, h⟩ := h
    obtain ⟨_, _, rfl, rfl⟩ := list_cast hy
    obtain ⟨o, _, _, _, _, fp, hrep, _⟩ := hr
    refine ⟨_, h, ?_⟩
    have := Rep.elems he hs.hok hrep
    exact this
  · cases h

theorem Elems.one {e : Ty} {l : List e.den} {xs : List Value} (h : Chunks (Rep P e w H) l xs []) : ∀ u ∈ xs, u.oneCell' = true := Chunks.all (fun _ _ _ hh => Rep.one e hh) h

/-- append onto a row: what the call hands back, and that the old slice still reads as it did. -/
theorem run_append_row {t e : TypeId} {τ : Ty} (hu : P.underlying t = some (.slice e)) (he : TyOK P e τ) (ty : TypeId) {v : Value} {n : Nat} {xs : List Value} (hown : w.ownsRow 0 e τ.size v n xs)
    {l : List τ.den} {x : Value} (hx : Elems P w H τ l x ∨ (l = [] ∧ ∃ ad cap, x = .slice ad 0 cap)) (hlen : n + l.length ≤ 549755813888) :
    ∃ v' w' news, (Builtin.append_ #[t, t] ty #[v, x]).run P w = .ok v' w' ∧ Chunks (Rep P τ w H) l news [] ∧ w'.ownsRow 0 e τ.size v' (n + l.length) (xs ++ news) ∧ w'.ownsRow 0 e τ.size v n xs ∧ w.grownBy w' v.ownBlock ∧
      (v'.ownBlock = v.ownBlock ∨ ∃ g, v'.ownBlock = some g ∧ w.heap.size ≤ g ∧ g < w'.heap.size) := by
  obtain ⟨i, hi, hsz, hpos, hby, hz⟩ := he.info
  have hzs : (toV τ τ.zeroCells).cells.size = τ.size := by
    rw [← Array.length_toList, toV_cells (by rintro x y rfl; exact he.not_pair) (Ty.zero_length τ) (Ty.zero_one τ), Ty.zero_length]
  -- nothing to append
  have hnone : l = [] → ∀ ad cap, x = .slice ad 0 cap → ∃ v' w' news, (Builtin.append_ #[t, t] ty #[v, x]).run P w = .ok v' w' ∧ Chunks (Rep P τ w H) l news [] ∧ w'.ownsRow 0 e τ.size v' (n + l.length) (xs ++ news) ∧ w'.ownsRow 0 e τ.size v n xs ∧ w.grownBy w' v.ownBlock ∧
      (v'.ownBlock = v.ownBlock ∨ ∃ g, v'.ownBlock = some g ∧ w.heap.size ≤ g ∧ g < w'.heap.size) := by
    rintro rfl ad cap rfl
    refine ⟨v, w, [], ?_, ⟨rfl, rfl⟩, by simpa using hown, hown, ⟨rfl, rfl, rfl, Nat.le_refl _, fun _ _ _ => rfl⟩, .inl rfl⟩
    rcases hown.2 with ⟨rfl, rfl⟩ | ⟨g, cp, cur, rfl, _, hg, hnc, _⟩
    · cases ad <;> simp [Builtin.append_, run_underlying hu, Go.sizeOf, typeInfo, hi, Builtin.lenOf, Builtin.firstCells, loadCells, loadCellsFrom]
    · cases ad <;> simp [Builtin.append_, run_underlying hu, Go.sizeOf, typeInfo, hi, Builtin.lenOf, Builtin.firstCells, loadCells, loadCellsFrom, hnc, storeCells]
  rcases hx with (⟨hl0, rfl⟩ | ⟨b, o, cap, news, rfl, hch, hcells⟩) | ⟨hl0, ad, cap, hxe⟩
  · exact hnone hl0 none 0 rfl
  · have hl : news.length = l.length * i.size := by rw [hsz]; exact Chunks.length (fun _ _ _ hh => Rep.length τ hh) hch
    have h1 := Elems.one hch
    by_cases hm : l.length = 0
    · exact hnone (List.length_eq_zero_iff.1 hm) _ _ (by rw [hm])
    have hown' : w.ownsRow 0 e i.size v n xs := by rw [hsz]; exact hown
    have hlen2 : (xs ++ news).length = (n + l.length) * τ.size := by rw [List.length_append, hown.1, hl, Nat.add_mul, hsz]
    have hbytes : (n + l.length) * i.bytes ≤ 140737488355328 := by
      have := Nat.mul_le_mul hlen hby; omega
    have h63 : n + l.length ≤ maxLen := by unfold maxLen; omega
    have grown : ∀ old, w.drew.heap.size = w.heap.size → ∃ v', v' = Value.slice (some ⟨w.heap.size, 0, none⟩) (n + l.length) (grownCap w (n + l.length) old e) ∧
        (w.drew.alloc (.cells (xs.toArray ++ news.toArray ++ Builtin.zeroCells (toV τ τ.zeroCells).cells (grownCap w (n + l.length) old e - (n + l.length))) e)).ownsRow 0 e τ.size v' (n + l.length) (xs ++ news) := by
      intro old _
      have hge := grownCap_ge w (n + l.length) old e
      have hcm := grownCap_le_maxLen w (n + l.length) old e h63
      refine ⟨_, rfl, hlen2, .inr ⟨w.heap.size, _, _, rfl, Nat.zero_le _, heap_alloc_new w.drew _, hge, hcm, ?_, ?_⟩⟩
      · simp only [Array.size_append, List.size_toArray, size_zeroCells, hzs, hown.1, hl, hsz, ← Nat.add_mul]
        congr 1
        omega
      · simp only [Array.toList_append, List.append_assoc]
        rw [← List.append_assoc, ← hlen2]
        exact List.take_left
    rcases hown.2 with ⟨rfl, rfl⟩ | ⟨g, cp, cur, rfl, _, hg, hnc, hcm, hcs, htake⟩
    · have hxs : xs = [] := List.eq_nil_of_length_eq_zero (by simpa using hown.1)
      subst hxs
      have hr := run_append_nil (P := P) w t ty e i _ hu hi hz ⟨b, o, none⟩ l.length cap news hl hcells (by omega) (by omega) (by simp only [Nat.zero_add] at hbytes; omega)
      obtain ⟨v', rfl, hgr⟩ := grown 0 rfl
      simp only [Nat.zero_add, List.nil_append, Array.empty_append] at hgr ⊢
      refine ⟨_, _, news, hr, hch, hgr, World.ownsRow_nil _ _ _ _, ⟨rfl, rfl, rfl, by simp, fun k hk _ => heap_alloc_old w.drew _ hk⟩, .inr ⟨w.heap.size, rfl, Nat.le_refl _, by simp⟩⟩
    · by_cases hroom : n + l.length ≤ cp
      · have hfit : n * i.size + news.length ≤ cur.size := by rw [hl, hcs, hsz, ← Nat.add_mul]; exact Nat.mul_le_mul_right _ hroom
        have hr := run_append_room (P := P) w t ty e i hu hi g n cp cur hg ⟨b, o, none⟩ l.length cap news hl hcells h1 hroom hfit
        rw [hsz] at hr hfit
        have htk : (cur.toList.take (n * τ.size)).length = n * τ.size := by rw [htake, hown.1]
        refine ⟨_, _, news, hr, hch, ⟨hlen2, .inr ⟨g, cp, _, rfl, Nat.zero_le _, setRow_heap w g cur _ e _ hg, hroom, hcm, ?_, ?_⟩⟩, ⟨hown.1, .inr ⟨g, cp, _, rfl, Nat.zero_le _, setRow_heap w g cur _ e _ hg, hnc, hcm, ?_, ?_⟩⟩,
          ⟨rfl, rfl, rfl, by simp, fun k _ hk => setRow_other w g k _ (fun e => hk (by simp [Value.ownBlock, e]))⟩, .inl rfl⟩
        · simp only [List.size_toArray, List.length_append, List.length_take, List.length_drop, Array.length_toList]
          omega
        · rw [htake, ← hlen2]
          exact List.take_left
        · simp only [List.size_toArray, List.length_append, List.length_take, List.length_drop, Array.length_toList]
          omega
        · show List.take (n * τ.size) (cur.toList.take (n * τ.size) ++ news ++ _) = xs
          rw [List.append_assoc, List.take_append_of_le_length (by rw [htk]; exact Nat.le_refl _), List.take_take, Nat.min_self, htake]
      · have holds : ∀ j u, xs[j]? = some u → w.cell? ((⟨g, 0, none⟩ : Addr).add j) = some u := hown.cells (g := g) rfl
        have hr := run_append_grow (P := P) w t ty e i _ hu hi hz ⟨g, 0, none⟩ n cp xs (by rw [hsz]; exact hown.1) holds ⟨b, o, none⟩ l.length cap news hl hcells (by omega) (by omega) (growslice_fits (by omega) hbytes)
        obtain ⟨v', rfl, hgr⟩ := grown cp rfl
        refine ⟨_, _, news, hr, hch, hgr, ?_, ⟨rfl, rfl, rfl, by simp, fun k hk _ => heap_alloc_old w.drew _ hk⟩, .inr ⟨w.heap.size, rfl, Nat.le_refl _, by simp⟩⟩
        exact (hown.alloc (w := w) _ : (w.alloc _).ownsRow _ _ _ _ _ _)
  · exact hnone hl0 ad cap hxe
end
end Go.Vi
