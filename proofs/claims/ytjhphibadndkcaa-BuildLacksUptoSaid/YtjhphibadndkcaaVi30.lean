/- The abstract interpreter 'Vi', thirtieth part: the contract of the library's function that turns a slice of integers round. Its condition: the program holds that function's body (the shelf's word for it). -/
import Derived.Test.YtjhphibadndkcaaVi29
import Derived.Shelf.Slices.Reverse
namespace Go.Vi
open Go.Proofs Go.Shelf Go.Sort
section
variable {P : Program} {ρ : Ren}

theorem chunks_ints {w : World} {H : FH} : ∀ {l : List Int} {xs : List Value} {fp : List Nat}, Chunks (Rep P (.int .i64) w H) l xs fp → xs = l.map (Value.int .i64) ∧ fp = []
  | [], _, _, ⟨e, e'⟩ => ⟨e, e'⟩
  | _ :: l, _, _, ⟨c, xs', f, fp', e1, e2, h1, h2⟩ => by
    obtain ⟨h3, h4⟩ := chunks_ints h2
    rw [e1, e2, h3, h4, h1.1, h1.2]
    exact ⟨rfl, rfl⟩
theorem ints_chunks (w : World) (H : FH) : ∀ (l : List Int), Chunks (Rep P (.int .i64) w H) l (l.map (Value.int .i64)) []
  | [] => ⟨rfl, rfl⟩
  | x :: l => ⟨[.int .i64 x], l.map (Value.int .i64), [], [], rfl, rfl, ⟨rfl, rfl⟩, ints_chunks w H l⟩

theorem putRow_heap {α : Type} [Inhabited α] (enc : α → Value) (w : World) (g : Nat) (d : Array α) {cur : Array Value} {t : TypeId} {f : Nat × Nat} (hg : w.heap[g]? = some (.cells cur t f)) :
    (putRow enc w g 0 d).heap[g]? = some (.cells (putCells enc 0 d cur) t f) ∧ ∀ k, k ≠ g → (putRow enc w g 0 d).heap[k]? = w.heap[k]? := by
  unfold putRow mapBlock
  refine ⟨?_, fun k hk => ?_⟩
  · simp only [Array.getElem?_modify, if_true, hg, Option.map_some]
    rfl
  · simp only [Array.getElem?_modify]
    rw [if_neg (fun e => hk e.symm)]

theorem putCells_take {cur : Array Value} (l : List Int) (h : l.length ≤ cur.size) : (putCells (Value.int .i64) 0 l.toArray cur).toList.take l.length = l.map (Value.int .i64) := by
  apply List.ext_getElem?
  intro k
  rw [List.getElem?_take]
  by_cases hk : k < l.length
  · rw [if_pos hk]
    have h1 : k < cur.size := by omega
    simp [putCells, hk, h1, Array.getElem?_eq_getElem, Nat.sub_zero]
  · rw [if_neg hk]
    rw [List.getElem?_eq_none (by simpa using hk)]

theorem reverse_good (L : Lays.n112 P ρ) (hcal : Callable P (ρ.f 112)) (tid : Nat) : GoodF P (ρ.f 112) ⟨[.mr tid (.int .i64)], [], fun d => some ((), (d.1.reverse, ()))⟩ := by
  refine ⟨hcal, ?_⟩
  intro d y hy w H vs Φs hok hargs hnd hfr
  cases hy
  obtain ⟨v, vs', φ, Φs', rfl, rfl, hv, hobj, hrest⟩ := hargs
  obtain ⟨rfl, rfl⟩ := hrest
  obtain ⟨l, u⟩ := d
  simp only at hobj ⊢
  obtain ⟨hdr, xs, fp', e1, e2, ho, hch⟩ := hobj.row_list
  obtain ⟨hx, rfl⟩ := chunks_ints hch
  subst hx
  have e1 : φ.hdr = hdr := by simpa using e1
  have hn := hobj.1
  have hndf := hobj.2.1
  have hfps : fpsOf [φ] = φ.fp := by simp [fpsOf]
  rw [hfps] at hfr
  rcases ho.2 with ⟨hv0, hz⟩ | ⟨g, cap, cur, hv1, _, hg, h1, h2, h3, h4⟩
  · have hl : l = [] := List.eq_nil_of_length_eq_zero hz
    subst hl
    have hvv : v = .slice none 0 0 := by rw [hv, e1, hv0]
    have hc := Go.Proofs.Any.slices_Reverse_int_empty L none 0 w
    rw [hvv]
    refine hc.mono ?_
    rintro e w' ⟨he, rfl⟩
    refine ⟨[], H, [φ], [], he, Mod.refl _ _, FH.le_refl _, hok, fun _ _ h => .inl h, ⟨rfl, rfl⟩, ⟨_, [], φ, [], rfl, rfl, by rw [← hvv]; exact hv, hobj, rfl, rfl⟩, by simpa [hfps] using hndf, fun b hb => ?_⟩
    have hb' : b ∈ φ.fp := by simpa [hfps] using hb
    exact ⟨(hfr b hb').1, .inl (by rw [hfps]; exact hb'), (hfr b hb').2⟩
  · have hvv : v = .slice (some ⟨g, 0, none⟩) l.length cap := by rw [hv, e1, hv1]
    have hfp : φ.fp = [g] := by rw [e2, hv1]; simp [Value.ownBlock]
    have hsz : cur.size = cap := by rw [h3]; exact Nat.mul_one _
    have hlen : l.length ≤ cur.size := by omega
    have htk : cur.toList.take l.length = l.map (Value.int .i64) := by
      have := h4
      rwa [show l.length * (Ty.int IntKind.i64).size = l.length from Nat.mul_one _] at this
    have hH : Holds (Value.int .i64) w g 0 l.toArray := by
      intro j hj
      have hj : j < l.length := by simpa using hj
      refine ⟨?_, ?_⟩
      · rw [cell_of_block hg, Nat.zero_add, ← Array.getElem?_toList]
        have := congrArg (·[j]?) htk
        simp only [List.getElem?_take, hj, if_true, List.getElem?_map] at this
        rw [this]
        simp [hj]
      · simp [World.frozen?, hg]
    have hc := Go.Proofs.Any.slices_Reverse_int L g 0 cap l w hH (by unfold maxLen at h2; omega)
    rw [hvv]
    refine hc.mono ?_
    rintro e w' ⟨he, n, rfl⟩
    have hg' : (Sort.ahead w n).heap[g]? = some (.cells cur tid (0, 0)) := hg
    obtain ⟨q1, q2⟩ := putRow_heap (Value.int .i64) (Sort.ahead w n) g l.reverse.toArray hg'
    have hsize : (putRow (Value.int .i64) (Sort.ahead w n) g 0 l.reverse.toArray).heap.size = w.heap.size := by simp [putRow, mapBlock, Sort.ahead]
    have hmod : Mod (· ∈ fpsOf [φ]) w (putRow (Value.int .i64) (Sort.ahead w n) g 0 l.reverse.toArray) := by
      refine ⟨rfl, rfl, rfl, by omega, fun k _ hk => ?_⟩
      exact q2 k (by rintro rfl; exact hk (by rw [hfps, hfp]; simp))
    have hobj' : ObjOK P (putRow (Value.int .i64) (Sort.ahead w n) g 0 l.reverse.toArray) H ⟨true, .list true tid (.int .i64), l.reverse⟩ φ := by
      refine ObjOK.of_list hn hndf ⟨φ.hdr, l.reverse.map (Value.int .i64), [], rfl, by rw [e1]; simpa using e2, ⟨by simp [Ty.size], .inr ⟨g, cap, putCells (Value.int .i64) 0 l.reverse.toArray cur, by rw [e1, hv1]; simp, Nat.zero_le _, q1, by simpa using h1, h2, ?_, ?_⟩⟩, ints_chunks _ _ _⟩
      · simp [putCells, h3]
      · have := putCells_take (cur := cur) l.reverse (by simpa using hlen)
        simpa [Ty.size] using this
    refine ⟨[], H, [φ], [], he, hmod, FH.le_refl _, hok.mod hmod (fun b hb => (hfr b (by rw [hfps] at hb; exact hb)).1), fun _ _ h => .inl h, ⟨rfl, rfl⟩, ⟨_, [], φ, [], rfl, rfl, by rw [← hvv]; exact hv, hobj', rfl, rfl⟩, by simpa [hfps] using hndf, fun b hb => ?_⟩
    have hb' : b ∈ φ.fp := by simpa [hfps] using hb
    exact ⟨(hfr b hb').1, .inl (by rw [hfps]; exact hb'), by rw [hsize]; exact (hfr b hb').2⟩
end
end Go.Vi
