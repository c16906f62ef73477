/- The contracts of slices.Delete and slices.Insert of integers. No condition beyond those typed in each theorem. -/
import Derived.Test.YtdecnbepmnjeiaaIt2
import Derived.Shelf.Slices.Delete
import Derived.Shelf.Spec.SlicesInsertGrow
namespace Go.Proofs.Try.It
open Go.RowKit Go.Shelf Go.Proofs Go.Vi
def g49 (d : (List Int) × (Int × (Int × Unit))) : Option ((List Int × Unit) × Unit) :=
  if 0 ≤ d.2.1 ∧ d.2.1 < d.2.2.1 ∧ d.2.2.1 ≤ (d.1.length : Int) then some ((d.1.take d.2.1.toNat ++ d.1.drop d.2.2.1.toNat, ()), ()) else none
def p49 : qY := ⟨[.t 3 (.int .i64), .v (.int .i64), .v (.int .i64)], [.own 3 (.int .i64)], g49⟩
def del_ren : Go.Shelf.Ren := ⟨fun | 23 => 49 | n => n, fun | 22 => 23 | n => n, fun n => n⟩
set_option maxRecDepth 100000 in
theorem del_lays : Go.Proofs.Lays2.n23 Try.prog del_ren := { mixed := by kernel_rfl, f23 := by kernel_rfl, t0 := by kernel_rfl, a0 := fun w => by kernel_rfl, z0 := fun w => by kernel_rfl, v0 := fun w => by kernel_rfl, t3 := by kernel_rfl, a3 := fun w => by kernel_rfl, z3 := fun w => by kernel_rfl, v3 := fun w => by kernel_rfl, t4 := by kernel_rfl, a4 := fun w => by kernel_rfl, z4 := fun w => by kernel_rfl, v4 := fun w => by kernel_rfl, t22 := by kernel_rfl, a22 := fun w => by kernel_rfl, z22 := fun w => by kernel_rfl, v22 := fun w => by kernel_rfl, i3 := by kernel_rfl }
theorem qhV {w : World} {H : FH} {n : Int} {v : Value} (h : ∃ cs, v = j0 (.int .i64) cs ∧ qp Try.prog (.int .i64) w H n cs []) : v = .int .i64 n := by
  obtain ⟨cs, h1, h2, _⟩ := h
  rw [h1, h2]
  rfl
theorem enc_take (l : List Int) (cur : Array Value) (n : Nat) (hn : l.length = n) (h : n ≤ cur.size) {k : Nat} (hk : k ≤ n) : (Sort.putCells (Value.int .i64) 0 l.toArray cur).toList.take k = (l.take k).map (Value.int .i64) := by
  have h0 := qg9 (cur := cur) l (by omega)
  rw [hn] at h0
  have h1 := congrArg (List.take k) h0
  rw [List.take_take, Nat.min_eq_left hk, ← List.map_take] at h1
  exact h1
theorem h49 : qP Try.prog 49 p49 := by
  refine ⟨qaS Try.func49 rfl (by kernel_rfl), ?_⟩
  intro d y hy w H vs Φs hok hargs hnd hfr
  obtain ⟨v, vs', φ, Φs', rfl, rfl, hv, hobj, ⟨v2, vs2, φ2, Φs2, rfl, rfl, _, hφ2, hv2, ⟨v3, vs3, φ3, Φs3, rfl, rfl, _, hφ3, hv3, rfl, rfl⟩⟩⟩ := hargs
  obtain ⟨l, i, j, u⟩ := d
  have hy : g49 (l, i, j, u) = some y := hy
  unfold g49 at hy
  split at hy
  case isFalse => cases hy
  rename_i hc
  simp only at hc
  cases hy
  obtain ⟨hi0, hij, hjl⟩ := hc
  have hv2 := qhV hv2
  have hv3 := qhV hv3
  simp only at hv2 hv3
  obtain ⟨hdr, xs, fp', e1, e2, ho, hch⟩ := hobj.row_list
  obtain ⟨hx, rfl⟩ := qcH hch
  subst hx
  have e1 : φ.hdr = hdr := by simpa using e1
  have hn := hobj.1
  have hfps : qb [φ, φ2, φ3] = φ.fp := by simp [qb, hφ2, hφ3]
  rw [hfps] at hfr
  rcases ho.2 with ⟨hv0, hz⟩ | ⟨g, cap, cur, hv1, _, hg, h1, h2, h3, h4⟩
  · have hz : l.length = 0 := hz
    omega
  · have hvv : v = .slice (some ⟨g, 0, none⟩) l.length cap := by rw [hv, e1, hv1]
    have hfp : φ.fp = [g] := by rw [e2, hv1]; simp [Value.ownBlock]
    have h1 : l.length ≤ cap := h1
    have hsz : cur.size = cap := by rw [h3]; exact Nat.mul_one _
    have htk : cur.toList.take l.length = l.map (Value.int .i64) := by
      have := h4
      rwa [show l.length * (Ty.int IntKind.i64).size = l.length from Nat.mul_one _] at this
    have hH : Sort.Holds (Value.int .i64) w g 0 l.toArray := by
      intro k hk
      have hk : k < l.length := by simpa using hk
      refine ⟨?_, ?_⟩
      · rw [qU hg, Nat.zero_add, ← Array.getElem?_toList]
        have := congrArg (·[k]?) htk
        simp only [List.getElem?_take, hk, if_true, List.getElem?_map] at this
        rw [this]
        simp [hk]
      · simp [World.frozen?, hg]
    have hc := Go.Proofs.Any.slices_Delete_int del_lays g 0 cap i.toNat j.toNat l w hH h1 (by unfold maxLen at h2; omega) (by omega) (by omega)
    rw [show ((i.toNat : Nat) : Int) = i by omega, show ((j.toNat : Nat) : Int) = j by omega] at hc
    rw [hvv, hv2, hv3]
    refine hc.mono ?_
    rintro e w' ⟨he, q, rfl⟩
    obtain ⟨L, hL⟩ : ∃ L, l.take i.toNat ++ l.drop j.toNat = L := ⟨_, rfl⟩
    rw [hL]
    have hLl : L.length = l.length - (j.toNat - i.toNat) := by rw [← hL, List.length_append, List.length_take, List.length_drop]; omega
    have hlen : (L ++ List.replicate (j.toNat - i.toNat) 0).length = l.length := by rw [List.length_append, hLl, List.length_replicate]; omega
    have hg' : (Sort.ahead w q).heap[g]? = some (.cells cur 3 (0, 0)) := hg
    obtain ⟨q1, q2⟩ := qiZ (Value.int .i64) (Sort.ahead w q) g (L ++ List.replicate (j.toNat - i.toNat) 0).toArray hg'
    have hsize : (Sort.putRow (Value.int .i64) (Sort.ahead w q) g 0 (L ++ List.replicate (j.toNat - i.toNat) 0).toArray).heap.size = w.heap.size := by simp [Sort.putRow, Sort.mapBlock, Sort.ahead]
    have hmod : Mod (· ∈ qb [φ, φ2, φ3]) w (Sort.putRow (Value.int .i64) (Sort.ahead w q) g 0 (L ++ List.replicate (j.toNat - i.toNat) 0).toArray) := by
      refine ⟨rfl, rfl, rfl, by omega, fun k _ hk => ?_⟩
      exact q2 k (by rintro rfl; exact hk (by rw [hfps, hfp]; simp))
    have htake := enc_take _ cur l.length hlen (by omega) (k := L.length) (by omega)
    rw [List.take_left' rfl] at htake
    have hobj' : qV Try.prog (Sort.putRow (Value.int .i64) (Sort.ahead w q) g 0 (L ++ List.replicate (j.toNat - i.toNat) 0).toArray) H ⟨true, .list true 3 (.int .i64), L⟩ ⟨0, .slice (some ⟨g, 0, none⟩) L.length cap, [g]⟩ := by
      refine qV.of_list hn (by simp) ⟨_, L.map (Value.int .i64), [], rfl, by simp [Value.ownBlock], ⟨by simp [Ty.size], .inr ⟨g, cap, _, rfl, Nat.zero_le _, q1, by show L.length ≤ cap; omega, h2, ?_, ?_⟩⟩, qdO _ _ _⟩
      · simp [Sort.putCells, h3]
      · have e : List.length (α := (Ty.int IntKind.i64).den) L * (Ty.int IntKind.i64).size = L.length := Nat.mul_one _
        rw [e]
        exact htake
    have hgin : g ∈ φ.fp := by rw [hfp]; simp
    refine ⟨[.slice (some ⟨g, 0, none⟩) L.length cap], H, [qD, qD, qD], [⟨0, .slice (some ⟨g, 0, none⟩) L.length cap, [g]⟩], by rw [he, hLl]; rfl, hmod, FH.le_refl _, hok.mod hmod (fun b hb => (hfr b (by rw [hfps] at hb; exact hb)).1), fun _ _ h => .inl h,
      ⟨_, [], _, [], rfl, rfl, rfl, hobj', rfl, rfl⟩, ⟨_, _, qD, _, rfl, rfl, rfl, _, _, qD, _, rfl, rfl, rfl, _, _, qD, _, rfl, rfl, rfl, rfl, rfl⟩, by simp [qb, qD], fun b hb => ?_⟩
    obtain rfl : b = g := by simpa [qb, qD] using hb
    exact ⟨(hfr b hgin).1, .inl (by rw [hfps]; exact hgin), by rw [hsize]; exact (hfr b hgin).2⟩
def qbN : Go.Shelf.Ren := ⟨fun | 21 => 48 | 27 => 67 | 28 => 68 | 35 => 76 | 39 => 77 | n => n, fun | 22 => 23 | n => n, fun n => n⟩
set_option maxRecDepth 100000 in
theorem ins_lays : Go.Proofs.Lays2.n21 Try.prog qbN := { mixed := by kernel_rfl, f21 := by kernel_rfl, f27 := by kernel_rfl, f28 := by kernel_rfl, f35 := by kernel_rfl, f39 := by kernel_rfl, t0 := by kernel_rfl, a0 := fun w => by kernel_rfl, z0 := fun w => by kernel_rfl, v0 := fun w => by kernel_rfl, t3 := by kernel_rfl, a3 := fun w => by kernel_rfl, z3 := fun w => by kernel_rfl, v3 := fun w => by kernel_rfl, t4 := by kernel_rfl, a4 := fun w => by kernel_rfl, z4 := fun w => by kernel_rfl, v4 := fun w => by kernel_rfl, t22 := by kernel_rfl, a22 := fun w => by kernel_rfl, z22 := fun w => by kernel_rfl, v22 := fun w => by kernel_rfl, i3 := by kernel_rfl }
theorem qbm (g : Nat) (t : TypeId) : ∀ (vs : List Value) (o : Nat) (cur : Array Value) (w : World), w.heap[g]? = some (.cells cur t (0, 0)) → o + vs.length ≤ cur.size →
    w.setCells g o vs = w.setRow g (cur.toList.take o ++ vs ++ cur.toList.drop (o + vs.length)).toArray
  | [], o, cur, w, hg, _ => by
    simp only [World.setCells, List.append_nil, List.length_nil, Nat.add_zero, List.take_append_drop, Array.toArray_toList]
    exact (setRow_self w g cur t (0, 0) hg).symm
  | v :: r, o, cur, w, hg, h => by
    simp only [List.length_cons] at h
    rw [World.setCells, setCell_eq_setRow w g o cur t (0, 0) v hg, qbm g t r (o + 1) _ _ (setRow_heap w g cur _ t _ hg) (by simp; omega), setRow_setRow]
    have e := list_seg_step cur.toList o v r (by simp; omega)
    rw [Array.toList_setIfInBounds]
    exact congrArg (fun c => w.setRow g (List.toArray c)) (by simpa [Nat.add_assoc] using e)
theorem ins_in (w w1 : World) {g cap n : Nat} {cur : Array Value} {xs : List Value} (hg : w.heap[g]? = some (.cells cur 3 (0, 0))) (hcm : cap ≤ maxLen) (hn : n ≤ cap) (c2 : List Value) (hc2 : c2.length = cap) (hxs : c2.take n = xs) (hxl : xs.length = n)
    (h1 : w1.heap = w.heap) (h2 : w1.os = w.os) (h3 : w1.tape = w.tape) (h4 : w1.output = w.output) :
    (w1.setRow g c2.toArray).ownsRow 0 3 1 (.slice (some ⟨g, 0, none⟩) n cap) n xs ∧ Mod (fun b => (Value.slice (some ⟨g, 0, none⟩) n cap).ownBlock = some b) w (w1.setRow g c2.toArray) := by
  have hg1 : w1.heap[g]? = some (.cells cur 3 (0, 0)) := by rw [h1]; exact hg
  refine ⟨⟨by omega, .inr ⟨g, cap, c2.toArray, rfl, Nat.zero_le _, setRow_heap w1 g cur _ 3 _ hg1, hn, hcm, by simp [hc2], by simpa using hxs⟩⟩, ⟨h2, h3, h4, by simp [World.setRow, h1], fun k _ hk => ?_⟩⟩
  have hne : g ≠ k := fun e => hk (by rw [e]; rfl)
  show ((w1.heap.modify g _)[k]?) = _
  rw [Array.getElem?_modify, if_neg hne, h1]
theorem qkl (w w1 : World) {n c : Nat} {xs : List Value} (c2 : List Value) (hcm : c ≤ maxLen) (hn : n ≤ c) (hc2 : c2.length = c) (hxs : c2.take n = xs) (hxl : xs.length = n) {v : Value}
    (h1 : ∀ b, b < w.heap.size → w1.heap[b]? = w.heap[b]?) (hnew : w1.heap[w.heap.size]? = some (.cells c2.toArray 3 (0, 0))) (h2 : w1.os = w.os) (h3 : w1.tape = w.tape) (h4 : w1.output = w.output) :
    w1.ownsRow 0 3 1 (.slice (some ⟨w.heap.size, 0, none⟩) n c) n xs ∧ Mod (fun b => v.ownBlock = some b) w w1 ∧ ∃ g, (Value.slice (some ⟨w.heap.size, 0, none⟩) n c).ownBlock = some g ∧ w.heap.size ≤ g ∧ g < w1.heap.size := by
  have hlt := (Array.getElem?_eq_some_iff.1 hnew).1
  exact ⟨⟨by omega, .inr ⟨_, c, c2.toArray, rfl, Nat.zero_le _, hnew, hn, hcm, by simp [hc2], by simpa using hxs⟩⟩, ⟨h2, h3, h4, Nat.le_of_lt hlt, fun k hk _ => h1 k hk⟩, _, rfl, Nat.le_refl _, hlt⟩
set_option maxHeartbeats 1000000 in
theorem ins_all {w : World} {v : Value} {l : List Int} {x : Int} (ho : w.ownsRow 0 3 1 v l.length (l.map (Value.int .i64))) (hlen : l.length < 1000000) {g3 cap3 : Nat} {cur3 : Array Value} (hg3 : w.heap[g3]? = some (.cells cur3 3 (0, 0))) (hx : cur3[0]? = some (.int .i64 x)) (hne : v.ownBlock ≠ some g3) :
    Calls Try.prog 48 #[v, .int .i64 0, .slice (some ⟨g3, 0, none⟩) 1 cap3] w fun e w' => ∃ v', e = .returned v' ∧ w'.ownsRow 0 3 1 v' (l.length + 1) ((x :: l).map (Value.int .i64)) ∧ Mod (fun b => v.ownBlock = some b) w w' ∧
      (v'.ownBlock = v.ownBlock ∨ ∃ g, v'.ownBlock = some g ∧ w.heap.size ≤ g ∧ g < w'.heap.size) := by
  have L := ins_lays
  have hvs : ∀ (j : Nat) (u : Value), [Value.int .i64 x][j]? = some u → w.cell? ⟨g3, 0 + j, none⟩ = some u := fun j u h => by
    match j with
    | 0 =>
      cases h
      rw [qU hg3]
      exact hx
    | j + 1 => simp at h
  have h1v : ∀ u ∈ [Value.int .i64 x], u.oneCell' = true := fun u h => by
    obtain rfl := List.mem_singleton.1 h
    rfl
  have h1c : ∀ u ∈ l.map (Value.int .i64), u.oneCell' = true := fun u h => by
    obtain ⟨y, _, rfl⟩ := List.mem_map.1 h
    rfl
  have hge := fun c => grownCap_ge w (l.length + 1) c 3
  have hle := fun c => grownCap_le_maxLen w (l.length + 1) c 3 (by unfold maxLen; omega)
  have hzc : ∀ k, (Builtin.zeroCells (Value.int .i64 0).cells k).size = k := fun k => by simp [Builtin.zeroCells, Value.cells]
  have hend : ∀ (v : Value) c, l = [] → ∃ v', Ending.returned (.slice (some ⟨w.heap.size, 0, none⟩) (0 + 1) (grownCap w (0 + 1) c (qbN.t 3))) = Ending.returned v' ∧
      (w.drew.alloc (.cells (([] ++ [Value.int .i64 x]).toArray ++ Builtin.zeroCells (Value.int .i64 0).cells (grownCap w (0 + 1) c (qbN.t 3) - (0 + 1))) (qbN.t 3))).ownsRow 0 3 1 v' (l.length + 1) ((x :: l).map (Value.int .i64)) ∧
      Mod (fun b => v.ownBlock = some b) w (w.drew.alloc (.cells (([] ++ [Value.int .i64 x]).toArray ++ Builtin.zeroCells (Value.int .i64 0).cells (grownCap w (0 + 1) c (qbN.t 3) - (0 + 1))) (qbN.t 3))) ∧
      (v'.ownBlock = v.ownBlock ∨ ∃ g, v'.ownBlock = some g ∧ w.heap.size ≤ g ∧ g < (w.drew.alloc (.cells (([] ++ [Value.int .i64 x]).toArray ++ Builtin.zeroCells (Value.int .i64 0).cells (grownCap w (0 + 1) c (qbN.t 3) - (0 + 1))) (qbN.t 3))).heap.size) := by
    rintro v c rfl
    have a1 : 0 + 1 ≤ grownCap w (0 + 1) c 3 := hge c
    have a2 : grownCap w (0 + 1) c 3 ≤ maxLen := hle c
    obtain ⟨r1, r2, r3⟩ := qkl (v := v) (xs := [Value.int .i64 x]) (n := 0 + 1) w (w.drew.alloc (.cells (([] ++ [Value.int .i64 x]).toArray ++ Builtin.zeroCells (Value.int .i64 0).cells (grownCap w (0 + 1) c 3 - (0 + 1))) 3))
      (([] ++ [Value.int .i64 x]).toArray ++ Builtin.zeroCells (Value.int .i64 0).cells (grownCap w (0 + 1) c 3 - (0 + 1))).toList a2 a1
      (by have h1 : ([] ++ [Value.int .i64 x]).toArray.size = 1 := rfl; rw [Array.length_toList, Array.size_append, hzc, h1]; omega) (by simp) rfl
      (fun b hb => heap_alloc_old w.drew _ hb) (World.alloc_heap_new w.drew _) rfl rfl rfl
    exact ⟨_, rfl, r1, r2, .inr r3⟩
  rcases ho.2 with ⟨rfl, h0⟩ | ⟨g, cap, cur, rfl, _, hg, hnc, hcm, hsz, htk⟩
  · have hl : l = [] := List.length_eq_zero_iff.1 h0
    refine (Any2.slices_Insert_int_end_grow L none 0 0 g3 0 1 cap3 [] [.int .i64 x] w (by omega) (by omega) (by omega) (by omega) rfl rfl (fun _ => rfl) (fun a h => by cases h) hvs h1v).mono ?_
    rintro e w' ⟨rfl, rfl⟩
    exact hend _ _ hl
  · have hne : g3 ≠ g := fun e => hne (by rw [e]; rfl)
    have hsz : cur.size = cap := by rw [hsz]; exact Nat.mul_one _
    have htk : cur.toList.take l.length = l.map (Value.int .i64) := by rwa [Nat.mul_one] at htk
    have hcell : ∀ k, w.cell? ⟨g, k, none⟩ = cur[k]? := fun k => qU hg k
    have hfz : ∀ k, w.frozen? ⟨g, k, none⟩ = false := fun k => by simp [World.frozen?, hg]
    have hsp : ∀ k, k < cap → (w.cell? ⟨g, k, none⟩).isSome = true := fun k hk => by rw [hcell]; simp [hsz, hk]
    have hcs : ∀ (j : Nat) (u : Value), (l.map (Value.int .i64))[j]? = some u → w.cell? ⟨g, 0 + j, none⟩ = some u := fun j u h => by
      rw [hcell, Nat.zero_add, ← Array.getElem?_toList]
      rw [← htk, List.getElem?_take] at h
      split at h
      · exact h
      · cases h
    unfold maxLen at hcm
    by_cases hl : l.length = 0
    · have hl0 : l = [] := List.length_eq_zero_iff.1 hl
      subst hl0
      by_cases hr : 1 ≤ cap
      · refine (Any2.slices_Insert_int_end_room L g 0 0 cap g3 0 1 cap3 [.int .i64 x] w (by omega) (by omega) (by omega) rfl (fun j hj => hsp _ (by omega)) (fun j _ => hfz _) hvs h1v).mono ?_
        rintro e w' ⟨rfl, rfl⟩
        rw [qbm g 3 [.int .i64 x] (0 + 0) cur w hg (by simp; omega)]
        obtain ⟨r1, r2⟩ := ins_in w w (n := 0 + 1) (xs := [Value.int .i64 x]) hg (by unfold maxLen; omega) (by omega) (cur.toList.take (0 + 0) ++ [Value.int .i64 x] ++ cur.toList.drop (0 + 0 + 1)) (by simp; omega) (by simp) rfl rfl rfl rfl rfl
        exact ⟨_, rfl, r1, r2, .inl rfl⟩
      · refine (Any2.slices_Insert_int_end_grow L (some ⟨g, 0, none⟩) 0 cap g3 0 1 cap3 [] [.int .i64 x] w (by omega) (by omega) (by omega) (by omega) rfl rfl (fun h => by cases h) (fun a h j u h2 => by simp at h2) hvs h1v).mono ?_
        rintro e w' ⟨rfl, rfl⟩
        exact hend (.slice (some ⟨g, 0, none⟩) 0 cap) cap rfl
    · by_cases hr : l.length + 1 ≤ cap
      · have hi := Any2.slices_Insert_int_shift L g 0 l.length cap 0 g3 0 1 cap3 (l.map (Value.int .i64)) [.int .i64 x] w (by omega) (by omega) (by omega) (by omega) hne (by simp) rfl hcs (fun j hj => hsp _ (by omega)) (fun j _ => hfz _) hvs h1c h1v
          3 3 cur3.size cur.size (by simp [World.shape?, hg3]) (by simp [World.shape?, hg]) (by omega) (by simp [World.frozen?, hg3]) (by simp [World.frozen?, hg3])
        refine hi.mono ?_
        rintro e w' ⟨rfl, rfl⟩
        rw [qbm g 3 _ (0 + (0 + 1)) cur w.drew hg (by simp; omega), qbm g 3 _ (0 + 0) _ _ (setRow_heap w.drew g cur _ 3 _ hg) (by simp; omega), setRow_setRow]
        have e1 : ((cur.toList.take (0 + (0 + 1)) ++ (l.map (Value.int .i64)).drop 0 ++ cur.toList.drop (0 + (0 + 1) + ((l.map (Value.int .i64)).drop 0).length)).toArray.toList.take (0 + 0) ++ [Value.int .i64 x] ++ (cur.toList.take (0 + (0 + 1)) ++ (l.map (Value.int .i64)).drop 0 ++ cur.toList.drop (0 + (0 + 1) + ((l.map (Value.int .i64)).drop 0).length)).toArray.toList.drop (0 + 0 + [Value.int .i64 x].length)) =
            (x :: l).map (Value.int .i64) ++ cur.toList.drop (1 + l.length) := by
          have h1 : (cur.toList.take 1).length = 1 := by simp; omega
          simp [List.drop_append, List.drop_take, h1]
        rw [e1]
        obtain ⟨r1, r2⟩ := ins_in w w.drew (n := l.length + 1) (cap := cap) (xs := (x :: l).map (Value.int .i64)) hg (by unfold maxLen; omega) hr ((x :: l).map (Value.int .i64) ++ cur.toList.drop (1 + l.length)) (by simp; omega)
          (by rw [List.take_append_of_le_length (by simp), List.take_of_length_le (by simp)]) (by simp) rfl rfl rfl rfl
        exact ⟨_, rfl, r1, r2, .inl rfl⟩
      · have hi := Any2.slices_Insert_int_grow L g 0 l.length cap 0 g3 0 1 cap3 (l.map (Value.int .i64)) [.int .i64 x] w (by omega) (by omega) hnc (by omega) (by omega) (by simp) rfl hcs hvs h1c h1v
        refine hi.mono ?_
        rintro e w' ⟨rfl, rfl⟩
        have a1 : l.length + 1 ≤ grownCap w (l.length + 1) cap 3 := hge cap
        have a2 : grownCap w (l.length + 1) cap 3 ≤ maxLen := hle cap
        show ∃ v', Ending.returned (.slice (some ⟨w.heap.size, 0, none⟩) (l.length + 1) (grownCap w (l.length + 1) cap 3)) = Ending.returned v' ∧ _
        obtain ⟨gc, hgc⟩ : ∃ gc, grownCap w (l.length + 1) cap 3 = gc := ⟨_, rfl⟩
        have hgc' : grownCap w (l.length + 1) cap (qbN.t 3) = gc := hgc
        rw [hgc] at a1 a2 ⊢
        rw [hgc']
        obtain ⟨z1, hz1⟩ : ∃ z, Builtin.zeroCells (Value.int .i64 0).cells (l.length + 1 - 0) = z := ⟨_, rfl⟩
        obtain ⟨z2, hz2⟩ : ∃ z, Builtin.zeroCells (Value.int .i64 0).cells (gc - (l.length + 1)) = z := ⟨_, rfl⟩
        have k1 : z1.size = l.length + 1 := by rw [← hz1, hzc]; rfl
        have k2 : z2.size = gc - (l.length + 1) := by rw [← hz2, hzc]
        rw [hz1, hz2]
        obtain ⟨arr, harr⟩ : ∃ arr, ((l.map (Value.int .i64)).take 0).toArray ++ z1 ++ z2 = arr := ⟨_, rfl⟩
        have k3 : arr.size = gc := by rw [← harr]; simp only [Array.size_append, k1, k2]; simp; omega
        rw [harr]
        have hg0 : ((w.alloc (.cells arr 3)).drew).heap[w.heap.size]? = some (.cells arr 3 (0, 0)) := World.alloc_heap_new w _
        have other : ∀ (W : World) c b, b < w.heap.size → (W.setRow w.heap.size c).heap[b]? = W.heap[b]? := fun W c b hb => by
          show ((W.heap.modify w.heap.size _)[b]?) = _
          rw [Array.getElem?_modify, if_neg (by omega)]
        have hold : ∀ b, b < w.heap.size → ((w.alloc (.cells arr 3)).drew).heap[b]? = w.heap[b]? := fun b hb => heap_alloc_old w _ hb
        have hW : ∀ W, W = (w.alloc (.cells arr (qbN.t 3))).drew → W = (w.alloc (.cells arr 3)).drew := fun W h => h
        generalize hW0 : (w.alloc (.cells arr (qbN.t 3))).drew = W0
        have hW0 := hW W0 hW0.symm
        rw [← hW0] at hg0 hold
        have hos : W0.os = w.os ∧ W0.tape = w.tape ∧ W0.output = w.output := by rw [hW0]; exact ⟨rfl, rfl, rfl⟩
        rw [qbm w.heap.size 3 [Value.int .i64 x] 0 arr W0 hg0 (by simp; omega)]
        obtain ⟨c1, hc1⟩ : ∃ c1, arr.toList.take 0 ++ [Value.int .i64 x] ++ arr.toList.drop (0 + [Value.int .i64 x].length) = c1 := ⟨_, rfl⟩
        have k4 : c1.length = gc := by rw [← hc1]; simp; omega
        have k5 : c1.take 1 = [Value.int .i64 x] := by rw [← hc1]; simp
        rw [hc1]
        have hg1 : ((W0.setRow w.heap.size c1.toArray).drew).heap[w.heap.size]? = some (.cells c1.toArray 3 (0, 0)) := setRow_heap W0 _ arr _ 3 _ hg0
        rw [qbm w.heap.size 3 _ (0 + 1) c1.toArray _ hg1 (by simp; omega)]
        obtain ⟨c2, hc2⟩ : ∃ c2, c1.toArray.toList.take (0 + 1) ++ (l.map (Value.int .i64)).drop 0 ++ c1.toArray.toList.drop (0 + 1 + ((l.map (Value.int .i64)).drop 0).length) = c2 := ⟨_, rfl⟩
        rw [hc2]
        have e2 : c2 = (x :: l).map (Value.int .i64) ++ c1.drop (1 + l.length) := by
          rw [← hc2]
          simp [k5]
        obtain ⟨r1, r2, r3⟩ := qkl (v := .slice (some ⟨g, 0, none⟩) l.length cap) (xs := (x :: l).map (Value.int .i64)) (n := l.length + 1) w (((W0.setRow w.heap.size c1.toArray).drew).setRow w.heap.size c2.toArray) c2 a2 a1
          (by rw [e2]; simp; omega) (by rw [e2, List.take_append_of_le_length (by simp), List.take_of_length_le (by simp)]) (by simp)
          (fun b hb => (other _ _ b hb).trans ((other W0 _ b hb).trans (hold b hb))) (setRow_heap _ _ c1.toArray _ 3 _ hg1) hos.1 hos.2.1 hos.2.2
        exact ⟨_, rfl, r1, r2, .inr r3⟩
def g48 (d : (List Int) × (Int × ((List Int) × Unit))) : Option ((List Int × Unit) × Unit) :=
  if d.2.1 = 0 ∧ d.2.2.1.length = 1 ∧ d.1.length < 1000000 then some ((d.2.2.1 ++ d.1, ()), ()) else none
def p48 : qY := ⟨[.t 3 (.int .i64), .v (.int .i64), .t 3 (.int .i64)], [.own 3 (.int .i64)], g48⟩
theorem h48 : qP Try.prog 48 p48 := by
  refine ⟨qaS Try.func48 rfl (by kernel_rfl), ?_⟩
  intro d y hy w H vs Φs hok hargs hnd hfr
  obtain ⟨v, vs', φ, Φs', rfl, rfl, hv, hobj, ⟨v2, vs2, φ2, Φs2, rfl, rfl, _, hφ2, hv2, ⟨v3, vs3, φ3, Φs3, rfl, rfl, hv3, hobj3, rfl, rfl⟩⟩⟩ := hargs
  obtain ⟨l, i, r, u⟩ := d
  have hy : g48 (l, i, r, u) = some y := hy
  unfold g48 at hy
  split at hy
  case isFalse => cases hy
  rename_i hc
  simp only at hc
  cases hy
  obtain ⟨rfl, hrl, hll⟩ := hc
  obtain ⟨x, rfl⟩ := List.length_eq_one_iff.1 hrl
  have hv2 := qhV hv2
  simp only at hv2
  obtain ⟨hdr, xs, fp', e1, e2, ho, hch⟩ := hobj.row_list
  obtain ⟨hx, rfl⟩ := qcH hch
  subst hx
  have e1 : φ.hdr = hdr := by simpa using e1
  obtain ⟨hdr3, xs3, fp3, e3, e4, ho3, hch3⟩ := hobj3.row_list
  obtain ⟨hx3, rfl⟩ := qcH hch3
  subst hx3
  have e3 : φ3.hdr = hdr3 := by simpa using e3
  have hn := hobj.1
  have hfps : qb [φ, φ2, φ3] = φ.fp ++ φ3.fp := by simp [qb, hφ2]
  rw [hfps] at hfr hnd
  rcases ho3.2 with ⟨_, hz⟩ | ⟨g3, cap3, cur3, hv31, _, hg3, h31, h32, h33, h34⟩
  · cases hz
  have hfp3 : φ3.fp = [g3] := by rw [e4, hv31]; simp [Value.ownBlock]
  have hfp : φ.fp = hdr.ownBlock.toList := by rw [e2]; simp
  have hx0 : cur3[0]? = some (Value.int .i64 x) := by
    rw [← Array.getElem?_toList]
    have h := congrArg (·[0]?) h34
    simpa [Ty.size] using h
  have hne : hdr.ownBlock ≠ some g3 := fun e => by
    rw [hfp, hfp3, e] at hnd
    simp at hnd
  have hlen1 : l.length * (Ty.int IntKind.i64).size = l.length := Nat.mul_one _
  have hvv : v = hdr := by rw [hv, e1]
  have hvv3 : v3 = .slice (some ⟨g3, 0, none⟩) 1 cap3 := by rw [hv3, e3, hv31]; rfl
  rw [hvv, hv2, hvv3]
  refine (ins_all (v := hdr) (l := l) (x := x) (by simpa [Ty.size] using ho) hll hg3 hx0 hne).mono ?_
  rintro e w' ⟨v', he, ho', hmod, hob⟩
  have hsub : ∀ b, hdr.ownBlock = some b → b ∈ φ.fp := fun b hb => by rw [hfp, hb]; simp
  have hmod' : Mod (· ∈ qb [φ, φ2, φ3]) w w' := hmod.mono fun b hb => by rw [hfps]; exact List.mem_append_left _ (hsub b hb)
  have hobj' : qV Try.prog w' H ⟨true, .list true 3 (.int .i64), x :: l⟩ ⟨0, v', v'.ownBlock.toList⟩ :=
    qV.of_list hn (by cases v'.ownBlock <;> simp) ⟨_, (x :: l).map (Value.int .i64), [], rfl, by simp, by simpa [Ty.size] using ho', qdO _ _ _⟩
  have hin : ∀ b ∈ v'.ownBlock.toList, H b = none ∧ (b ∈ φ.fp ∨ w.heap.size ≤ b) ∧ b < w'.heap.size := by
    intro b hb
    have hb : v'.ownBlock = some b := by simpa using hb
    rcases hob with h | ⟨g, h, h1, h2⟩
    · have hin := hsub b (h.symm.trans hb)
      have := hfr b (List.mem_append_left _ hin)
      exact ⟨this.1, .inl hin, Nat.lt_of_lt_of_le this.2 hmod.size⟩
    · obtain rfl : g = b := by rw [h] at hb; exact Option.some.inj hb
      refine ⟨?_, .inr h1, h2⟩
      cases hH : H g with
      | none => rfl
      | some c =>
        obtain ⟨t, f, e⟩ := hok g c hH
        have := (Array.getElem?_eq_some_iff.1 e).1
        omega
  refine ⟨[v'], H, [qD, qD, qD], [⟨0, v', v'.ownBlock.toList⟩], by rw [he]; rfl, hmod', FH.le_refl _, hok.mod hmod' (fun b hb => (hfr b (by rw [hfps] at hb; exact hb)).1), fun _ _ h => .inl h,
    ⟨_, [], _, [], rfl, rfl, rfl, hobj', rfl, rfl⟩, ⟨_, _, qD, _, rfl, rfl, rfl, _, _, qD, _, rfl, rfl, rfl, _, _, qD, _, rfl, rfl, rfl, rfl, rfl⟩, by cases v'.ownBlock <;> simp [qb, qD], fun b hb => ?_⟩
  have hb : b ∈ v'.ownBlock.toList := by simpa [qb, qD] using hb
  obtain ⟨h1, h2, h3⟩ := hin b hb
  exact ⟨h1, h2.imp (fun h => by rw [hfps]; exact List.mem_append_left _ h) id, h3⟩
end Go.Proofs.Try.It
