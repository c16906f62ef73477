/- Sorts of the library as contracts of the interpreter. Their conditions are typed in each theorem: the program holds the library's bodies, the comparator does what it says. -/
import Derived.Test.YtncngmcojppmgaaGreatVi40
import Derived.Shelf.SlSortCmp.NoneTotal
import Derived.Shelf.Sort.Plain
import Derived.Shelf.Slices.In.SortNone
namespace Go.Vi
open Go.Proofs Go.Shelf Go.Sort Go.RowKit
section
variable {P : Program} {ρ : Ren}
def qaq : (τ : Ty) → τ.den → List Value
  | .int k, x => [.int k x]
  | .bool, b => [.bool b]
  | .pair a b, x => qaq a x.1 ++ qaq b x.2
  | .str t, x => qaq t x
  | _, _ => []
theorem qcz : (τ : Ty) → τ.isBare = true → ∀ {w : World} {H : FH} {x : τ.den} {cs : List Value} {fp : List Nat}, qn P τ w H x cs fp → cs = qaq τ x ∧ fp = []
  | .int _, _, _, _, _, _, _, h => h
  | .bool, _, _, _, _, _, _, h => h
  | .pair a b, hb, _, _, _, _, _, h => by
    simp only [Ty.isBare, Bool.and_eq_true] at hb
    obtain ⟨c1, c2, f1, f2, rfl, rfl, h1, h2⟩ := h
    obtain ⟨rfl, rfl⟩ := qcz a hb.1 h1
    obtain ⟨rfl, rfl⟩ := qcz b hb.2 h2
    exact ⟨rfl, rfl⟩
  | .str t, hb, _, _, _, _, _, h => qcz t hb h
theorem qbN : (τ : Ty) → τ.isBare = true → ∀ (w : World) (H : FH) (x : τ.den), qn P τ w H x (qaq τ x) []
  | .int _, _, _, _, _ => ⟨rfl, rfl⟩
  | .bool, _, _, _, _ => ⟨rfl, rfl⟩
  | .pair a b, hb, w, H, x => by
    simp only [Ty.isBare, Bool.and_eq_true] at hb
    exact ⟨_, _, [], [], rfl, rfl, qbN a hb.1 w H x.1, qbN b hb.2 w H x.2⟩
  | .str t, hb, w, H, x => qbN t hb w H x
theorem qf4 {e : Ty} (hb : e.isBare = true) {w : World} {H : FH} : ∀ {l : List e.den} {xs : List Value} {fp : List Nat}, qe (qn P e w H) l xs fp → xs = (l.map (qaq e)).flatten ∧ fp = []
  | [], _, _, ⟨h1, h2⟩ => ⟨h1, h2⟩
  | _ :: l, _, _, ⟨c, xs', f, fp', e1, e2, h1, h2⟩ => by
    obtain ⟨h3, h4⟩ := qf4 hb h2
    obtain ⟨h5, h6⟩ := qcz e hb h1
    rw [e1, e2, h3, h4, h5, h6]
    exact ⟨by simp, rfl⟩
theorem qf5 {e : Ty} (hb : e.isBare = true) (w : World) (H : FH) : ∀ (l : List e.den), qe (qn P e w H) l (l.map (qaq e)).flatten []
  | [] => ⟨rfl, rfl⟩
  | x :: l => ⟨qaq e x, (l.map (qaq e)).flatten, [], [], by simp, rfl, qbN e hb w H x, qf5 hb w H l⟩
theorem qfZ {k : Nat} : ∀ (l : List (List Value)), (∀ x ∈ l, x.length = k) → ∀ t, t < l.length * k → l.flatten[t]? = (l[t / k]?).bind (·[t % k]?)
  | [], _, t, h => by simp at h
  | c :: r, hk, t, h => by
    have hc := hk c (by simp)
    have hk0 : 0 < k := by
      rcases Nat.eq_zero_or_pos k with h0 | h0
      · rw [h0] at h; simp at h
      · exact h0
    rw [List.flatten_cons]
    by_cases ht : t < k
    · rw [List.getElem?_append_left (by omega), Nat.div_eq_of_lt ht, Nat.mod_eq_of_lt ht]
      rfl
    · obtain ⟨s, rfl⟩ : ∃ s, t = k + s := ⟨t - k, by omega⟩
      rw [List.getElem?_append_right (by omega), hc, Nat.add_sub_cancel_left, Nat.add_mod_left, Nat.add_div_left s hk0, List.getElem?_cons_succ]
      refine qfZ r (fun x hx => hk x (by simp [hx])) s ?_
      rw [List.length_cons, Nat.add_mul] at h
      omega
theorem qhm {α : Type} [Inhabited α] (enc : α → List Value) {k : Nat} (hk : ∀ x, (enc x).length = k) (d : Array α) : (flatK enc k d).toList = (d.toList.map enc).flatten := by
  have hl : (d.toList.map enc).flatten.length = d.size * k := by
    have : ∀ l : List α, (l.map enc).flatten.length = l.length * k := fun l => by
      induction l with
      | nil => simp
      | cons x l ih => rw [List.map_cons, List.flatten_cons, List.length_append, ih, hk, List.length_cons, Nat.add_mul]; omega
    rw [this, Array.length_toList]
  apply List.ext_getElem?
  intro t
  by_cases ht : t < d.size * k
  · have hk0 : 0 < k := by
      rcases Nat.eq_zero_or_pos k with h0 | h0
      · rw [h0] at ht; simp at ht
      · exact h0
    have hd : t / k < d.size := Nat.div_lt_of_lt_mul (by rwa [Nat.mul_comm])
    have hm : t % k < (enc d[t / k]).length := by rw [hk]; exact Nat.mod_lt _ hk0
    rw [qfZ _ (by simpa using fun x _ => hk x) t (by simpa using ht)]
    have h1 : (flatK enc k d).toList[t]? = some (flatK enc k d)[t]! := by
      rw [Array.getElem?_toList, getElem!_pos _ t (by simpa using ht)]
      exact Array.getElem?_eq_getElem _
    rw [h1, get_flatK enc k d t ht, getElem!_pos d (t / k) hd, getElem!_pos (enc d[t / k]) (t % k) hm]
    simp only [List.getElem?_map, Array.getElem?_toList, Array.getElem?_eq_getElem hd, Option.map_some, Option.bind_some, List.getElem?_eq_getElem hm]
  · rw [List.getElem?_eq_none (by simpa using ht), List.getElem?_eq_none (by rw [hl]; omega)]
theorem qkg {cur F : Array Value} (h : F.size ≤ cur.size) : (putCells id 0 F cur).toList.take F.size = F.toList := by
  apply List.ext_getElem?
  intro k
  rw [List.getElem?_take]
  by_cases hk : k < F.size
  · rw [if_pos hk]
    have h1 : k < cur.size := by omega
    simp [putCells, hk, h1, Nat.sub_zero]
  · rw [if_neg hk]
    rw [List.getElem?_eq_none (by simpa using hk)]
theorem qk2 {tid : TypeId} {e : Ty} (hb : e.isBare = true) {w : World} {H : FH} {l l' : List e.den} {φ : qC} {g cap : Nat} {cur F : Array Value} (hobj : qP P w H ⟨true, .list true tid e, l⟩ φ) (hhd : φ.hdr = .slice (some ⟨g, 0, none⟩) l.length cap) (hfp : φ.fp = [g])
    (hg : w.heap[g]? = some (.cells cur tid (0, 0))) (h1 : l.length ≤ cap) (h2 : cap ≤ maxLen) (h3 : cur.size = cap * e.size) (hll : l'.length = l.length) (hF : F.toList = (l'.map (qaq e)).flatten) (n : Nat) (os : Array Go.Obj) :
    j7 (· ∈ φ.fp) w (grow (putRow id (Sort.ahead w n) g 0 F) os) ∧ qP P (grow (putRow id (Sort.ahead w n) g 0 F) os) H ⟨true, .list true tid e, l'⟩ φ := by
  have hg' : (Sort.ahead w n).heap[g]? = some (.cells cur tid (0, 0)) := hg
  obtain ⟨q1, q2⟩ := qju id (Sort.ahead w n) g F hg'
  have hsize : (putRow id (Sort.ahead w n) g 0 F).heap.size = w.heap.size := by simp [putRow, mapBlock, Sort.ahead]
  have hold : ∀ k, k < w.heap.size → (grow (putRow id (Sort.ahead w n) g 0 F) os).heap[k]? = (putRow id (Sort.ahead w n) g 0 F).heap[k]? := fun k hk => by
    show ((putRow id (Sort.ahead w n) g 0 F).heap ++ os)[k]? = _
    rw [Array.getElem?_append_left (by rw [hsize]; exact hk)]
  have hglt : g < w.heap.size := (Array.getElem?_eq_some_iff.1 hg).1
  have hch : qe (qn P e (grow (putRow id (Sort.ahead w n) g 0 F) os) H) l' (l'.map (qaq e)).flatten [] := qf5 hb _ _ l'
  have hFl : F.size = l.length * e.size := by
    rw [← Array.length_toList, hF, ← hll]
    have := qe.length (n := e.size) (fun _ _ _ hh => qn.length e hh) hch
    exact this
  have hFc : F.size ≤ cur.size := by rw [hFl, h3]; exact Nat.mul_le_mul_right _ h1
  refine ⟨⟨rfl, rfl, rfl, ?_, fun k hk hM => ?_⟩, qP.of_list hobj.1 hobj.2.1 ⟨φ.hdr, F.toList, [], rfl, ?_, ⟨?_, .inr ⟨g, cap, putCells id 0 F cur, ?_, Nat.zero_le _, ?_, ?_, h2, ?_, ?_⟩⟩, ?_⟩⟩
  · show _ ≤ ((putRow id (Sort.ahead w n) g 0 F).heap ++ os).size
    rw [Array.size_append, hsize]
    omega
  · rw [hold k hk]
    exact q2 k (fun e => hM (by rw [hfp, e]; simp))
  · rw [hhd, hfp]; simp [Value.ownBlock]
  · rw [Array.length_toList, hFl, hll]
  · rw [hhd, hll]
  · rw [hold g hglt]; exact q1
  · rw [hll]; exact h1
  · simp [putCells, h3]
  · rw [hll, ← hFl]; exact qkg hFc
  · rw [hF]; exact hch
theorem qeV {tid : TypeId} {e : Ty} (hb : e.isBare = true) {w : World} {H : FH} {l : List e.den} {φ : qC} (hobj : qP P w H ⟨true, .list true tid e, l⟩ φ) :
    (l = [] ∧ φ.hdr = .slice none 0 0) ∨ ∃ g cap cur, φ.hdr = .slice (some ⟨g, 0, none⟩) l.length cap ∧ φ.fp = [g] ∧ w.heap[g]? = some (.cells cur tid (0, 0)) ∧ l.length ≤ cap ∧ cap ≤ maxLen ∧ cur.size = cap * e.size ∧ cur.toList.take (l.length * e.size) = (l.map (qaq e)).flatten := by
  obtain ⟨hdr, xs, fp', e1, e2, ho, hch⟩ := hobj.row_list
  obtain ⟨hx, rfl⟩ := qf4 hb hch
  subst hx
  have e1 : φ.hdr = hdr := by simpa using e1
  rcases ho.2 with ⟨hv0, hz⟩ | ⟨g, cap, cur, hv1, _, hg, h1, h2, h3, h4⟩
  · exact .inl ⟨List.eq_nil_of_length_eq_zero hz, by rw [e1, hv0]⟩
  · exact .inr ⟨g, cap, cur, by rw [e1, hv1], by rw [e2, hv1]; simp [Value.ownBlock], hg, h1, h2, h3, h4⟩
noncomputable def qfP {α : Type} (ok : α → Prop) (lt : α → α → Bool) (l : List α) : Option (List α) :=
  open Classical in if l.length ≤ 1000000 ∧ ∀ x ∈ l, ok x then dem (fun l' : List α => l'.Perm l ∧ l'.Pairwise (fun x y => lt y x = false)) fun l' => some l' else none
theorem qed (L : SlLaysF0.n6 P ρ) (hcal : jO P (ρ.f 6)) {t : Ty} (hb : t.isBare = true) {tid : TypeId} (ht : tid = ρ.t 24) (aE : ∀ w, (isAgg (ρ.t 24)).run P w = .ok true w) (zE : ∀ w, (Go.sizeOf (ρ.t 24)).run P w = .ok t.size w)
    (ok : t.den → Prop) {x0 : t.den} (hx0 : ok x0) (cf : t.den → t.den → Int) (hO : SWO (ltOf fun x y : {x // ok x} => cf x.1 y.1)) (g : Nat) (eg : ∀ args w, (callFunc g args).run P w = .ok (.enter g args) w)
    (hcmp : ∀ x y, ok x → ok y → ∀ W, Calls P g #[.agg (qaq t x).toArray, .agg (qaq t y).toArray] W fun e w' => e = .returned (.int .i64 (cf x y)) ∧ ∃ q os', w' = grow (W.drewN q) os') :
    jA P (ρ.f 6) ⟨[.mr tid (.str t), .c g], [], fun d => (qfP ok (ltOf cf) d.1).map fun l => ((), (l, ()))⟩ := by
  refine ⟨hcal, ?_⟩
  subst ht
  intro d y hy w H vs Φs hok hargs hnd hfr
  obtain ⟨v, vs', φ, Φs', rfl, rfl, hv, hobj, v2, vs2, φ2, Φs2, rfl, rfl, _, hφ2, rfl, rfl, rfl⟩ := hargs
  obtain ⟨l, u⟩ := d
  simp only at hobj hy
  have hfps : qd [φ, φ2] = φ.fp := by simp [qd, hφ2]
  rw [hfps] at hfr
  have hbs : (Ty.str t).isBare = true := hb
  obtain ⟨l2, hl2, rfl⟩ := Option.map_eq_some_iff.1 hy
  unfold qfP at hl2
  split at hl2
  case isFalse => cases hl2
  rename_i hall
  obtain ⟨hlim, hall⟩ := hall
  have fin : ∀ (w' : World), j7 (· ∈ φ.fp) w w' → qP P w' H ⟨true, .list true (ρ.t 24) (.str t), l2⟩ φ → ∃ us H' Φs' Ψs, Ending.returned (Value.tuple #[]) = .returned (qaa us) ∧ j7 (· ∈ qd [φ, φ2]) w w' ∧ H.le H' ∧ HOk H' w' ∧ (∀ b c, H' b = some c → H b = some c ∨ b ∈ qd [φ, φ2] ∨ w.heap.size ≤ b) ∧
      qac P w' H' [] () us Ψs ∧ jN P w' H' [.mr (ρ.t 24) (.str t), .c g] (l2, ()) [v, .func (.func g) #[] #[]] Φs' ∧ (qd (Ψs ++ Φs')).Nodup ∧ ∀ b ∈ qd (Ψs ++ Φs'), H' b = none ∧ (b ∈ qd [φ, φ2] ∨ w.heap.size ≤ b) ∧ b < w'.heap.size := by
    intro w' hmod hobj'
    refine ⟨[], H, [φ, φ2], [], rfl, by rw [hfps]; exact hmod, FH.le_refl _, hok.mod hmod (fun b hb => (hfr b hb).1), fun _ _ h => .inl h, ⟨rfl, rfl⟩, ⟨_, _, φ, _, rfl, rfl, hv, hobj', _, _, φ2, _, rfl, rfl, hφ2, rfl, rfl⟩, by simpa [hfps] using hnd, fun b hb => ?_⟩
    have hb' : b ∈ φ.fp := by simpa [hfps] using hb
    exact ⟨(hfr b hb').1, .inl (by rw [hfps]; exact hb'), Nat.lt_of_lt_of_le (hfr b hb').2 hmod.size⟩
  rcases qeV hbs hobj with ⟨rfl, hh⟩ | ⟨b, cap, cur, hh, hfp, hg, h1, h2, h3, h4⟩
  · have hl : l2 = [] := by
      have := qdI hl2 [] ⟨List.Perm.nil, List.Pairwise.nil⟩
      exact (Option.some.inj this).symm
    subst hl
    have hc := Go.Proofs.AnyF.slices_SortFunc_none L none 0 (.func (.func g) #[] #[]) w
    rw [show v = .slice none 0 0 by rw [hv, hh]]
    refine hc.mono ?_
    rintro e w' ⟨rfl, rfl⟩
    have := fin w' (j7.refl _ _) hobj
    rw [show v = .slice none 0 0 by rw [hv, hh]] at this
    exact this
  · haveI : Inhabited {x // ok x} := ⟨⟨x0, hx0⟩⟩
    obtain ⟨la, hla⟩ : ∃ la : List {x // ok x}, la.map (·.1) = l := ⟨l.attach.map fun x => ⟨x.1, hall x.1 x.2⟩, by simp⟩
    have hlen : la.length = l.length := by rw [← hla, List.length_map]
    have hk : ∀ x : {x // ok x}, (qaq t x.1).length = t.size := fun x => qn.length (P := P) t (qbN t hb w H x.1)
    have hk1 : ∀ x : {x // ok x}, ∀ u ∈ qaq t x.1, u.oneCell' = true := fun x => qn.one (P := P) t (qbN t hb w H x.1)
    have hmap : ∀ lb : List {x // ok x}, (lb.map fun x => qaq t x.1).flatten = ((lb.map (·.1)).map (qaq (.str t))).flatten := fun lb => by
      rw [List.map_map]; rfl
    have hH : HoldsK (fun x : {x // ok x} => qaq t x.1) t.size w b 0 la.toArray := by
      intro j hj
      have hj' : j < l.length * (Ty.str t).size := by
        have h : j < l.length * t.size := by simpa [hlen] using hj
        exact h
      have hf := qhm (fun x : {x // ok x} => qaq t x.1) hk la.toArray
      refine ⟨?_, ?_⟩
      · rw [qz hg, Nat.zero_add, ← Array.getElem?_toList]
        have h5 : (flatK (fun x : {x // ok x} => qaq t x.1) t.size la.toArray).toList[j]? = cur.toList[j]? := by
          rw [hf, hmap, hla, ← h4, List.getElem?_take, if_pos hj']
        rw [← h5, Array.getElem?_toList, getElem!_pos _ j hj]
        exact Array.getElem?_eq_getElem _
      · simp [World.frozen?, hg]
    have hc := Go.Proofs.AnyQ.slices_SortFunc L t.size aE zE (fun x : {x // ok x} => qaq t x.1) hk hk1 (fun x y => cf x.1 y.1) hO g #[] b 0 cap la.toArray w eg (fun _ _ _ _ x y => hcmp x.1 y.1 x.2 y.2 _) hH (Array.getElem?_eq_some_iff.1 hg).1 (by
      have : la.toArray.size = l.length := by simpa using hlen
      rw [this]; omega)
    have hsz : la.toArray.size = l.length := by simpa using hlen
    rw [hsz] at hc
    have hvv : v = .slice (some ⟨b, 0, none⟩) l.length cap := by rw [hv, hh]
    rw [hvv]
    refine hc.mono ?_
    rintro e w' ⟨rfl, d', n, os, hp, hs, rfl⟩
    have hds : d'.size = l.length := hp.1.trans hsz
    have hperm : d'.toList.Perm la := by
      have h5 := hp.2.2
      rw [Array.toList_extract, Array.toList_extract] at h5
      simpa [List.extract_eq_take_drop, hds, hlen, List.take_of_length_le] using h5
    have hsort : (d'.toList.map (·.1)).Pairwise (fun x y => ltOf cf y x = false) := by
      rw [List.pairwise_map, List.pairwise_iff_getElem]
      intro i j hi hj hij
      have hj' : j < d'.size := by simpa using hj
      have h5 := hs i j (Nat.zero_le _) hij (by omega)
      rw [getElem!_pos d' i (by omega), getElem!_pos d' j hj'] at h5
      simp only [List.getElem_map, Array.getElem_toList]
      exact h5
    have hd := qdI hl2 (d'.toList.map (·.1)) ⟨by rw [← hla]; exact hperm.map _, hsort⟩
    have hd : d'.toList.map (·.1) = l2 := Option.some.inj hd
    obtain ⟨hm, ho⟩ := qk2 (l' := l2) hbs hobj hh hfp hg h1 h2 h3 (by rw [← hd, List.length_map, Array.length_toList, hds]) (F := flatK (fun x : {x // ok x} => qaq t x.1) t.size d') (by
      rw [qhm _ hk, hmap, hd]) n os
    have := fin _ hm ho
    rw [hvv] at this
    exact this
theorem qiD (L : Lays.n189 P ρ) (hcal : jO P (ρ.f 189)) (tid : TypeId) : jA P (ρ.f 189) ⟨[.mr tid (.int .i64)], [], fun d => if d.1.length ≤ 1000000 then some ((), (d.1.mergeSort (fun x y => decide (x ≤ y)), ())) else none⟩ := by
  refine ⟨hcal, ?_⟩
  intro d y hy w H vs Φs hok hargs hnd hfr
  simp only at hy
  split at hy
  case isFalse => cases hy
  rename_i hlim
  cases hy
  obtain ⟨v, vs', φ, Φs', rfl, rfl, hv, hobj, rfl, rfl⟩ := hargs
  obtain ⟨l, u⟩ := d
  simp only at hobj hlim ⊢
  have hfps : qd [φ] = φ.fp := by simp [qd]
  rw [hfps] at hfr
  have hbs : (Ty.int .i64).isBare = true := rfl
  have fin : ∀ (w' : World) (l2 : List Int), j7 (· ∈ φ.fp) w w' → qP P w' H ⟨true, .list true tid (.int .i64), l2⟩ φ → ∃ us H' Φs' Ψs, Ending.returned (Value.tuple #[]) = .returned (qaa us) ∧ j7 (· ∈ qd [φ]) w w' ∧ H.le H' ∧ HOk H' w' ∧ (∀ b c, H' b = some c → H b = some c ∨ b ∈ qd [φ] ∨ w.heap.size ≤ b) ∧
      qac P w' H' [] () us Ψs ∧ jN P w' H' [.mr tid (.int .i64)] (l2, ()) [v] Φs' ∧ (qd (Ψs ++ Φs')).Nodup ∧ ∀ b ∈ qd (Ψs ++ Φs'), H' b = none ∧ (b ∈ qd [φ] ∨ w.heap.size ≤ b) ∧ b < w'.heap.size := by
    intro w' l2 hmod hobj'
    refine ⟨[], H, [φ], [], rfl, by rw [hfps]; exact hmod, FH.le_refl _, hok.mod hmod (fun b hb => (hfr b hb).1), fun _ _ h => .inl h, ⟨rfl, rfl⟩, ⟨_, _, φ, _, rfl, rfl, hv, hobj', rfl, rfl⟩, by simpa [hfps] using hnd, fun b hb => ?_⟩
    have hb' : b ∈ φ.fp := by simpa [hfps] using hb
    exact ⟨(hfr b hb').1, .inl (by rw [hfps]; exact hb'), Nat.lt_of_lt_of_le (hfr b hb').2 hmod.size⟩
  rcases qeV hbs hobj with ⟨rfl, hh⟩ | ⟨b, cap, cur, hh, hfp, hg, h1, h2, h3, h4⟩
  · have hc : Calls P (ρ.f 189) #[.slice none 0 0] w fun e w' => e = .returned (.tuple #[]) ∧ w' = w := calls_of_every_depth fun D => Go.Proofs.AnyS.slices_Sort_int_none_in L D none 0 w
    rw [show v = .slice none 0 0 by rw [hv, hh]]
    refine hc.mono ?_
    rintro e w' ⟨rfl, rfl⟩
    have := fin w' [] (j7.refl _ _) hobj
    rw [show v = .slice none 0 0 by rw [hv, hh]] at this
    rw [List.mergeSort_nil]
    exact this
  · have hone : ∀ l : List Int, (l.map (qaq (.int .i64))).flatten = l.map (Value.int .i64) := fun l => by
      induction l with
      | nil => rfl
      | cons x l ih => rw [List.map_cons, List.flatten_cons, ih]; rfl
    have h4' : cur.toList.take l.length = l.map (Value.int .i64) := by
      rw [← hone]
      rwa [show l.length * (Ty.int IntKind.i64).size = l.length from Nat.mul_one _] at h4
    have hH : Holds (Value.int .i64) w b 0 l.toArray := by
      intro j hj
      have hj : j < l.length := by simpa using hj
      refine ⟨?_, ?_⟩
      · rw [qz hg, Nat.zero_add, ← Array.getElem?_toList]
        have := congrArg (·[j]?) h4'
        simp only [List.getElem?_take, hj, if_true, List.getElem?_map] at this
        rw [this]
        simp [hj]
      · simp [World.frozen?, hg]
    have hc := Go.Proofs.Any.slices_Sort_int L b 0 cap l w hH (Array.getElem?_eq_some_iff.1 hg).1 (by omega)
    have hvv : v = .slice (some ⟨b, 0, none⟩) l.length cap := by rw [hv, hh]
    rw [hvv]
    refine hc.mono ?_
    rintro e w' ⟨rfl, n, os, rfl⟩
    obtain ⟨l2, hl2⟩ : ∃ l2, l.mergeSort (fun x y => decide (x ≤ y)) = l2 := ⟨_, rfl⟩
    have hlen : l2.length = l.length := by rw [← hl2, List.length_mergeSort]
    rw [hl2]
    have hput : putRow (Value.int .i64) (Sort.ahead w n) b 0 l2.toArray = putRow id (Sort.ahead w n) b 0 (l2.map (Value.int .i64)).toArray := by
      unfold putRow
      congr 1
      funext c
      unfold putCells
      apply Array.ext
      · simp
      · intro i hi1 hi2
        simp only [Array.getElem_mapIdx, List.size_toArray, List.length_map]
        by_cases hlt : 0 ≤ i ∧ i < 0 + l2.length
        · rw [if_pos hlt, if_pos hlt]
          have hi : i < l2.length := by omega
          simp [hi]
        · rw [if_neg hlt, if_neg hlt]
    rw [hput]
    obtain ⟨hm, ho⟩ := qk2 (l' := l2) hbs hobj hh hfp hg h1 h2 h3 hlen (F := (l2.map (Value.int .i64)).toArray) (by rw [hone]) n os
    have := fin _ l2 hm ho
    rw [hvv] at this
    exact this
end
end Go.Vi
