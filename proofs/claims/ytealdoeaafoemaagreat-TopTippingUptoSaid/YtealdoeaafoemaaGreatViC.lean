/- The abstract interpreter Vi, part C: a verified interpreter over the model's code, whose run of a function gives the contract of the function. No condition beyond those typed in each theorem. -/
import Derived.Test.YtealdoeaafoemaaGreatViB
import Derived.Maps.Range
import Derived.Maps.RangeWalk
import Derived.Carry
import Derived.KernelRfl
import Derived.Shelf.Slices.Reverse
import Derived.Test.YtealdoeaafoemaaGreatRows
import Derived.Below
import Derived.ChangeSame
import Derived.OpenShut
import Derived.ProofKit
import Derived.WideKeyArgs
import Derived.JoinedCond
import Derived.IntWalk
namespace Go.Vi
section
variable {P : Program} {C : Ctx} {cfg : qS} {R : Type} {r : R} {s : St} {a : Act} {w : World} {H : FH} {Φ : Nat → qF} {dst : Option Nat} {ty : TypeId} {pos : String} {after : Array Edge} {guard : Option (Nat × Bool)} {k : St → Option R}
theorem St.obj_freeze (s : St) (id j : Nat) : (s.freeze id).obj j = if id = j then none else s.obj j := by
 unfold St.freeze
 cases ho : s.obj id with
 | none =>
  simp only
  split
  ·rename_i e; rw [← e]; exact ho
  ·rfl
 | some o => exact St.obj_setObj s id j none
theorem qm.freezeAll : ∀ (ids : List Nat) {s : St} {H : FH}, qm P C s a w H Φ →
  ∃ Hf, H.le Hf ∧ (∀ b c, Hf b = some c → H b = some c ∨ ∃ id ∈ ids, ∃ o, s.obj id = some o ∧ b ∈ (Φ id).fp) ∧ Fzn w Hf Φ s.obj ids ∧ qm P C (s.freezeAll ids) a w Hf Φ ∧ ∀ j, (s.freezeAll ids).obj j = if j ∈ ids then none else s.obj j
 | [], s, H, h => ⟨H, FH.le_refl _, fun _ _ hb => .inl hb, (fun id hid => by cases hid), h, fun j => by simp [St.freezeAll]⟩
 | i :: r, s, H, h => by
  obtain ⟨H1, k1, k2, k3, k4⟩ := h.freeze i
  obtain ⟨H2, m1, m2, m3, m4, m5⟩ := qm.freezeAll r k4
  refine ⟨H2, FH.le_trans k1 m1, ?_, ?_, m4, ?_⟩
  ·intro b c hb
   rcases m2 b c hb with hb | ⟨id, hid, o, ho, hbf⟩
   ·rcases k2 b c hb with hb | ⟨o, ho, hbf⟩
    ·exact .inl hb
    ·exact .inr ⟨i, by simp, o, ho, hbf⟩
   ·rw [St.obj_freeze] at ho
    split at ho
    ·cases ho
    ·exact .inr ⟨id, by simp [hid], o, ho, hbf⟩
  ·intro id hid o ho b hb c t f hc
   by_cases e : i = id
   ·subst e
    exact m1 _ _ (k3 o ho b hb c t f hc)
   ·rcases List.mem_cons.1 hid with h1 | hid
    ·exact absurd h1.symm e
    ·exact m3 id hid o (by rw [St.obj_freeze, if_neg e]; exact ho) b hb c t f hc
  ·intro j
   show ((s.freeze i).freezeAll r).obj j = _
   rw [m5 j, St.obj_freeze]
   by_cases h1 : j ∈ r
   ·simp [h1]
   ·by_cases h2 : i = j
    ·simp [h2]
    ·have h3 : j ≠ i := fun e => h2 e.symm
     simp [h1, h2, h3]
def qd4 (n m j : Nat) : Prop := ∀ i, n ≤ i → i < n + m → j ≠ i ∧ j ≠ qaT true i ∧ j ≠ qaT false i
theorem qcO {n m j : Nat} (h : qd4 n (m + 1) j) : qd4 (n + 1) m j := fun i h1 h2 => h i (by omega) (by omega)
theorem qeO {n m : Nat} (h : n + (m + 1) < 3000000) : qd4 (n + 1) m n := fun i h1 h2 => ⟨by omega, by have := @qfu true i; omega, by have := @qfu false i; omega⟩
theorem qkB {nn : Bool} {n m : Nat} (h : n + (m + 1) < 3000000) : qd4 (n + 1) m (qaT nn n) := fun i h1 h2 =>
 ⟨by have := @qfu nn n; omega, qhS (by omega) (by omega) (by omega), qhS (by omega) (by omega) (by omega)⟩
theorem qdg {n m j : Nat} (h : qd4 n (m + 1) j) : j ≠ n := (h n (Nat.le_refl _) (by omega)).1
theorem qeC {nn : Bool} {n m j : Nat} (h : qd4 n (m + 1) j) : j ≠ qaT nn n := by
 cases nn with
 | true => exact (h n (Nat.le_refl _) (by omega)).2.1
 | false => exact (h n (Nat.le_refl _) (by omega)).2.2
theorem qfx : ∀ (rs : List RTy) {n : Nat} {d : RDens rs} {us : List Value} {Ψs : List qF} {s : St} {Φ : Nat → qF}, qm P C s a w H Φ → qai P w H rs d us Ψs → (∀ i, i < 10000000 → C.pin i = none) → n + rs.length < 3000000 →
  (∀ b ∈ qf Ψs, H b = none ∧ (C.M0 b ∨ C.w0.heap.size ≤ b) ∧ b < w.heap.size ∧ ∀ j o, s.obj j = some o → b ∉ (Φ j).fp) → (qf Ψs).Nodup →
  ∃ Φ', qm P C (jK s n rs d).1 a w H Φ' ∧ qn P C w H Φ' (jK s n rs d).1.obj (jK s n rs d).2 (.tuple us.toArray) ∧ (jK s n rs d).2.isTup = true ∧ ∀ j, qd4 n rs.length j → (jK s n rs d).1.obj j = s.obj j ∧ Φ' j = Φ j
 | [], n, d, us, Ψs, s, Φ, hs, hr, _, _, _, _ => by
  obtain ⟨rfl, rfl⟩ := hr
  exact ⟨Φ, hs, rfl, rfl, fun _ _ => ⟨rfl, rfl⟩⟩
 | .v τ :: rs, n, d, us, Ψs, s, Φ, hs, hr, hpin, hlt, hb, hnd => by
  obtain ⟨v, vs', φ, Φs', rfl, rfl, hfz, hφ, hv, hr⟩ := hr
  obtain ⟨Φ', h1, h2, h3, h4⟩ := qfx rs (n := n + 1) hs hr hpin (by rw [List.length_cons] at hlt; omega) (fun b hb' => hb b (by simpa [qf, hφ] using hb')) (by simpa [qf, hφ] using hnd)
  exact ⟨Φ', h1, ⟨v, vs', rfl, ⟨hfz, hv⟩, h2⟩, h3, fun j hj => h4 j (qcO hj)⟩
 | .own tid e :: rs, n, d, us, Ψs, s, Φ, hs, hr, hpin, hlt, hb, hnd => by
  obtain ⟨v, vs', φ, Φs', rfl, rfl, hv, hok, hr⟩ := hr
  have hnd' : φ.fp.Nodup ∧ (qf Φs').Nodup ∧ ∀ b ∈ φ.fp, b ∉ qf Φs' := by
   simp only [qf, List.flatMap_cons, List.nodup_append] at hnd
   exact ⟨hnd.1, hnd.2.1, fun b h1 h2 => hnd.2.2 b h1 b h2 rfl⟩
  have h0 := hs.newObj (j9.refl _ w) (hpin n (by rw [List.length_cons] at hlt; omega)) (qbb (by rw [List.length_cons] at hlt; omega)) (row := true) (τ := .list true tid e) (x := d.1) (φ := φ) hok (fun b hb' => by
   obtain ⟨k1, k2, k3, k4⟩ := hb b (by simp [qf, hb'])
   exact ⟨k1, k2, k3, fun j o _ hj => k4 j o hj⟩)
  obtain ⟨Φ', h1, h2, h3, h4⟩ := qfx rs (n := n + 1) h0 hr hpin (by rw [List.length_cons] at hlt; omega) (fun b hb' => by
   obtain ⟨k1, k2, k3, k4⟩ := hb b (by simp only [qf, List.flatMap_cons, List.mem_append]; exact .inr hb')
   refine ⟨k1, k2, k3, fun j o hj => ?_⟩
   rw [St.newObj, St.obj_setObj] at hj
   split at hj
   ·rename_i e1; subst e1; rw [qz]; exact fun h1 => hnd'.2.2 b h1 hb'
   ·rename_i e1; rw [jA _ _ (fun e => e1 e.symm)]; exact k4 j o hj) hnd'.2.1
  obtain ⟨h5, h6⟩ := h4 n (qeO (by rw [List.length_cons] at hlt; omega))
  refine ⟨Φ', h1, ⟨v, vs', rfl, ⟨⟨true, .list true tid e, d.1⟩, ⟨.list true tid e, d.1⟩, ?_, qO _ _, ?_⟩, h2⟩, h3, fun j hj => ?_⟩
  ·show (jK ((s.kill n).setObj n _) (n + 1) rs d.2).1.obj n = _
   have h5' := h5
   rw [St.newObj, St.obj_setObj, if_pos rfl] at h5'
   exact h5'
  ·simp only [List.isEmpty_nil, Bool.and_self]
   rw [h6, qz, hv]
  ·obtain ⟨h7, h8⟩ := h4 j (qcO hj)
   refine ⟨?_, by rw [h8, jA _ _ (qdg hj)]⟩
   show (jK ((s.kill n).setObj n _) (n + 1) rs d.2).1.obj j = _
   rw [St.newObj, St.obj_setObj, if_neg (fun e => qdg hj e.symm)] at h7
   exact h7
 | .sure nn tid e :: rs, n, d, us, Ψs, s, Φ, hs, hr, hpin, hlt, hb, hnd => by
  obtain ⟨v, vs', φ, Φs', rfl, rfl, hv, hok, hsv, hr⟩ := hr
  have hnd' : φ.fp.Nodup ∧ (qf Φs').Nodup ∧ ∀ b ∈ φ.fp, b ∉ qf Φs' := by
   simp only [qf, List.flatMap_cons, List.nodup_append] at hnd
   exact ⟨hnd.1, hnd.2.1, fun b h1 h2 => hnd.2.2 b h1 b h2 rfl⟩
  have h0 := hs.newObj (j9.refl _ w) (hpin (qaT nn n) (qft (by rw [List.length_cons] at hlt; omega))) (qhs (by rw [List.length_cons] at hlt; omega) hsv) (row := true) (τ := .list true tid e) (x := d.1) (φ := φ) hok (fun b hb' => by
   obtain ⟨k1, k2, k3, k4⟩ := hb b (by simp [qf, hb'])
   exact ⟨k1, k2, k3, fun j o _ hj => k4 j o hj⟩)
  obtain ⟨Φ', h1, h2, h3, h4⟩ := qfx rs (n := n + 1) h0 hr hpin (by rw [List.length_cons] at hlt; omega) (fun b hb' => by
   obtain ⟨k1, k2, k3, k4⟩ := hb b (by simp only [qf, List.flatMap_cons, List.mem_append]; exact .inr hb')
   refine ⟨k1, k2, k3, fun j o hj => ?_⟩
   rw [St.newObj, St.obj_setObj] at hj
   split at hj
   ·rename_i e1; subst e1; rw [qz]; exact fun h1 => hnd'.2.2 b h1 hb'
   ·rename_i e1; rw [jA _ _ (fun e => e1 e.symm)]; exact k4 j o hj) hnd'.2.1
  obtain ⟨h5, h6⟩ := h4 (qaT nn n) (qkB (by rw [List.length_cons] at hlt; omega))
  refine ⟨Φ', h1, ⟨v, vs', rfl, ⟨⟨true, .list true tid e, d.1⟩, ⟨.list true tid e, d.1⟩, ?_, qO _ _, ?_⟩, h2⟩, h3, fun j hj => ?_⟩
  ·show (jK ((s.kill (qaT nn n)).setObj (qaT nn n) _) (n + 1) rs d.2).1.obj (qaT nn n) = _
   have h5' := h5
   rw [St.newObj, St.obj_setObj, if_pos rfl] at h5'
   exact h5'
  ·simp only [List.isEmpty_nil, Bool.and_self]
   rw [h6, qz, hv]
  ·obtain ⟨h7, h8⟩ := h4 j (qcO hj)
   refine ⟨?_, by rw [h8, jA _ _ (qeC hj)]⟩
   show (jK ((s.kill (qaT nn n)).setObj (qaT nn n) _) (n + 1) rs d.2).1.obj j = _
   rw [St.newObj, St.obj_setObj, if_neg (fun e => qeC hj e.symm)] at h7
   exact h7
 | .ownv τ :: rs, n, d, us, Ψs, s, Φ, hs, hr, hpin, hlt, hb, hnd => by
  obtain ⟨v, vs', φ, Φs', rfl, rfl, hv, hok, hr⟩ := hr
  have hnd' : φ.fp.Nodup ∧ (qf Φs').Nodup ∧ ∀ b ∈ φ.fp, b ∉ qf Φs' := by
   simp only [qf, List.flatMap_cons, List.nodup_append] at hnd
   exact ⟨hnd.1, hnd.2.1, fun b h1 h2 => hnd.2.2 b h1 b h2 rfl⟩
  have h0 := hs.newObj (j9.refl _ w) (hpin n (by rw [List.length_cons] at hlt; omega)) (qbb (by rw [List.length_cons] at hlt; omega)) (row := true) (τ := τ) (x := d.1) (φ := φ) hok (fun b hb' => by
   obtain ⟨k1, k2, k3, k4⟩ := hb b (by simp [qf, hb'])
   exact ⟨k1, k2, k3, fun j o _ hj => k4 j o hj⟩)
  obtain ⟨Φ', h1, h2, h3, h4⟩ := qfx rs (n := n + 1) h0 hr hpin (by rw [List.length_cons] at hlt; omega) (fun b hb' => by
   obtain ⟨k1, k2, k3, k4⟩ := hb b (by simp only [qf, List.flatMap_cons, List.mem_append]; exact .inr hb')
   refine ⟨k1, k2, k3, fun j o hj => ?_⟩
   rw [St.newObj, St.obj_setObj] at hj
   split at hj
   ·rename_i e1; subst e1; rw [qz]; exact fun h1 => hnd'.2.2 b h1 hb'
   ·rename_i e1; rw [jA _ _ (fun e => e1 e.symm)]; exact k4 j o hj) hnd'.2.1
  obtain ⟨h5, h6⟩ := h4 n (qeO (by rw [List.length_cons] at hlt; omega))
  refine ⟨Φ', h1, ⟨v, vs', rfl, ⟨⟨true, τ, d.1⟩, ⟨τ, d.1⟩, ?_, qO _ _, ?_⟩, h2⟩, h3, fun j hj => ?_⟩
  ·show (jK ((s.kill n).setObj n _) (n + 1) rs d.2).1.obj n = _
   have h5' := h5
   rw [St.newObj, St.obj_setObj, if_pos rfl] at h5'
   exact h5'
  ·simp only [List.isEmpty_nil, Bool.and_self]
   rw [h6, qz, hv]
  ·obtain ⟨h7, h8⟩ := h4 j (qcO hj)
   refine ⟨?_, by rw [h8, jA _ _ (qdg hj)]⟩
   show (jK ((s.kill n).setObj n _) (n + 1) rs d.2).1.obj j = _
   rw [St.newObj, St.obj_setObj, if_neg (fun e => qdg hj e.symm)] at h7
   exact h7
 | .optr τ :: rs, n, d, us, Ψs, s, Φ, hs, hr, hpin, hlt, hb, hnd => by
  obtain ⟨v, vs', φ, Φs', rfl, rfl, hv, hok, hr⟩ := hr
  have hnd' : φ.fp.Nodup ∧ (qf Φs').Nodup ∧ ∀ b ∈ φ.fp, b ∉ qf Φs' := by
   simp only [qf, List.flatMap_cons, List.nodup_append] at hnd
   exact ⟨hnd.1, hnd.2.1, fun b h1 h2 => hnd.2.2 b h1 b h2 rfl⟩
  have h0 := hs.newObj (j9.refl _ w) (hpin n (by rw [List.length_cons] at hlt; omega)) (qbb (by rw [List.length_cons] at hlt; omega)) (row := false) (τ := τ) (x := d.1) (φ := φ) hok (fun b hb' => by
   obtain ⟨k1, k2, k3, k4⟩ := hb b (by simp [qf, hb'])
   exact ⟨k1, k2, k3, fun j o _ hj => k4 j o hj⟩)
  obtain ⟨Φ', h1, h2, h3, h4⟩ := qfx rs (n := n + 1) h0 hr hpin (by rw [List.length_cons] at hlt; omega) (fun b hb' => by
   obtain ⟨k1, k2, k3, k4⟩ := hb b (by simp only [qf, List.flatMap_cons, List.mem_append]; exact .inr hb')
   refine ⟨k1, k2, k3, fun j o hj => ?_⟩
   rw [St.newObj, St.obj_setObj] at hj
   split at hj
   ·rename_i e1; subst e1; rw [qz]; exact fun h1 => hnd'.2.2 b h1 hb'
   ·rename_i e1; rw [jA _ _ (fun e => e1 e.symm)]; exact k4 j o hj) hnd'.2.1
  obtain ⟨h5, h6⟩ := h4 n (qeO (by rw [List.length_cons] at hlt; omega))
  refine ⟨Φ', h1, ⟨v, vs', rfl, ⟨⟨false, τ, d.1⟩, ⟨τ, d.1⟩, φ.b, 0, ?_, rfl, qO _ _, ?_, hv⟩, h2⟩, h3, fun j hj => ?_⟩
  ·show (jK ((s.kill n).setObj n _) (n + 1) rs d.2).1.obj n = _
   have h5' := h5
   rw [St.newObj, St.obj_setObj, if_pos rfl] at h5'
   exact h5'
  ·rw [h6, qz]
   exact jU _ _ _ _
  ·obtain ⟨h7, h8⟩ := h4 j (qcO hj)
   refine ⟨?_, by rw [h8, jA _ _ (qdg hj)]⟩
   show (jK ((s.kill n).setObj n _) (n + 1) rs d.2).1.obj j = _
   rw [St.newObj, St.obj_setObj, if_neg (fun e => qdg hj e.symm)] at h7
   exact h7
theorem qiK {os : Nat → Option Obj} {av : AV} {us : List Value} (ht : av.isTup = true) (h : qn P C w H Φ os av (.tuple us.toArray)) : qn P C w H Φ os av.lone (qah us) := by
 have hl := qan ht h
 match av, ht with
 | .nil, _ =>
  match us, hl with
  | [], _ => exact h
 | .cons b .nil, _ =>
  match us, hl with
  | [u], hl => exact hl.1
  | _ :: _ :: _, hl => exact hl.2.elim
 | .cons b (.cons c d), _ =>
  match us, hl with
  | _ :: _ :: _, _ => exact h
  | [_], hl => exact hl.2.elim
theorem qbh {α : Type} {n : Nat} {x : α} : ∀ {l : List (Nat × α)}, lk l n = some x → (n, x) ∈ l
 | [], h => by cases h
 | (m, y) :: l, h => by
  rw [jP] at h
  cases hb : Nat.beq m n with
  | true => rw [hb] at h; cases h; obtain rfl := Nat.eq_of_beq_eq_true hb; simp
  | false => rw [hb] at h; exact List.mem_cons_of_mem _ (qbh h)
theorem lk_not {α : Type} {n : Nat} : ∀ {l : List (Nat × α)}, lk l n = none → ∀ x ∈ l, x.1 ≠ n
 | [], _, x, hx => by cases hx
 | (m, y) :: l, h, x, hx => by
  rw [jP] at h
  cases hb : Nat.beq m n with
  | true => rw [hb] at h; cases h
  | false =>
   rw [hb] at h
   rcases List.mem_cons.1 hx with rfl | hx
   ·exact Nat.ne_of_beq_eq_false hb
   ·exact lk_not h x hx
theorem qfL {α : Type} {f : α → List Nat} : ∀ {l : List α}, (l.flatMap f).Nodup → ∀ x ∈ l, ∀ y ∈ l, x ≠ y → ∀ b ∈ f x, b ∉ f y
 | [], _, x, hx, _, _, _, _, _ => by cases hx
 | z :: l, h, x, hx, y, hy, hne, b, hb => by
  simp only [List.flatMap_cons, List.nodup_append] at h
  intro hb'
  rcases List.mem_cons.1 hx with rfl | hx2
  ·rcases List.mem_cons.1 hy with rfl | hy2
   ·exact hne rfl
   ·exact h.2.2 b hb b (List.mem_flatMap.2 ⟨y, hy2, hb'⟩) rfl
  ·rcases List.mem_cons.1 hy with rfl | hy2
   ·exact h.2.2 b hb' b (List.mem_flatMap.2 ⟨x, hx2, hb⟩) rfl
   ·exact qfL h.2.1 x hx2 y hy2 hne b hb hb'
theorem qaS {f : Nat → List Nat} : ∀ {l : List Nat}, l.Nodup → (∀ x ∈ l, (f x).Nodup) → (∀ x ∈ l, ∀ y ∈ l, x ≠ y → ∀ b ∈ f x, b ∉ f y) → (l.flatMap f).Nodup
 | [], _, _, _ => by simp
 | z :: l, h, h1, h2 => by
  simp only [List.nodup_cons] at h
  simp only [List.flatMap_cons, List.nodup_append]
  refine ⟨h1 z (by simp), qaS h.2 (fun x hx => h1 x (by simp [hx])) (fun x hx y hy => h2 x (by simp [hx]) y (by simp [hy])), ?_⟩
  rintro b hb _ hb' rfl
  obtain ⟨y, hy, hb'⟩ := List.mem_flatMap.1 hb'
  exact h2 z (by simp) y (by simp [hy]) (by rintro rfl; exact h.1 hy) b hb hb'
theorem qfm (hcfg : qB P cfg) (hC : qM C cfg) {s0 : St} {H0 H2 Hf : FH} {w' : World} (hs : qm P C s0 a w H0 Φ) (hd : qU cfg.nt dst = true) (hle : H0.le H2) (hok2 : HOk H2 w') {p : qE} (hrs : p.rs.length < 1000)
  {l : List AV} {vs us : List Value} {d : PDens p.ps} {y : RDens p.rs × MDens p.ps} {Φs Φs' Ψs : List qF} {G : List Nat} (hG : ∀ b ∈ G, (C.M0 b ∨ C.w0.heap.size ≤ b) ∧ ∀ j o, s0.obj j = some o → b ∉ (Φ j).fp) (hm : j9 (· ∈ qf Φs ++ G) w w') (hnew2 : ∀ b c, H2 b = some c → H0 b = some c ∨ b ∈ qf Φs ++ G ∨ w.heap.size ≤ b)
  (hmr : qdm s0.obj Φ p.ps l Φs) (hargs : jR P w Hf p.ps d vs Φs) (hmu : jQ P w' H2 p.ps y.2 vs Φs') (hres : qai P w' H2 p.rs y.1 us Ψs) (hnd : (qf (Ψs ++ Φs')).Nodup)
  (hall : ∀ b ∈ qf (Ψs ++ Φs'), H2 b = none ∧ (b ∈ qf Φs ++ G ∨ w.heap.size ≤ b) ∧ b < w'.heap.size) (hms : (qI p.ps l).Nodup) :
  ∃ Φ', qm P C (jK (qA (s0.killIf AV.isUpd) p.ps l y.2) (1000 * (dst.getD 0 + 1)) p.rs y.1).1 a w' H2 Φ' ∧ qn P C w' H2 Φ' (jK (qA (s0.killIf AV.isUpd) p.ps l y.2) (1000 * (dst.getD 0 + 1)) p.rs y.1).1.obj (jK (qA (s0.killIf AV.isUpd) p.ps l y.2) (1000 * (dst.getD 0 + 1)) p.rs y.1).2 (.tuple us.toArray) ∧ (jK (qA (s0.killIf AV.isUpd) p.ps l y.2) (1000 * (dst.getD 0 + 1)) p.rs y.1).2.isTup = true ∧
   ∀ j, 10000000 ≤ j → (Φ' j).b = (Φ j).b ∧ (jK (qA (s0.killIf AV.isUpd) p.ps l y.2) (1000 * (dst.getD 0 + 1)) p.rs y.1).1.obj j = (qA (s0.killIf AV.isUpd) p.ps l y.2).obj j := by
 obtain ⟨ML, h1, h2, h3, h4, h5⟩ := qbr hmr hargs hmu
 obtain ⟨F, g1, g2, g3⟩ := h5 (s0.killIf AV.isUpd)
 rw [← h1] at hms
 have g3 := g3 hms
 have hfpsapp : qf (Ψs ++ Φs') = qf Ψs ++ qf Φs' := by simp [qf]
 rw [hfpsapp] at hnd hall
 simp only [List.nodup_append] at hnd
 obtain ⟨hnd1, hnd2, hnd3⟩ := hnd
 have hmay : ∀ b ∈ qf Φs ++ G, C.M0 b ∨ C.w0.heap.size ≤ b := by
  intro b hb
  rcases List.mem_append.1 hb with hb | hb
  case inr => exact (hG b hb).1
  rw [h3] at hb
  obtain ⟨x, hx, hb⟩ := List.mem_flatMap.1 hb
  obtain ⟨o, ho, _⟩ := h4 x hx
  exact ((hs.os _ o ho).2 b hb).2.1
 have hother : ∀ j o', lk ML j = none → s0.obj j = some o' → ∀ b ∈ (Φ j).fp, b ∉ qf Φs ++ G ∧ b < w.heap.size ∧ H0 b = none := by
  intro j o' hj hoj b hb
  refine ⟨fun hb' => ?_, ((hs.os j o' hoj).2 b hb).2.2, ((hs.os j o' hoj).2 b hb).1⟩
  rcases List.mem_append.1 hb' with hb' | hb'
  case inr => exact (hG b hb').2 j o' hoj hb
  rw [h3] at hb'
  obtain ⟨x, hx, hb'⟩ := List.mem_flatMap.1 hb'
  obtain ⟨o, ho, _⟩ := h4 x hx
  exact hs.disj x.1 j o o' (lk_not hj x hx) ho hoj b hb' hb
 have hapart : ∀ b, (b ∈ qf Φs ++ G ∨ w.heap.size ≤ b) → ∀ j o', lk ML j = none → s0.obj j = some o' → b ∉ (Φ j).fp := by
  intro b hb j o' hj hoj hbj
  obtain ⟨k1, k2, _⟩ := hother j o' hj hoj b hbj
  rcases hb with hb | hb
  ·exact k1 hb
  ·omega
 have hmay2 : ∀ b, (b ∈ qf Φs ++ G ∨ w.heap.size ≤ b) → C.M0 b ∨ C.w0.heap.size ≤ b := by
  rintro b (hb | hb)
  ·exact hmay b hb
  ·exact .inr (Nat.le_trans hs.mod.size hb)
 have hinΦ' : ∀ id x, lk ML id = some x → ∀ b ∈ x.2, b ∈ qf Φs' := by
  intro id x hx b hb
  rw [h2]
  exact List.mem_flatMap.2 ⟨(id, x), qbh hx, hb⟩
 have hsim : qm P C (qA (s0.killIf AV.isUpd) p.ps l y.2) a w' H2 (qeb (lk ML) Φ) := by
  refine hs.changes (ch := lk ML) (F := fun av => AV.isUpd av || F av) ?_ g3 ?_ ?_ ?_ hle hok2 ?_ (hs.mod.trans_new hm hmay) hm.size ?_ ?_ ?_
  ·intro id x hx
   exact h4 (id, x) (qbh hx)
  ·intro t
   rw [g1, St.get_killIf]
   cases s0.get t with
   | none => rfl
   | some av => simp [j3]
  ·intro id x hx av hst
   simp [g2 (id, x) (qbh hx) av hst]
  ·intro av hu; simp [hu]
  ·intro b c hb
   rcases hnew2 b c hb with hb | hb | hb
   ·exact hs.hnew b c hb
   ·exact .inr (hmay b hb)
   ·exact .inr (.inr (Nat.le_trans hs.mod.size hb))
  ·intro j o' hj hoj b hb
   obtain ⟨k1, k2, k3⟩ := hother j o' hj hoj b hb
   refine ⟨hm.block b k2 k1, ?_⟩
   cases hq : H2 b with
   | none => rfl
   | some c =>
    rcases hnew2 b c hq with h | h | h
    ·rw [k3] at h; cases h
    ·exact absurd h k1
    ·omega
  ·intro id x hx b hb
   obtain ⟨k1, k2, k3⟩ := hall b (List.mem_append.2 (.inr (hinΦ' id x hx b hb)))
   exact ⟨k1, hmay2 b k2, k3, hapart b k2⟩
  ·intro i j x y' hij hx hy b hb
   rw [h2] at hnd2
   exact qfL hnd2 (i, x) (qbh hx) (j, y') (qbh hy) (by intro e; cases e; exact hij rfl) b hb
 have hdn : dst.getD 0 < 2000 := by
  cases dst with
  | none => decide
  | some d' => exact Nat.lt_of_lt_of_le (Eq.mp Nat.blt_eq hd : d' < cfg.nt) hcfg.small
 obtain ⟨Φ', k1, k2, k3, k4⟩ := qfx p.rs (n := 1000 * (dst.getD 0 + 1)) hsim hres (fun i hi => hC.pin i hi) (by omega) (by
  intro b hb
  obtain ⟨q1, q2, q3⟩ := hall b (List.mem_append.2 (.inl hb))
  refine ⟨q1, hmay2 b q2, q3, fun j o hj => ?_⟩
  rw [g3] at hj
  unfold qeb
  cases hc : lk ML j with
  | some x =>
   simp only
   exact fun hb' => hnd3 b hb b (hinΦ' j x hc b hb') rfl
  | none =>
   rw [hc] at hj
   exact hapart b q2 j o hc hj) hnd1
 refine ⟨Φ', k1, k2, k3, fun j hj => ?_⟩
 obtain ⟨q1, q2⟩ := k4 j (fun i h1 h2 => ⟨by omega, by have := @qft true i (by omega); omega, by have := @qft false i (by omega); omega⟩)
 refine ⟨?_, q1⟩
 rw [q2]
 unfold qeb
 cases lk ML j <;> rfl
theorem qfn (hcfg : qB P cfg) (hC : qM C cfg) {s0 : St} {H0 H2 Hf : FH} {w' : World} (hs : qm P C s0 a w H0 Φ) (hd : qU cfg.nt dst = true) (hle : H0.le H2) (hok2 : HOk H2 w') {p : qE} (hrs : p.rs.length < 1000)
  {l : List AV} {vs us : List Value} {d : PDens p.ps} {y : RDens p.rs × MDens p.ps} {Φs Φs' Ψs : List qF} {G : List Nat} (hG : ∀ b ∈ G, (C.M0 b ∨ C.w0.heap.size ≤ b) ∧ ∀ j o, s0.obj j = some o → b ∉ (Φ j).fp) (hm : j9 (· ∈ qf Φs ++ G) w w') (hnew2 : ∀ b c, H2 b = some c → H0 b = some c ∨ b ∈ qf Φs ++ G ∨ w.heap.size ≤ b)
  (hmr : qdm s0.obj Φ p.ps l Φs) (hargs : jR P w Hf p.ps d vs Φs) (hmu : jQ P w' H2 p.ps y.2 vs Φs') (hres : qai P w' H2 p.rs y.1 us Ψs) (hnd : (qf (Ψs ++ Φs')).Nodup)
  (hall : ∀ b ∈ qf (Ψs ++ Φs'), H2 b = none ∧ (b ∈ qf Φs ++ G ∨ w.heap.size ≤ b) ∧ b < w'.heap.size) (hms : (qI p.ps l).Nodup) :
  ∃ Φ', qm P C (jK (qA (s0.killIf AV.isUpd) p.ps l y.2) (1000 * (dst.getD 0 + 1)) p.rs y.1).1 a w' H2 Φ' ∧ qn P C w' H2 Φ' (jK (qA (s0.killIf AV.isUpd) p.ps l y.2) (1000 * (dst.getD 0 + 1)) p.rs y.1).1.obj (jK (qA (s0.killIf AV.isUpd) p.ps l y.2) (1000 * (dst.getD 0 + 1)) p.rs y.1).2 (.tuple us.toArray) ∧ (jK (qA (s0.killIf AV.isUpd) p.ps l y.2) (1000 * (dst.getD 0 + 1)) p.rs y.1).2.isTup = true := by
 obtain ⟨Φ', k1, k2, k3, _⟩ := qfm hcfg hC hs hd hle hok2 hrs hG hm hnew2 hmr hargs hmu hres hnd hall hms
 exact ⟨Φ', k1, k2, k3⟩
theorem qgd (hcfg : qB P cfg) (hC : qM C cfg) {s0 : St} {H0 H2 Hf : FH} {w' : World} (hs : qm P C s0 a w H0 Φ) (hd : qU cfg.nt dst = true) (hle : H0.le H2) (hok2 : HOk H2 w') {p : qE} (hrs : p.rs.length < 1000)
  {l : List AV} {vs us : List Value} {d : PDens p.ps} {y : RDens p.rs × MDens p.ps} {Φs Φs' Ψs : List qF} {G : List Nat} (hG : ∀ b ∈ G, (C.M0 b ∨ C.w0.heap.size ≤ b) ∧ ∀ j o, s0.obj j = some o → b ∉ (Φ j).fp) (hm : j9 (· ∈ qf Φs ++ G) w w') (hnew2 : ∀ b c, H2 b = some c → H0 b = some c ∨ b ∈ qf Φs ++ G ∨ w.heap.size ≤ b)
  (hmr : qdm s0.obj Φ p.ps l Φs) (hargs : jR P w Hf p.ps d vs Φs) (hmu : jQ P w' H2 p.ps y.2 vs Φs') (hres : qai P w' H2 p.rs y.1 us Ψs) (hnd : (qf (Ψs ++ Φs')).Nodup)
  (hall : ∀ b ∈ qf (Ψs ++ Φs'), H2 b = none ∧ (b ∈ qf Φs ++ G ∨ w.heap.size ≤ b) ∧ b < w'.heap.size) (hms : (qI p.ps l).Nodup) :
  Sim P C ((jK (qA (s0.killIf AV.isUpd) p.ps l y.2) (1000 * (dst.getD 0 + 1)) p.rs y.1).1.setDst dst (jK (qA (s0.killIf AV.isUpd) p.ps l y.2) (1000 * (dst.getD 0 + 1)) p.rs y.1).2.lone) (a.put dst (qah us)) w' := by
 obtain ⟨Φ', k1, k2, k3⟩ := qfn hcfg hC hs hd hle hok2 hrs hG hm hnew2 hmr hargs hmu hres hnd hall hms
 exact ⟨H2, Φ', k1.setDst (by rw [hC.nt]; exact hd) (qiK k3 k2)⟩
theorem qj1 (hcfg : qB P cfg) (hC : qM C cfg) {s0 : St} {H0 H2 Hf : FH} {w' : World} (hs : qm P C s0 a w H0 Φ) (hd : qU cfg.nt dst = true) (hle : H0.le H2) (hok2 : HOk H2 w') {p : qE} (hrs : p.rs.length < 1000)
  {l : List AV} {vs us : List Value} {d : PDens p.ps} {y : RDens p.rs × MDens p.ps} {Φs Φs' Ψs : List qF} (hm : j9 (· ∈ qf Φs) w w') (hnew2 : ∀ b c, H2 b = some c → H0 b = some c ∨ b ∈ qf Φs ∨ w.heap.size ≤ b)
  (hmr : qdm s0.obj Φ p.ps l Φs) (hargs : jR P w Hf p.ps d vs Φs) (hmu : jQ P w' H2 p.ps y.2 vs Φs') (hres : qai P w' H2 p.rs y.1 us Ψs) (hnd : (qf (Ψs ++ Φs')).Nodup)
  (hall : ∀ b ∈ qf (Ψs ++ Φs'), H2 b = none ∧ (b ∈ qf Φs ∨ w.heap.size ≤ b) ∧ b < w'.heap.size) (hms : (qI p.ps l).Nodup) :
  ∃ Φ', qm P C (jK (qA (s0.killIf AV.isUpd) p.ps l y.2) (1000 * (dst.getD 0 + 1)) p.rs y.1).1 a w' H2 Φ' ∧ qn P C w' H2 Φ' (jK (qA (s0.killIf AV.isUpd) p.ps l y.2) (1000 * (dst.getD 0 + 1)) p.rs y.1).1.obj (jK (qA (s0.killIf AV.isUpd) p.ps l y.2) (1000 * (dst.getD 0 + 1)) p.rs y.1).2 (.tuple us.toArray) ∧ (jK (qA (s0.killIf AV.isUpd) p.ps l y.2) (1000 * (dst.getD 0 + 1)) p.rs y.1).2.isTup = true :=
 qfn hcfg hC hs hd hle hok2 hrs (G := []) (by simp) (by simpa using hm) (by simpa using hnew2) hmr hargs hmu hres hnd (by simpa using hall) hms
theorem qdG (hcfg : qB P cfg) (hC : qM C cfg) {s0 : St} {H0 H2 Hf : FH} {w' : World} (hs : qm P C s0 a w H0 Φ) (hd : qU cfg.nt dst = true) (hle : H0.le H2) (hok2 : HOk H2 w') {p : qE} (hrs : p.rs.length < 1000)
  {l : List AV} {vs us : List Value} {d : PDens p.ps} {y : RDens p.rs × MDens p.ps} {Φs Φs' Ψs : List qF} (hm : j9 (· ∈ qf Φs) w w') (hnew2 : ∀ b c, H2 b = some c → H0 b = some c ∨ b ∈ qf Φs ∨ w.heap.size ≤ b)
  (hmr : qdm s0.obj Φ p.ps l Φs) (hargs : jR P w Hf p.ps d vs Φs) (hmu : jQ P w' H2 p.ps y.2 vs Φs') (hres : qai P w' H2 p.rs y.1 us Ψs) (hnd : (qf (Ψs ++ Φs')).Nodup)
  (hall : ∀ b ∈ qf (Ψs ++ Φs'), H2 b = none ∧ (b ∈ qf Φs ∨ w.heap.size ≤ b) ∧ b < w'.heap.size) (hms : (qI p.ps l).Nodup) :
  Sim P C ((jK (qA (s0.killIf AV.isUpd) p.ps l y.2) (1000 * (dst.getD 0 + 1)) p.rs y.1).1.setDst dst (jK (qA (s0.killIf AV.isUpd) p.ps l y.2) (1000 * (dst.getD 0 + 1)) p.rs y.1).2.lone) (a.put dst (qah us)) w' :=
 qgd hcfg hC hs hd hle hok2 hrs (G := []) (by simp) (by simpa using hm) (by simpa using hnew2) hmr hargs hmu hres hnd (by simpa using hall) hms
theorem qaM {os : Nat → Option Obj} : ∀ {ps : List jL} {l : List AV} {Φs : List qF}, qdm os Φ ps l Φs → qf Φs = (qI ps l).flatMap (fun id => (Φ id).fp) ∧ ∀ id ∈ qI ps l, ∃ o, os id = some o
 | [], l, Φs, h => by obtain ⟨rfl, rfl⟩ := h; exact ⟨rfl, by simp [qI]⟩
 | .v τ :: ps, l, Φs, h => by
  obtain ⟨av, l', φ, Φs1, rfl, rfl, hφ, hm⟩ := h
  obtain ⟨h1, h2⟩ := qaM hm
  exact ⟨by simpa [qf, hφ, qI] using h1, by simpa [qI] using h2⟩
 | .r τ :: ps, l, Φs, h => by
  obtain ⟨av, l', φ, Φs1, rfl, rfl, hφ, hm⟩ := h
  obtain ⟨h1, h2⟩ := qaM hm
  exact ⟨by simpa [qf, hφ, qI] using h1, by simpa [qI] using h2⟩
 | .c _ :: ps, l, Φs, h => by
  obtain ⟨av, l', φ, Φs1, rfl, rfl, hφ, hm⟩ := h
  obtain ⟨h1, h2⟩ := qaM hm
  exact ⟨by simpa [qf, hφ, qI] using h1, by simpa [qI] using h2⟩
 | .m τ :: ps, l, Φs, h => by
  obtain ⟨id, l', Φs1, x, rfl, rfl, ho, hm⟩ := h
  obtain ⟨h1, h2⟩ := qaM hm
  exact ⟨by simpa [qf, qI, AV.name] using h1, by simpa [qI, AV.name, ho] using h2⟩
 | .gm τ :: ps, l, Φs, h => by
  obtain ⟨id, l', Φs1, x, rfl, rfl, ho, hm⟩ := h
  obtain ⟨h1, h2⟩ := qaM hm
  exact ⟨by simpa [qf, qI, AV.name] using h1, by simpa [qI, AV.name, ho] using h2⟩
 | .mr tid e :: ps, l, Φs, h => by
  obtain ⟨id, l', Φs1, x, rfl, rfl, ho, hm⟩ := h
  obtain ⟨h1, h2⟩ := qaM hm
  exact ⟨by simpa [qf, qI, AV.name] using h1, by simpa [qI, AV.name, ho] using h2⟩
 | .t tid e :: ps, l, Φs, h => by
  obtain ⟨id, l', Φs1, x, rfl, rfl, ho, hm⟩ := h
  obtain ⟨h1, h2⟩ := qaM hm
  exact ⟨by simpa [qf, qI, AV.name] using h1, by simpa [qI, AV.name, ho] using h2⟩
 | .cm f τ :: ps, l, Φs, h => by
  obtain ⟨id, l', Φs1, x, rfl, rfl, ho, hm⟩ := h
  obtain ⟨h1, h2⟩ := qaM hm
  exact ⟨by simpa [qf, qI, AV.capName, AV.name] using h1, by simpa [qI, AV.capName, AV.name, ho] using h2⟩
theorem qas {os os' : Nat → Option Obj} : ∀ {ps : List jL} {l : List AV} {Φs : List qF}, (∀ id ∈ qI ps l, os' id = os id) → qdm os Φ ps l Φs → qdm os' Φ ps l Φs
 | [], l, Φs, _, h => h
 | .v τ :: ps, l, Φs, hh, h => by
  obtain ⟨av, l', φ, Φs1, rfl, rfl, hφ, hm⟩ := h
  exact ⟨av, l', φ, Φs1, rfl, rfl, hφ, qas (by simpa [qI] using hh) hm⟩
 | .r τ :: ps, l, Φs, hh, h => by
  obtain ⟨av, l', φ, Φs1, rfl, rfl, hφ, hm⟩ := h
  exact ⟨av, l', φ, Φs1, rfl, rfl, hφ, qas (by simpa [qI] using hh) hm⟩
 | .c _ :: ps, l, Φs, hh, h => by
  obtain ⟨av, l', φ, Φs1, rfl, rfl, hφ, hm⟩ := h
  exact ⟨av, l', φ, Φs1, rfl, rfl, hφ, qas (by simpa [qI] using hh) hm⟩
 | .m τ :: ps, l, Φs, hh, h => by
  obtain ⟨id, l', Φs1, x, rfl, rfl, ho, hm⟩ := h
  exact ⟨id, l', Φs1, x, rfl, rfl, by rw [hh id (by simp [qI, AV.name])]; exact ho, qas (fun j hj => hh j (by simp [qI, hj])) hm⟩
 | .gm τ :: ps, l, Φs, hh, h => by
  obtain ⟨id, l', Φs1, x, rfl, rfl, ho, hm⟩ := h
  exact ⟨id, l', Φs1, x, rfl, rfl, by rw [hh id (by simp [qI, AV.name])]; exact ho, qas (fun j hj => hh j (by simp [qI, hj])) hm⟩
 | .mr tid e :: ps, l, Φs, hh, h => by
  obtain ⟨id, l', Φs1, x, rfl, rfl, ho, hm⟩ := h
  exact ⟨id, l', Φs1, x, rfl, rfl, by rw [hh id (by simp [qI, AV.name])]; exact ho, qas (fun j hj => hh j (by simp [qI, hj])) hm⟩
 | .t tid e :: ps, l, Φs, hh, h => by
  obtain ⟨id, l', Φs1, x, rfl, rfl, ho, hm⟩ := h
  exact ⟨id, l', Φs1, x, rfl, rfl, by rw [hh id (by simp [qI, AV.name])]; exact ho, qas (fun j hj => hh j (by simp [qI, hj])) hm⟩
 | .cm f τ :: ps, l, Φs, hh, h => by
  obtain ⟨id, l', Φs1, x, rfl, rfl, ho, hm⟩ := h
  exact ⟨id, l', Φs1, x, rfl, rfl, by rw [hh id (by simp [qI, AV.capName, AV.name])]; exact ho, qas (fun j hj => hh j (by simp [qI, hj])) hm⟩
theorem qX.closed {w : World} {H H' : FH} {o : Obj} {φ : qF} (hc : o.τ.isClosed = true) (h : qX P w H o φ) : qX P w H' o φ := by
 obtain ⟨h1, h2, h3⟩ := h
 refine ⟨h1, h2, ?_⟩
 cases hr : o.row with
 | false =>
  rw [hr] at h3
  obtain ⟨blk, t, fp', h4, h5, h6⟩ := h3
  exact ⟨blk, t, fp', h4, qx.closed _ hc h5, h6⟩
 | true =>
  rw [hr] at h3
  obtain ⟨k1, cs, k2, k3⟩ := h3
  exact ⟨k1, cs, k2, qx.closed _ hc k3⟩
theorem jQ.closed {w : World} {H H' : FH} : ∀ {ps : List jL} {md : MDens ps} {vs : List Value} {Φs : List qF}, ps.all jL.closed = true → jQ P w H ps md vs Φs → jQ P w H' ps md vs Φs
 | [], _, _, _, _, h => h
 | .v τ :: ps, md, vs, Φs, hc, h => by
  obtain ⟨v, vs', φ, Φs', e1, e2, e3, h⟩ := h
  exact ⟨v, vs', φ, Φs', e1, e2, e3, jQ.closed (by simpa [jL.closed] using hc) h⟩
 | .r τ :: ps, md, vs, Φs, hc, h => by
  obtain ⟨v, vs', φ, Φs', e1, e2, e3, h⟩ := h
  exact ⟨v, vs', φ, Φs', e1, e2, e3, jQ.closed (by simpa [jL.closed] using hc) h⟩
 | .c _ :: ps, md, vs, Φs, hc, h => by
  obtain ⟨v, vs', φ, Φs', e1, e2, e3, h⟩ := h
  exact ⟨v, vs', φ, Φs', e1, e2, e3, jQ.closed (by simpa [jL.closed] using hc) h⟩
 | .m τ :: ps, md, vs, Φs, hc, h => by
  simp only [List.all_cons, Bool.and_eq_true] at hc
  obtain ⟨v, vs', φ, Φs', e1, e2, e3, e4, h⟩ := h
  exact ⟨v, vs', φ, Φs', e1, e2, e3, qX.closed hc.1 e4, jQ.closed hc.2 h⟩
 | .mr tid e :: ps, md, vs, Φs, hc, h => by
  simp only [List.all_cons, Bool.and_eq_true] at hc
  obtain ⟨v, vs', φ, Φs', e1, e2, e3, e4, h⟩ := h
  exact ⟨v, vs', φ, Φs', e1, e2, e3, qX.closed (by simpa [Ty.isClosed] using Ty.flat_closed e hc.1) e4, jQ.closed hc.2 h⟩
 | .t _ _ :: ps, md, vs, Φs, hc, h => by
  simp only [List.all_cons, Bool.and_eq_true] at hc
  obtain ⟨v, vs', φ, Φs', e1, e2, e3, h⟩ := h
  exact ⟨v, vs', φ, Φs', e1, e2, e3, jQ.closed hc.2 h⟩
 | .gm _ :: ps, md, vs, Φs, hc, h => by
  simp only [List.all_cons, Bool.and_eq_true] at hc
  obtain ⟨v, vs', φ, Φs', e1, e2, e3, h⟩ := h
  exact ⟨v, vs', φ, Φs', e1, e2, e3, jQ.closed hc.2 h⟩
 | .cm f τ :: ps, md, vs, Φs, hc, h => by
  simp only [List.all_cons, Bool.and_eq_true] at hc
  obtain ⟨v, vs', φ, Φs', e1, e2, e3, e4, h⟩ := h
  exact ⟨v, vs', φ, Φs', e1, e2, e3, qX.closed hc.1 e4, jQ.closed hc.2 h⟩
theorem qai.closed {w : World} {H H' : FH} : ∀ {rs : List RTy} {d : RDens rs} {vs : List Value} {Φs : List qF}, rs.all RTy.closed = true → qai P w H rs d vs Φs → qai P w H' rs d vs Φs
 | [], _, _, _, _, h => h
 | .v τ :: rs, d, vs, Φs, hc, h => by
  simp only [List.all_cons, Bool.and_eq_true] at hc
  obtain ⟨v, vs', φ, Φs', e1, e2, e3, e4, ⟨cs, e5, e6⟩, h⟩ := h
  exact ⟨v, vs', φ, Φs', e1, e2, e3, e4, ⟨cs, e5, qx.closed τ (Ty.flat_closed τ hc.1) e6⟩, qai.closed hc.2 h⟩
 | .own tid e :: rs, d, vs, Φs, hc, h => by
  simp only [List.all_cons, Bool.and_eq_true] at hc
  obtain ⟨v, vs', φ, Φs', e1, e2, e3, e4, h⟩ := h
  exact ⟨v, vs', φ, Φs', e1, e2, e3, qX.closed (by simpa [Ty.isClosed] using Ty.flat_closed e hc.1) e4, qai.closed hc.2 h⟩
 | .sure _ tid e :: rs, d, vs, Φs, hc, h => by
  simp only [List.all_cons, Bool.and_eq_true] at hc
  obtain ⟨v, vs', φ, Φs', e1, e2, e3, e4, e5, h⟩ := h
  exact ⟨v, vs', φ, Φs', e1, e2, e3, qX.closed (by simpa [Ty.isClosed] using Ty.flat_closed e hc.1) e4, e5, qai.closed hc.2 h⟩
 | .ownv _ :: rs, d, vs, Φs, hc, h => by
  simp only [List.all_cons, Bool.and_eq_true] at hc
  obtain ⟨v, vs', φ, Φs', e1, e2, e3, e4, h⟩ := h
  exact ⟨v, vs', φ, Φs', e1, e2, e3, qX.closed hc.1 e4, qai.closed hc.2 h⟩
 | .optr τ :: rs, d, vs, Φs, hc, h => by
  simp only [List.all_cons, Bool.and_eq_true] at hc
  obtain ⟨v, vs', φ, Φs', e1, e2, e3, e4, h⟩ := h
  exact ⟨v, vs', φ, Φs', e1, e2, e3, qX.closed hc.1 e4, qai.closed hc.2 h⟩
theorem qlN (hcfg : qB P cfg) (hC : qM C cfg) {f : Nat} {m : qdn} (hp : lk cfg.makers f = some m) {l : List AV} {vs : List Value} (hs : qm P C s a w H Φ) (hd : qU cfg.nt dst = true) (hrel : j7 (qn P C w H Φ s.obj) l vs)
  (h : qkI cfg s dst m l k = some r) : ∃ s', k s' = some r ∧ Calls P f vs.toArray w fun e w'' => ∃ v, e = .returned v ∧ Sim P C s' (a.put dst v) w'' := by
 obtain ⟨_, hsound⟩ := hcfg.makers f m hp
 unfold qkI at h
 cases hq : qaz (qI m.p.ps l) (qt m.p.ps l) && Nat.blt m.p.rs.length 1000 with
 | false => rw [hq] at h; cases h
 | true =>
 rw [hq, cond_true] at h
 rw [Bool.and_eq_true] at hq
 obtain ⟨hap, hrs⟩ := hq
 have hrs : m.p.rs.length < 1000 := Eq.mp Nat.blt_eq hrs
 obtain ⟨hms, hmt⟩ := qbT hap
 obtain ⟨Hf, m1, m2, m3, m4, m5⟩ := qm.freezeAll (qt m.p.ps l) hs
 obtain ⟨d, h, Φs, hargs, hmr⟩ := qaE hcfg hs m1 m3 hrel h
 rw [qo] at h
 replace h := Option.bind_eq_some_iff.1 h
 obtain ⟨y, hy, h⟩ := h
 obtain ⟨hfps, hmo⟩ := qaM hmr
 have hnd : (qf Φs).Nodup := by
  rw [hfps]
  refine qaS hms (fun id hid => ?_) (fun i hi j hj hij b hb => ?_)
  ·obtain ⟨o, ho⟩ := hmo id hid
   exact (hs.os id o ho).1.2.1
  ·obtain ⟨o, ho⟩ := hmo i hi
   obtain ⟨o', ho'⟩ := hmo j hj
   exact hs.disj i j o o' hij ho ho' b hb
 have hnone : ∀ b ∈ qf Φs, Hf b = none ∧ b < w.heap.size := by
  intro b hb
  rw [hfps] at hb
  obtain ⟨id, hid, hb⟩ := List.mem_flatMap.1 hb
  obtain ⟨o, ho⟩ := hmo id hid
  obtain ⟨q1, q2, q3⟩ := (hs.os id o ho).2 b hb
  refine ⟨?_, q3⟩
  cases hq : Hf b with
  | none => rfl
  | some c =>
   rcases m2 b c hq with h1 | ⟨id2, hid2, o2, ho2, hb2⟩
   ·rw [q1] at h1; cases h1
   ·exact absurd hb2 (hs.disj id id2 o o2 (by rintro rfl; exact hmt id hid hid2) ho ho2 b hb)
 have hc := hsound d y hy w Hf vs Φs m4.hok hargs hnd hnone
 refine ⟨_, h, hc.mono ?_⟩
 rintro e w'' ⟨us, H', Φs', Ψs, he, hm, hle, hok', hnew, hres, hmu, hnd2, hall⟩
 refine ⟨_, he, ?_⟩
 obtain ⟨Φ', k1, k2, _⟩ := qj1 hcfg hC m4 hd hle hok' hrs hm hnew (qas (fun id hid => by rw [m5, if_neg (hmt id hid)]) hmr) hargs hmu hres hnd2 hall hms
 exact ⟨H', Φ', k1.setDst (by rw [hC.nt]; exact hd) ⟨#[], us.toArray, rfl, rfl, k2⟩⟩
theorem qil (hcfg : qB P cfg) (hC : qM C cfg) {p : qE} {X : (Ending → World → Prop) → Prop} (hX : ∀ {Q Q' : Ending → World → Prop}, X Q → (∀ e w, Q e w → Q' e w) → X Q') {l : List AV} {vs : List Value} (hs : qm P C s a w H Φ) (hd : qU cfg.nt dst = true) (hrel : j7 (qn P C w H Φ s.obj) l vs)
  (hsound : ∀ (d : PDens p.ps) (y : RDens p.rs × MDens p.ps), p.g d = some y → ∀ (H2 : FH) (Φs : List qF), H.le H2 → HOk H2 w → jR P w H2 p.ps d vs Φs → (qf Φs).Nodup → (∀ b ∈ qf Φs, H2 b = none ∧ b < w.heap.size) →
   X fun e w' => ∃ us H' Φs' Ψs, e = .returned (qah us) ∧ j9 (· ∈ qf Φs) w w' ∧ H2.le H' ∧ HOk H' w' ∧ (∀ b c, H' b = some c → H2 b = some c ∨ b ∈ qf Φs ∨ w.heap.size ≤ b) ∧
    qai P w' H' p.rs y.1 us Ψs ∧ jQ P w' H' p.ps y.2 vs Φs' ∧ (qf (Ψs ++ Φs')).Nodup ∧ ∀ b ∈ qf (Ψs ++ Φs'), H' b = none ∧ (b ∈ qf Φs ∨ w.heap.size ≤ b) ∧ b < w'.heap.size)
  (h : qeF cfg s dst p l k = some r) : ∃ s', k s' = some r ∧ X fun e w'' => ∃ v, e = .returned v ∧ Sim P C s' (a.put dst v) w'' := by
 unfold qeF at h
 cases hq : qaz (qI p.ps l) (qt p.ps l) && Nat.blt p.rs.length 1000 with
 | false => rw [hq] at h; cases h
 | true =>
 rw [hq, cond_true] at h
 rw [Bool.and_eq_true] at hq
 obtain ⟨hap, hrs⟩ := hq
 have hrs : p.rs.length < 1000 := Eq.mp Nat.blt_eq hrs
 obtain ⟨hms, hmt⟩ := qbT hap
 obtain ⟨Hf, m1, m2, m3, m4, m5⟩ := qm.freezeAll (qt p.ps l) hs
 obtain ⟨d, h, Φs, hargs, hmr⟩ := qaE hcfg hs m1 m3 hrel h
 rw [qo] at h
 replace h := Option.bind_eq_some_iff.1 h
 obtain ⟨y, hy, h⟩ := h
 obtain ⟨hfps, hmo⟩ := qaM hmr
 have hnd : (qf Φs).Nodup := by
  rw [hfps]
  refine qaS hms (fun id hid => ?_) (fun i hi j hj hij b hb => ?_)
  ·obtain ⟨o, ho⟩ := hmo id hid
   exact (hs.os id o ho).1.2.1
  ·obtain ⟨o, ho⟩ := hmo i hi
   obtain ⟨o', ho'⟩ := hmo j hj
   exact hs.disj i j o o' hij ho ho' b hb
 have hnone : ∀ b ∈ qf Φs, Hf b = none ∧ b < w.heap.size := by
  intro b hb
  rw [hfps] at hb
  obtain ⟨id, hid, hb⟩ := List.mem_flatMap.1 hb
  obtain ⟨o, ho⟩ := hmo id hid
  obtain ⟨q1, q2, q3⟩ := (hs.os id o ho).2 b hb
  refine ⟨?_, q3⟩
  cases hq : Hf b with
  | none => rfl
  | some c =>
   rcases m2 b c hq with h1 | ⟨id2, hid2, o2, ho2, hb2⟩
   ·rw [q1] at h1; cases h1
   ·exact absurd hb2 (hs.disj id id2 o o2 (by rintro rfl; exact hmt id hid hid2) ho ho2 b hb)
 have hc := hsound d y hy Hf Φs m1 m4.hok hargs hnd hnone
 refine ⟨_, h, hX hc ?_⟩
 rintro e w'' ⟨us, H', Φs', Ψs, he, hm, hle, hok', hnew, hres, hmu, hnd2, hall⟩
 refine ⟨_, he, ?_⟩
 cases hcl : p.rs.all RTy.closed && p.ps.all jL.closed with
 | false =>
  rw [cond_false]
  exact qdG hcfg hC m4 hd hle hok' hrs hm hnew (qas (fun id hid => by rw [m5, if_neg (hmt id hid)]) hmr) hargs hmu hres hnd2 hall hms
 | true =>
  rw [cond_true]
  rw [Bool.and_eq_true] at hcl
  classical
  have htf : ∀ b, (∃ id ∈ qt p.ps l, ∃ o, s.obj id = some o ∧ b ∈ (Φ id).fp) → H b = none := by
   rintro b ⟨id, _, o, ho, hb⟩
   exact ((hs.os id o ho).2 b hb).1
  let H2 : FH := fun b => if (∃ id ∈ qt p.ps l, ∃ o, s.obj id = some o ∧ b ∈ (Φ id).fp) then none else H' b
  have hH2 : ∀ b c, H2 b = some c → H' b = some c ∧ ¬ ∃ id ∈ qt p.ps l, ∃ o, s.obj id = some o ∧ b ∈ (Φ id).fp := by
   intro b c hb
   simp only [H2] at hb
   split at hb
   ·cases hb
   ·exact ⟨hb, ‹_›⟩
  refine qdG (H2 := H2) hcfg hC hs hd ?_ (fun b c hb => hok' b c (hH2 b c hb).1) hrs hm ?_ hmr hargs (jQ.closed hcl.2 hmu) (qai.closed hcl.1 hres) hnd2 ?_ hms
  ·intro b c hb
   simp only [H2]
   rw [if_neg (fun hh => by rw [htf b hh] at hb; cases hb)]
   exact hle _ _ (m1 _ _ hb)
  ·intro b c hb
   obtain ⟨q1, q2⟩ := hH2 b c hb
   rcases hnew b c q1 with q | q | q
   ·rcases m2 b c q with q | q
    ·exact .inl q
    ·exact absurd q q2
   ·exact .inr (.inl q)
   ·exact .inr (.inr q)
  ·intro b hb
   obtain ⟨q1, q2, q3⟩ := hall b hb
   refine ⟨?_, q2, q3⟩
   simp only [H2]
   split
   ·rfl
   ·exact q1
theorem callK_ok (hcfg : qB P cfg) (hC : qM C cfg) {f : Nat} {p : qE} (hp : lk cfg.prims f = some p) {l : List AV} {vs : List Value} (hs : qm P C s a w H Φ) (hd : qU cfg.nt dst = true) (hrel : j7 (qn P C w H Φ s.obj) l vs)
  (h : qeF cfg s dst p l k = some r) : ∃ s', k s' = some r ∧ Calls P f vs.toArray w fun e w'' => ∃ v, e = .returned v ∧ Sim P C s' (a.put dst v) w'' :=
 qil hcfg hC (X := fun Q => Calls P f vs.toArray w Q) (fun h hm => h.mono hm) hs hd hrel (fun d y hy H2 Φs _ hok ha hn hf => (hcfg.prims f p hp).2 d y hy w H2 vs Φs hok ha hn hf) h
theorem keepT_ok {s' : St} {a' : Act} {w' : World} {H' : FH} {Φ' : Nat → qF} {id : Nat} {q : List qJ} {τ : Ty} {x x' : τ.den} (hs : qm P C s a w H Φ) (hs' : qm P C s' a' w' H' Φ') (ho : s.obj id = some ⟨false, τ, x⟩) (ho' : s'.obj id = some ⟨false, τ, x'⟩)
  (hb : (Φ' id).b = (Φ id).b) (hk : ∀ u, qi8 w τ (Φ id).b q u → qi8 w' τ (Φ id).b q u) (ha : ∀ t, qhc dst t = false → a'.tmps.getD t undef = a.tmps.getD t undef) : ∀ ts, qm P C (qfc s s' id q dst ts) a' w' H' Φ' ∧ (qfc s s' id q dst ts).obj = s'.obj := by
 have key : ∀ p v, qW p q = true → qn P C w H Φ s.obj (.view id p) v → qn P C w' H' Φ' s'.obj (.view id q) v := by
  intro p v hp hr
  obtain rfl := qbE hp
  obtain ⟨o, y, h1, h2, h3⟩ := hr
  rw [ho] at h1
  cases h1
  simp only [Bool.false_and] at h3
  obtain ⟨b, off, blk, t, h4, h5, h6⟩ := h3
  obtain ⟨σ, b', off', blk', t', g1, g2, g3, g4⟩ := hk v ⟨y.1, b, off, blk, t, jN _ h2, h4, h5, h6⟩
  have hst : p.any qJ.isI = false := qcg hp
  obtain ⟨y', hy'⟩ := qaX τ x' hst g1
  refine ⟨_, ⟨σ, y'⟩, ho', hy', ?_⟩
  simp only [Bool.false_and]
  refine ⟨b', off', blk', t', ?_, g3, g4⟩
  unfold qak
  simp only
  rw [hb]
  exact g2
 intro ts
 induction ts with
 | nil => exact ⟨hs', rfl⟩
 | cons t ts ih =>
  obtain ⟨i1, i2⟩ := ih
  simp only [qfc]
  split
  ·rename_i j p hg
   cases hc : Nat.beq j id && (qW p q && !qhc dst t) with
   | false => exact ⟨i1, i2⟩
   | true =>
    simp only [Bool.and_eq_true, Bool.not_eq_true'] at hc
    obtain rfl := Nat.eq_of_beq_eq_true hc.1
    refine ⟨i1.setAV ?_, i2⟩
    rw [i2, ha t hc.2.2]
    exact key p _ hc.2.1 (hs.ts t _ hg)
  ·rename_i n j p hg
   cases hc : Nat.beq j id && (qW p q && !qhc dst t) with
   | false => exact ⟨i1, i2⟩
   | true =>
    simp only [Bool.and_eq_true, Bool.not_eq_true'] at hc
    obtain rfl := Nat.eq_of_beq_eq_true hc.1
    refine ⟨i1.setAV ?_, i2⟩
    rw [i2]
    obtain ⟨u, hu, hr⟩ := hs.ts t _ hg
    exact ⟨u, hu, key p _ hc.2.1 hr⟩
  ·exact ⟨i1, i2⟩
theorem qiN (hcfg : qB P cfg) (hC : qM C cfg) {f : Nat} {kp : qef} (hp : lk cfg.keeps f = some kp) {l : List AV} {vs : List Value} (hs : qm P C s a w H Φ) (hd : qU cfg.nt dst = true) (hrel : j7 (qn P C w H Φ s.obj) l vs)
  (h : qfF s dst kp l k = some r) : ∃ s', k s' = some r ∧ Calls P f vs.toArray w fun e w'' => ∃ v, e = .returned v ∧ Sim P C s' (a.put dst v) w'' := by
 obtain ⟨_, hsound⟩ := hcfg.keeps f kp hp
 unfold qfF at h
 split at h
 case h_2 => cases h
 rename_i id
 split at h
 case h_2 => cases h
 rename_i o ho
 cases hc : !o.row && (Nat.ble 10000000 id && Nat.blt kp.rs.length 1000) with
 | false => rw [hc] at h; cases h
 | true =>
 rw [hc, cond_true] at h
 simp only [Bool.and_eq_true, Bool.not_eq_true'] at hc
 obtain ⟨hrow, hid, hrs⟩ := hc
 have hid : 10000000 ≤ id := Nat.le_of_ble_eq_true hid
 have hrs : kp.rs.length < 1000 := Eq.mp Nat.blt_eq hrs
 obtain ⟨row, σ, x0⟩ := o
 simp only at hrow
 subst hrow
 rw [qo] at h
 replace h := Option.bind_eq_some_iff.1 h
 obtain ⟨x, hx, h⟩ := h
 obtain ⟨e1, hx⟩ := qj hx
 simp only at e1
 subst e1
 subst hx
 rw [qo] at h
 replace h := Option.bind_eq_some_iff.1 h
 obtain ⟨y, hy, h⟩ := h
 match vs, hrel with
 | [v], hrel =>
  have hrel := hrel.1
  have hok := hs.os id _ ho
  obtain ⟨o2, y2, b, off, q1, _, _, q4, q5⟩ := hrel
  rw [ho] at q1
  cases q1
  obtain ⟨rfl, rfl⟩ := Loc.det _ q4 (jU w _ (Φ id).b 0)
  have hargs : jR P w H kp.prim.ps (_, ()) [v] [Φ id] := ⟨v, [], Φ id, [], rfl, rfl, q5, hok.1, rfl, rfl⟩
  have hmr : qdm s.obj Φ kp.prim.ps [.ptr id []] [Φ id] := ⟨id, [], [], _, rfl, rfl, ho, rfl, rfl⟩
  have hfe : qf [Φ id] = (Φ id).fp := by simp [qf]
  have hcall := hsound (_, ()) y hy w H [v] [Φ id] hs.hok hargs (by rw [hfe]; exact hok.1.2.1) (by rw [hfe]; exact fun b hb => ⟨(hok.2 b hb).1, (hok.2 b hb).2.2⟩)
  refine ⟨_, h, hcall.mono ?_⟩
  rintro e w'' ⟨⟨us, H', Φs', Ψs, he, hm, hle, hok', hnew, hres, hmu, hnd2, hall⟩, hkeep⟩
  refine ⟨_, he, ?_⟩
  obtain ⟨Φ', k1, k2, k3, k4⟩ := qfm (p := kp.prim) (l := [.ptr id []]) (G := []) hcfg hC hs hd hle hok' hrs (by simp) (by simpa using hm) (by simpa using hnew) hmr hargs hmu hres hnd2 (by simpa using hall) (by simp [qI, AV.name, qef.prim])
  obtain ⟨kb, ko⟩ := k4 id hid
  have hob : ∀ (s' : St) (d : Option Nat) (av : AV), (s'.setDst d av).obj = s'.obj := fun s' d av => by cases d <;> rfl
  refine ⟨H', Φ', (keepT_ok (x' := y.2.1) hs (k1.setDst (by rw [hC.nt]; exact hd) (qiK k3 k2)) ho ?_ kb (hkeep (Φ id) List.mem_cons_self) ?_ _).1⟩
  ·rw [hob, ko]
   show (((s.killIf AV.isUpd).killIf (AV.stale id false)).setObj id (some ⟨false, kp.τ, y.2.1⟩)).obj id = _
   rw [St.obj_setObj, if_pos rfl]
  ·intro t ht
   cases dst with
   | none => rfl
   | some d =>
    have hdt : d < a.tmps.size := by rw [hs.size, hC.nt]; exact Eq.mp Nat.blt_eq hd
    rw [qcN hdt, if_neg (Nat.ne_of_beq_eq_false ht)]
 | [], hrel => exact hrel.elim
 | _ :: _ :: _, hrel => exact hrel.2.elim
theorem qlO (hcfg : qB P cfg) (hC : qM C cfg) {f : Nat} {p : qE} (hp : lk cfg.alts f = some p) {l : List AV} {vs : List Value} (hs : qm P C s a w H Φ) (hd : qU cfg.nt dst = true) (hrel : j7 (qn P C w H Φ s.obj) l vs)
  {alt : Option R} (h : qkJ cfg s dst p l alt k = some r) : (∃ s', k s' = some r ∧ Calls P f vs.toArray w fun e w'' => ∃ v, e = .returned v ∧ Sim P C s' (a.put dst v) w'') ∨ alt = some r := by
 obtain ⟨_, hsound⟩ := hcfg.alts f p hp
 unfold qkJ at h
 cases hq : qaz (qI p.ps l) (qt p.ps l) && Nat.blt p.rs.length 1000 with
 | false => rw [hq] at h; cases h
 | true =>
 rw [hq, cond_true] at h
 rw [Bool.and_eq_true] at hq
 obtain ⟨hap, hrs⟩ := hq
 have hrs : p.rs.length < 1000 := Eq.mp Nat.blt_eq hrs
 obtain ⟨hms, hmt⟩ := qbT hap
 obtain ⟨Hf, m1, m2, m3, m4, m5⟩ := qm.freezeAll (qt p.ps l) hs
 obtain ⟨d, h, Φs, hargs, hmr⟩ := qaE hcfg hs m1 m3 hrel h
 unfold altK at h
 split at h
 case h_2 => exact .inr h
 rename_i y hy
 obtain ⟨hfps, hmo⟩ := qaM hmr
 have hnd : (qf Φs).Nodup := by
  rw [hfps]
  refine qaS hms (fun id hid => ?_) (fun i hi j hj hij b hb => ?_)
  ·obtain ⟨o, ho⟩ := hmo id hid
   exact (hs.os id o ho).1.2.1
  ·obtain ⟨o, ho⟩ := hmo i hi
   obtain ⟨o', ho'⟩ := hmo j hj
   exact hs.disj i j o o' hij ho ho' b hb
 have hnone : ∀ b ∈ qf Φs, Hf b = none ∧ b < w.heap.size := by
  intro b hb
  rw [hfps] at hb
  obtain ⟨id, hid, hb⟩ := List.mem_flatMap.1 hb
  obtain ⟨o, ho⟩ := hmo id hid
  obtain ⟨q1, q2, q3⟩ := (hs.os id o ho).2 b hb
  refine ⟨?_, q3⟩
  cases hq : Hf b with
  | none => rfl
  | some c =>
   rcases m2 b c hq with h1 | ⟨id2, hid2, o2, ho2, hb2⟩
   ·rw [q1] at h1; cases h1
   ·exact absurd hb2 (hs.disj id id2 o o2 (by rintro rfl; exact hmt id hid hid2) ho ho2 b hb)
 have hc := hsound d y hy w Hf vs Φs m4.hok hargs hnd hnone
 refine .inl ⟨_, h, hc.mono ?_⟩
 rintro e w'' ⟨us, H', Φs', Ψs, he, hm, hle, hok', hnew, hres, hmu, hnd2, hall⟩
 refine ⟨_, he, ?_⟩
 cases hcl : p.rs.all RTy.closed && p.ps.all jL.closed with
 | false =>
  rw [cond_false]
  exact qdG hcfg hC m4 hd hle hok' hrs hm hnew (qas (fun id hid => by rw [m5, if_neg (hmt id hid)]) hmr) hargs hmu hres hnd2 hall hms
 | true =>
  rw [cond_true]
  rw [Bool.and_eq_true] at hcl
  classical
  have htf : ∀ b, (∃ id ∈ qt p.ps l, ∃ o, s.obj id = some o ∧ b ∈ (Φ id).fp) → H b = none := by
   rintro b ⟨id, _, o, ho, hb⟩
   exact ((hs.os id o ho).2 b hb).1
  let H2 : FH := fun b => if (∃ id ∈ qt p.ps l, ∃ o, s.obj id = some o ∧ b ∈ (Φ id).fp) then none else H' b
  have hH2 : ∀ b c, H2 b = some c → H' b = some c ∧ ¬ ∃ id ∈ qt p.ps l, ∃ o, s.obj id = some o ∧ b ∈ (Φ id).fp := by
   intro b c hb
   simp only [H2] at hb
   split at hb
   ·cases hb
   ·exact ⟨hb, ‹_›⟩
  refine qdG (H2 := H2) hcfg hC hs hd ?_ (fun b c hb => hok' b c (hH2 b c hb).1) hrs hm ?_ hmr hargs (jQ.closed hcl.2 hmu) (qai.closed hcl.1 hres) hnd2 ?_ hms
  ·intro b c hb
   simp only [H2]
   rw [if_neg (fun hh => by rw [htf b hh] at hb; cases hb)]
   exact hle _ _ (m1 _ _ hb)
  ·intro b c hb
   obtain ⟨q1, q2⟩ := hH2 b c hb
   rcases hnew b c q1 with q | q | q
   ·rcases m2 b c q with q | q
    ·exact .inl q
    ·exact absurd q q2
   ·exact .inr (.inl q)
   ·exact .inr (.inr q)
  ·intro b hb
   obtain ⟨q1, q2, q3⟩ := hall b hb
   refine ⟨?_, q2, q3⟩
   simp only [H2]
   split
   ·rfl
   ·exact q1
end
end Go.Vi
namespace Go.Vi
def qcC : (τ : Ty) → τ.den → List Value
 | .int k, x => [.int k x]
 | .bool, x => [.bool x]
 | .pair a b, x => qcC a x.1 ++ qcC b x.2
 | .str t, x => qcC t x
 | .arr _ e, l => (l.map fun x => qcC e x).flatten
 | _, _ => []
def RTy.isV : RTy → Bool
 | .v τ => τ.isFlat
 | _ => false
def qgQ (p : qE) : Bool := p.ps.all jL.reads && p.rs.all RTy.isV && Nat.blt p.rs.length 1000
def qfM : (rs : List RTy) → RDens rs → List Value
 | [], _ => []
 | .v τ :: rs, d => jZ τ (qcC τ d.1) :: qfM rs d.2
 | .own _ _ :: rs, d => undef :: qfM rs d.2
 | .optr _ :: rs, d => undef :: qfM rs d.2
 | .ownv _ :: rs, d => undef :: qfM rs d.2
 | .sure _ _ _ :: rs, d => undef :: qfM rs d.2
section
variable {P : Program} {C : Ctx} {cfg : qS} {R : Type} {r : R} {s : St} {a : Act} {w : World} {H : FH} {Φ : Nat → qF} {dst : Option Nat} {ty : TypeId} {pos : String} {after : Array Edge} {guard : Option (Nat × Bool)} {k : St → Option R}
theorem qg.flat {α : Type} {Q : α → List Value → List Nat → Prop} {f : α → List Value} (h : ∀ x c fp, Q x c fp → c = f x) : ∀ {l : List α} {xs fp}, qg Q l xs fp → xs = (l.map f).flatten
 | [], _, _, hh => by simp [hh.1]
 | x :: l, _, _, ⟨c, xs', g, fp', e1, _, h2, h3⟩ => by rw [e1, h _ _ _ h2, qg.flat h h3]; simp
theorem qx.flat : (τ : Ty) → τ.isFlat = true → ∀ {w H x cs fp}, qx P τ w H x cs fp → cs = qcC τ x
 | .int _, _, _, _, _, _, _, h => h.1
 | .bool, _, _, _, _, _, _, h => h.1
 | .list _ _ _, hf, _, _, _, _, _, _ => by simp [Ty.isFlat] at hf
 | .pair a b, hf, _, _, _, _, _, h => by
  simp only [Ty.isFlat, Bool.and_eq_true] at hf
  obtain ⟨c1, c2, f1, f2, e, _, h1, h2⟩ := h
  rw [e, qx.flat a hf.1 h1, qx.flat b hf.2 h2]; rfl
 | .str t, hf, _, _, _, _, _, h => qx.flat t (by simpa [Ty.isFlat] using hf) h
 | .ptr _, hf, _, _, _, _, _, _ => by simp [Ty.isFlat] at hf
 | .arr _ e, hf, _, _, _, _, _, h => qg.flat (fun _ _ _ hh => qx.flat e (by simpa [Ty.isFlat] using hf) hh) h.2
 | .fn _ _, hf, _, _, _, _, _, _ => by simp [Ty.isFlat] at hf
 | .fn2 _ _ _, hf, _, _, _, _, _, _ => by simp [Ty.isFlat] at hf
theorem qx.flat_any : (τ : Ty) → τ.isFlat = true → ∀ {w H x cs fp}, qx P τ w H x cs fp → ∀ w' H', qx P τ w' H' x cs []
 | τ, hf, w, H, x, cs, fp, h => by
  intro w' H'
  have hfp := qx.fz_fp τ (Ty.flat_fz τ hf) h
  subst hfp
  exact qx.closed τ (Ty.flat_closed τ hf) (qx.mono τ (FH.le_refl H) (by simp) h)
theorem qgK : ∀ {rs : List RTy} {d : RDens rs} {us : List Value} {Ψs : List qF}, rs.all RTy.isV = true → qai P w H rs d us Ψs → us = qfM rs d ∧
  ∀ {w' H' Φ' os} (s : St) (n : Nat), (jK s n rs d).1 = s ∧ (jK s n rs d).2.isTup = true ∧ qn P C w' H' Φ' os (jK s n rs d).2 (.tuple us.toArray)
 | [], _, us, Ψs, _, h => by
  obtain ⟨rfl, rfl⟩ := h
  exact ⟨rfl, fun s n => ⟨rfl, rfl, rfl⟩⟩
 | .v τ :: rs, d, us, Ψs, hf, h => by
  simp only [List.all_cons, Bool.and_eq_true] at hf
  obtain ⟨v, vs', φ, Φs', rfl, rfl, hfz, _, ⟨cs, hv, hrep⟩, h⟩ := h
  obtain ⟨h1, h2⟩ := qgK hf.2 h
  have hcs := qx.flat τ hf.1 hrep
  refine ⟨by rw [hv, hcs, h1]; rfl, fun s n => ?_⟩
  obtain ⟨k1, k2, k3⟩ := h2 s (n + 1)
  exact ⟨k1, k2, v, vs', rfl, ⟨hfz, cs, hv, qx.flat_any τ hf.1 hrep _ _⟩, k3⟩
 | .own _ _ :: rs, _, _, _, hf, _ => by simp [RTy.isV] at hf
 | .optr _ :: rs, _, _, _, hf, _ => by simp [RTy.isV] at hf
 | .ownv _ :: rs, _, _, _, hf, _ => by simp [RTy.isV] at hf
 | .sure _ _ _ :: rs, _, _, _, hf, _ => by simp [RTy.isV] at hf
theorem qeR {w' : World} : ∀ {ps : List jL} {d : PDens ps} {vs : List Value} {Φs : List qF}, ps.all jL.reads = true → jR P w H ps d vs Φs → jR P w' H ps d vs Φs ∧ qf Φs = []
 | [], _, _, _, _, h => ⟨h, by rw [h.2]; rfl⟩
 | .v τ :: ps, d, vs, Φs, hp, h => by
  obtain ⟨v, vs', φ, Φs', e1, e2, e3, e4, e5, h⟩ := h
  obtain ⟨h1, h2⟩ := qeR (by simpa [jL.reads] using hp) h
  exact ⟨⟨v, vs', φ, Φs', e1, e2, e3, e4, RepV.mono (FH.le_refl H) e5, h1⟩, by rw [e2]; simpa [qf, e4] using h2⟩
 | .r τ :: ps, d, vs, Φs, hp, h => by
  obtain ⟨v, vs', φ, Φs', e1, e2, e3, e4, e5, h⟩ := h
  obtain ⟨h1, h2⟩ := qeR (by simpa [jL.reads] using hp) h
  exact ⟨⟨v, vs', φ, Φs', e1, e2, e3, e4, qfV.mono (FH.le_refl H) e5, h1⟩, by rw [e2]; simpa [qf, e4] using h2⟩
 | .c _ :: _, _, _, _, hp, _ => by simp [jL.reads] at hp
 | .m _ :: _, _, _, _, hp, _ => by simp [jL.reads] at hp
 | .mr _ _ :: _, _, _, _, hp, _ => by simp [jL.reads] at hp
 | .t _ _ :: _, _, _, _, hp, _ => by simp [jL.reads] at hp
 | .gm _ :: _, _, _, _, hp, _ => by simp [jL.reads] at hp
 | .cm _ _ :: _, _, _, _, hp, _ => by simp [jL.reads] at hp
theorem qeK : ∀ {ps : List jL} (l : List AV) (md : MDens ps) (s : St), ps.all jL.reads = true → qA s ps l md = s
 | [], l, _, _, _ => by cases l <;> rfl
 | .v _ :: ps, [], _, _, _ => rfl
 | .v _ :: ps, _ :: l, md, s, hp => qeK (ps := ps) l md s (by simpa [jL.reads] using hp)
 | .r _ :: ps, [], _, _, _ => rfl
 | .c _ :: ps, [], _, _, _ => rfl
 | .r _ :: ps, _ :: l, md, s, hp => qeK (ps := ps) l md s (by simpa [jL.reads] using hp)
 | .c _ :: _, _ :: _, _, _, hp => by simp [jL.reads] at hp
 | .m _ :: _, _, _, _, hp => by simp [jL.reads] at hp
 | .mr _ _ :: _, _, _, _, hp => by simp [jL.reads] at hp
 | .t _ _ :: _, _, _, _, hp => by simp [jL.reads] at hp
 | .gm _ :: _, _, _, _, hp => by simp [jL.reads] at hp
 | .cm _ _ :: _, _, _, _, hp => by simp [jL.reads] at hp
theorem qg6 : ∀ {rs : List RTy}, rs.all RTy.isV = true → rs.all RTy.closed = true
 | [], _ => rfl
 | .v τ :: rs, h => by
  simp only [List.all_cons, Bool.and_eq_true] at h ⊢
  exact ⟨h.1, qg6 h.2⟩
 | .own _ _ :: rs, h => by simp [RTy.isV] at h
 | .optr _ :: rs, h => by simp [RTy.isV] at h
 | .ownv _ :: rs, h => by simp [RTy.isV] at h
 | .sure _ _ _ :: rs, h => by simp [RTy.isV] at h
theorem qdr : ∀ {ps : List jL}, ps.all jL.reads = true → ps.all jL.closed = true
 | [], _ => rfl
 | .v _ :: ps, h => by simpa [jL.closed] using qdr (ps := ps) (by simpa [jL.reads] using h)
 | .r _ :: ps, h => by simpa [jL.closed] using qdr (ps := ps) (by simpa [jL.reads] using h)
 | .c _ :: _, h => by simp [jL.reads] at h
 | .m _ :: _, hp => by simp [jL.reads] at hp
 | .mr _ _ :: _, hp => by simp [jL.reads] at hp
 | .t _ _ :: _, hp => by simp [jL.reads] at hp
 | .gm _ :: _, hp => by simp [jL.reads] at hp
 | .cm _ _ :: _, hp => by simp [jL.reads] at hp
theorem qj0 (hcfg : qB P cfg) (hC : qM C cfg) {f : Nat} {p : qE} (hp : lk cfg.prims f = some p) (hqp : qgQ p = true) {l : List AV} {vs : List Value} (hs : qm P C s a w H Φ) (hd : qU cfg.nt dst = true) (hrel : j7 (qn P C w H Φ s.obj) l vs)
  (h : qeF cfg s dst p l k = some r) : ∃ s', k s' = some r ∧ ∃ v, Sim P C s' (a.put dst v) w ∧ ∀ w', j9 jO w w' → Calls P f vs.toArray w' fun e w'' => e = .returned v ∧ j9 jO w w'' := by
 obtain ⟨_, hsound⟩ := hcfg.prims f p hp
 simp only [qgQ, Bool.and_eq_true] at hqp
 obtain ⟨⟨hps, hrv⟩, _⟩ := hqp
 unfold qeF at h
 cases hq : qaz (qI p.ps l) (qt p.ps l) && Nat.blt p.rs.length 1000 with
 | false => rw [hq] at h; cases h
 | true =>
 rw [hq, cond_true] at h
 obtain ⟨Hf, m1, m2, m3, m4, m5⟩ := qm.freezeAll (qt p.ps l) hs
 obtain ⟨d, h, Φs, hargs, hmr⟩ := qaE hcfg hs m1 m3 hrel h
 rw [qo] at h
 replace h := Option.bind_eq_some_iff.1 h
 obtain ⟨y, hy, h⟩ := h
 rw [qg6 hrv, qdr hps, Bool.and_self, cond_true] at h
 dsimp only at h
 rw [qeK l _ _ hps] at h
 have hcall : ∀ w', j9 jO w w' → Calls P f vs.toArray w' fun e w'' => (∃ us Ψs H', e = .returned (qah us) ∧ qai P w'' H' p.rs y.1 us Ψs) ∧ j9 jO w w'' := by
  intro w' hm
  obtain ⟨ha, hfp⟩ := qeR (w' := w') hps hargs
  have hok' : HOk Hf w' := m4.hok.mod hm (fun _ hb => hb.elim)
  refine (hsound d y hy w' Hf vs Φs hok' ha (by rw [hfp]; simp) (by rw [hfp]; simp)).mono ?_
  rintro e w'' ⟨us, H', Φs', Ψs, he, hm2, _, _, _, hres, _⟩
  exact ⟨⟨us, Ψs, H', he, hres⟩, hm.trans (qiJ hfp hm2)⟩
 obtain ⟨_, w0, _, ⟨⟨us, Ψs, H', _, hres⟩, _⟩, _⟩ := hcall w (j9.refl _ _) []
 obtain ⟨hus, htup⟩ := qgK (C := C) hrv hres
 obtain ⟨k1, k2, k3⟩ := htup (w' := w) (H' := H) (Φ' := Φ) (os := s.obj) (s.killIf AV.isUpd) (1000 * (dst.getD 0 + 1))
 refine ⟨_, h, qah us, ?_, ?_⟩
 ·rw [k1]
  exact ⟨H, Φ, (hs.killIf AV.isUpd).setDst (by rw [hC.nt]; exact hd) (qiK k2 k3)⟩
 ·intro w' hm
  refine (hcall w' hm).mono ?_
  rintro e w'' ⟨⟨us2, Ψs2, H2, he, hres2⟩, hm2⟩
  refine ⟨?_, hm2⟩
  rw [he, (qgK (C := C) hrv hres2).1, hus]
theorem qeo {f : Nat} (hcal : jJ P f) (args : Array Value) (w : World) : (callFunc f args).run P w = .ok (.enter f args) w := by
 obtain ⟨fn, hf, hn, hb⟩ := hcal
 have hb' : ¬ fn.body = none := by intro h; rw [h] at hb; cases hb
 have hn' : ¬ fn.name = "runtime.NumGoroutine" := by simpa using hn
 simp [callFunc, hf, hn', hb']
theorem qaP {c : Call} {fop : Operand} (hc : c.callee = .value fop) {f : Nat} {vs us : Array Value} (hv : a.eval fop = .func (.func f) vs us) (hcal : jJ P f) (w : World) :
  (execOp a.eval ⟨dst, .call c, ty, pos, after, guard⟩).run P w = .ok (.enter f (vs ++ c.args.map a.eval ++ us)) w := by
 simp [execOp, resolve, hc, hv, Deferred.ofValue, invoke, qeo hcal]
theorem qa1 {o : Oper} {f : Nat} {args : Array Value} {s' : St} (hrun : (execOp a.eval o).run P w = .ok (.enter f args) w) (h : Calls P f args w fun e w'' => ∃ v, e = .returned v ∧ Sim P C s' (a.put o.dst v) w'') : qbc P C o a w s' := by
 unfold qbc
 rw [hrun]
 exact h
theorem qjH {β : Type} (f : Operand → β) (c : Array Operand) : (c.map f).toList = c.toList.map f := by simp
theorem qcq {s : St} {avs : List AV} : ∀ {l : List Operand}, j7 (fun av x => qn P C w H Φ s.obj av (a.eval x)) avs l → j7 (qn P C w H Φ s.obj) avs (l.map a.eval)
 | l, h => by
  induction l generalizing avs with
  | nil => cases avs <;> first | trivial | exact h.elim
  | cons x l ih => cases avs <;> first | exact h.elim | exact ⟨h.1, ih h.2⟩
theorem qjZ (hcfg : qB P cfg) (hC : qM C cfg) {f : Nat} {p : qE} (hp : lk cfg.prims f = some p) {id : Nat} {path : List qJ} {v : Value} (hs : qm P C s a w H Φ) (hd : qU cfg.nt dst = true) (hr : qn P C w H Φ s.obj (.view id path) v) (hne : path ≠ [])
  (h : qfU s dst p id path k = some r) : ∃ s', k s' = some r ∧ Calls P f #[v] w fun e w'' => ∃ v, e = .returned v ∧ Sim P C s' (a.put dst v) w'' := by
 obtain ⟨_, hsound⟩ := hcfg.prims f p hp
 unfold qfU at h
 split at h
 case h_2 => cases h
 rename_i tid e g
 split at h
 case h_2 => cases h
 rename_i o ho
 cases hfl : e.isFlat with
 | false => rw [hfl] at h; cases h
 | true =>
 rw [hfl, cond_true, jX] at h
 replace h := Option.bind_eq_some_iff.1 h
 obtain ⟨⟨σ, y⟩, hy, h⟩ := h
 rw [qo] at h
 replace h := Option.bind_eq_some_iff.1 h
 obtain ⟨l, hl, h⟩ := h
 obtain ⟨e1, hl⟩ := qj hl
 simp only at e1
 subst e1
 subst hl
 rw [qo] at h
 replace h := Option.bind_eq_some_iff.1 h
 obtain ⟨⟨u0, l', u1⟩, hg, h⟩ := h
 rw [qaK] at h
 replace h := Option.bind_eq_some_iff.1 h
 obtain ⟨z, hz, h⟩ := h
 simp only at hz h hg
 obtain ⟨o', y', q1, q2, q3⟩ := hr
 rw [ho] at q1
 cases q1
 have hrp : (o.row && path.isEmpty) = false := by
  cases path with
  | nil => exact absurd rfl hne
  | cons _ _ => simp
 rw [hrp] at q3
 rw [hy] at q2
 cases q2
 obtain ⟨b, off, blk, t, hloc, hblk, hv⟩ := q3
 have hok := (hs.os id o ho).1
 have hob := (hs.os id o ho).2
 obtain ⟨b', o', blk', t', pre', c, post', f1, f, f2, e1, e2, e3, e4, e5, e6, hl', e7⟩ := hok.desc2 hy ⟨w, _, _, hloc⟩ hrp
 obtain ⟨rfl, rfl⟩ := qak.det hloc (hl' w (fun _ _ => rfl))
 rw [hblk] at e1
 cases e1
 have e6' := e6
 obtain ⟨hdr, xs, fp', ec, ef, _, _⟩ := e6'
 have hvh : v = hdr := by
  rw [hv]
  have : seg blk off (Ty.list true tid e).size = c := by rw [← e3]; exact j5 e2 (qx.length _ e6)
  rw [this, ec]; rfl
 subst hvh
 have hnd := hok.2.1
 rw [e4] at hnd
 have hndf : f.Nodup := (List.nodup_append.1 (List.nodup_append.1 hnd).1).2.1
 have hin : ∀ k ∈ f, k ∈ (Φ id).fp := fun k hk => by rw [e4]; simp [hk]
 have hin1 : ∀ k ∈ f1, k ∈ (Φ id).fp := fun k hk => by rw [e4]; simp [hk]
 have hin2 : ∀ k ∈ f2, k ∈ (Φ id).fp := fun k hk => by rw [e4]; simp [hk]
 have hnot1 : ∀ k ∈ f1, k ∉ f := fun k h1 h2 => (List.nodup_append.1 (List.nodup_append.1 hnd).1).2.2 k h1 k h2 rfl
 have hnot2 : ∀ k ∈ f2, k ∉ f := fun k h1 h2 => (List.nodup_append.1 hnd).2.2 k (by simp [h2]) k h1 rfl
 have hne2 : (Ty.list true tid e).noFn = true := qaA _ hok.1 hy
 subst ec
 have hc := hsound (l, ()) (u0, l', u1) hg w H [v] [⟨0, v, f⟩] hs.hok ⟨v, [], _, [], rfl, rfl, rfl, qX.of_list hne2 hndf e6, rfl, rfl⟩ (by simpa [qf] using hndf) (by
  intro k hk
  have hk' : k ∈ f := by simpa [qf] using hk
  exact ⟨(hob k (hin k hk')).1, (hob k (hin k hk')).2.2⟩)
 refine ⟨_, h, hc.mono ?_⟩
 rintro ev w'' ⟨us, H', Φs', Ψs, he, hm, hle, hok', hnew, hres, hmu, hnd2, hall⟩
 obtain ⟨rfl, rfl⟩ := hres
 obtain ⟨v2, vs2, φ', Φs2, ea, eb, ev2, hobj', hmt⟩ := hmu
 cases ea
 subst eb
 obtain ⟨_, rfl⟩ := hmt
 have hmf : ∀ k, (k ∈ qf [(⟨0, v, f⟩ : qF)]) ↔ k ∈ f := fun k => by simp [qf]
 have hm' : j9 (· ∈ f) w w'' := hm.mono (fun k hk => (hmf k).1 hk)
 have hfp' : ∀ k ∈ φ'.fp, (k ∈ f ∨ w.heap.size ≤ k) ∧ k < w''.heap.size := by
  intro k hk
  obtain ⟨_, p2, p3⟩ := hall k (by simp [qf, hk])
  exact ⟨p2.imp_left (hmf k).1, p3⟩
 have hcl : (Ty.list true tid e).isClosed = true := by simpa [Ty.isClosed] using Ty.flat_closed e hfl
 have hrep' : qx P (.list true tid e) w'' H l' [v] φ'.fp := by
  have := (qX.closed (H' := H) hcl hobj').row_list
  rw [← ev2] at this
  exact this
 have hokw : HOk H w'' := hs.hok.mod hm' (fun k hk => (hob k (hin k hk)).1)
 have hb1 : b ∉ f := hnot1 b e5
 have hblt : b < w.heap.size := (Array.getElem?_eq_some_iff.1 hblk).1
 have hblkw : w''.heap[b]? = some (.cells (pre' ++ [v] ++ post').toArray t (0, 0)) := by
  rw [hm'.block b hblt hb1, hblk]
  rw [← e2]
 have hnd3 : (f1 ++ φ'.fp ++ f2).Nodup := by
  have k1 := List.nodup_append.1 hnd
  have k2 := List.nodup_append.1 k1.1
  have hφ : φ'.fp.Nodup := hobj'.2.1
  rw [List.nodup_append, List.nodup_append]
  refine ⟨⟨k2.1, hφ, ?_⟩, k1.2.1, ?_⟩
  ·rintro x hx _ hx2 rfl
   rcases (hfp' x hx2).1 with h1 | h1
   ·exact hnot1 x hx h1
   ·have := (hob x (hin1 x hx)).2.2; omega
  ·rintro x hx _ hx2 rfl
   rcases List.mem_append.1 hx with h1 | h1
   ·exact k1.2.2 x (by simp [h1]) x hx2 rfl
   ·rcases (hfp' x h1).1 with h1 | h1
    ·exact hnot2 x hx2 h1
    ·have := (hob x (hin2 x hx2)).2.2; omega
 have hobj2 := e7 w'' [v] φ'.fp (.list true tid e) l' z hrep' hz hblkw (by
  intro k hk _
  rcases List.mem_append.1 hk with h1 | h1
  ·exact hm'.block k (hob k (hin1 k h1)).2.2 (hnot1 k h1)
  ·exact hm'.block k (hob k (hin2 k h1)).2.2 (hnot2 k h1)) hnd3
 have hmod2 : j9 C.M0 C.w0 w'' := hs.mod.trans_new hm' (fun k hk => (hob k (hin k hk)).2.1)
 have hch := hs.change ho z ⟨(Φ id).b, (Φ id).hdr, f1 ++ φ'.fp ++ f2⟩ rfl rfl (FH.le_refl _) hokw hs.hnew hmod2 hm'.size (by
  intro j o2 hj hoj k hk
  refine ⟨hm'.block k ((hs.os j o2 hoj).2 k hk).2.2 (fun hkf => hs.disj j id o2 o hj hoj ho k hk (hin k hkf)), ((hs.os j o2 hoj).2 k hk).1⟩) hobj2 (by
  intro k hk
  have hk' : k ∈ f1 ++ φ'.fp ++ f2 := hk
  have old : ∀ k, k ∈ (Φ id).fp → H k = none ∧ (C.M0 k ∨ C.w0.heap.size ≤ k) ∧ k < w''.heap.size ∧ ∀ j o2, j ≠ id → s.obj j = some o2 → k ∉ (Φ j).fp := fun k hk => by
   obtain ⟨p1, p2, p3⟩ := hob k hk
   exact ⟨p1, p2, Nat.lt_of_lt_of_le p3 hm'.size, fun j o2 hj hoj => hs.disj id j o o2 (fun e => hj e.symm) ho hoj k hk⟩
  rcases List.mem_append.1 hk' with h1 | h1
  ·rcases List.mem_append.1 h1 with h1 | h1
   ·exact old k (hin1 k h1)
   ·obtain ⟨p1, p2⟩ := hfp' k h1
    rcases p1 with p1 | p1
    ·exact old k (hin k p1)
    ·refine ⟨?_, .inr (Nat.le_trans hs.mod.size p1), p2, fun j o2 _ hoj hkj => ?_⟩
     ·cases hq : H k with
      | none => rfl
      | some c => obtain ⟨t2, f2, hh⟩ := hs.hok _ _ hq; exact absurd (Array.getElem?_eq_some_iff.1 hh).1 (by omega)
     ·have := ((hs.os j o2 hoj).2 k hkj).2.2
      omega
  ·exact old k (hin2 k h1))
 exact ⟨_, he, H, _, hch.setDst (by rw [hC.nt]; exact hd) rfl⟩
theorem toV_inj {τ : Ty} (h : qeA τ = true) {c c' : List Value} (hl : c.length = τ.size) (hl' : c'.length = τ.size) (he : jZ τ c = jZ τ c') : c = c' := by
 cases τ with
 | list o t e =>
  match c, c', hl, hl', he with
  | [u], [u'], _, _, he => have he : u = u' := he; rw [he]
  | [], _, hl, _, _ => cases hl
  | _ :: _ :: _, _, hl, _, _ => simp [Ty.size] at hl
  | [_], [], _, hl, _ => cases hl
  | [_], _ :: _ :: _, _, hl, _ => simp [Ty.size] at hl
 | str t =>
  have he : Value.agg c.toArray = .agg c'.toArray := he
  have he : c.toArray = c'.toArray := by injection he
  exact congrArg Array.toList he
 | _ => cases h
theorem qhZ {Q : AV → Value → Prop} : ∀ {n : Nat} {l : List AV} {vs : List Value} {av : AV} {r : List AV}, j7 Q l vs → l.drop n = av :: r → ∃ v, Q av v ∧ vs = vs.take n ++ v :: vs.drop (n + 1) ∧ j7 Q (l.take n ++ r) (vs.take n ++ vs.drop (n + 1)) ∧ (vs.take n).length = n
 | 0, l, vs, av, r, h, hd => by
  have hd : l = av :: r := hd
  subst hd
  match vs, h with
  | v :: vs, h => exact ⟨v, h.1, rfl, h.2, rfl⟩
  | [], h => exact h.elim
 | n + 1, l, vs, av, r, h, hd => by
  match l, vs, h with
  | [], _, _ => cases hd
  | a :: l, v0 :: vs, h =>
   obtain ⟨v, h1, h2, h3, h4⟩ := qhZ (n := n) h.2 hd
   refine ⟨v, h1, ?_, ⟨h.1, h3⟩, by simpa using h4⟩
   show v0 :: vs = v0 :: (vs.take n ++ v :: vs.drop (n + 1))
   rw [← h2]
  | _ :: _, [], h => exact h.elim
theorem qgV : ∀ {ps : List jL} {l : List AV}, ps.all jL.reads = true → qI ps l = []
 | [], _, _ => by cases ‹List AV› <;> rfl
 | .v _ :: ps, [], _ => rfl
 | .r _ :: ps, [], _ => rfl
 | .v _ :: ps, _ :: l, h => qgV (ps := ps) (l := l) (by simpa [jL.reads] using h)
 | .r _ :: ps, _ :: l, h => qgV (ps := ps) (l := l) (by simpa [jL.reads] using h)
 | .c _ :: _, _, h => by simp [jL.reads] at h
 | .m _ :: _, _, h => by simp [jL.reads] at h
 | .mr _ _ :: _, _, h => by simp [jL.reads] at h
 | .t _ _ :: _, _, h => by simp [jL.reads] at h
 | .gm _ :: _, _, h => by simp [jL.reads] at h
 | .cm _ _ :: _, _, h => by simp [jL.reads] at h
theorem qjG (hcfg : qB P cfg) (hC : qM C cfg) {f : Nat} {mp : qee} (hp : lk cfg.mas f = some mp) {l : List AV} {vs : List Value} (hs : qm P C s a w H Φ) (hd : qU cfg.nt dst = true) (hrel : j7 (qn P C w H Φ s.obj) l vs)
  (h : qgZ cfg s dst mp l k = some r) : ∃ s', k s' = some r ∧ Calls P f vs.toArray w fun e w'' => ∃ v, e = .returned v ∧ Sim P C s' (a.put dst v) w'' := by
 obtain ⟨_, hsound⟩ := hcfg.mas f mp hp
 unfold qgZ at h
 split at h
 case h_2 => cases h
 rename_i id path rst hdrop
 obtain ⟨v, hr, hvs, hrel2, hlen⟩ := qhZ hrel hdrop
 split at h
 case h_2 => cases h
 rename_i o ho
 cases hq : mp.rest.all jL.reads && (qeA mp.τ && (mp.τ.isClosed && ((qt mp.rest (l.take mp.pos ++ rst)).isEmpty && !(o.row && path.isEmpty)))) with
 | false => rw [hq] at h; cases h
 | true =>
 rw [hq, cond_true, jX] at h
 simp only [Bool.and_eq_true, Bool.not_eq_true'] at hq
 obtain ⟨hreads, hrow, hcl, htch, hrp⟩ := hq
 have htch : qt mp.rest (l.take mp.pos ++ rst) = [] := List.isEmpty_iff.1 htch
 replace h := Option.bind_eq_some_iff.1 h
 obtain ⟨⟨σ, y⟩, hy, h⟩ := h
 rw [qo] at h
 replace h := Option.bind_eq_some_iff.1 h
 obtain ⟨x, hx, h⟩ := h
 obtain ⟨e1, hx⟩ := qj hx
 simp only at e1
 subst e1
 subst hx
 obtain ⟨d, h, Φs, hargs, hmr⟩ := qaE hcfg hs (FH.le_refl H) (by rw [htch]; intro id hid; cases hid) hrel2 h
 rw [qo] at h
 replace h := Option.bind_eq_some_iff.1 h
 obtain ⟨x', hg, h⟩ := h
 rw [qaK] at h
 replace h := Option.bind_eq_some_iff.1 h
 obtain ⟨z, hz, h⟩ := h
 have hfs : qf Φs = [] := by rw [(qaM hmr).1, qgV hreads]; rfl
 obtain ⟨o', y', q1, q2, q3⟩ := hr
 rw [ho] at q1
 cases q1
 rw [hrp] at q3
 rw [hy] at q2
 cases q2
 obtain ⟨b, off, blk, t, hloc, hblk, hv⟩ := q3
 have hok := (hs.os id o ho).1
 have hob := (hs.os id o ho).2
 obtain ⟨b', o', blk', t', pre', c, post', f1, f0, f2, e1, e2, e3, e4, e5, e6, hl', e7⟩ := hok.desc2 hy ⟨w, _, _, hloc⟩ hrp
 obtain ⟨rfl, rfl⟩ := qak.det hloc (hl' w (fun _ _ => rfl))
 rw [hblk] at e1
 cases e1
 have hvh : v = jZ mp.τ c := by
  rw [hv]
  have : seg blk off mp.τ.size = c := by rw [← e3]; exact j5 e2 (qx.length _ e6)
  rw [this]
 have hnd := hok.2.1
 rw [e4] at hnd
 have hndf : f0.Nodup := (List.nodup_append.1 (List.nodup_append.1 hnd).1).2.1
 have hin : ∀ k ∈ f0, k ∈ (Φ id).fp := fun k hk => by rw [e4]; simp [hk]
 have hin1 : ∀ k ∈ f1, k ∈ (Φ id).fp := fun k hk => by rw [e4]; simp [hk]
 have hin2 : ∀ k ∈ f2, k ∈ (Φ id).fp := fun k hk => by rw [e4]; simp [hk]
 have hnot1 : ∀ k ∈ f1, k ∉ f0 := fun k h1 h2 => (List.nodup_append.1 (List.nodup_append.1 hnd).1).2.2 k h1 k h2 rfl
 have hnot2 : ∀ k ∈ f2, k ∉ f0 := fun k h1 h2 => (List.nodup_append.1 hnd).2.2 k (by simp [h2]) k h1 rfl
 have hne2 : mp.τ.noFn = true := qaA _ hok.1 hy
 have hc := hsound d _ x' hg w H (vs.take mp.pos ++ vs.drop (mp.pos + 1)) Φs ⟨0, v, f0⟩ hs.hok hargs hfs ⟨hne2, hndf, hrow, c, hvh, e6⟩ (fun k hk => ⟨(hob k (hin k hk)).1, (hob k (hin k hk)).2.2⟩)
 have hvv : (List.take mp.pos (vs.take mp.pos ++ vs.drop (mp.pos + 1)) ++ v :: List.drop mp.pos (vs.take mp.pos ++ vs.drop (mp.pos + 1))) = vs := by
  rw [List.take_left' hlen, List.drop_left' hlen]
  exact hvs.symm
 simp only at hc
 rw [hvv] at hc
 refine ⟨_, h, hc.mono ?_⟩
 rintro ev w'' ⟨H', fp', he, hm', hle, hok', hnew, hobj', hall⟩
 have hfp' : ∀ k ∈ fp', (k ∈ f0 ∨ w.heap.size ≤ k) ∧ k < w''.heap.size := fun k hk => (hall k hk).2
 have hrep' : qx P mp.τ w'' H x' c fp' := by
  obtain ⟨_, _, _, c2, k1, k2⟩ := qX.closed (H' := H) hcl hobj'
  simp only at k1 k2
  have : c = c2 := toV_inj hrow (qx.length _ e6) (qx.length _ k2) (by rw [← hvh]; exact k1)
  rw [this]
  exact k2
 have hokw : HOk H w'' := hs.hok.mod hm' (fun k hk => (hob k (hin k hk)).1)
 have hb1 : b ∉ f0 := hnot1 b e5
 have hblt : b < w.heap.size := (Array.getElem?_eq_some_iff.1 hblk).1
 have hblkw : w''.heap[b]? = some (.cells (pre' ++ c ++ post').toArray t (0, 0)) := by
  rw [hm'.block b hblt hb1, hblk]
  rw [← e2]
 have hnd3 : (f1 ++ fp' ++ f2).Nodup := by
  have k1 := List.nodup_append.1 hnd
  have k2 := List.nodup_append.1 k1.1
  have hφ : fp'.Nodup := hobj'.2.1
  rw [List.nodup_append, List.nodup_append]
  refine ⟨⟨k2.1, hφ, ?_⟩, k1.2.1, ?_⟩
  ·rintro x hx _ hx2 rfl
   rcases (hfp' x hx2).1 with h1 | h1
   ·exact hnot1 x hx h1
   ·have := (hob x (hin1 x hx)).2.2; omega
  ·rintro x hx _ hx2 rfl
   rcases List.mem_append.1 hx with h1 | h1
   ·exact k1.2.2 x (by simp [h1]) x hx2 rfl
   ·rcases (hfp' x h1).1 with h1 | h1
    ·exact hnot2 x hx2 h1
    ·have := (hob x (hin2 x hx2)).2.2; omega
 have hobj2 := e7 w'' c fp' mp.τ x' z hrep' hz hblkw (by
  intro k hk _
  rcases List.mem_append.1 hk with h1 | h1
  ·exact hm'.block k (hob k (hin1 k h1)).2.2 (hnot1 k h1)
  ·exact hm'.block k (hob k (hin2 k h1)).2.2 (hnot2 k h1)) hnd3
 have hmod2 : j9 C.M0 C.w0 w'' := hs.mod.trans_new hm' (fun k hk => (hob k (hin k hk)).2.1)
 have hch := hs.change ho z ⟨(Φ id).b, (Φ id).hdr, f1 ++ fp' ++ f2⟩ rfl rfl (FH.le_refl _) hokw hs.hnew hmod2 hm'.size (by
  intro j o2 hj hoj k hk
  refine ⟨hm'.block k ((hs.os j o2 hoj).2 k hk).2.2 (fun hkf => hs.disj j id o2 o hj hoj ho k hk (hin k hkf)), ((hs.os j o2 hoj).2 k hk).1⟩) hobj2 (by
  intro k hk
  have hk' : k ∈ f1 ++ fp' ++ f2 := hk
  have old : ∀ k, k ∈ (Φ id).fp → H k = none ∧ (C.M0 k ∨ C.w0.heap.size ≤ k) ∧ k < w''.heap.size ∧ ∀ j o2, j ≠ id → s.obj j = some o2 → k ∉ (Φ j).fp := fun k hk => by
   obtain ⟨p1, p2, p3⟩ := hob k hk
   exact ⟨p1, p2, Nat.lt_of_lt_of_le p3 hm'.size, fun j o2 hj hoj => hs.disj id j o o2 (fun e => hj e.symm) ho hoj k hk⟩
  rcases List.mem_append.1 hk' with h1 | h1
  ·rcases List.mem_append.1 h1 with h1 | h1
   ·exact old k (hin1 k h1)
   ·obtain ⟨p1, p2⟩ := hfp' k h1
    rcases p1 with p1 | p1
    ·exact old k (hin k p1)
    ·refine ⟨?_, .inr (Nat.le_trans hs.mod.size p1), p2, fun j o2 _ hoj hkj => ?_⟩
     ·cases hq : H k with
      | none => rfl
      | some c => obtain ⟨t2, f2, hh⟩ := hs.hok _ _ hq; exact absurd (Array.getElem?_eq_some_iff.1 hh).1 (by omega)
     ·have := ((hs.os j o2 hoj).2 k hkj).2.2
      omega
  ·exact old k (hin2 k h1))
 exact ⟨_, he, H, _, hch.setDst (by rw [hC.nt]; exact hd) rfl⟩
theorem qiX {ps : List jL} {x y : AV} {l : List AV} {id : Nat} {path : List qJ} (h : qfi ps x y l = some (id, path)) : x = .nil ∧ y = .nil ∧ l = [.view id path] ∧ path ≠ [] := by
 unfold qfi at h
 split at h
 ·cases h; exact ⟨rfl, rfl, rfl, by simp⟩
 ·cases h
theorem qhN {ps : List jL} (h : ps.all jL.reads = true) (x y : AV) (l : List AV) : qfi ps x y l = none := by
 unfold qfi
 split
 ·simp [jL.reads] at h
 ·rfl
theorem qkV {α β : Type} {Q : α → β → Prop} : ∀ {l : List α} {r : List β}, l.length = r.length → (∀ (j : Nat) (x : α) (y : β), l[j]? = some x → r[j]? = some y → Q x y) → j7 Q l r
 | [], [], _, _ => trivial
 | x :: l, y :: r, h, hq => ⟨hq 0 x y rfl rfl, qkV (by simpa using h) fun j x' y' h1 h2 => hq (j + 1) x' y' (by simpa using h1) (by simpa using h2)⟩
 | [], _ :: _, h, _ => by simp at h
 | _ :: _, [], h, _ => by simp at h
theorem qjl {α β : Type} {Q : α → β → Prop} : ∀ {l : List α} {r : List β}, j7 Q l r → l.length = r.length
 | [], [], _ => rfl
 | _ :: _, _ :: _, h => by rw [List.length_cons, List.length_cons, qjl h.2]
 | [], _ :: _, h => h.elim
 | _ :: _, [], h => h.elim
theorem qjz (hcfg : qB P cfg) (hC : qM C cfg) {c : Call} {fop : Operand} (hc : c.callee = .value fop) (hs : qm P C s a w H Φ) (hd : qU cfg.nt dst = true) {i f n : Nat} {l : List AV} (he : qn P C w H Φ s.obj (.cv i f n) (a.eval fop)) (lm : j7 (qn P C w H Φ s.obj) l (c.args.toList.map a.eval))
  (h : qfw cfg s dst i f n l k = some r) : ∃ s', k s' = some r ∧ qbc P C ⟨dst, .call c, ty, pos, after, guard⟩ a w s' := by
 unfold qfw at h
 split at h
 case h_2 => cases h
 rename_i sp hsp
 cases hq : Nat.beq i 1 && (Nat.beq f sp.f && (Nat.beq n (1000 * sp.m + sp.n) && (Nat.blt sp.n 1000 && (Nat.beq l.length sp.n && qjh s sp.n sp.m)))) with
 | false => rw [hq] at h; cases h
 | true =>
 rw [hq, cond_true] at h
 simp only [Bool.and_eq_true] at hq
 obtain ⟨q1, q2, q3, q4, q5, q6⟩ := hq
 obtain rfl := Nat.eq_of_beq_eq_true q1
 obtain rfl := Nat.eq_of_beq_eq_true q2
 obtain rfl := Nat.eq_of_beq_eq_true q3
 have q4 : sp.n < 1000 := Eq.mp Nat.blt_eq q4
 have q5 := Nat.eq_of_beq_eq_true q5
 obtain ⟨b, cv, e1, ⟨e2, e3⟩, e4⟩ := he
 have e2 : cv.length = sp.m := by rw [e2]; omega
 have hmod : (1000 * sp.m + sp.n) % 1000 = sp.n := by omega
 rw [hmod] at e3
 obtain ⟨hcal, hsound, _⟩ := hcfg.self sp hsp
 have hlen := qjl lm
 have l2 : j7 (qn P C w H Φ s.obj) (qe1 sp.n sp.m) cv := by
  refine qkV (by simp [qe1, e2]) fun j x y h1 h2 => ?_
  have hj : j < sp.m := by
   have := (List.getElem?_eq_some_iff.1 h2).1
   omega
  have hx : x = AV.ptr (10000000 + (sp.n + j)) [] := by
   simp [qe1, hj] at h1
   exact h1.symm
  subst hx
  obtain ⟨φ, p1, rfl⟩ := e3 j y h2
  have ho := List.all_eq_true.1 q6 j (List.mem_range.2 hj)
  split at ho
  ·rename_i o hobj
   refine ⟨o, ⟨o.τ, o.x⟩, φ.b, 0, hobj, by rw [Bool.not_eq_true'] at ho; rw [ho]; rfl, qO _ _, ?_, rfl⟩
   rw [Bool.not_eq_true'] at ho
   unfold qak
   rw [ho, ← (hs.pins.1 _ _ p1).1]
   exact jU _ _ _ _
  ·cases ho
 obtain ⟨s', h, hcalls⟩ := qil hcfg hC (X := fun Q => Calls P sp.f ((c.args.toList.map a.eval ++ cv) ++ [Value.pointer (some ⟨b, 0, none⟩)]).toArray w Q) (fun h hm => h.mono hm) hs hd (j7.append lm l2)
  (fun d y hy H2 Φs hle hok ha hn hf => hsound d y hy w H2 _ Φs hok ha hn hf b (by
   rw [show (c.args.toList.map a.eval ++ cv).drop sp.n = cv by rw [← q5, hlen, List.drop_left]]
   exact hle _ _ e1)) h
 have e : ((c.args.toList.map a.eval ++ cv) ++ [Value.pointer (some ⟨b, 0, none⟩)]).toArray = #[] ++ c.args.map a.eval ++ (cv ++ [Value.pointer (some ⟨b, 0, none⟩)]).toArray := by
  apply Array.toList_inj.1; simp
 rw [e] at hcalls
 exact ⟨s', h, qa1 (qaP hc e4 hcal w) hcalls⟩
theorem qlr (hcfg : qB P cfg) (hC : qM C cfg) {c : Call} {fop : Operand} (hc : c.callee = .value fop) (hs : qm P C s a w H Φ) (hd : qU cfg.nt dst = true) (h : qi2 cfg s dst fop c k = some r) :
  ∃ s', k s' = some r ∧ qbc P C ⟨dst, .call c, ty, pos, after, guard⟩ a w s' := by
 unfold qi2 at h
 have hfz : ∀ i t, (fun i : Nat => (c.argTypes[i]?).bind (lk cfg.ty)) i = some t → t.isFz = true := by
  intro i t ht
  obtain ⟨T, _, ht⟩ := Option.bind_eq_some_iff.1 ht
  exact hcfg.fz T t ht
 split at h
 ·rename_i f first caps l he1 he2
  split at h
  case h_2 =>
   split at h
   case h_2 =>
    split at h
    case h_2 =>
     split at h
     case h_2 => cases h
     rename_i mp hp
     cases ht : first.isTup && caps.isTup with
     | false => rw [ht] at h; cases h
     | true =>
     rw [ht, cond_true] at h
     rw [Bool.and_eq_true] at ht
     obtain ⟨vs, us, hv, hr1, hr2⟩ := qs hs qK he1
     have l1 := qan (vs := vs.toList) ht.1 (by simpa using hr1)
     have l2 := qan (vs := us.toList) ht.2 (by simpa using hr2)
     have lm := qcq (j0 hs hfz he2)
     obtain ⟨s', h, hcalls⟩ := qjG hcfg hC hp hs hd (j7.append (j7.append l1 lm) l2) h
     have e : (vs.toList ++ c.args.toList.map a.eval ++ us.toList).toArray = vs ++ c.args.map a.eval ++ us := by
      apply Array.toList_inj.1; simp
     rw [e] at hcalls
     exact ⟨s', h, qa1 (qaP hc hv (hcfg.mas f mp hp).1 w) hcalls⟩
    rename_i kp hp
    cases ht : first.isTup && caps.isTup with
    | false => rw [ht] at h; cases h
    | true =>
    rw [ht, cond_true] at h
    rw [Bool.and_eq_true] at ht
    obtain ⟨vs, us, hv, hr1, hr2⟩ := qs hs qK he1
    have l1 := qan (vs := vs.toList) ht.1 (by simpa using hr1)
    have l2 := qan (vs := us.toList) ht.2 (by simpa using hr2)
    have lm := qcq (j0 hs hfz he2)
    obtain ⟨s', h, hcalls⟩ := qiN hcfg hC hp hs hd (j7.append (j7.append l1 lm) l2) h
    have e : (vs.toList ++ c.args.toList.map a.eval ++ us.toList).toArray = vs ++ c.args.map a.eval ++ us := by
     apply Array.toList_inj.1; simp
    rw [e] at hcalls
    exact ⟨s', h, qa1 (qaP hc hv (hcfg.keeps f kp hp).1 w) hcalls⟩
   rename_i m hp
   cases ht : first.isTup && caps.isTup with
   | false => rw [ht] at h; cases h
   | true =>
   rw [ht, cond_true] at h
   rw [Bool.and_eq_true] at ht
   obtain ⟨vs, us, hv, hr1, hr2⟩ := qs hs qK he1
   have l1 := qan (vs := vs.toList) ht.1 (by simpa using hr1)
   have l2 := qan (vs := us.toList) ht.2 (by simpa using hr2)
   have lm := qcq (j0 hs hfz he2)
   obtain ⟨s', h, hcalls⟩ := qlN hcfg hC hp hs hd (j7.append (j7.append l1 lm) l2) h
   have e : (vs.toList ++ c.args.toList.map a.eval ++ us.toList).toArray = vs ++ c.args.map a.eval ++ us := by
    apply Array.toList_inj.1; simp
   rw [e] at hcalls
   exact ⟨s', h, qa1 (qaP hc hv (hcfg.makers f m hp).1 w) hcalls⟩
  rename_i p hp
  split at h
  ·rename_i id path hda
   obtain ⟨rfl, rfl, rfl, hne⟩ := qiX hda
   obtain ⟨vs, us, hv, hr1, hr2⟩ := qs hs qK he1
   have lm := qcq (j0 hs hfz he2)
   have hvs : vs = #[] := by have : Value.tuple vs = .tuple #[] := hr1; injection this
   have hus : us = #[] := by have : Value.tuple us = .tuple #[] := hr2; injection this
   subst hvs
   subst hus
   match hal : c.args.toList.map a.eval, lm with
   | [v], lm =>
    obtain ⟨s', h, hcalls⟩ := qjZ hcfg hC hp hs hd lm.1 hne h
    have e : (#[v] : Array Value) = #[] ++ c.args.map a.eval ++ #[] := by
     apply Array.toList_inj.1
     simp [hal]
    rw [e] at hcalls
    exact ⟨s', h, qa1 (qaP hc hv (hcfg.prims f p hp).1 w) hcalls⟩
   | [], lm => exact lm.elim
   | _ :: _ :: _, lm => exact lm.2.elim
  rename_i hda
  cases ht : first.isTup && caps.isTup with
  | false => rw [ht] at h; cases h
  | true =>
  rw [ht, cond_true] at h
  rw [Bool.and_eq_true] at ht
  obtain ⟨vs, us, hv, hr1, hr2⟩ := qs hs qK he1
  have l1 := qan (vs := vs.toList) ht.1 (by simpa using hr1)
  have l2 := qan (vs := us.toList) ht.2 (by simpa using hr2)
  have lm := qcq (j0 hs hfz he2)
  have e : (vs.toList ++ c.args.toList.map a.eval ++ us.toList).toArray = vs ++ c.args.map a.eval ++ us := by
   apply Array.toList_inj.1; simp
  have plain : qeF cfg s dst p (first.list ++ l ++ caps.list) k = some r → ∃ s', k s' = some r ∧ qbc P C ⟨dst, .call c, ty, pos, after, guard⟩ a w s' := fun h => by
   obtain ⟨s', h, hcalls⟩ := callK_ok hcfg hC hp hs hd (j7.append (j7.append l1 lm) l2) h
   rw [e] at hcalls
   exact ⟨s', h, qa1 (qaP hc hv (hcfg.prims f p hp).1 w) hcalls⟩
  split at h
  ·rename_i q hq
   rcases qlO hcfg hC hq hs hd (j7.append (j7.append l1 lm) l2) h with ⟨s', h, hcalls⟩ | h
   ·rw [e] at hcalls
    exact ⟨s', h, qa1 (qaP hc hv (hcfg.prims f p hp).1 w) hcalls⟩
   ·exact plain h
  ·exact plain h
 ·rename_i i f n l he1 he2
  exact qjz hcfg hC hc hs hd (qs hs qK he1) (qcq (j0 hs hfz he2)) h
 ·rename_i b r2 g xav he1 he2
  cases hrf : r2.isFlat with
  | false => rw [hrf] at h; cases h
  | true =>
  rw [hrf, cond_true] at h
  obtain ⟨hfz2, cs, hv, hrep⟩ := qs hs qK he1
  have lm := qcq (j0 hs hfz he2)
  obtain ⟨_, f, vs, us, rfl, hcal, hg⟩ := hrep
  obtain ⟨Hf, m1, m2, m3, m4, m5⟩ := qm.freezeAll xav.touches hs
  match hal : c.args.toList.map a.eval, lm with
  | [v], lm =>
   obtain ⟨hbz, x, h, cx, hvx, hrx⟩ := qcH hs m1 (FH.le_refl Hf) m3 (.inl lm.1) h
   rw [qo] at h
   replace h := Option.bind_eq_some_iff.1 h
   obtain ⟨y, hy, h⟩ := h
   have hcalls := hg x y hy Hf w cx m1 m4.hok hrx
   have e : vs ++ #[jZ b cx] ++ us = vs ++ c.args.map a.eval ++ us := by
    congr 2
    apply Array.toList_inj.1
    rw [qjH, hal, hvx]
   rw [e] at hcalls
   refine ⟨_, h, qa1 (qaP hc (by rw [hv]; rfl) hcal w) (hcalls.mono ?_)⟩
   rintro e w'' ⟨cy, he, hm, hry⟩
   exact ⟨_, he, H, Φ, (hs.grow hm).setDst (by rw [hC.nt]; exact hd) ⟨Ty.flat_fz r2 hrf, cy, rfl, qx.flat_any r2 hrf hry _ _⟩⟩
  | [], lm => exact lm.elim
  | _ :: _ :: _, lm => exact lm.2.elim
 ·rename_i b b2 r2 g xav yav he1 he2
  cases hrf : r2.isFlat with
  | false => rw [hrf] at h; cases h
  | true =>
  rw [hrf, cond_true] at h
  obtain ⟨hfz2, cs, hv, hrep⟩ := qs hs qK he1
  have lm := qcq (j0 hs hfz he2)
  obtain ⟨_, f, vs, us, rfl, hcal, hg⟩ := hrep
  obtain ⟨Hf, m1, m2, m3, m4, m5⟩ := qm.freezeAll (xav.touches ++ yav.touches) hs
  match hal : c.args.toList.map a.eval, lm with
  | [v, u], lm =>
   obtain ⟨hbz, x, h, cx, hvx, hrx⟩ := qcH hs m1 (FH.le_refl Hf) (fun id hid => m3 id (by simp [hid])) (.inl lm.1) h
   obtain ⟨hbz2, z, h, cz, hvz, hrz⟩ := qcH hs m1 (FH.le_refl Hf) (fun id hid => m3 id (by simp [hid])) (.inl lm.2.1) h
   rw [qo] at h
   replace h := Option.bind_eq_some_iff.1 h
   obtain ⟨y, hy, h⟩ := h
   have hcalls := hg x z y hy Hf w cx cz m1 m4.hok hrx hrz
   have e : vs ++ #[jZ b cx, jZ b2 cz] ++ us = vs ++ c.args.map a.eval ++ us := by
    congr 2
    apply Array.toList_inj.1
    rw [qjH, hal, hvx, hvz]
   rw [e] at hcalls
   refine ⟨_, h, qa1 (qaP hc (by rw [hv]; rfl) hcal w) (hcalls.mono ?_)⟩
   rintro e w'' ⟨cy, he, hm, hry⟩
   exact ⟨_, he, H, Φ, (hs.grow hm).setDst (by rw [hC.nt]; exact hd) ⟨Ty.flat_fz r2 hrf, cy, rfl, qx.flat_any r2 hrf hry _ _⟩⟩
  | [], lm => exact lm.elim
  | [_], lm => exact lm.2.elim
  | _ :: _ :: _ :: _, lm => exact lm.2.2.elim
 ·cases h
theorem qm.commitT (hs : qm P C s a w H Φ) (hC : qM C cfg) (x : Operand) : ∃ Φ', qm P C (s.commitT x) a w H Φ' := by
 unfold St.commitT
 split
 ·rename_i t
  split
  ·rename_i id tid e l hg
   split
   ·rename_i o ho
    cases hq : o.row && Nat.blt id 4000000 with
    | false => exact ⟨Φ, hs⟩
    | true =>
     rw [Bool.and_eq_true] at hq
     rw [cond_true]
     have hid : id < 4000000 := Eq.mp Nat.blt_eq hq.2
     have h1 := hs.commit hC (hs.ts t _ hg) ho hq.1 hid
     refine ⟨_, h1.weaken (fun _ _ h => h) ?_⟩
     intro u av hu
     rw [St.get_set] at hu
     split at hu
     ·rename_i e1
      subst e1
      cases hu
      refine ⟨⟨true, .list true tid e, l⟩, ⟨.list true tid e, l⟩, ?_, qO _ _, ?_⟩
      ·rw [St.obj_set, St.newObj, St.obj_setObj, if_pos rfl]
      ·simp only [List.isEmpty_nil, Bool.and_self, qz]
     ·exact h1.ts u av hu
   ·exact ⟨Φ, hs⟩
  ·exact ⟨Φ, hs⟩
 ·exact ⟨Φ, hs⟩
theorem qbc.map {o : Oper} {s' s'' : St} (hm : ∀ a w, Sim P C s' a w → Sim P C s'' a w) (h : qbc P C o a w s') : qbc P C o a w s'' := by
 unfold qbc at h ⊢
 split at h
 ·exact hm _ _ h
 ·exact hm _ _ h
 ·exact h.mono (fun e w'' ⟨v, he, hs⟩ => ⟨v, he, hm _ _ hs⟩)
 ·exact h.elim
theorem qlu (hcfg : qB P cfg) (hC : qM C cfg) {c : Call} (hc : c.callee = .builtin .append) (hs : qm P C s a w H Φ) (hd : qU cfg.nt dst = true) (h : qT cfg ⟨dst, .call c, ty, pos, after, guard⟩ s k = some r) :
  ∃ s', k s' = some r ∧ qbc P C ⟨dst, .call c, ty, pos, after, guard⟩ a w s' := by
 obtain ⟨s', h, hg⟩ := qkl hcfg hC hc hs hd h
 unfold qeI at h
 split at h
 ·exact ⟨s', h, hg⟩
 ·split at h
  ·exact ⟨s', h, hg⟩
  ·refine ⟨_, h, hg.map fun a w hs => ?_⟩
   obtain ⟨H, Φ, hs⟩ := hs
   obtain ⟨Φ', hs⟩ := hs.commitT hC _
   exact ⟨H, Φ', hs⟩
theorem qm.commitAll (hC : qM C cfg) : ∀ (l : List Operand) {s : St} {Φ : Nat → qF}, qm P C s a w H Φ → ∃ Φ', qm P C (commitAll s l) a w H Φ'
 | [], _, Φ, hs => ⟨Φ, hs⟩
 | x :: r, _, _, hs => by
  obtain ⟨Φ', h⟩ := hs.commitT hC x
  exact qm.commitAll hC r h
theorem op_callv (hcfg : qB P cfg) (hC : qM C cfg) {c : Call} {fop : Operand} (hc : c.callee = .value fop) (hs : qm P C s a w H Φ) (hd : qU cfg.nt dst = true) (h : qT cfg ⟨dst, .call c, ty, pos, after, guard⟩ s k = some r) :
  ∃ s', k s' = some r ∧ qbc P C ⟨dst, .call c, ty, pos, after, guard⟩ a w s' := by
 simp only [qT, hc] at h
 obtain ⟨Φ', hs'⟩ := hs.commitAll hC c.args.toList
 exact qlr hcfg hC hc hs' hd h
theorem op_callq (hcfg : qB P cfg) (hC : qM C cfg) {c : Call} {f : Nat} (hc : c.callee = .value (.func f)) {p : qE} (hp : lk cfg.prims f = some p) (hna : lk cfg.alts f = none) (hqp : qgQ p = true) (hs : qm P C s a w H Φ) (hd : qU cfg.nt dst = true)
  (h : qT cfg ⟨dst, .call c, ty, pos, after, guard⟩ s k = some r) : ∃ s', k s' = some r ∧ Quiet P C ⟨dst, .call c, ty, pos, after, guard⟩ a w s' := by
 simp only [qT, hc] at h
 obtain ⟨Φ', hs⟩ := hs.commitAll hC c.args.toList
 simp only [qi2, jF] at h
 have hfz : ∀ i t, (fun i : Nat => (c.argTypes[i]?).bind (lk cfg.ty)) i = some t → t.isFz = true := by
  intro i t ht
  obtain ⟨T, _, ht⟩ := Option.bind_eq_some_iff.1 ht
  exact hcfg.fz T t ht
 split at h
 ·rename_i f' first caps l he1 he2
  cases he1
  have hrd : p.ps.all jL.reads = true := by
   unfold qgQ at hqp
   rw [Bool.and_eq_true, Bool.and_eq_true] at hqp
   exact hqp.1.1
  rw [hp] at h
  simp only [qhN hrd, AV.isTup, Bool.and_self, cond_true, AV.list, List.nil_append, List.append_nil, hna] at h
  have lm := qcq (j0 hs hfz he2)
  obtain ⟨s', h, v, hsim, hcalls⟩ := qj0 hcfg hC hp hqp hs hd lm h
  refine ⟨s', h, v, fun w' hm => ?_, hsim⟩
  unfold Oper.quietAt
  rw [qaP hc (f := f) (vs := #[]) (us := #[]) rfl (hcfg.prims f p hp).1 w']
  refine ⟨rfl, ?_⟩
  have e : (c.args.toList.map a.eval).toArray = #[] ++ c.args.map a.eval ++ #[] := by
   apply Array.toList_inj.1; simp
  rw [← e]
  exact hcalls w' hm
 ·rename_i he1 _; cases he1
 ·rename_i he1 _; cases he1
 ·rename_i he1 _; cases he1
 ·cases h
end
end Go.Vi
namespace Go.Vi
open Go.Maps (Keyed)
theorem qdy : ∀ (l : List (Int × Int)) (n v : Int), lkI (qdO l n v) n = some v
 | [], n, v => by simp [qdO, lkI]
 | (m, u) :: r, n, v => by
  unfold qdO
  cases h : m == n with
  | true => simp [lkI]
  | false =>
   rw [cond_false]
   unfold lkI
   rw [h, cond_false]
   exact qdy r n v
theorem qc3 {n k : Int} (hne : k ≠ n) (v : Int) : ∀ (l : List (Int × Int)), lkI (qdO l n v) k = lkI l k
 | [] => by
  have : (n == k) = false := by simpa using fun e => hne e.symm
  simp [qdO, lkI, this]
 | (m, u) :: r => by
  unfold qdO
  cases h : m == n with
  | true =>
   have e : m = n := by simpa using h
   have h2 : (m == k) = false := by rw [e]; simpa using fun e => hne e.symm
   have h3 : (n == k) = false := by simpa using fun e => hne e.symm
   simp [lkI, h2, h3]
  | false =>
   rw [cond_false]
   unfold lkI
   rw [qc3 hne v r]
theorem qgR : ∀ (l : List (Int × Int)) (n v : Int), (qdO l n v).length = if (lkI l n).isSome then l.length else l.length + 1
 | [], n, v => by simp [qdO, lkI]
 | (m, u) :: r, n, v => by
  unfold qdO lkI
  cases h : m == n with
  | true => simp
  | false =>
   rw [cond_false, cond_false, List.length_cons, qgR r n v, List.length_cons]
   split <;> rfl
theorem qjp : ∀ (l : List (Int × Int)) (n v : Int) (k : Int), k ∈ (qdO l n v).map (·.1) ↔ k = n ∨ k ∈ l.map (·.1)
 | [], n, v, k => by simp [qdO]
 | (m, u) :: r, n, v, k => by
  unfold qdO
  cases h : m == n with
  | true =>
   have e : m = n := by simpa using h
   simp [e]
  | false =>
   rw [cond_false]
   simp only [List.map_cons, List.mem_cons, qjp r n v k]
   constructor
   ·rintro (h | h | h)
    ·exact .inr (.inl h)
    ·exact .inl h
    ·exact .inr (.inr h)
   ·rintro (h | h | h)
    ·exact .inr (.inl h)
    ·exact .inl h
    ·exact .inr (.inr h)
theorem qh1 : ∀ (l : List (Int × Int)) (n v : Int), (l.map (·.1)).Nodup → ((qdO l n v).map (·.1)).Nodup
 | [], n, v, _ => by simp [qdO]
 | (m, u) :: r, n, v, h => by
  simp only [List.map_cons, List.nodup_cons] at h
  unfold qdO
  cases hq : m == n with
  | true =>
   have e : m = n := by simpa using hq
   subst e
   simpa using h
  | false =>
   rw [cond_false]
   simp only [List.map_cons, List.nodup_cons, qjp]
   have hne : m ≠ n := by simpa using hq
   exact ⟨fun hh => hh.elim hne h.1, qh1 r n v h.2⟩
theorem qg1 : ∀ {l : List (Int × Int)} {n : Int}, n ∉ l.map (·.1) → lkI l n = none
 | [], _, _ => rfl
 | (m, u) :: r, n, h => by
  simp only [List.map_cons, List.mem_cons, not_or] at h
  unfold lkI
  have : (m == n) = false := by simpa using fun e => h.1 e.symm
  rw [this, cond_false]
  exact qg1 h.2
theorem qkZ : ∀ {l : List (Int × Int)} {n : Int}, n ∈ l.map (·.1) → (lkI l n).isSome = true
 | [], _, h => by simp at h
 | (m, u) :: r, n, h => by
  unfold lkI
  cases hq : m == n with
  | true => rfl
  | false =>
   rw [cond_false]
   simp only [List.map_cons, List.mem_cons] at h
   have hne : m ≠ n := by simpa using hq
   exact qkZ (h.resolve_left (fun e => hne e.symm))
theorem qks {l : List (Int × Int)} {n : Int} : (lkI l n).isSome = true ↔ n ∈ l.map (·.1) := by
 constructor
 ·intro h
  cases hd : decide (n ∈ l.map (·.1)) with
  | true => exact of_decide_eq_true hd
  | false =>
   rw [qg1 (of_decide_eq_false hd)] at h
   cases h
 ·exact qkZ
theorem qdz : ∀ {l : List (Int × Int)} {n : Int}, (l.map (·.1)).Nodup → lkI (qhq l n) n = none
 | [], _, _ => rfl
 | (m, u) :: r, n, h => by
  simp only [List.map_cons, List.nodup_cons] at h
  unfold qhq
  cases hq : m == n with
  | true =>
   have e : m = n := by simpa using hq
   rw [cond_true, ← e]
   exact qg1 h.1
  | false =>
   rw [cond_false]
   unfold lkI
   rw [hq, cond_false]
   exact qdz h.2
theorem qc4 {n k : Int} (hne : k ≠ n) : ∀ (l : List (Int × Int)), lkI (qhq l n) k = lkI l k
 | [] => rfl
 | (m, u) :: r => by
  unfold qhq
  cases hq : m == n with
  | true =>
   have e : m = n := by simpa using hq
   have : (m == k) = false := by rw [e]; simpa using fun e => hne e.symm
   rw [cond_true, lkI, this, cond_false]
  | false =>
   rw [cond_false]
   unfold lkI
   rw [qc4 hne r]
theorem qhp : ∀ (l : List (Int × Int)) (n : Int), (qhq l n).length + (if (lkI l n).isSome then 1 else 0) = l.length
 | [], _ => rfl
 | (m, u) :: r, n => by
  unfold qhq lkI
  cases hq : m == n with
  | true => simp
  | false =>
   have := qhp r n
   rw [cond_false, cond_false, List.length_cons, List.length_cons]
   omega
theorem qk7 : ∀ (l : List (Int × Int)) (n : Int), (qhq l n).Sublist l
 | [], _ => List.Sublist.refl _
 | (m, u) :: r, n => by
  unfold qhq
  cases m == n with
  | true => exact List.sublist_cons_self _ _
  | false => exact (qk7 r n).cons_cons _
theorem qfR {k n : Int} : ∀ {l : List Int}, n ∈ qhn k l ↔ n ∈ l ∧ n ≠ k
 | [] => by simp [qhn]
 | m :: r => by
  unfold qhn
  cases hq : m == k with
  | true =>
   have e : m = k := by simpa using hq
   rw [cond_true, qfR, List.mem_cons, e]
   constructor
   ·rintro ⟨h1, h2⟩; exact ⟨.inr h1, h2⟩
   ·rintro ⟨h1, h2⟩; exact ⟨h1.resolve_left h2, h2⟩
  | false =>
   have hne : m ≠ k := by simpa using hq
   rw [cond_false, List.mem_cons, qfR, List.mem_cons]
   constructor
   ·rintro (h | ⟨h1, h2⟩)
    ·exact ⟨.inl h, by rw [h]; exact hne⟩
    ·exact ⟨.inr h1, h2⟩
   ·rintro ⟨h1 | h1, h2⟩
    ·exact .inl h1
    ·exact .inr ⟨h1, h2⟩
theorem qdd {t : Nat} : ∀ {l : List Nat}, qde t l = true ↔ t ∈ l
 | [] => by simp [qde]
 | u :: r => by
  unfold qde
  rw [Bool.or_eq_true, qdd, List.mem_cons]
  constructor
  ·rintro (h | h)
   ·exact .inl (Nat.eq_of_beq_eq_true h).symm
   ·exact .inr h
  ·rintro (h | h)
   ·exact .inl (by rw [h]; exact Nat.beq_refl _)
   ·exact .inr h
theorem qdj {t u : Nat} : ∀ {l : List Nat}, u ∈ qfh t l ↔ u ∈ l ∧ u ≠ t
 | [] => by simp [qfh]
 | m :: r => by
  unfold qfh
  cases hq : Nat.beq m t with
  | true =>
   have e := Nat.eq_of_beq_eq_true hq
   rw [cond_true, qdj, List.mem_cons, e]
   constructor
   ·rintro ⟨h1, h2⟩; exact ⟨.inr h1, h2⟩
   ·rintro ⟨h1, h2⟩; exact ⟨h1.resolve_left h2, h2⟩
  | false =>
   have hne := Nat.ne_of_beq_eq_false hq
   rw [cond_false, List.mem_cons, qdj, List.mem_cons]
   constructor
   ·rintro (h | ⟨h1, h2⟩)
    ·exact ⟨.inl h, by rw [h]; exact hne⟩
    ·exact ⟨.inr h1, h2⟩
   ·rintro ⟨h1 | h1, h2⟩
    ·exact .inl h1
    ·exact .inr ⟨h1, h2⟩
abbrev MD := DataW Unit
structure qhD (D : MD) (kv : List (Int × Int)) : Prop where
 has : ∀ n, Maps.has D (.int .i64 n) = (lkI kv n).isSome
 val : ∀ n z, D.atKey (.int .i64 n) z = match lkI kv n with | some v => .lit (.int .i64 v) | none => z
 size : Maps.size D = kv.length
 nd : (kv.map (·.1)).Nodup
theorem qg9 {n k : Int} (h : k ≠ n) : (Lit.int .i64 k) ≠ .int .i64 n := fun e => h (by injection e)
theorem qhD.empty : qhD (.map []) [] := ⟨fun _ => rfl, fun _ _ => rfl, rfl, List.nodup_nil⟩
theorem qhD.put {D : MD} {kv : List (Int × Int)} (h : qhD D kv) (hD : Maps.Tidy D) {n : Int} (hk : WideAt.IsKeyLit (.int .i64 n)) (v : Int) : qhD (D.put (.int .i64 n) (.lit (.int .i64 v))) (qdO kv n v) := by
 refine ⟨fun m => ?_, fun m z => ?_, ?_, qh1 _ _ _ h.nd⟩
 ·by_cases e : m = n
  ·subst e; rw [Maps.has_put_same hD.isMap hk, qdy]; rfl
  ·rw [Maps.has_put_other (qg9 e), qc3 e]; exact h.has m
 ·by_cases e : m = n
  ·subst e; rw [Maps.atKey_put_same hD.isMap hk, qdy]
  ·rw [Maps.atKey_put_other (qg9 e), qc3 e]; exact h.val m z
 ·rw [Maps.size_put hD, qgR, h.has, h.size]
theorem qhD.del {D : MD} {kv : List (Int × Int)} (h : qhD D kv) (hD : Maps.Tidy D) (n : Int) : qhD (D.del (.int .i64 n)) (qhq kv n) := by
 refine ⟨fun m => ?_, fun m z => ?_, ?_, List.Sublist.nodup ((qk7 kv n).map _) h.nd⟩
 ·by_cases e : m = n
  ·subst e; rw [Maps.has_del_same, qdz h.nd]; rfl
  ·rw [Maps.has_del_other (qg9 e), qc4 e]; exact h.has m
 ·by_cases e : m = n
  ·subst e; rw [Maps.atKey_del_same, qdz h.nd]
  ·rw [Maps.atKey_del_other (qg9 e), qc4 e]; exact h.val m z
 ·have h1 := Maps.size_del hD (k := .int .i64 n)
  have h2 := qhp kv n
  rw [h.has, h.size] at h1
  omega
def qfo (P : Program) (w : World) (m : Ms) (b : Nat) : Prop :=
 ∃ D : MD, w.ownsMap P m.kt (plainElem P m.vt) b m.kv.length D ∧ qhD D m.kv
def qc7 (P : Program) (w : World) (m : Ms) (b r : Nat) (lf : List Int) : Prop :=
 ∃ (D : MD) (left : Lit → Bool) (cnt : Nat), w.ranges P m.kt (plainElem P m.vt) b r m.kv.length D left cnt ∧ qhD D m.kv ∧ ∀ n, left (.int .i64 n) = true ↔ n ∈ lf
def MOKb (P : Program) (C : Ctx) (m : Ms) (os : Nat → Option Obj) (a : Act) (w : World) (H : FH) (Φ : Nat → qF) (b : Nat) : Prop :=
 qZ P m.kt (.int .i64) ∧ qZ P m.vt (.int .i64) ∧ qaB C w H Φ os b ∧ qfo P w m b ∧ (∀ t ∈ m.tm, a.tmps.getD t undef = .map (some b)) ∧
  ∀ ti lf, m.it = some (ti, lf) → ∃ r, qaB C w H Φ os r ∧ qc7 P w m b r lf ∧ (∀ t ∈ ti, a.tmps.getD t undef = .pointer (some ⟨r, 0, none⟩)) ∧
   ∀ n v, m.cur = some (n, v) → (Instr.entry (.pointer (some ⟨r, 0, none⟩))).run P w = .ok (.tuple #[.int .i64 n, .int .i64 v]) w
def MOK (P : Program) (C : Ctx) (m : Ms) (os : Nat → Option Obj) (a : Act) (w : World) (H : FH) (Φ : Nat → qF) : Prop := ∃ b, MOKb P C m os a w H Φ b
def qcm (P : Program) (C : Ctx) (mp : Option Ms) (os : Nat → Option Obj) (a : Act) (w : World) (H : FH) (Φ : Nat → qF) : Prop :=
 match mp with
 | none => True
 | some m => MOK P C m os a w H Φ
def jY (P : Program) (C : Ctx) (s : St) (a : Act) (w : World) : Prop := ∃ H Φ, qm P C s a w H Φ ∧ qcm P C s.mp s.obj a w H Φ
section
variable {P : Program} {C : Ctx} {cfg : qS} {R : Type} {r : R} {s s' : St} {a : Act} {w w' : World} {H H' : FH} {Φ Φ' : Nat → qF}
theorem jY.sim (h : jY P C s a w) : Sim P C s a w := by obtain ⟨H, Φ, h, _⟩ := h; exact ⟨H, Φ, h⟩
theorem Sim.simM (h : Sim P C s a w) (hm : s.mp = none) : jY P C s a w := by obtain ⟨H, Φ, h⟩ := h; exact ⟨H, Φ, h, by rw [hm]; trivial⟩
theorem qm.withM (h : qm P C s a w H Φ) (m : Option Ms) : qm P C (s.withM m) a w H Φ := h.congr rfl rfl
theorem qfo.block {m : Ms} {b : Nat} (h : qfo P w m b) (hb : w'.heap[b]? = w.heap[b]?) : qfo P w' m b := by
 obtain ⟨D, ⟨es, clock, h1, h2⟩, h3⟩ := h
 exact ⟨D, ⟨es, clock, hb.trans h1, h2⟩, h3⟩
theorem qc7.block {m : Ms} {b i : Nat} {lf : List Int} (h : qc7 P w m b i lf) (hb : w'.heap[b]? = w.heap[b]?) (hi : w'.heap[i]? = w.heap[i]?) : qc7 P w' m b i lf := by
 obtain ⟨D, left, cnt, ⟨es, clock, since, seen, c0, h1, h2, h3, h4, h5, h6⟩, h7⟩ := h
 exact ⟨D, left, cnt, ⟨es, clock, since, seen, c0, hb.trans h1, h2, h3, h4, hi.trans h5, h6⟩, h7⟩
theorem qg.each {α : Type} {Q : α → List Value → List Nat → Prop} {F : Nat → Prop} (h : ∀ x c f, Q x c f → ∀ b ∈ f, F b) : ∀ {l : List α} {xs fp}, qg Q l xs fp → ∀ b ∈ fp, F b
 | [], _, _, ⟨_, e⟩, b, hb => by rw [e] at hb; cases hb
 | _ :: _, _, _, ⟨c, xs', f, fp', e1, e2, h1, h2⟩, b, hb => by
  rw [e2] at hb
  rcases List.mem_append.1 hb with hb | hb
  ·exact h _ _ _ h1 b hb
  ·exact qg.each h h2 b hb
theorem qx.cells : (τ : Ty) → ∀ {w : World} {H : FH} {x cs fp}, qx P τ w H x cs fp → ∀ b ∈ fp, ∃ c t f, w.heap[b]? = some (.cells c t f)
 | .int _, _, _, _, _, _, h => by rw [h.2]; simp
 | .bool, _, _, _, _, _, h => by rw [h.2]; simp
 | .list false _ _, _, _, _, _, _, h => by rw [h.1]; simp
 | .list true _ e, _, _, _, _, _, h => by
  obtain ⟨hdr, xs, fp', rfl, rfl, ho, hch⟩ := h
  intro b hb
  rcases List.mem_append.1 hb with hb | hb
  ·rcases ho.2 with ⟨rfl, _⟩ | ⟨g, cap, cur, rfl, _, hg, _⟩
   ·simp [Value.ownBlock] at hb
   ·simp [Value.ownBlock] at hb
    subst hb
    exact ⟨_, _, _, hg⟩
  ·exact qg.each (fun _ _ _ hh => qx.cells e hh) hch b hb
 | .pair a c, _, _, _, _, _, h => by
  obtain ⟨c1, c2, f1, f2, _, rfl, h1, h2⟩ := h
  intro b hb
  rcases List.mem_append.1 hb with hb | hb
  ·exact qx.cells a h1 b hb
  ·exact qx.cells c h2 b hb
 | .str t, _, _, _, _, _, h => qx.cells t h
 | .ptr _, _, _, _, _, _, h => by rw [h.1]; simp
 | .arr _ e, _, _, _, _, _, h => qg.each (fun _ _ _ hh => qx.cells e hh) h.2
 | .fn _ _, _, _, _, _, _, h => by rw [h.1]; simp
 | .fn2 _ _ _, _, _, _, _, _, h => by rw [h.1]; simp
theorem qX.cells {o : Obj} {φ : qF} (h : qX P w H o φ) : ∀ b ∈ φ.fp, ∃ c t f, w.heap[b]? = some (.cells c t f) := by
 obtain ⟨_, _, h⟩ := h
 cases hr : o.row with
 | false =>
  rw [hr] at h
  obtain ⟨blk, t, fp', h4, h5, h6⟩ := h
  intro b hb
  rw [h6] at hb
  rcases List.mem_cons.1 hb with rfl | hb
  ·exact ⟨_, _, _, h4⟩
  ·exact qx.cells _ h5 b hb
 | true =>
  rw [hr] at h
  obtain ⟨_, cs, _, h5⟩ := h
  exact qx.cells _ h5
def reC (C : Ctx) (w : World) (H : FH) : Ctx := ⟨w, fun b => (C.M0 b ∨ C.w0.heap.size ≤ b) ∧ H b = none ∧ ∃ c t f, w.heap[b]? = some (.cells c t f), H, C.nt, C.pin, C.ds, C.gh⟩
theorem qgN (hC : qM C cfg) : qM (reC C w H) cfg := ⟨hC.nt, hC.pin⟩
theorem qn.ctx {C C' : Ctx} {os : Nat → Option Obj} (hg : C'.gh = C.gh) (hp : C'.pin = C.pin) (hf : ∀ b, qaB C w H Φ os b → (∃ c t f, w.heap[b]? = some (.cells c t f)) → qaB C' w H Φ os b) : ∀ {av : AV} {v : Value}, qn P C w H Φ os av v → qn P C' w H Φ os av v
 | .dead, _, h => h
 | .val _ _, _, h => h
 | .ref _ _, _, h => h
 | .ptr _ _, _, h => h
 | .view _ _, _, h => h
 | .upd id p tid e l, v, h => by
  obtain ⟨o, h1, h2, h3, h4, fp, h5, h6⟩ := h
  exact ⟨o, h1, h2, h3, h4, fp, h5, fun b hb => ⟨(h6 b hb).1, (h6 b hb).2.imp_left (fun hh => hf b hh (qx.cells _ h5 b hb))⟩⟩
 | .cut _ _ _, _, h => h
 | .fn _ _ _, _, ⟨vs, us, h1, h2, h3⟩ => ⟨vs, us, h1, qn.ctx hg hp hf h2, qn.ctx hg hp hf h3⟩
 | .nil, _, h => h
 | .gh _ _, _, ⟨u, h1, h2⟩ => ⟨u, by rw [hg]; exact h1, qn.ctx hg hp hf h2⟩
 | .cv _ _ _, _, ⟨b, cv, h1, h2⟩ => ⟨b, cv, h1, by rw [hp]; exact h2⟩
 | .cons _ _, _, ⟨u, us, h1, h2, h3⟩ => ⟨u, us, h1, qn.ctx hg hp hf h2, qn.ctx hg hp hf h3⟩
theorem qm.rebase (hs : qm P C s a w H Φ) : qm P (reC C w H) s a w H Φ := by
 refine ⟨hs.defers, hs.size, FH.le_refl _, hs.hok, fun b c hb => .inl hb, j9.refl _ _, ?_, ?_, hs.disj, hs.pins⟩
 ·intro t av ht
  exact qn.ctx (C := C) (C' := reC C w H) rfl rfl (fun b hb hc => (⟨hb.fz, hb.obj, .inl ⟨hb.may, hb.fz, hc⟩, hb.lt⟩ : qaB (reC C w H) w H Φ s.obj b)) (hs.ts t av ht)
 ·intro id o ho
  have h := hs.os id o ho
  exact ⟨h.1, fun b hb => ⟨(h.2 b hb).1, .inl ⟨(h.2 b hb).2.1, (h.2 b hb).1, h.1.cells b hb⟩, (h.2 b hb).2.2⟩⟩
theorem qm.unbase {a' : Act} (hs : qm P C s a w H Φ) (h : qm P (reC C w H) s' a' w' H' Φ') : qm P C s' a' w' H' Φ' ∧
  ∀ b, qaB C w H Φ s.obj b → (¬ ∃ c t f, w.heap[b]? = some (.cells c t f)) → qaB C w' H' Φ' s'.obj b ∧ w'.heap[b]? = w.heap[b]? := by
 have hmay : ∀ b, (reC C w H).M0 b ∨ (reC C w H).w0.heap.size ≤ b → C.M0 b ∨ C.w0.heap.size ≤ b := by
  rintro b (hb | hb)
  ·exact hb.1
  ·exact .inr (Nat.le_trans hs.mod.size hb)
 refine ⟨⟨h.defers, h.size, FH.le_trans hs.le h.le, h.hok, ?_, hs.mod.trans_new h.mod (fun i hi => hi.1), ?_, ?_, h.disj, h.pins⟩, ?_⟩
 ·intro b c hb
  rcases h.hnew b c hb with h1 | h1 | h1
  ·exact hs.hnew b c h1
  ·exact .inr (hmay b (.inl h1))
  ·exact .inr (hmay b (.inr h1))
 ·intro t av ht
  exact qn.ctx (C := reC C w H) (C' := C) rfl rfl (fun b hb _ => (⟨hb.fz, hb.obj, hmay b hb.may, hb.lt⟩ : qaB C w' H' Φ' s'.obj b)) (h.ts t av ht)
 ·intro id o ho
  have h1 := h.os id o ho
  exact ⟨h1.1, fun b hb => ⟨(h1.2 b hb).1, hmay b (h1.2 b hb).2.1, (h1.2 b hb).2.2⟩⟩
 ·intro b hb hnc
  have hnm : ¬ (reC C w H).M0 b := fun hh => hnc hh.2.2
  refine ⟨⟨?_, ?_, hb.may, Nat.lt_of_lt_of_le hb.lt h.mod.size⟩, h.mod.block b hb.lt hnm⟩
  ·cases hq : H' b with
   | none => rfl
   | some c =>
    rcases h.hnew b c hq with h1 | h1 | h1
    ·have h1' : H b = some c := h1
     rw [hb.fz] at h1'; cases h1'
    ·exact absurd h1 hnm
    ·have h1' : w.heap.size ≤ b := h1
     have := hb.lt
     omega
  ·intro id o ho hbf
   rcases ((h.os id o ho).2 b hbf).2.1 with h1 | h1
   ·exact hnm h1
   ·have h1' : w.heap.size ≤ b := h1
    have := hb.lt
    omega
theorem qfo.not_cells {m : Ms} {b : Nat} (h : qfo P w m b) : ¬ ∃ c t f, w.heap[b]? = some (.cells c t f) := by
 obtain ⟨D, ⟨es, clock, h1, _⟩, _⟩ := h
 rintro ⟨c, t, f, h2⟩
 rw [h1] at h2; cases h2
theorem qc7.not_cells {m : Ms} {b i : Nat} {lf : List Int} (h : qc7 P w m b i lf) : ¬ ∃ c t f, w.heap[i]? = some (.cells c t f) := by
 obtain ⟨D, left, cnt, ⟨es, clock, since, seen, c0, _, _, _, _, h5, _⟩, _⟩ := h
 rintro ⟨c, t, f, h2⟩
 rw [h5] at h2; cases h2
theorem qbj {d : Option Nat} {v : Value} {t : Nat} (h : d ≠ some t) : (a.put d v).tmps.getD t undef = a.tmps.getD t undef := by
 cases d with
 | none => rfl
 | some d =>
  have hne : d ≠ t := fun e => h (by rw [e])
  simp only [Act.put, Array.getD_eq_getD_getElem?, Array.getElem?_setIfInBounds_ne hne]
theorem qem {m : Ms} {d : Option Nat} {t : Nat} (h : t ∈ (m.strike d).tm) : t ∈ m.tm ∧ d ≠ some t := by
 cases d with
 | none => exact ⟨h, by simp⟩
 | some d =>
  have h2 := qdj.1 h
  exact ⟨h2.1, fun e => h2.2 (by injection e with e; exact e.symm)⟩
theorem qhT {m : Ms} {d : Option Nat} {ti : List Nat} {lf : List Int} (h : (m.strike d).it = some (ti, lf)) : ∃ ti', m.it = some (ti', lf) ∧ ∀ t ∈ ti, t ∈ ti' ∧ d ≠ some t := by
 cases d with
 | none => exact ⟨ti, h, fun t ht => ⟨ht, by simp⟩⟩
 | some d =>
  have h' : (m.it.map fun x => (qfh d x.1, x.2)) = some (ti, lf) := h
  obtain ⟨⟨ti', lf'⟩, h1, h2⟩ := Option.map_eq_some_iff.1 h'
  simp only [Prod.mk.injEq] at h2
  obtain ⟨rfl, rfl⟩ := h2
  exact ⟨ti', h1, fun t ht => by
   have h3 := qdj.1 ht
   exact ⟨h3.1, fun e => h3.2 (by injection e with e; exact e.symm)⟩⟩
theorem qbW {m : Ms} {d : Option Nat} : (m.strike d).kt = m.kt ∧ (m.strike d).vt = m.vt ∧ (m.strike d).kv = m.kv ∧ (m.strike d).cur = m.cur := by
 cases d <;> exact ⟨rfl, rfl, rfl, rfl⟩
theorem MOKb.step {m : Ms} {os os' : Nat → Option Obj} {d : Option Nat} {v : Value} {b : Nat} (h : MOKb P C m os a w H Φ b)
  (hk : ∀ b, qaB C w H Φ os b → (¬ ∃ c t f, w.heap[b]? = some (.cells c t f)) → qaB C w' H' Φ' os' b ∧ w'.heap[b]? = w.heap[b]?) {m' : Ms} (hm : m' = (m.strike d).calm ∨ (w' = w ∧ m' = m.strike d)) :
  MOKb P C m' os' (a.put d v) w' H' Φ' b := by
 obtain ⟨h1, h2, hb, hat, htm, hit⟩ := h
 obtain ⟨k1, k2⟩ := hk b hb hat.not_cells
 have e : m'.kt = m.kt ∧ m'.vt = m.vt ∧ m'.kv = m.kv ∧ m'.tm = (m.strike d).tm ∧ m'.it = (m.strike d).it := by
  rcases hm with rfl | ⟨_, rfl⟩
  ·exact ⟨qbW.1, qbW.2.1, qbW.2.2.1, rfl, rfl⟩
  ·exact ⟨qbW.1, qbW.2.1, qbW.2.2.1, rfl, rfl⟩
 obtain ⟨e1, e2, e3, e4, e5⟩ := e
 refine ⟨by rw [e1]; exact h1, by rw [e2]; exact h2, k1, ?_, ?_, ?_⟩
 ·have := hat.block k2
  unfold qfo at this ⊢
  rw [e1, e2, e3]; exact this
 ·intro t ht
  rw [e4] at ht
  obtain ⟨q1, q2⟩ := qem ht
  rw [qbj q2]
  exact htm t q1
 ·intro ti lf hti
  rw [e5] at hti
  obtain ⟨ti', q1, q2⟩ := qhT hti
  obtain ⟨i, hi, hia, hit2, hcur⟩ := hit ti' lf q1
  obtain ⟨k3, k4⟩ := hk i hi hia.not_cells
  refine ⟨i, k3, ?_, fun t ht => ?_, fun n u hc => ?_⟩
  ·have := hia.block k2 k4
   unfold qc7 at this ⊢
   rw [e1, e2, e3]; exact this
  ·obtain ⟨q3, q4⟩ := q2 t ht
   rw [qbj q4]
   exact hit2 t q3
  ·rcases hm with rfl | ⟨rfl, rfl⟩
   ·cases hc
   ·exact hcur n u (by rw [← (qbW (m := m) (d := d)).2.2.2]; exact hc)
theorem MOK.step {m : Ms} {os os' : Nat → Option Obj} {d : Option Nat} {v : Value} (h : MOK P C m os a w H Φ)
  (hk : ∀ b, qaB C w H Φ os b → (¬ ∃ c t f, w.heap[b]? = some (.cells c t f)) → qaB C w' H' Φ' os' b ∧ w'.heap[b]? = w.heap[b]?) {m' : Ms} (hm : m' = (m.strike d).calm ∨ (w' = w ∧ m' = m.strike d)) :
  MOK P C m' os' (a.put d v) w' H' Φ' := by
 obtain ⟨b, h⟩ := h
 exact ⟨b, h.step hk hm⟩
theorem qen {d : Option Nat} {v : Value} (hs : qm P C s a w H Φ) (hM : qcm P C s.mp s.obj a w H Φ) (h : Sim P (reC C w H) s' (a.put d v) w') {mp : Option Ms}
  (hm : mp = none ∨ ∃ m m', s.mp = some m ∧ mp = some m' ∧ (m' = (m.strike d).calm ∨ (w' = w ∧ m' = m.strike d))) : jY P C (s'.withM mp) (a.put d v) w' := by
 obtain ⟨H', Φ', h⟩ := h
 obtain ⟨k1, k2⟩ := hs.unbase h
 refine ⟨H', Φ', k1.withM mp, ?_⟩
 rcases hm with rfl | ⟨m, m', e1, rfl, hm⟩
 ·trivial
 ·rw [e1] at hM
  exact MOK.step hM k2 hm
theorem qm.other (hs : qm P C s a w H Φ) {b : Nat} (hb : qaB C w H Φ s.obj b) (hm : j9 (· = b) w w') : qm P C (s.killIf AV.isUpd) a w' H Φ := by
 have hne : ∀ j o, s.obj j = some o → ∀ c ∈ (Φ j).fp, c ≠ b := fun j o ho c hc e => hb.obj j o ho (by rw [← e]; exact hc)
 have := hs.changes (s' := s.killIf AV.isUpd) (ch := fun _ => none) (F := AV.isUpd) (w' := w') (H' := H) (fun id x hx => by cases hx) (fun id => rfl) (fun t => St.get_killIf _ _ _) (fun id x hx => by cases hx) (fun _ h => h) (FH.le_refl _)
  (hs.hok.mod hm (fun k hk => by rw [hk]; exact hb.fz)) hs.hnew (hs.mod.trans_new hm (fun k hk => by rw [hk]; exact hb.may)) hm.size
  (fun j o' _ ho c hc => ⟨hm.block c ((hs.os j o' ho).2 c hc).2.2 (hne j o' ho c hc), ((hs.os j o' ho).2 c hc).1⟩) (fun id x hx => by cases hx) (fun i j x y _ hx => by cases hx)
 exact this
end
def qcn (P : Program) (C : Ctx) (o : Oper) (a : Act) (w : World) (s' : St) : Prop :=
 match (execOp a.eval o).run P w with
 | .ok (.value v) w' => jY P C s' (a.put o.dst v) w'
 | .ok .skip w' => jY P C s' (a.put o.dst undef) w'
 | .ok (.enter f args) w' => Calls P f args w' fun e w'' => ∃ v, e = .returned v ∧ jY P C s' (a.put o.dst v) w''
 | _ => False
section
variable {P : Program} {C : Ctx} {cfg : qS} {R : Type} {r : R} {s s' : St} {a : Act} {w w' : World} {H H' : FH} {Φ Φ' : Nat → qF} {dst : Option Nat} {ty : TypeId} {pos : String} {after : Array Edge} {guard : Option (Nat × Bool)} {k : St → Option R}
theorem qbG {o : Oper} {v : Value} (hrun : (execOp a.eval o).run P w = .ok (.value v) w') (h : jY P C s' (a.put o.dst v) w') : qcn P C o a w s' := by
 unfold qcn; rw [hrun]; exact h
theorem qky {o : Oper} (hrun : (execOp a.eval o).run P w = .ok .skip w') (h : jY P C s' (a.put o.dst undef) w') : qcn P C o a w s' := by
 unfold qcn; rw [hrun]; exact h
theorem qig {o : Oper} (hs : qm P C s a w H Φ) (hM : qcm P C s.mp s.obj a w H Φ) (h : qbc P (reC C w H) o a w s') {mp : Option Ms} (hm : mp = none ∨ ∃ m, s.mp = some m ∧ mp = some (m.strike o.dst).calm) : qcn P C o a w (s'.withM mp) := by
 have hm' : ∀ w', mp = none ∨ ∃ m m', s.mp = some m ∧ mp = some m' ∧ (m' = (m.strike o.dst).calm ∨ (w' = w ∧ m' = m.strike o.dst)) := fun w' => hm.imp_right (fun ⟨m, e1, e2⟩ => ⟨m, _, e1, e2, .inl rfl⟩)
 unfold qbc at h
 unfold qcn
 split at h
 ·rename_i v w' e; rw [e]; exact qen hs hM h (hm' _)
 ·rename_i w' e; rw [e]; exact qen hs hM h (hm' _)
 ·rename_i f args w' e
  rw [e]
  refine h.mono ?_
  rintro e w'' ⟨v, he, hsim⟩
  exact ⟨v, he, qen hs hM hsim (hm' _)⟩
 ·exact h.elim
theorem qj9 {o : Oper} (hs : qm P C s a w H Φ) (hM : qcm P C s.mp s.obj a w H Φ) (h : qaq P (reC C w H) o a w s') {mp : Option Ms} (hm : mp = none ∨ ∃ m, s.mp = some m ∧ mp = some (m.strike o.dst)) : qcn P C o a w (s'.withM mp) := by
 obtain ⟨v, h1, h2⟩ := h
 exact qbG (h1 w (j9.refl _ _)) (qen hs hM h2 (hm.imp_right (fun ⟨m, e1, e2⟩ => ⟨m, _, e1, e2, .inr ⟨rfl, rfl⟩⟩)))
theorem qet (hs : qm P C s a w H Φ) {x : Operand} {n : Int} (h : qfI s x = some n) : a.eval x = .int .i64 n := by
 unfold qfI at h
 split at h
 ·rename_i he
  cases h
  exact (qs hs qK he).int
 ·cases h
theorem qfe {n : Int} {k : Option R} (h : inI n k = some r) : (Lit.int .i64 n).wf = true ∧ k = some r := by
 rw [inI_eq] at h
 split at h
 ·rename_i hh
  refine ⟨?_, h⟩
  have e1 : IntKind.i64.min = -9223372036854775808 := by decide
  have e2 : IntKind.i64.max = 9223372036854775807 := by decide
  simp only [Lit.wf, e1, e2, Bool.and_eq_true, decide_eq_true_eq]
  exact hh
 ·cases h
theorem qcy {m : Ms} {x : Operand} {b : Nat} (htm : ∀ t ∈ m.tm, a.tmps.getD t undef = .map (some b)) (h : qbD m x = true) : a.eval x = .map (some b) := by
 cases x with
 | tmp t => exact htm t (qdd.1 h)
 | _ => cases h
theorem qku {m : Ms} {x : Operand} (h : qdA m x = true) : ∃ t ti lf, x = .tmp t ∧ m.it = some (ti, lf) ∧ t ∈ ti := by
 cases x with
 | tmp t =>
  unfold qdA at h
  simp only at h
  split at h
  ·rename_i ti lf e; exact ⟨t, ti, lf, rfl, e, qdd.1 h⟩
  ·cases h
 | _ => cases h
theorem qke (vt : TypeId) (hv : qZ P vt (.int .i64)) : plainElem (H := Unit) P vt (.int .i64 0) = some (.lit (.int .i64 0), []) := plainElem_int hv.int (by decide)
theorem qe8 {k : TypeId} {Rd : Value → Option (MD × List MemPlace)} {b n : Nat} {D : MD} (h : w.ownsMap P k Rd b n D) : w.ownsMap P k Rd b (Maps.size D) D := by
 obtain ⟨es, clock, h1, h2, _, rfl⟩ := h
 exact ⟨es, clock, h1, h2, by simp [Maps.size, length_sorted], rfl⟩
theorem j9.of_grown {b : Nat} (h : w.grownBy w' (some b)) : j9 (· = b) w w' := ⟨h.os, h.tape, h.output, h.size, fun i hi hne => h.block i hi (fun e => hne (by injection e))⟩
theorem j9.of_grown0 (h : w.grownBy w' none) : j9 jO w w' := ⟨h.os, h.tape, h.output, h.size, fun i hi _ => h.block i hi (by simp)⟩
theorem qaB.keep {b c : Nat} (h : qaB C w H Φ s.obj c) (hm : j9 (· = b) w w') : qaB C w' H Φ (s.killIf AV.isUpd).obj c := ⟨h.fz, h.obj, h.may, Nat.lt_of_lt_of_le h.lt hm.size⟩
theorem MOK.iter_at {m : Ms} {os : Nat → Option Obj} (h : MOK P C m os a w H Φ) {x : Operand} (hx : qdA m x = true) : ∃ b ti lf i, m.it = some (ti, lf) ∧ a.eval x = .pointer (some ⟨i, 0, none⟩) ∧ qaB C w H Φ os b ∧ (∀ t ∈ m.tm, a.tmps.getD t undef = .map (some b)) ∧ qaB C w H Φ os i ∧ qc7 P w m b i lf ∧
  (∀ t ∈ ti, a.tmps.getD t undef = .pointer (some ⟨i, 0, none⟩)) ∧ ∀ n v, m.cur = some (n, v) → (Instr.entry (.pointer (some ⟨i, 0, none⟩))).run P w = .ok (.tuple #[.int .i64 n, .int .i64 v]) w := by
 obtain ⟨t, ti, lf, rfl, hit, ht⟩ := qku hx
 obtain ⟨b, _, _, hb, hat, htm, hi⟩ := h
 obtain ⟨i, h1, h2, h3, h4⟩ := hi ti lf hit
 exact ⟨b, ti, lf, i, hit, h3 t ht, hb, htm, h1, h2, h3, h4⟩
theorem qj4 (hcfg : qB P cfg) (hC : qM C cfg) (habs : ∀ {C' : Ctx} {o : Oper} {k' : St → Option R}, qM C' cfg → qm P C' s a w H Φ → qU cfg.nt o.dst = true → qT cfg o s k' = some r → ∃ s', k' s' = some r ∧ (j6 o = true → qaq P C' o a w s') ∧ qbc P C' o a w s')
  {o : Oper} {m : Ms} (hs : qm P C s a w H Φ) (hmp : s.mp = some m) (hM : MOK P C m s.obj a w H Φ) (hd : qU cfg.nt o.dst = true) (h : qkN cfg o s m k = some r) : ∃ s', k s' = some r ∧ qcn P C o a w s' := by
 have hM' : qcm P C s.mp s.obj a w H Φ := by rw [hmp]; exact hM
 have hdC : qU C.nt o.dst = true := by rw [hC.nt]; exact hd
 have def1 : ∀ {k' : St → Option R}, (k' = fun s' => k (s'.withM (some (bif j6 o then m.strike o.dst else (m.strike o.dst).calm)))) → qT cfg o s k' = some r → ∃ s', k s' = some r ∧ qcn P C o a w s' := by
  rintro k' rfl h
  obtain ⟨s', h1, h2, h3⟩ := habs (qgN hC) hs.rebase hd h
  cases hst : j6 o with
  | true =>
   rw [hst, cond_true] at h1
   exact ⟨_, h1, qj9 hs hM' (h2 hst) (.inr ⟨m, hmp, rfl⟩)⟩
  | false =>
   rw [hst, cond_false] at h1
   exact ⟨_, h1, qig hs hM' h3 (.inr ⟨m, hmp, rfl⟩)⟩
 have same : ∀ {v : Value} {av : AV}, qn P C w H Φ s.obj av v → (execOp a.eval o).run P w = .ok (.value v) w → qcn P C o a w ((s.setDst o.dst av).withM (some (m.strike o.dst))) := by
  intro v av hv hrun
  refine qbG hrun ⟨H, Φ, (hs.setDst hdC hv).withM _, ?_⟩
  have ho : ((s.setDst o.dst av).withM (some (m.strike o.dst))).obj = s.obj := by unfold St.setDst; cases o.dst <;> rfl
  show MOK P C _ ((s.setDst o.dst av).withM (some (m.strike o.dst))).obj _ w H Φ
  rw [ho]
  exact MOK.step hM (fun b hb _ => ⟨hb, rfl⟩) (.inr ⟨rfl, rfl⟩)
 obtain ⟨b, hk, hv, hb, ⟨D, hown, hrel⟩, htm, hit⟩ := id hM
 have K := Maps.int_keyed hk.int
 have move_case : ∀ (x : Operand), (o.op = .move x ∨ o.op = .assign x) → qT cfg o s (fun s' => k (s'.withM (some (bif qbD m x then (m.strike o.dst).add o.dst else m.strike o.dst)))) = some r → ∃ s', k s' = some r ∧ qcn P C o a w s' := by
  intro x hop h
  have hst : j6 o = true := by rcases hop with e | e <;> simp [j6, e]
  cases hq : qbD m x with
  | false =>
   rw [hq] at h
   exact def1 (by rw [hst]; rfl) h
  | true =>
   rw [hq] at h
   simp only [cond_true] at h
   obtain ⟨s', h1, h2, _⟩ := habs (qgN hC) hs.rebase hd h
   obtain ⟨v, g1, H', Φ', g2⟩ := h2 hst
   have g1 := g1 w (j9.refl _ _)
   have hrun : (execOp a.eval o).run P w = .ok (.value (a.eval x)) w := by
    obtain ⟨dst, op, ty, pos, after, guard⟩ := o
    rcases hop with e | e <;> (simp only at e; subst e; rfl)
   rw [hrun] at g1
   have hv : v = a.eval x := by injection g1 with g1 _; injection g1 with g1; exact g1.symm
   subst hv
   obtain ⟨k1, k2⟩ := hs.unbase g2
   obtain ⟨b, hM⟩ := id hM
   have hb := hM.step (d := o.dst) (v := a.eval x) k2 (.inr ⟨rfl, rfl⟩)
   refine ⟨_, h1, qbG hrun ⟨H', Φ', k1.withM _, b, ?_⟩⟩
   have hx := qcy hM.2.2.2.2.1 hq
   cases hdst : o.dst with
   | none => rw [hdst] at hb; exact hb
   | some d =>
    rw [hdst] at hb hd
    obtain ⟨q1, q2, q3, q4, q5, q6⟩ := hb
    refine ⟨q1, q2, q3, q4, fun t ht => ?_, q6⟩
    rcases List.mem_cons.1 ht with rfl | ht
    ·rw [qcN (by rw [hs.size, hC.nt]; exact Eq.mp Nat.blt_eq hd), if_pos rfl]
     exact hx
    ·exact q5 t ht
 obtain ⟨dst, op, ty, pos, after, guard⟩ := o
 simp only at hdC
 unfold qkN at h
 split at h
 ·-- lookup
  rename_i T x i hop
  simp only at hop
  subst hop
  cases hq : qbD m x && decide (lk cfg.maps T = some (m.kt, m.vt)) with
  | false => rw [hq] at h; cases h
  | true =>
  rw [hq, cond_true] at h
  rw [Bool.and_eq_true] at hq
  have hx := qcy htm hq.1
  obtain ⟨hT, _, _⟩ := hcfg.maps T _ _ (of_decide_eq_true hq.2)
  split at h
  case h_2 => cases h
  rename_i n hn
  have hi := qet hs hn
  obtain ⟨hwf, h⟩ := qfe h
  obtain ⟨v, ps, hrun, hRv⟩ := hown.look_ok K hT (hv.zeroValue w) (qke m.vt hv) (Maps.keyOf_int_mk hk.int hwf)
  rw [hrel.val] at hRv
  rw [hrel.has] at hrun
  split at h
  ·rename_i u hu
   rw [hu] at hRv hrun
   obtain ⟨c, rfl, hc, _⟩ := plainElem_int_inv hv.int hRv
   simp only [Prod.mk.injEq, DataW.lit.injEq, Lit.int.injEq, true_and] at hc
   obtain ⟨rfl, _⟩ := hc
   exact ⟨_, h, same (v := .tuple #[.int .i64 u, .bool true]) ⟨.int .i64 u, [.bool true], rfl, qn.mk_int _ _ _ _ _ _, .bool true, [], rfl, qn.mk_bool _ _ _ _ _, rfl⟩ (by simp [execOp, hx, hi, hrun])⟩
  ·rename_i hu
   rw [hu] at hRv hrun
   obtain ⟨c, rfl, hc, _⟩ := plainElem_int_inv hv.int hRv
   simp only [Prod.mk.injEq, DataW.lit.injEq, Lit.int.injEq, true_and] at hc
   obtain ⟨rfl, _⟩ := hc
   exact ⟨_, h, same (v := .tuple #[.int .i64 0, .bool false]) ⟨.int .i64 0, [.bool false], rfl, qn.mk_int _ _ _ _ _ _, .bool false, [], rfl, qn.mk_bool _ _ _ _ _, rfl⟩ (by simp [execOp, hx, hi, hrun])⟩
 ·-- a store
  rename_i T x i y hop
  simp only at hop
  subst hop
  cases hq : qbD m x && decide (lk cfg.maps T = some (m.kt, m.vt)) with
  | false => rw [hq] at h; cases h
  | true =>
  rw [hq, cond_true] at h
  rw [Bool.and_eq_true] at hq
  have hx := qcy htm hq.1
  obtain ⟨hT, _, _⟩ := hcfg.maps T _ _ (of_decide_eq_true hq.2)
  split at h
  case h_2 => cases h
  rename_i n u hn hu
  have hi := qet hs hn
  have hy := qet hs hu
  obtain ⟨hwf, h⟩ := qfe h
  obtain ⟨hwf2, h⟩ := qfe h
  obtain ⟨_, hlen, h⟩ := qes h
  have hkey := Maps.keyOf_int_mk hk.int hwf
  obtain ⟨w', hrun, hown', hturn⟩ := hown.store K hT (by unfold maxLen; omega) hkey (plainElem_int hv.int hwf2)
  have hmod := j9.of_grown hturn.grown
  have hrel' := hrel.put (hown.tidy K) (K.key hkey) u
  refine ⟨_, h, qky (w' := w') (by simp [execOp, hx, hi, hy, hrun]) ⟨H, Φ, ((hs.other hb hmod).setDst hdC (av := .dead) (v := undef) trivial).withM _, ?_⟩⟩
  have ho : ∀ mm, ((((s.killIf AV.isUpd).setDst dst .dead)).withM mm).obj = s.obj := by intro mm; unfold St.setDst; cases dst <;> rfl
  show MOK P C _ _ _ _ _ _
  rw [ho]
  refine ⟨b, hk, hv, hb.keep hmod, ⟨_, ?_, hrel'⟩, fun t ht => ?_, fun ti lf e => by cases e⟩
  ·rw [← hrel'.size]
   exact qe8 hown'
  ·obtain ⟨q1, q2⟩ := qem ht
   rw [qbj q2]; exact htm t q1
 ·-- range
  rename_i T x hop
  simp only at hop
  subst hop
  split at h
  case h_2 => cases h
  rename_i d hdst
  simp only at hdst
  subst hdst
  cases hq : qbD m x && decide (lk cfg.maps T = some (m.kt, m.vt)) with
  | false => rw [hq] at h; cases h
  | true =>
  rw [hq, cond_true] at h
  rw [Bool.and_eq_true] at hq
  have hx := qcy htm hq.1
  obtain ⟨hT, _, _⟩ := hcfg.maps T _ _ (of_decide_eq_true hq.2)
  obtain ⟨w', hrun, hrg, hgr, hsz⟩ := hown.range K hT
  have hmod := j9.of_grown0 hgr
  have hs2 := (hs.grow hmod).set (d := d) (av := .dead) (v := .pointer (some ⟨w.heap.size, 0, none⟩)) (Eq.mp Nat.blt_eq hdC) trivial
  refine ⟨_, h, qbG (w' := w') (v := .pointer (some ⟨w.heap.size, 0, none⟩)) (by simp [execOp, hx, hrun]) ⟨H, Φ, hs2.withM _, ?_⟩⟩
  have hfr : ∀ c, qaB C w H Φ s.obj c → qaB C w' H Φ s.obj c := fun c hc => ⟨hc.fz, hc.obj, hc.may, by have := hc.lt; omega⟩
  refine ⟨b, hk, hv, hfr b hb, ⟨D, ?_, hrel⟩, fun t ht => ?_, ?_⟩
  ·exact hrg.owns
  ·have ht' := qdj.1 ht
   rw [qbj (fun e => ht'.2 (by injection e with e; exact e.symm))]
   exact htm t ht'.1
  ·rintro ti lf e
   cases e
   refine ⟨w.heap.size, ⟨?_, ?_, .inr hs.mod.size, by omega⟩, ⟨D, _, _, hrg, hrel, fun n => ?_⟩, fun t ht => ?_, fun n v e => by cases e⟩
   ·cases hq : H w.heap.size with
    | none => rfl
    | some c => obtain ⟨t, f, h⟩ := hs.hok _ _ hq; exact absurd (Array.getElem?_eq_some_iff.1 h).1 (by omega)
   ·intro id o ho hbf
    have := ((hs.os id o ho).2 _ hbf).2.2
    omega
   ·rw [hrel.has]; exact qks
   ·rw [List.mem_singleton.1 ht]
    rw [qcN (by rw [hs.size]; exact Eq.mp Nat.blt_eq hdC), if_pos rfl]
 ·-- next
  rename_i x hop
  simp only at hop
  subst hop
  cases hq : qdA m x with
  | false => rw [hq] at h; cases h
  | true =>
  rw [hq, cond_true] at h
  obtain ⟨b2, ti0, lf0, i, hit0, hx, hb2, htm2, hi, hia, hti, hcur⟩ := hM.iter_at hq
  split at h
  case h_2 => cases h
  rename_i ti lf hti'
  obtain ⟨ti'', e1, e2⟩ := qhT hti'
  rw [hit0] at e1
  obtain ⟨rfl, rfl⟩ : ti'' = ti0 ∧ lf = lf0 := by injection e1 with e1; injection e1 with e1 e2; exact ⟨e1.symm, e2.symm⟩
  obtain ⟨D2, left, cnt, hrg, hrel2, hleft⟩ := hia
  rcases hrg.next K ty with ⟨_, hnone, hrun⟩ | ⟨key, val, kl, y, w', cnt', hkey, hlk, hRv, hat, hrun, hrg', _, hgr, hsz, hent⟩
  ·have hnil : lf = [] := by
    match lf, hleft with
    | [], _ => rfl
    | n :: l, hleft =>
     have := (hleft n).2 (by simp)
     rw [hnone] at this; cases this
   subst hnil
   simp only at h
   refine ⟨_, h, qbG (w' := w) (v := .tuple #[.bool false]) (by simp [execOp, hx, hrun]) ⟨H, Φ, (hs.setDst hdC (av := .cons (.val .bool false) .nil) (v := .tuple #[.bool false]) ⟨.bool false, [], rfl, qn.mk_bool _ _ _ _ _, rfl⟩).withM _, ?_⟩⟩
   have ho : ∀ mm, (((s.setDst dst (.cons (.val .bool false) .nil))).withM mm).obj = s.obj := by intro mm; unfold St.setDst; cases dst <;> rfl
   show MOK P C _ _ _ _ _ _
   rw [ho]
   exact MOK.step hM (fun b hb _ => ⟨hb, rfl⟩) (.inl rfl)
  ·obtain ⟨n, rfl, rfl, hwf⟩ := Maps.keyOf_int_inv hk.int hkey
   have hmem : n ∈ lf := (hleft n).1 hlk
   have h' : (match lkI m.kv n with
    | some v => k (((s.killIf AV.isUpd).setDst dst (.cons (.val .bool true) (.cons (avI n) (.cons (avI v) .nil)))).withM (some ⟨m.kt, m.vt, (m.strike dst).tm, m.kv, some (ti, qhn n lf), some (n, v)⟩))
    | none => none) = some r := by
    split at h
    ·cases hmem
    ·exact qho h n hmem
   obtain ⟨v0, hv0⟩ : ∃ v0, lkI m.kv n = some v0 := by
    cases hq : lkI m.kv n with
    | none => rw [hq] at h'; cases h'
    | some v0 => exact ⟨v0, rfl⟩
   rw [hv0] at h'
   have hval := hat (.lit (.int .i64 0))
   rw [hrel2.val, hv0] at hval
   simp only at hval
   obtain ⟨y1, y2⟩ := y
   simp only at hval
   subst hval
   obtain ⟨c, rfl, hc, _⟩ := plainElem_int_inv hv.int hRv
   simp only [Prod.mk.injEq, DataW.lit.injEq, Lit.int.injEq, true_and] at hc
   obtain ⟨rfl, _⟩ := hc
   have hmod := j9.of_grown hgr
   refine ⟨_, h', qbG (w' := w') (v := .tuple #[.bool true, .int .i64 n, .int .i64 v0]) (by simp [execOp, hx, hrun])
    ⟨H, Φ, ((hs.other hi hmod).setDst hdC (av := .cons (.val .bool true) (.cons (avI n) (.cons (avI v0) .nil))) (v := .tuple #[.bool true, .int .i64 n, .int .i64 v0])
     ⟨.bool true, [.int .i64 n, .int .i64 v0], rfl, qn.mk_bool _ _ _ _ _, .int .i64 n, [.int .i64 v0], rfl, qn.mk_int _ _ _ _ _ _, .int .i64 v0, [], rfl, qn.mk_int _ _ _ _ _ _, rfl⟩).withM _, ?_⟩⟩
   have ho : ∀ av mm, ((((s.killIf AV.isUpd).setDst dst av)).withM mm).obj = s.obj := by intro av mm; unfold St.setDst; cases dst <;> rfl
   show MOK P C _ _ _ _ _ _
   rw [ho]
   refine ⟨b2, hk, hv, hb2.keep hmod, ⟨D2, hrg'.owns, hrel2⟩, fun t ht => ?_, ?_⟩
   ·obtain ⟨q1, q2⟩ := qem ht
    rw [qbj q2]; exact htm2 t q1
   ·rintro ti3 lf3 e
    cases e
    refine ⟨i, hi.keep hmod, ⟨D2, _, cnt', hrg', hrel2, fun j => ?_⟩, fun t ht => ?_, ?_⟩
    ·rw [Bool.and_eq_true, hleft, qfR]
     refine and_congr_right (fun _ => ?_)
     constructor
     ·intro hs2 e
      subst e
      rw [WideAt.sameKey_self (K.key hkey)] at hs2
      cases hs2
     ·intro hne
      rw [Maps.sameKey_ne (qg9 hne)]; rfl
    ·obtain ⟨q1, q2⟩ := e2 t ht
     rw [qbj q2]; exact hti t q1
    ·rintro n2 v2 e
     cases e
     exact hent
 ·-- entry
  rename_i x hop
  simp only at hop
  subst hop
  cases hq : qdA m x with
  | false => rw [hq] at h; cases h
  | true =>
  rw [hq, cond_true] at h
  obtain ⟨b2, ti0, lf0, i, hit0, hx, hb2, htm2, hi, hia, hti, hcur⟩ := hM.iter_at hq
  split at h
  case h_2 => cases h
  rename_i n v hc
  have hrun := hcur n v hc
  exact ⟨_, h, same (v := .tuple #[.int .i64 n, .int .i64 v]) ⟨.int .i64 n, [.int .i64 v], rfl, qn.mk_int _ _ _ _ _ _, .int .i64 v, [], rfl, qn.mk_int _ _ _ _ _ _, rfl⟩ (by simp [execOp, hx, hrun])⟩
 ·-- a call
  rename_i c hop
  simp only at hop
  subst hop
  split at h
  ·-- len
   rename_i hc
   split at h
   case h_2 => cases h
   rename_i x T hxl hTl
   cases hq : qbD m x && decide (lk cfg.maps T = some (m.kt, m.vt)) with
   | false =>
    rw [hq, cond_false] at h
    have hst : j6 ⟨dst, .call c, ty, pos, after, guard⟩ = true := by simp [j6, hc]
    exact def1 (by rw [hst]; rfl) h
   | true =>
    rw [hq, cond_true] at h
    rw [Bool.and_eq_true] at hq
    have hx := qcy htm hq.1
    obtain ⟨hT, _, _⟩ := hcfg.maps T _ _ (of_decide_eq_true hq.2)
    have hrun := hown.len hT ty
    rw [hrel.size] at hrun
    have e2 : c = ⟨.builtin .len, #[x], #[T]⟩ := by
     obtain ⟨c1, c2, c3⟩ := c
     simp only at hc hxl hTl
     rw [hc, ← Array.toArray_toList (xs := c2), hxl, ← Array.toArray_toList (xs := c3), hTl]
    subst e2
    exact ⟨_, h, same (qn.mk_int w H Φ s.obj .i64 m.kv.length) (by simp [execOp, resolve, invoke, builtin, hx, hrun])⟩
  ·-- delete
   rename_i hc
   split at h
   case h_2 => cases h
   rename_i x i T T' hxl hTl
   cases hq : qbD m x && decide (lk cfg.maps T = some (m.kt, m.vt)) && Nat.beq T' m.kt with
   | false => rw [hq] at h; cases h
   | true =>
   rw [hq, cond_true] at h
   rw [Bool.and_eq_true, Bool.and_eq_true] at hq
   have hx := qcy htm hq.1.1
   have hT' := Nat.eq_of_beq_eq_true hq.2
   subst hT'
   obtain ⟨hT, _, _⟩ := hcfg.maps T _ _ (of_decide_eq_true hq.1.2)
   split at h
   case h_2 => cases h
   rename_i n hn
   have hi := qet hs hn
   obtain ⟨hwf, h⟩ := qfe h
   have hkey := Maps.keyOf_int_mk hk.int hwf
   obtain ⟨w', hrun, hown', hturn⟩ := hown.drop K hT hkey ty
   have hmod := j9.of_grown hturn.grown
   have hrel' := hrel.del (hown.tidy K) n
   have e2 : c = ⟨.builtin .delete, #[x, i], #[T, m.kt]⟩ := by
    obtain ⟨c1, c2, c3⟩ := c
    simp only at hc hxl hTl
    rw [hc, ← Array.toArray_toList (xs := c2), hxl, ← Array.toArray_toList (xs := c3), hTl]
   subst e2
   refine ⟨_, h, qbG (w' := w') (v := .tuple #[]) (by simp [execOp, resolve, invoke, builtin, hx, hi, hrun]) ⟨H, Φ, ((hs.other hb hmod).setDst hdC (av := .nil) (v := .tuple #[]) rfl).withM _, ?_⟩⟩
   have ho : ∀ mm, ((((s.killIf AV.isUpd).setDst dst .nil)).withM mm).obj = s.obj := by intro mm; unfold St.setDst; cases dst <;> rfl
   show MOK P C _ _ _ _ _ _
   rw [ho]
   refine ⟨b, hk, hv, hb.keep hmod, ⟨_, ?_, hrel'⟩, fun t ht => ?_, fun ti lf e => by cases e⟩
   ·rw [← hrel'.size]
    exact qe8 hown'
   ·obtain ⟨q1, q2⟩ := qem ht
    rw [qbj q2]; exact htm t q1
  ·exact def1 rfl h
 ·rename_i x hop
  simp only at hop
  subst hop
  exact move_case x (.inl rfl) h
 ·rename_i x hop
  simp only at hop
  subst hop
  exact move_case x (.inr rfl) h
 ·exact def1 rfl h
end
end Go.Vi
namespace Go.Vi
def qcW (cfg : qS) (o : Oper) : Bool := j6 o || match o.op with
 | .call c => match c.callee with
  | .value (.func f) => match lk cfg.prims f with
   | some p => qgQ p && (lk cfg.alts f).isNone
   | none => false
  | _ => false
 | _ => false
section
variable {P : Program} {C : Ctx} {cfg : qS} {R : Type} {r : R} {s : St} {a : Act} {w : World} {H : FH} {Φ : Nat → qF}
theorem qcZ (hcfg : qB P cfg) (hC : qM C cfg) {o : Oper} {k : St → Option R} (hs : Sim P C s a w) (hd : qU cfg.nt o.dst = true) (hq : j6 o = true) (h : qT cfg o s k = some r) : ∃ s', k s' = some r ∧ qaq P C o a w s' := by
 obtain ⟨H, Φ, hs⟩ := hs
 obtain ⟨dst, op, ty, pos, after, guard⟩ := o
 cases op
 case move => exact op_move hcfg hC hs hd h
 case assign => exact qlt hcfg hC hs hd h
 case pick => exact op_pick hcfg hC hs hd h
 case load => exact op_load hcfg hC hs hd h
 case nilCheck => exact qjw hcfg hC hs hd h
 case binOp => exact op_binOp hcfg hC hs hd h
 case unOp => exact op_unOp hcfg hC hs hd h
 case convert => exact qkj hcfg hC hs hd h
 case fieldAddr => exact qiB hcfg hC hs hd h
 case indexAddr => exact qiA hcfg hC hs hd h
 case extract => exact qki hcfg hC hs hd h
 case slice => exact op_slice hcfg hC hs hd h
 case makeFunc fn first caps =>
  cases fn
  case func f => exact qjy hcfg hC hs hd h
  all_goals cases hq
 case call c =>
  simp only [j6] at hq
  split at hq
  ·rename_i hc; exact op_len hcfg hC hc hs hd h
  ·rename_i hc; exact op_max hcfg hC hc hs hd h
  ·rename_i hc; exact op_min hcfg hC hc hs hd h
  ·cases hq
 all_goals cases hq
theorem qj2 (hcfg : qB P cfg) (hC : qM C cfg) {o : Oper} {k : St → Option R} (hs : Sim P C s a w) (hd : qU cfg.nt o.dst = true) (hq : qcW cfg o = true) (h : qT cfg o s k = some r) : ∃ s', k s' = some r ∧ Quiet P C o a w s' := by
 unfold qcW at hq
 cases hst : j6 o with
 | true =>
  obtain ⟨s', h1, h2⟩ := qcZ hcfg hC hs hd hst h
  exact ⟨s', h1, h2.quiet⟩
 | false =>
  rw [hst, Bool.false_or] at hq
  obtain ⟨H, Φ, hs⟩ := hs
  obtain ⟨dst, op, ty, pos, after, guard⟩ := o
  cases op
  case call c =>
   simp only at hq
   split at hq
   ·rename_i f hc
    split at hq
    ·rename_i p hp
     exact op_callq hcfg hC hc hp (Option.isNone_iff_eq_none.1 (Bool.and_eq_true_iff.1 hq).2) (Bool.and_eq_true_iff.1 hq).1 hs hd h
    ·cases hq
   ·cases hq
  all_goals cases hq
theorem qkM (hcfg : qB P cfg) (hC : qM C cfg) {o : Oper} {k : St → Option R} (hs : Sim P C s a w) (hd : qU cfg.nt o.dst = true) (h : qT cfg o s k = some r) : ∃ s', k s' = some r ∧ qbc P C o a w s' := by
 cases hst : j6 o with
 | true =>
  obtain ⟨s', h1, h2⟩ := qcZ hcfg hC hs hd hst h
  exact ⟨s', h1, h2.quiet.goes⟩
 | false =>
 obtain ⟨H, Φ, hs⟩ := hs
 obtain ⟨dst, op, ty, pos, after, guard⟩ := o
 cases op
 case alloc => exact op_alloc hcfg hC hs hd h
 case box => exact op_box hcfg hC hs hd h
 case store => exact op_store hcfg hC hs hd h
 case makeSlice => exact qiz hcfg hC hs hd h
 case build => exact op_build hcfg hC hs hd h
 case buildSlice => exact qhL hcfg hC hs hd h
 case call c =>
  match hc : c.callee with
  | .value f => exact op_callv hcfg hC hc hs hd h
  | .invoke _ _ => simp [qT, hc] at h
  | .builtin b =>
   cases b
   case append => exact qlu hcfg hC hc hs hd h
   case copy => exact op_copy hcfg hC hc hs hd h
   case clear => exact op_clear hcfg hC hc hs hd h
   case len => simp [j6, hc] at hst
   case max => simp [j6, hc] at hst
   case min => simp [j6, hc] at hst
   all_goals simp [qT, hc] at h
 all_goals first | (simp [j6] at hst; done) | (simp only [qT] at h; cases h; done) | (rename_i fn _ _; cases fn <;> first | (simp [j6] at hst; done) | (simp only [qT] at h; cases h; done))
theorem qhy (hcfg : qB P cfg) (hC : qM C cfg) {o : Oper} {k : St → Option R} (hs : qm P C s a w H Φ) (hd : qU cfg.nt o.dst = true) (h : qT cfg o s k = some r) : ∃ s', k s' = some r ∧ (j6 o = true → qaq P C o a w s') ∧ qbc P C o a w s' := by
 cases hst : j6 o with
 | true =>
  obtain ⟨s', h1, h2⟩ := qcZ hcfg hC ⟨H, Φ, hs⟩ hd hst h
  exact ⟨s', h1, fun _ => h2, h2.quiet.goes⟩
 | false =>
  obtain ⟨s', h1, h2⟩ := qkM hcfg hC ⟨H, Φ, hs⟩ hd h
  exact ⟨s', h1, (fun e => by cases e), h2⟩
theorem Sim.withM (h : Sim P C s a w) (m : Option Ms) : Sim P C (s.withM m) a w := by obtain ⟨H, Φ, h⟩ := h; exact ⟨H, Φ, h.withM m⟩
theorem qce (hcfg : qB P cfg) (hC : qM C cfg) {o : Oper} {k : St → Option R} (hs : jY P C s a w) (hd : qU cfg.nt o.dst = true) (h : qb3 cfg o s k = some r) : ∃ s', k s' = some r ∧ qcn P C o a w s' := by
 obtain ⟨H, Φ, hs, hM⟩ := hs
 unfold qb3 at h
 split at h
 ·rename_i hmp
  split at h
  ·rename_i T hop
   split at h
   case h_2 => cases h
   rename_i d kt vt hdst hT
   obtain ⟨hu, hk, hv⟩ := hcfg.maps T kt vt hT
   have hdl : d < C.nt := by rw [hdst] at hd; rw [hC.nt]; exact Eq.mp Nat.blt_eq hd
   have hmod := qb0 w (.map #[] 0)
   have hs2 := (hs.grow hmod).set (d := d) (av := .dead) (v := .map (some w.heap.size)) hdl trivial
   have hrun : (execOp a.eval o).run P w = .ok (.value (.map (some w.heap.size))) (w.alloc (.map #[] 0)) := by
    obtain ⟨dst, op, ty, pos, after, guard⟩ := o
    simp only at hop
    subst hop
    simp [execOp, RowKit.run_makeMap]
   refine ⟨_, h, qbG hrun ?_⟩
   rw [hdst]
   refine ⟨H, Φ, hs2.withM _, w.heap.size, hk, hv, ⟨?_, ?_, .inr hs.mod.size, by simp⟩, ⟨.map [], World.ownsMap_made _ _ _ _, qhD.empty⟩, fun t ht => ?_, fun ti lf e => by cases e⟩
   ·cases hq : H w.heap.size with
    | none => rfl
    | some c => obtain ⟨t, f, h⟩ := hs.hok _ _ hq; exact absurd (Array.getElem?_eq_some_iff.1 h).1 (by omega)
   ·intro id o ho hbf
    have := ((hs.os id o ho).2 _ hbf).2.2
    omega
   ·rw [List.mem_singleton.1 ht]
    rw [qcN (by rw [hs.size]; exact hdl), if_pos rfl]
  ·obtain ⟨s', h1, _, h3⟩ := qhy hcfg (qgN hC) hs.rebase hd h
   exact ⟨_, h1, qig hs hM h3 (.inl rfl)⟩
 ·rename_i m hmp
  rw [hmp] at hM
  exact qj4 hcfg hC (fun hC' hs' hd' h' => qhy hcfg hC' hs' hd' h') hs hmp hM hd h
theorem qge (hmp : s.mp = none) {o : Oper} (hq : qcW cfg o = true) {k : St → Option R} : qb3 cfg o s k = qT cfg o s fun s' => k (s'.withM none) := by
 unfold qb3
 rw [hmp]
 simp only
 split
 ·rename_i hop
  simp [qcW, j6, hop] at hq
 ·rfl
theorem qm.know (hs : qm P C s a w H Φ) {t : Nat} {av : AV} (hv : qn P C w H Φ s.obj av (a.tmps.getD t undef)) : qm P C (s.set t av) a w H Φ := by
 refine hs.weaken (fun _ _ h => h) ?_
 intro u av' hu
 rw [St.get_set] at hu
 split at hu
 ·rename_i e; subst e; cases hu; exact hv
 ·exact hs.ts u av' hu
theorem skip_obj (d : Option Nat) : (s.skip d).obj = s.obj := by unfold St.skip St.setDst; cases d <;> rfl
theorem jY.dead (hC : qM C cfg) (hs : jY P C s a w) {d : Option Nat} (hd : qU cfg.nt d = true) : jY P C (s.skip d) (a.put d undef) w := by
 obtain ⟨H, Φ, hs, hM⟩ := hs
 refine ⟨H, Φ, (hs.setDst (by rw [hC.nt]; exact hd) (av := .nil) rfl).withM _, ?_⟩
 rw [skip_obj]
 show qcm P C (s.mp.map fun m => m.strike d) s.obj _ w H Φ
 cases hmp : s.mp with
 | none => trivial
 | some m =>
  rw [hmp] at hM
  exact MOK.step hM (fun b hb _ => ⟨hb, rfl⟩) (.inr ⟨rfl, rfl⟩)
theorem qb2 {ops : Array Oper} {o : Oper} {rest : List Oper} {kk : St → Option R} (hs : jY P C s a w) (h : qav cfg ops kk (o :: rest) s = some r) :
  qU cfg.nt o.dst = true ∧ ((Region.wanted o (yielded ops a.tmps) = true ∧ ∃ s2, (jY P C s2 a w ∧ (s.mp = none → s2.mp = none)) ∧ qb3 cfg o s2 (fun s => qav cfg ops kk rest s) = some r) ∨
   (Region.wanted o (yielded ops a.tmps) = false ∧ ∃ s2, (jY P C s2 a w ∧ (s.mp = none → s2.mp = none)) ∧ qav cfg ops kk rest (s2.skip o.dst) = some r)) := by
 simp only [qav] at h
 cases hd : qU cfg.nt o.dst with
 | false => rw [hd] at h; cases h
 | true =>
 rw [hd, cond_true] at h
 refine ⟨rfl, ?_⟩
 unfold Region.wanted
 split at h
 ·rename_i hg
  rw [hg]
  exact .inl ⟨rfl, s, ⟨hs, id⟩, h⟩
 ·rename_i j want hg
  rw [hg]
  split at h
  ·cases h
  ·rename_i t ht
   split at h
   ·rename_i b hb
    obtain ⟨H, Φ, hs, hM⟩ := hs
    have hr := hs.ts t _ hb
    have hv := hr.bool
    have hy : yielded ops a.tmps j = some b := by
     unfold yielded
     rw [ht]
     simp only [Option.bind_some]
     rw [Array.getD_eq_getD_getElem?] at hv
     cases hq : a.tmps[t]? with
     | none => rw [hq] at hv; simp [undef] at hv
     | some u =>
      rw [hq] at hv
      simp only [Option.getD_some] at hv
      rw [hv]
    simp only [hy]
    have hs2 : jY P C (s.set t (.val .bool b)) a w ∧ (s.mp = none → (s.set t (.val .bool b)).mp = none) := ⟨⟨H, Φ, hs.know hr, hM⟩, fun h => h⟩
    cases b with
    | true =>
     simp only [cond_true] at h
     cases want with
     | true => exact .inl ⟨rfl, _, hs2, h⟩
     | false => exact .inr ⟨rfl, _, hs2, h⟩
    | false =>
     simp only [cond_false] at h
     cases want with
     | true => exact .inr ⟨rfl, _, hs2, h⟩
     | false => exact .inl ⟨rfl, _, hs2, h⟩
   ·rename_i hb
    obtain ⟨H, Φ, hs, hM⟩ := hs
    have hv : a.tmps.getD t undef = .tuple #[] := hs.ts t _ hb
    have hy : yielded ops a.tmps j = none := by
     unfold yielded
     rw [ht]
     simp only [Option.bind_some]
     rw [Array.getD_eq_getD_getElem?] at hv
     cases hq : a.tmps[t]? with
     | none => rfl
     | some u =>
      rw [hq] at hv
      simp only [Option.getD_some] at hv
      rw [hv]
    simp only [hy]
    exact .inr ⟨by simp, s, ⟨⟨H, Φ, hs, hM⟩, id⟩, h⟩
   ·cases h
theorem qcQ {o : Oper} {s' : St} {K : Act → World → Prop} {Q : Exit → Act → World → Prop} (h : qcn P C o a w s') (hK : ∀ a w, jY P C s' a w → K a w) : o.wp P a w K Q := by
 unfold qcn at h
 unfold Oper.wp Oper.upon
 split at h
 ·rename_i v w' e; rw [e]; exact hK _ _ h
 ·rename_i w' e; rw [e]; exact hK _ _ h
 ·rename_i f args w' e
  rw [e]
  refine h.mono ?_
  rintro e w'' ⟨v, rfl, hsim⟩
  exact hK _ _ hsim
 ·exact h.elim
theorem qiy (hcfg : qB P cfg) (hC : qM C cfg) {ops : Array Oper} {kk : St → Option R} {Q : Exit → Act → World → Prop} (hQ : ∀ s a w, jY P C s a w → kk s = some r → Q .normal a w) :
  ∀ {l : List Oper} {s : St} {a : Act} {w : World}, jY P C s a w → qav cfg ops kk l s = some r → wpList P ops Q l a w
 | [], s, a, w, hs, h => hQ s a w hs h
 | o :: rest, s, a, w, hs, h => by
  obtain ⟨hd, h⟩ := qb2 hs h
  unfold wpList
  rcases h with ⟨hw, s2, ⟨hs2, _⟩, h⟩ | ⟨hw, s2, ⟨hs2, _⟩, h⟩
  ·rw [hw, if_pos rfl]
   obtain ⟨s', h, hg⟩ := qce hcfg hC hs2 hd h
   exact .inl (qcQ hg (fun a w hs => qiy hcfg hC hQ hs h))
  ·rw [hw, if_neg (by simp)]
   exact qiy hcfg hC hQ (hs2.dead hC hd) h
theorem qfz (hcfg : qB P cfg) (hC : qM C cfg) {ops : Array Oper} {kk : St → Option R} {K : Act → Prop} (hK : ∀ s a, Sim P C s a w → s.mp = none → kk s = some r → K a) :
  ∀ {l : List Oper} {s : St} {a : Act}, l.all (qcW cfg) = true → Sim P C s a w → s.mp = none → qav cfg ops kk l s = some r → wpQuiet P ops (j9 jO w) K l a
 | [], s, a, _, hs, hmp, h => hK s a hs hmp h
 | o :: rest, s, a, hq, hs, hmp, h => by
  simp only [List.all_cons, Bool.and_eq_true] at hq
  obtain ⟨hd, h⟩ := qb2 (hs.simM hmp) h
  unfold wpQuiet
  rcases h with ⟨hw, s2, ⟨hs2, hm2⟩, h⟩ | ⟨hw, s2, ⟨hs2, hm2⟩, h⟩
  ·rw [hw, if_pos rfl]
   rw [qge (hm2 hmp) hq.1] at h
   obtain ⟨s', h, v, hv, hsim⟩ := qj2 hcfg hC hs2.sim hd hq.1 h
   exact ⟨v, hv, qfz hcfg hC hK hq.2 (hsim.withM none) rfl h⟩
  ·rw [hw, if_neg (by simp)]
   exact qfz hcfg hC hK hq.2 (hs2.dead hC hd).sim (by show Option.map _ _ = none; rw [hm2 hmp]; rfl) h
theorem qfG {o : Oper} (h : j6 o = true) : qcW cfg o = true := by unfold qcW; rw [h]; rfl
theorem qfy (hcfg : qB P cfg) (hC : qM C cfg) {ops : Array Oper} {kk : St → Option R} {K : Act → Prop} {l2 : List Oper} (hK : ∀ s a, Sim P C s a w → s.mp = none → qav cfg ops kk l2 s = some r → K a) :
  ∀ {l : List Oper} {s : St} {a : Act}, l.all j6 = true → Sim P C s a w → s.mp = none → qav cfg ops kk (l ++ l2) s = some r → wpStill P ops w K l a
 | [], s, a, _, hs, hmp, h => hK s a hs hmp h
 | o :: rest, s, a, hq, hs, hmp, h => by
  simp only [List.all_cons, Bool.and_eq_true] at hq
  obtain ⟨hd, h⟩ := qb2 (hs.simM hmp) h
  unfold wpStill
  rcases h with ⟨hw, s2, ⟨hs2, hm2⟩, h⟩ | ⟨hw, s2, ⟨hs2, hm2⟩, h⟩
  ·rw [hw, if_pos rfl]
   rw [qge (cfg := cfg) (hm2 hmp) (qfG hq.1)] at h
   obtain ⟨s', h, v, hv, hsim⟩ := qcZ hcfg hC hs2.sim hd hq.1 h
   unfold Oper.still
   rw [hv w (j9.refl _ _)]
   exact ⟨rfl, qfy hcfg hC hK hq.2 (hsim.withM none) rfl h⟩
  ·rw [hw, if_neg (by simp)]
   exact qfy hcfg hC hK hq.2 (hs2.dead hC hd).sim (by show Option.map _ _ = none; rw [hm2 hmp]; rfl) h
def drawR (cfg : qS) (ops : Array Oper) : Bool :=
 (ops.toList.all (qcW cfg) && Region.lexB .any ops) || (List.range ops.size).any fun n => (ops.toList.take n).all j6 && Region.lexTailB .any ops n
theorem qbs (w : World) : j9 jO w { w with drawn := w.drawn + 1 } := ⟨rfl, rfl, rfl, Nat.le_refl _, fun _ _ _ => rfl⟩
theorem qlm (hm : P.follows .mixedOrders = true) (hcfg : qB P cfg) (hC : qM C cfg) {id : Nat} {ops : Array Oper} {draw : Bool} (hdraw : draw = true → drawR cfg ops = true ∧ s.mp = none) {kk : St → Option R} {Q : Exit → Act → World → Prop} (hQ : ∀ s a w, jY P C s a w → kk s = some r → Q .normal a w)
  (hs : jY P C s a w) (h : qav cfg ops kk ops.toList s = some r) : (Code.region id ops draw).wp P Q a w := by
 cases draw with
 | false => exact wp_region_list (qiy hcfg hC hQ hs h)
 | true =>
  obtain ⟨hd, hmp⟩ := hdraw rfl
  unfold drawR at hd
  rw [Bool.or_eq_true] at hd
  have hs1 : Sim P C s a { w with drawn := w.drawn + 1 } := hs.sim.grow (qbs w)
  rcases hd with hd | hd
  ·rw [Bool.and_eq_true] at hd
   exact wp_region_quiet (C := j9 jO { w with drawn := w.drawn + 1 }) hm hd.2 (j9.refl _ _)
    (qfz hcfg hC (fun s a hsim hmp hk w' hm' => hQ s a w' ((hsim.grow hm').simM hmp) hk) hd.1 hs1 hmp h)
  ·obtain ⟨n, _, hn⟩ := List.any_eq_true.1 hd
   rw [Bool.and_eq_true] at hn
   have := wp_region_still_tail (P := P) (id := id) (Q := Q) (a := a) (w := w) (l := ops.toList) n hm (by simpa using hn.2)
    (by
     simp only [Array.toArray_toList]
     exact qfy hcfg hC (l2 := ops.toList.drop n) (fun s a hsim hmp hk => qiy hcfg hC hQ (hsim.simM hmp) hk) hn.1 hs1 hmp (by rw [List.take_append_drop]; exact h))
   simpa using this
theorem any_step (hcfg : qB P cfg) (hC : qM C cfg) {ops : Array Oper} {K : Act → World → Prop} {kk : St → Option R} {Q : Exit → Act → World → Prop} {i : Nat} (hK : ∀ s a w, jY P C s a w → kk s = some r → K a w)
  (hs : jY P C s a w) (h : qav cfg ops kk (qf5 ops i) s = some r) : wpOp P ops Q i K a w := by
 unfold wpOp
 unfold qf5 at h
 cases ho : ops[i]? with
 | none => rw [ho] at h; exact hK _ _ _ hs h
 | some o =>
  rw [ho] at h
  obtain ⟨hd, h⟩ := qb2 hs h
  rcases h with ⟨hw, s2, ⟨hs2, _⟩, h⟩ | ⟨hw, s2, ⟨hs2, _⟩, h⟩
  ·simp only [hw, if_true]
   obtain ⟨s', h, hg⟩ := qce hcfg hC hs2 hd h
   exact .inl (qcQ hg (fun a w hs => hK _ _ _ hs h))
  ·simp only [hw]
   exact hK _ _ _ (hs2.dead hC hd) h
theorem jY.le (hs : jY P C s a w) : HOk C.H0 w := by
 obtain ⟨H, Φ, h, _⟩ := hs
 exact fun b c hb => h.hok b c (h.le b c hb)
theorem qm.rebaseM (hs : qm P C s a w H Φ) (hm : s.mp = none) : jY P (reC C w H) s a w := ⟨H, Φ, hs.rebase, by rw [hm]; trivial⟩
theorem qm.unbaseM {s' : St} {a' : Act} {w' : World} (hs : qm P C s a w H Φ) (h : jY P (reC C w H) s' a' w') : jY P C s' a' w' := by
 obtain ⟨H', Φ', h, hM⟩ := h
 refine ⟨H', Φ', (hs.unbase h).1, ?_⟩
 have hmay : ∀ b, qaB (reC C w H) w' H' Φ' s'.obj b → qaB C w' H' Φ' s'.obj b := by
  intro b hb
  refine ⟨hb.fz, hb.obj, ?_, hb.lt⟩
  rcases hb.may with h1 | h1
  ·exact h1.1
  ·exact .inr (Nat.le_trans hs.mod.size h1)
 unfold qcm at hM ⊢
 cases hmp : s'.mp with
 | none => trivial
 | some m =>
  rw [hmp] at hM
  obtain ⟨b, q1, q2, q3, q4, q5, q6⟩ := hM
  refine ⟨b, q1, q2, hmay _ q3, q4, q5, fun ti lf e => ?_⟩
  obtain ⟨i, k1, k2⟩ := q6 ti lf e
  exact ⟨i, hmay _ k1, k2⟩
theorem qex {ops : Array Oper} {Q : Exit → Act → World → Prop} {S S' : World → Prop} (hS : ∀ w, S' w → S w) : ∀ (n : Nat) (listed : Array Bool) (a : Act) (w : World), wpAnyH P .any ops Q S' n listed a w → wpAnyH P .any ops Q S n listed a w
 | 0, _, _, _, h => h
 | n + 1, _, _, _, h => ⟨h.1, fun i hi => wpOp_mono (fun a' w' h' => ⟨hS _ h'.1, qex hS n _ a' w' h'.2⟩) (h.2 i hi)⟩
theorem qcX {ops : Array Oper} : ∀ {l dec : List Nat} {s : St} {k : List Nat → St → Option R}, jY P C s a w → decK ops l dec s k = some r → ∃ dec' s', jY P C s' a w ∧ k dec' s' = some r
 | [], dec, s, k, hs, h => ⟨dec, s, hs, h⟩
 | i :: l, dec, s, k, hs, h => by
  unfold decK at h
  split at h
  ·exact qcX hs h
  ·rename_i j want _
   cases hj : qde j dec with
   | true => rw [hj] at h; exact qcX hs h
   | false =>
   rw [hj, cond_false] at h
   split at h
   ·exact qcX hs h
   ·rename_i t _
    split at h
    ·rename_i b hb
     obtain ⟨H, Φ, hs, hM⟩ := hs
     have hr := hs.ts t _ hb
     have hs2 : jY P C (s.set t (.val .bool b)) a w := ⟨H, Φ, hs.know hr, hM⟩
     cases b with
     | true => exact qcX hs2 h
     | false => exact qcX hs2 h
    ·exact qcX hs h
    ·exact qcX hs h
theorem qkx {ops : Array Oper} {o : Oper} {v : Bool} (hs : qm P C s a w H Φ) (h : qgr ops s o.guard = some v) : Region.wanted o (yielded ops a.tmps) = v := by
 unfold Region.wanted
 cases hg : o.guard with
 | none => rw [hg] at h; simp only [qgr] at h; cases h; rfl
 | some q =>
  obtain ⟨j, want⟩ := q
  rw [hg] at h
  simp only [qgr] at h
  split at h
  ·cases h
  ·rename_i t ht
   split at h
   ·rename_i b hb
    cases h
    have hv := (hs.ts t _ hb).bool
    have hy : yielded ops a.tmps j = some b := by
     unfold yielded
     rw [ht]
     simp only [Option.bind_some]
     rw [Array.getD_eq_getD_getElem?] at hv
     cases hq : a.tmps[t]? with
     | none => rw [hq] at hv; simp [undef] at hv
     | some u =>
      rw [hq] at hv
      simp only [Option.getD_some] at hv
      rw [hv]
    simp only [hy]
    cases b <;> cases want <;> rfl
   ·rename_i hb
    cases h
    have hv : a.tmps.getD t undef = .tuple #[] := hs.ts t _ hb
    have hy : yielded ops a.tmps j = none := by
     unfold yielded
     rw [ht]
     simp only [Option.bind_some]
     rw [Array.getD_eq_getD_getElem?] at hv
     cases hq : a.tmps[t]? with
     | none => rfl
     | some u =>
      rw [hq] at hv
      simp only [Option.getD_some] at hv
      rw [hv]
    simp only [hy]
    simp
   ·cases h
theorem qje (hcfg : qB P cfg) (hs : qm P C s a w H Φ) {o : Oper} (h : qgD cfg s o.op = true) : ∃ v, ∀ w', HOk H w' → (execOp a.eval o).run P w' = .ok (.value v) w' := by
 obtain ⟨dst, op, ty, pos, after, guard⟩ := o
 unfold qgD at h
 split at h
 ·rename_i x hop
  simp only at hop
  subst hop
  exact ⟨a.eval x, fun w' _ => by simp [execOp]⟩
 ·rename_i T x hop
  simp only at hop
  subst hop
  split at h
  case h_3 => cases h
  ·rename_i σ y he
   obtain ⟨hty, _⟩ := hcfg.ty T _ (of_decide_eq_true h)
   obtain ⟨hfz, b, o, blk, hv, hH, hrep⟩ := qs hs qK he
   refine ⟨jZ σ (seg blk o σ.size), fun w' hw' => ?_⟩
   obtain ⟨t, f, hb⟩ := hw' b blk hH
   simp [execOp, hv, qaU hty hb (qx.length σ hrep)]
  ·rename_i i f n he
   simp only [Bool.and_eq_true] at h
   obtain ⟨q1, q2, q3⟩ := h
   obtain rfl := Nat.eq_of_beq_eq_true q1
   have q2 := Nat.eq_of_beq_eq_true q2
   obtain ⟨b, cv, h1, ⟨h2, h3⟩, hv⟩ := qs hs qK he
   obtain ⟨σ, hT⟩ : ∃ σ, lk cfg.ty T = some (.ptr σ) := by
    unfold qfd at q3
    split at q3
    ·exact ⟨_, by assumption⟩
    ·cases q3
   obtain ⟨hty, hfz⟩ := hcfg.ty T _ hT
   rw [q2] at h2
   obtain ⟨u, rfl⟩ : ∃ u, cv = [u] := by
    match cv, h2 with
    | [u], _ => exact ⟨u, rfl⟩
   refine ⟨jZ (.ptr σ) [u], fun w' hw' => ?_⟩
   obtain ⟨t, f', hb⟩ := hw' b _ h1
   have := qaU hty (o := 0) hb rfl
   have hv' : a.eval x = .pointer (some ⟨b, 0, none⟩) := hv
   simp [execOp, hv', this]
   rfl
 ·rename_i T x j hop
  simp only at hop
  subst hop
  split at h
  case h_3 => cases h
  ·rename_i σ y t' he hT
   obtain ⟨hty, hfz'⟩ := hcfg.ty T _ hT
   obtain ⟨fs, hu, hfs⟩ := hty.str
   obtain ⟨f, σ', q1, q2, q3, q4, q5, q6, q7⟩ := hfs.at t' h
   obtain ⟨hfz, b, o, blk, hv, hH, hrep⟩ := qs hs qK he
   refine ⟨.pointer (some ⟨b, o + f.offset, none⟩), fun w' _ => ?_⟩
   simp [execOp, hv, qcS hu q1 q3]
  ·rename_i i p t' he hT
   obtain ⟨hty, hfz'⟩ := hcfg.ty T _ hT
   obtain ⟨fs, hu, hfs⟩ := hty.str
   obtain ⟨f, σ', q1, q2, q3, q4, q5, q6, q7⟩ := hfs.at t' h
   obtain ⟨ob, y, b, o, _, _, _, _, hv⟩ := qs hs qK he
   refine ⟨.pointer (some ⟨b, o + f.offset, none⟩), fun w' _ => ?_⟩
   simp [execOp, hv, qcS hu q1 q3]
 ·rename_i x hop
  simp only at hop
  subst hop
  split at h
  case h_3 => cases h
  ·rename_i σ y he
   obtain ⟨_, b, off, blk, hv, _⟩ := qs hs qK he
   exact ⟨a.eval x, fun w' _ => by simp [execOp, hv]⟩
  ·rename_i i p he
   obtain ⟨o, y, b, off, _, _, _, _, hv⟩ := qs hs qK he
   exact ⟨a.eval x, fun w' _ => by simp [execOp, hv]⟩
 ·rename_i x i hop
  simp only at hop
  subst hop
  split at h
  case h_3 => cases h
  ·rename_i b c he
   obtain ⟨u, us, hv, _, _⟩ := qs hs qK he
   exact ⟨u, fun w' _ => by simp [execOp, hv, Instr.extract]⟩
  ·rename_i b c d he
   obtain ⟨u, us, hv, _, u2, us2, hv2, _, _⟩ := qs hs qK he
   obtain rfl : us = u2 :: us2 := by simpa using hv2
   exact ⟨u2, fun w' _ => by simp [execOp, hv, Instr.extract]⟩
 ·rename_i T x y T' hop
  simp only at hop
  subst hop
  split at h
  case h_2 => cases h
  rename_i i m j n h1 h2
  have v1 := (qs hs qK h1).int
  have v2 := (qs hs qK h2).int
  have hij : i = j := by simpa using h
  subst hij
  exact ⟨_, fun w' _ => by simp [execOp, v1, v2, eqGuard, binOp, Op.intArith]; rfl⟩
 ·rename_i T x y T' hop
  simp only at hop
  subst hop
  split at h
  case h_2 => cases h
  rename_i i m j n h1 h2
  have v1 := (qs hs qK h1).int
  have v2 := (qs hs qK h2).int
  have hij : i = j := by simpa using h
  subst hij
  exact ⟨_, fun w' _ => by simp [execOp, v1, v2, eqGuard, binOp, Op.intArith]; rfl⟩
 ·rename_i x T hop
  simp only at hop
  subst hop
  split at h
  case h_2 => cases h
  rename_i o2 tid e l he
  obtain ⟨n, _, ad, cap, hv⟩ := qjM (f := fun n => some n) (r := List.length l) hs (qs hs qK he) rfl
  obtain ⟨own, tid, e, hlk⟩ : ∃ own tid e, lk cfg.ty T = some (.list own tid e) := by
   unfold qbP at h
   split at h
   ·exact ⟨_, _, _, ‹_›⟩
   ·cases h
  have hu := (hcfg.ty T _ hlk).1.list.1
  exact ⟨goInt n, fun w' _ => by simp [execOp, resolve, invoke, builtin, Builtin.len_, hv, run_underlying hu, goInt]⟩
 ·cases h
theorem qjg (hcfg : qB P cfg) (hs : qm P C s a w H Φ) {o : Oper} {K : St → Option R} (h : qeZ cfg s o = true) (hm : s.mp = none) (ho : qb3 cfg o s K = some r) : ∃ v, ∀ w', (execOp a.eval o).run P w' = .ok (.value v) w' := by
 obtain ⟨dst, op, ty, pos, after, guard⟩ := o
 unfold qeZ at h
 split at h
 case h_2 => cases h
 rename_i T x y hop _ hsite
 simp only at hop hsite
 subst hop
 split at h
 case h_2 => cases h
 rename_i tid e l he
 split at h
 case h_2 => cases h
 rename_i k1 j hy
 have hT := of_decide_eq_true h
 obtain ⟨hty, hfz⟩ := hcfg.ty T _ hT
 unfold qb3 at ho
 rw [hm] at ho
 simp only [qT, frzSite, hsite] at ho
 unfold qgn at ho
 have hj : qeL s (some y) = some (some j) := by unfold qeL; simp only [hy]; rfl
 rw [he, hj] at ho
 simp only [qeL, qka, hT, Bool.not_false, Bool.true_and, decide_true, cond_true] at ho
 obtain ⟨h0, ho⟩ := qaC ho
 obtain ⟨h1, ho⟩ := qaC ho
 obtain ⟨hf, cs, hv, hrep⟩ := qs hs qK he
 obtain ⟨_, ad, cap, rfl, hcap, _⟩ := hrep
 have hv' : a.eval x = .slice ad (List.length l) cap := by rw [hv]; rfl
 have hy' := (qs hs qK hy).int
 refine ⟨.slice (if cap = 0 then ad else ad.map (·.add (0 * e.size))) (j.toNat - 0) (cap - 0), fun w' => ?_⟩
 have := qcp hty.list.1 hty.list.2 ad (List.length l) cap none (some j) 0 j.toNat rfl (by simp; omega) (by omega) (by omega) w' .i64 k1
 simp only [execOp, hv', hy', Option.map_none, Option.map_some] at this ⊢
 simp [this]
theorem qlA (hcfg : qB P cfg) (hs : qm P C s a w H Φ) {o : Oper} {K : St → Option R} (h : qiO s o = true) (hm : s.mp = none) (ho : qb3 cfg o s K = some r) : ∃ v, ∀ w', (execOp a.eval o).run P w' = .ok (.value v) w' := by
 obtain ⟨dst, op, ty, pos, after, guard⟩ := o
 unfold qiO at h
 split at h
 case h_2 => cases h
 rename_i T x ix hop _
 simp only at hop
 subst hop
 unfold qb3 at ho
 rw [hm] at ho
 simp only [qT] at ho
 split at ho
 case h_2 => cases ho
 rename_i av i he hi
 rw [he] at h
 have hr := qs hs qK he
 obtain ⟨iav, hi1, hi2⟩ := Option.bind_eq_some_iff.1 hi
 obtain ⟨ik, hiv⟩ := qd3 hi2 (qs hs qK hi1)
 unfold qeN at ho
 split at h
 ·rename_i o1 tid e l hav
  cases hav
  simp only at ho
  cases hT : decide (lk cfg.ty T = some (.list false tid e.fz)) with
  | false => rw [hT] at ho; cases ho
  | true =>
   rw [hT, cond_true] at ho
   obtain ⟨hty, _⟩ := hcfg.ty T _ (of_decide_eq_true hT)
   obtain ⟨h0, y, hy, _⟩ := qeu ho
   obtain ⟨hf, cs, hv, hrep⟩ := hr
   simp only [Ty.isFz, Bool.and_eq_true, Bool.not_eq_true'] at hf
   obtain ⟨rfl, hef⟩ := hf
   rw [Ty.fz_of_isFz e hef] at hty
   obtain ⟨_, ad, cap, rfl, hcap, hl⟩ := hrep
   have hlt := (List.getElem?_eq_some_iff.1 hy).1
   rcases hl with rfl | ⟨b, o, blk, rfl, hH, hch⟩
   ·simp at hlt
   ·have hv' : a.eval x = .slice (some ⟨b, o, none⟩) (List.length l) cap := by rw [hv]; rfl
    exact ⟨.pointer (some ⟨b, o + i.toNat * e.size, none⟩), fun w' => by
     simp [execOp, hv', hiv, qba hty.list.1 hty.list.2 h0 (show i < (List.length l : Int) by omega)]⟩
 ·rename_i n e l hav
  cases hav
  simp only at ho
  cases hT : decide (lk cfg.ty T = some (.arr n e)) with
  | false => rw [hT] at ho; cases ho
  | true =>
   rw [hT, cond_true] at ho
   obtain ⟨hty, _⟩ := hcfg.ty T _ (of_decide_eq_true hT)
   obtain ⟨u, hu, hue⟩ := hty.arr
   obtain ⟨h0, y, hy, _⟩ := qeu ho
   have hlt := (List.getElem?_eq_some_iff.1 hy).1
   obtain ⟨hf, b, o, blk, hv, hH, hln, hch⟩ := hr
   exact ⟨.pointer (some ⟨b, o + i.toNat * e.size, none⟩), fun w' => by
    simp [execOp, hv, hiv, qci hu hue h0 (show i < (n : Int) by rw [← hln]; omega)]⟩
 ·rename_i id hav
  cases hav
  simp only at ho
  split at h
  case h_2 => cases h
  rename_i o hob
  rw [hob] at ho
  simp only [jX, qO, Option.bind_some] at ho
  split at ho
  case h_2 => cases ho
  rename_i own tid e l hτ hl
  cases hT : own && (decide (lk cfg.ty T = some (.list false tid e.fz))) with
  | false => rw [hT] at ho; cases ho
  | true =>
   rw [hT, cond_true] at ho
   rw [Bool.and_eq_true] at hT
   obtain ⟨rfl, hT⟩ := hT
   obtain ⟨hty, _⟩ := hcfg.ty T _ (of_decide_eq_true hT)
   have hty' := qZ.unfz (τ := .list false tid e) hty
   obtain ⟨h0, hlt, _⟩ := qha ho
   obtain ⟨row, τ, xo⟩ := o
   simp only at hτ hl h
   subst hτ
   subst h
   obtain ⟨o', y', q1, q2, q3⟩ := hr
   rw [hob] at q1
   cases q1
   simp only [List.isEmpty_nil, Bool.and_self] at q3
   obtain ⟨hdr, xs, fp', e1, e2, how, hch⟩ := (hs.os id _ hob).1.row_list
   have e1 : (Φ id).hdr = hdr := by simpa using e1
   have hl : xo = l := eq_of_heq hl
   rcases how.2 with ⟨_, hz⟩ | ⟨g, cap, cur, hv1, _⟩
   ·have hz : List.length xo = 0 := hz
    rw [← hl] at hlt
    omega
   ·have hv' : a.eval x = .slice (some ⟨g, 0, none⟩) (List.length xo) cap := by rw [q3, e1, hv1]
    exact ⟨.pointer (some ⟨g, 0 + i.toNat * e.size, none⟩), fun w' => by
     simp [execOp, hv', hiv, qba hty'.list.1 hty'.list.2 h0 (show i < (List.length xo : Int) by rw [hl]; omega)]⟩
 ·cases h
theorem qlB (hcfg : qB P cfg) (hC : qM C cfg) {ops : Array Oper} {listed : Array Bool} {dec : List Nat} {K : Act → World → Prop} {kk : St → Option R} {i : Nat} (hK : ∀ s a w, jY P C s a w → kk s = some r → K a w)
  (hp : qhb cfg ops listed dec s i = true) (hs : qm P C s a w H Φ) (hM : qcm P C s.mp s.obj a w H Φ) (h : qav cfg ops kk (qf5 ops i) s = some r) : ∃ o v, ops[i]? = some o ∧ Region.free .any ops listed i = true ∧ YieldsIf P ops (HOk H) o v a ∧ K (a.put o.dst v) w := by
 unfold qhb at hp
 split at hp
 case h_2 => cases hp
 rename_i o ho
 rw [Bool.and_eq_true, Bool.and_eq_true, Bool.and_eq_true] at hp
 obtain ⟨hmp, _, hf, hp⟩ := hp
 unfold qf5 at h
 rw [ho] at h
 have h0 := h
 obtain ⟨hd, hcase⟩ := qb2 ⟨H, Φ, hs, hM⟩ h
 split at hp
 case h_2 => cases hp
 rename_i v hg
 have hw := qkx (o := o) hs hg
 cases v with
 | false =>
  rcases hcase with ⟨hw', _⟩ | ⟨_, s2, ⟨hs2, _⟩, h⟩
  ·rw [hw] at hw'; cases hw'
  ·exact ⟨o, undef, ho, hf, .inr ⟨hw, rfl⟩, hK _ _ _ (hs2.dead hC hd) h⟩
 | true =>
  rcases hcase with ⟨_, s2, ⟨hs2, _⟩, h⟩ | ⟨hw', _⟩
  ·obtain ⟨v, hrun⟩ : ∃ v, ∀ w', HOk H w' → (execOp a.eval o).run P w' = .ok (.value v) w' := by
    rw [cond_true, Bool.or_eq_true, Bool.or_eq_true] at hp
    rcases hp with hp | hp | hp
    ·exact qje hcfg hs hp
    rotate_left
    ·have hg0 : o.guard = none := by
      unfold qiO at hp
      split at hp
      ·rename_i e; exact e
      ·cases hp
     have h3 := h0
     simp only [qav, hd, cond_true, hg0] at h3
     obtain ⟨v, hv⟩ := qlA hcfg hs hp (Option.isNone_iff_eq_none.1 hmp) h3
     exact ⟨v, fun w' _ => hv w'⟩
    ·have hg0 : o.guard = none := by
      unfold qeZ at hp
      split at hp
      ·rename_i e _; exact e
      ·cases hp
     have h3 := h0
     simp only [qav, hd, cond_true, hg0] at h3
     obtain ⟨v, hv⟩ := qjg hcfg hs hp (Option.isNone_iff_eq_none.1 hmp) h3
     exact ⟨v, fun w' _ => hv w'⟩
   refine ⟨o, v, ho, hf, .inl ⟨hw, hrun⟩, ?_⟩
   obtain ⟨s', h, hgo⟩ := qce hcfg hC hs2 hd h
   have := qcQ (K := K) (Q := fun _ _ _ => True) hgo (fun a w hs => hK _ _ _ hs h)
   unfold Oper.wp Oper.upon at this
   rw [hrun w hs.hok] at this
   exact this
  ·rw [hw] at hw'; cases hw'
theorem qif {ops : Array Oper} {listed : Array Bool} {dec : List Nat} {i : Nat} (h : qhb cfg ops listed dec s i = true) : s.mp = none := by
 unfold qhb at h
 split at h
 ·rw [Bool.and_eq_true] at h; exact Option.isNone_iff_eq_none.1 h.1
 ·cases h
theorem qi4 (hcfg : qB P cfg) {ops : Array Oper} {kk : St → Option R} {Q : Exit → Act → World → Prop} (hns : Region.noSelect ops = true) (hQp : ∀ c a w, ¬ Q (.panic c) a w) :
  ∀ (n : Nat) (listed : Array Bool) (dec : List Nat) {C : Ctx} (_ : qM C cfg) (_ : ∀ s a w, jY P C s a w → kk s = some r → Q .normal a w) {s : St} {a : Act} {w : World}, jY P C s a w → qc5 cfg ops kk n listed dec s = some r → wpAnyH P .any ops Q (HOk C.H0) n listed a w
 | 0, listed, dec, C, hC, hQ, s, a, w, hs, h => by
  unfold qc5 at h
  unfold wpAnyH
  split at h
  ·rename_i e; exact ⟨e, hQ _ _ _ hs h⟩
  ·cases h
 | n + 1, listed, dec, C, hC, hQ, s, a, w, hs, h => by
  unfold qc5 at h
  obtain ⟨dec, s, hs, h⟩ := qcX hs h
  split at h
  ·rename_i i hfind
   have hr := List.mem_of_find?_eq_some hfind
   have hp := List.find?_some hfind
   obtain ⟨H, Φ, hb, hM⟩ := hs
   have hb2 := hb.rebaseM (qif hp)
   obtain ⟨o, v, ho, hf, hy, hK⟩ := qlB (C := reC C w H) hcfg (qgN hC) (fun s a w hs h => qi4 hcfg hns hQp n _ dec (qgN hC) (fun s a w hs h => hQ s a w (hb.unbaseM hs) h) hs h) hp hb.rebase (by rw [qif hp]; trivial) h
   exact qex (S' := HOk H) (fun w h b c e => h b c (hb.le b c e)) _ _ _ _ (wpAnyH_take ho hns hf (by simpa using hr) (fun c a w h => absurd h (hQp c _ w)) hy hb.hok hK)
  ·unfold wpAnyH
   have hstep : ∀ (i : Nat), qav cfg ops (fun s => qc5 cfg ops kk n (listed.setIfInBounds i true) dec s) (qf5 ops i) s = some r →
     wpOp P ops Q i (fun a' w' => HOk C.H0 w' ∧ wpAnyH P .any ops Q (HOk C.H0) n (listed.setIfInBounds i true) a' w') a w := fun i h =>
    any_step hcfg hC (fun s a w hs h => ⟨hs.le, qi4 hcfg hns hQp n _ dec hC hQ hs h⟩) hs h
   split at h
   ·rename_i e; rw [e]; exact ⟨fun _ => hQ _ _ _ hs h, fun i hi => by cases hi⟩
   ·rename_i i e
    rw [e]
    refine ⟨(fun e => by cases e), fun j hj => ?_⟩
    rw [List.mem_singleton.1 hj]
    exact hstep i h
   ·rename_i i j l e
    rw [e]
    refine ⟨(fun e => by cases e), fun t ht => ?_⟩
    exact hstep t (qgc h _ (List.mem_map.2 ⟨t, ht, rfl⟩))
theorem qiU (hs : Sim P C s a w) (x : Operand) : Sim P C (frzT cfg s x) a w ∧ (frzT cfg s x).mp = s.mp := by
 unfold frzT
 split
 ·split
  ·exact ⟨hs, rfl⟩
  ·rename_i τ _
   cases τ.isFz with
   | false => exact ⟨hs, rfl⟩
   | true =>
   rw [cond_true]
   split
   ·rename_i id _
    obtain ⟨H, Φ, hs⟩ := hs
    obtain ⟨H', _, _, _, hs2⟩ := hs.freeze id
    refine ⟨⟨H', Φ, hs2⟩, ?_⟩
    unfold St.freeze
    split <;> rfl
   ·exact ⟨hs, rfl⟩
 ·exact ⟨hs, rfl⟩
theorem qaJ : ∀ (l : List Oper) {s : St}, Sim P C s a w → Sim P C (qfK cfg l s) a w ∧ (qfK cfg l s).mp = s.mp
 | [], _, hs => ⟨hs, rfl⟩
 | o :: l, s, hs => by
  unfold qfK
  split
  ·rename_i x _ _
   obtain ⟨h1, h2⟩ := qiU (cfg := cfg) hs x
   obtain ⟨h3, h4⟩ := qaJ l h1
   exact ⟨h3, h4.trans h2⟩
  ·rename_i x _
   obtain ⟨h1, h2⟩ := qiU (cfg := cfg) hs x
   obtain ⟨h3, h4⟩ := qaJ l h1
   exact ⟨h3, h4.trans h2⟩
  ·rename_i x _ _
   obtain ⟨h1, h2⟩ := qiU (cfg := cfg) hs x
   obtain ⟨h3, h4⟩ := qaJ l h1
   exact ⟨h3, h4.trans h2⟩
  ·exact qaJ l hs
theorem qi5 (hcfg : qB P cfg) (hC : qM C cfg) {ops : Array Oper} {kk : St → Option R} {Q : Exit → Act → World → Prop} (hns : Region.noSelect ops = true) (hQ : ∀ s a w, jY P C s a w → kk s = some r → Q .normal a w) (hQp : ∀ c a w, ¬ Q (.panic c) a w)
  (n : Nat) (listed : Array Bool) (dec : List Nat) {s : St} {a : Act} {w : World} (hs : jY P C s a w) (h : qc5 cfg ops kk n listed dec s = some r) : wpAny P .any ops Q n listed a w :=
 wpAny_of_held _ _ _ _ (qi4 hcfg hns hQp n listed dec hC hQ hs h)
end
end Go.Vi
namespace Go.Vi
def ql (cfg : qS) : Code → Bool
 | .region id ops true => (qde id cfg.enum && Region.noSelect ops) || drawR cfg ops
 | .seq a b => ql cfg a && ql cfg b
 | .cond _ a b => ql cfg a && ql cfg b
 | .block _ c => ql cfg c
 | .loop c => ql cfg c
 | .rangeFunc _ _ _ _ => false
 | _ => true
section
variable {P : Program} {C : Ctx} {cfg : qS} {R : Type} {r : R} {s : St} {a : Act} {w : World} {H : FH} {Φ : Nat → qF}
theorem qn.keep {os os' : Nat → Option Obj} {osl : List (Nat × Bool × Ty)} (hos : ∀ id, (lk osl id).isSome = true → os' id = os id) :
  ∀ {a b : AV} {v : Value}, a.same b = true → a.within osl = true → qn P C w H Φ os b v → qn P C w H Φ os' a v
 | .dead, _, _, _, _, _ => trivial
 | .ptr i p, b, v, hs, hw, h => by
  cases b with
  | ptr j q =>
   simp only [AV.same, Bool.and_eq_true] at hs
   obtain rfl := Nat.eq_of_beq_eq_true hs.1
   obtain rfl := qbE hs.2
   obtain ⟨o, y, b, off, h1, h2⟩ := h
   exact ⟨o, y, b, off, by rw [hos i hw]; exact h1, h2⟩
  | _ => cases hs
 | .view i p, b, v, hs, hw, h => by
  cases b with
  | view j q =>
   simp only [AV.same, Bool.and_eq_true] at hs
   obtain rfl := Nat.eq_of_beq_eq_true hs.1
   obtain rfl := qbE hs.2
   obtain ⟨o, y, h1, h2⟩ := h
   exact ⟨o, y, by rw [hos i hw]; exact h1, h2⟩
  | _ => cases hs
 | .fn f x y, b, v, hs, hw, h => by
  cases b with
  | fn g x' y' =>
   simp only [AV.same, Bool.and_eq_true] at hs
   simp only [AV.within, Bool.and_eq_true] at hw
   obtain rfl := Nat.eq_of_beq_eq_true hs.1.1
   obtain ⟨vs, us, h1, h2, h3⟩ := h
   exact ⟨vs, us, h1, qn.keep hos hs.1.2 hw.1 h2, qn.keep hos hs.2 hw.2 h3⟩
  | _ => cases hs
 | .nil, b, v, hs, _, h => by
  cases b with
  | nil => exact h
  | _ => cases hs
 | .gh n x, b, v, hs, hw, h => by
  cases b with
  | gh m x' =>
   simp only [AV.same, Bool.and_eq_true] at hs
   simp only [AV.within] at hw
   obtain ⟨u, h1, h2⟩ := h
   exact ⟨u, by rw [Nat.eq_of_beq_eq_true hs.1]; exact h1, qn.keep hos hs.2 hw h2⟩
  | _ => cases hs
 | .cons x y, b, v, hs, hw, h => by
  cases b with
  | cons x' y' =>
   simp only [AV.same, Bool.and_eq_true] at hs
   simp only [AV.within, Bool.and_eq_true] at hw
   obtain ⟨u, us, h1, h2, h3⟩ := h
   exact ⟨u, us, h1, qn.keep hos hs.1 hw.1 h2, qn.keep hos hs.2 hw.2 h3⟩
  | _ => cases hs
 | .cv i f n, b, v, hs, _, h => by
  cases b with
  | cv j g m =>
   simp only [AV.same, Bool.and_eq_true] at hs
   obtain rfl := Nat.eq_of_beq_eq_true hs.1
   obtain rfl := Nat.eq_of_beq_eq_true hs.2.1
   obtain rfl := Nat.eq_of_beq_eq_true hs.2.2
   exact h
  | _ => cases hs
 | .val _ _, b, _, hs, _, _ => by cases b <;> cases hs
 | .ref _ _, b, _, hs, _, _ => by cases b <;> cases hs
 | .upd _ _ _ _ _, b, _, hs, _, _ => by cases b <;> cases hs
 | .cut _ _ _, b, _, hs, _, _ => by cases b <;> cases hs
theorem qff {osl : List (Nat × Bool × Ty)} {os' : Nat → Option Obj} (hos : ∀ id, (lk osl id).isSome = true → os' id = s.obj id) :
  ∀ {l : List (Nat × Sh)} {d : TDen l}, (l.all fun x => x.2.within osl) = true → getT s l = some d → ∀ t av, lk (qeE l d) t = some av → ∃ b, s.get t = some b ∧ ∀ v, qn P C w H Φ s.obj b v → qn P C w H Φ os' av v
 | [], _, _, _, _, _, ht => by cases ht
 | (u, .v τ) :: l, d, hw, h, t, av, ht => by
  simp only [List.all_cons, Bool.and_eq_true] at hw
  simp only [getT] at h
  split at h
  ·rename_i σ x hx
   split at h
   ·rename_i y d' hy hd'
    cases h
    obtain ⟨e, hy⟩ := qj hy
    subst e
    subst hy
    rw [qeE, jP] at ht
    cases hb : Nat.beq u t with
    | true =>
     rw [hb] at ht
     cases ht
     obtain rfl := Nat.eq_of_beq_eq_true hb
     exact ⟨_, hx, fun v hv => hv⟩
    | false =>
     rw [hb] at ht
     exact qff hos hw.2 hd' t av ht
   ·cases h
  ·cases h
 | (u, .r τ) :: l, d, hw, h, t, av, ht => by
  simp only [List.all_cons, Bool.and_eq_true] at hw
  simp only [getT] at h
  split at h
  ·rename_i σ x hx
   split at h
   ·rename_i y d' hy hd'
    cases h
    obtain ⟨e, hy⟩ := qj hy
    subst e
    subst hy
    rw [qeE, jP] at ht
    cases hb : Nat.beq u t with
    | true =>
     rw [hb] at ht
     cases ht
     obtain rfl := Nat.eq_of_beq_eq_true hb
     exact ⟨_, hx, fun v hv => hv⟩
    | false =>
     rw [hb] at ht
     exact qff hos hw.2 hd' t av ht
   ·cases h
  ·cases h
 | (u, .c b) :: l, d, hw, h, t, av, ht => by
  simp only [List.all_cons, Bool.and_eq_true] at hw
  simp only [getT] at h
  split at h
  ·rename_i b' hx
   cases hsame : b.same b' with
   | false => rw [hsame] at h; cases h
   | true =>
    rw [hsame, cond_true] at h
    rw [qeE, jP] at ht
    cases hb : Nat.beq u t with
    | true =>
     rw [hb] at ht
     cases ht
     obtain rfl := Nat.eq_of_beq_eq_true hb
     exact ⟨_, hx, fun v hv => qn.keep hos hsame hw.1 hv⟩
    | false =>
     rw [hb] at ht
     exact qff hos hw.2 h t av ht
  ·cases h
 | (u, .k g i τ) :: l, d, hw, h, t, av, ht => by
  simp only [List.all_cons, Bool.and_eq_true] at hw
  simp only [getT] at h
  split at h
  ·rename_i f j σ x hx
   cases hq : Nat.beq f g && Nat.beq j i with
   | false => rw [hq] at h; cases h
   | true =>
   rw [hq, cond_true] at h
   rw [Bool.and_eq_true] at hq
   obtain rfl := Nat.eq_of_beq_eq_true hq.1
   obtain rfl := Nat.eq_of_beq_eq_true hq.2
   split at h
   ·rename_i y d' hy hd'
    cases h
    obtain ⟨e, hy⟩ := qj hy
    subst e
    subst hy
    rw [qeE, jP] at ht
    cases hb : Nat.beq u t with
    | true =>
     rw [hb] at ht
     cases ht
     obtain rfl := Nat.eq_of_beq_eq_true hb
     refine ⟨_, hx, fun v hv => ?_⟩
     obtain ⟨vs, us, h1, h2, u1, us1, h3, h4, h5⟩ := hv
     exact ⟨vs, us, h1, h2, u1, us1, h3, qn.keep hos (a := .ptr j []) (b := .ptr j []) (by simp [AV.same, qW]) hw.1 h4, h5⟩
    | false =>
     rw [hb] at ht
     exact qff hos hw.2 hd' t av ht
   ·cases h
  ·cases h
theorem qk0 : ∀ {l : List (Nat × Bool × Ty)} {d : ODen l}, getO s l = some d → ∀ id, (lk (qjT l d) id).join = if (lk l id).isSome = true then s.obj id else none
 | [], _, _, _ => rfl
 | (i, b, τ) :: l, d, h, id => by
  simp only [getO] at h
  split at h
  ·rename_i o ho
   cases hrow : o.row == b with
   | false => rw [hrow] at h; cases h
   | true =>
    rw [hrow, cond_true] at h
    split at h
    ·rename_i y d' hy hd'
     cases h
     obtain ⟨row, σ, x⟩ := o
     obtain ⟨e, hy⟩ := qj hy
     simp only at e hrow
     subst e
     obtain rfl : row = b := by simpa using hrow
     subst hy
     rw [qjT, jP, jP]
     cases hb : Nat.beq i id with
     | true =>
      obtain rfl := Nat.eq_of_beq_eq_true hb
      simp [ho]
     | false => exact qk0 hd' id
    ·cases h
  ·cases h
theorem getK_ok {sh : Option MSh} {d : KDen sh} {os : Nat → Option Obj} (h : getK s sh = some d) (hM : qcm P C s.mp os a w H Φ) : qcm P C (fillK sh d) os a w H Φ := by
 match sh, d, h with
 | none, _, _ => trivial
 | some ⟨kt, vt, tm, none⟩, d, h =>
  simp only [getK] at h
  split at h
  case h_2 => cases h
  rename_i m hm
  cases hq : Nat.beq m.kt kt && Nat.beq m.vt vt && tm.all (fun t => qde t m.tm) with
  | false => rw [hq] at h; cases h
  | true =>
  rw [hq] at h
  cases h
  rw [hm] at hM
  simp only [Bool.and_eq_true, List.all_eq_true] at hq
  obtain ⟨⟨q1, q2⟩, q3⟩ := hq
  obtain rfl := Nat.eq_of_beq_eq_true q1
  obtain rfl := Nat.eq_of_beq_eq_true q2
  obtain ⟨b, h1, h2, h3, h4, h5, _⟩ := hM
  exact ⟨b, h1, h2, h3, h4, fun t ht => h5 t (qdd.1 (q3 t ht)), fun ti lf e => by cases e⟩
 | some ⟨kt, vt, tm, some ti⟩, d, h =>
  simp only [getK] at h
  split at h
  case h_2 => cases h
  rename_i m hm
  split at h
  case h_2 => cases h
  rename_i ti' lf hit
  cases hq : Nat.beq m.kt kt && Nat.beq m.vt vt && tm.all (fun t => qde t m.tm) && ti.all (fun t => qde t ti') with
  | false => rw [hq] at h; cases h
  | true =>
  rw [hq] at h
  cases h
  rw [hm] at hM
  simp only [Bool.and_eq_true, List.all_eq_true] at hq
  obtain ⟨⟨⟨q1, q2⟩, q3⟩, q4⟩ := hq
  obtain rfl := Nat.eq_of_beq_eq_true q1
  obtain rfl := Nat.eq_of_beq_eq_true q2
  obtain ⟨b, h1, h2, h3, h4, h5, h6⟩ := hM
  refine ⟨b, h1, h2, h3, h4, fun t ht => h5 t (qdd.1 (q3 t ht)), fun ti2 lf2 e => ?_⟩
  cases e
  obtain ⟨i, k1, k2, k3, k4⟩ := h6 _ _ hit
  exact ⟨i, k1, k2, fun t ht => k3 t (qdd.1 (q4 t ht)), fun n v e => by cases e⟩
theorem qcm.weaken {mp : Option Ms} {os os' : Nat → Option Obj} (ho : ∀ id o, os' id = some o → os id = some o) (h : qcm P C mp os a w H Φ) : qcm P C mp os' a w H Φ := by
 have hf : ∀ b, qaB C w H Φ os b → qaB C w H Φ os' b := fun b hb => ⟨hb.fz, fun id o h => hb.obj id o (ho id o h), hb.may, hb.lt⟩
 cases mp with
 | none => trivial
 | some m =>
  obtain ⟨b, h1, h2, h3, h4, h5, h6⟩ := h
  refine ⟨b, h1, h2, hf b h3, h4, h5, fun ti lf e => ?_⟩
  obtain ⟨i, k1, k2⟩ := h6 ti lf e
  exact ⟨i, hf i k1, k2⟩
theorem qb4 {sk : qeS} {d : sk.Den} (h : sk.get s = some d) (hs : jY P C s a w) : jY P C (sk.fill d) a w := by
 obtain ⟨H, Φ, hs, hM⟩ := hs
 unfold qeS.get at h
 cases hw : sk.ts.all fun x => x.2.within sk.os with
 | false => rw [hw] at h; cases h
 | true =>
 rw [hw, cond_true] at h
 split at h
 ·rename_i d1 d2 d3 h1 h2 h3
  cases h
  have ho := qk0 h2
  have hsub : ∀ id o, (sk.fill (d1, d2, d3)).obj id = some o → s.obj id = some o := by
   intro id o hid
   have := ho id
   have hid' : (lk (qjT sk.os d2) id).join = some o := hid
   rw [this] at hid'
   split at hid'
   ·exact hid'
   ·cases hid'
  refine ⟨H, Φ, hs.weaken hsub ?_, (getK_ok h3 hM).weaken hsub⟩
  intro t av ht
  obtain ⟨b, hb, hk⟩ := qff (P := P) (C := C) (w := w) (H := H) (Φ := Φ) (osl := sk.os) (os' := (sk.fill (d1, d2, d3)).obj) (by
   intro id hid
   have := ho id
   rw [if_pos hid] at this
   exact this) hw h1 t av ht
  exact hk _ (hs.ts t b hb)
 ·cases h
theorem X.same_eq : ∀ {x y : X}, x.same y = true → x = y
 | .norm, .norm, _ => rfl
 | .ret, .ret, _ => rfl
 | .exit i, .exit j, h => by rw [Nat.eq_of_beq_eq_true h]
 | .norm, .ret, h => by cases h
 | .norm, .exit _, h => by cases h
 | .ret, .norm, h => by cases h
 | .ret, .exit _, h => by cases h
 | .exit _, .norm, h => by cases h
 | .exit _, .ret, h => by cases h
theorem qcJ {e : X} (hs : jY P C s a w) {k : X → St → Option R} : ∀ {outs : List (X × qeS)} {o : Outs outs}, qjv e s outs = some o → ∃ s', jY P C s' a w ∧ outK k outs o = k e s'
 | [], _, h => by cases h
 | [x], o, h => by
  simp only [qjv] at h
  cases hx : x.1.same e with
  | false => rw [hx] at h; cases h
  | true =>
   rw [hx, cond_true] at h
   exact ⟨_, qb4 h hs, by rw [← X.same_eq hx]; rfl⟩
 | x :: y :: l, o, h => by
  unfold qjv at h
  cases hx : x.1.same e with
  | false =>
   rw [hx, cond_false] at h
   split at h
   ·rename_i d hd
    cases h
    obtain ⟨s', h1, h2⟩ := qcJ (outs := y :: l) hs hd
    exact ⟨s', h1, h2⟩
   ·cases h
  | true =>
   rw [hx, cond_true] at h
   split at h
   ·rename_i d hd
    cases h
    exact ⟨_, qb4 hd hs, by rw [← X.same_eq hx]; rfl⟩
   ·cases h
def Post (P : Program) (C : Ctx) (k : X → St → Option R) (r : R) : Exit → Act → World → Prop
 | .normal, a, w => ∃ s, jY P C s a w ∧ k .norm s = some r
 | .exit i, a, w => ∃ s, jY P C s a w ∧ k (.exit i) s = some r
 | .ret, a, w => ∃ s, jY P C s a w ∧ k .ret s = some r
 | _, _, _ => False
theorem qch (hm : P.follows .mixedOrders = true) (hcfg : qB P cfg) (hC : qM C cfg) : ∀ (c : Code) {R : Type} {r : R} {n : Nat} {s : St} {k : X → St → Option R} {a : Act} {w : World}, qac cfg c → ql cfg c = true → jY P C s a w → run cfg n c s k = some r → c.wp P (Post P C k r) a w
 | .skip, R, r, n, s, k, a, w, _, _, hs, h => wp_skip ⟨s, hs, h⟩
 | .ret, R, r, n, s, k, a, w, _, _, hs, h => wp_ret ⟨s, hs, h⟩
 | .exit i, R, r, n, s, k, a, w, _, _, hs, h => wp_exit ⟨s, hs, h⟩
 | .region id ops draw, R, r, n, s, k, a, w, _, hd, hs, h => by
  simp only [run] at h
  cases hq : draw && s.mp.isSome with
  | true => rw [hq] at h; cases h
  | false =>
   rw [hq, cond_false] at h
   have hmp : draw = true → s.mp = none := by
    rintro rfl
    cases hmp : s.mp with
    | none => rfl
    | some m => rw [hmp] at hq; cases hq
   cases he : draw && qde id cfg.enum && Region.noSelect ops with
   | true =>
    rw [he, cond_true] at h
    rw [Bool.and_eq_true, Bool.and_eq_true] at he
    obtain ⟨⟨rfl, _⟩, hns⟩ := he
    split at h
    ·rename_i sk _
     rw [qo] at h
     replace h := Option.bind_eq_some_iff.1 h
     obtain ⟨d, h, h'⟩ := h
     exact wp_region_any hm (qi5 hcfg hC hns (fun s a w hs h => ⟨sk.fill d, qb4 h hs, h'⟩) (fun c a w h => h) _ _ _ (((qaJ (cfg := cfg) ops.toList (hs.sim.grow (qbs w))).1).simM ((qaJ (cfg := cfg) ops.toList (hs.sim.grow (qbs w))).2.trans (hmp rfl))) h)
    ·exact wp_region_any hm (qi5 hcfg hC hns (fun s a w hs h => ⟨s, hs, h⟩) (fun c a w h => h) _ _ _ (((qaJ (cfg := cfg) ops.toList (hs.sim.grow (qbs w))).1).simM ((qaJ (cfg := cfg) ops.toList (hs.sim.grow (qbs w))).2.trans (hmp rfl))) h)
   | false =>
    rw [he, cond_false] at h
    refine qlm hm hcfg hC ?_ (fun s a w hs h => ⟨s, hs, h⟩) hs h
    rintro rfl
    rw [Bool.true_and] at he
    simp only [ql, he, Bool.false_or] at hd
    exact ⟨hd, hmp rfl⟩
 | .seq x y, R, r, n, s, k, a, w, hl, hd, hs, h => by
  simp only [ql, Bool.and_eq_true] at hd
  refine wp_seq (wp_mono (qch hm hcfg hC x hl.1 hd.1 hs h) ?_)
  intro e a w hp
  cases e with
  | normal =>
   obtain ⟨s', hs', h'⟩ := hp
   exact qch hm hcfg hC y hl.2 hd.2 hs' h'
  | exit i => obtain ⟨s', hs', h'⟩ := hp; exact ⟨s', hs', h'⟩
  | ret => obtain ⟨s', hs', h'⟩ := hp; exact ⟨s', hs', h'⟩
  | _ => exact hp.elim
 | .cond c x y, R, r, n, s, k, a, w, hl, hd, hs, h => by
  simp only [ql, Bool.and_eq_true] at hd
  simp only [run] at h
  split at h
  ·rename_i b hb
   obtain ⟨H, Φ, hsb, hM⟩ := hs
   have hv := (qs hsb qK hb).bool
   refine wp_cond hv ?_
   cases b with
   | true => exact qch hm hcfg hC x hl.1 hd.1 ⟨H, Φ, hsb, hM⟩ h
   | false => exact qch hm hcfg hC y hl.2 hd.2 ⟨H, Φ, hsb, hM⟩ h
  ·cases h
 | .block i c, R, r, n, s, k, a, w, hl, hd, hs, h => by
  refine wp_block (wp_mono (qch hm hcfg hC c hl hd hs h) ?_)
  intro e a w hp
  cases e with
  | normal => obtain ⟨s', hs', h'⟩ := hp; exact ⟨s', hs', h'⟩
  | exit j =>
   obtain ⟨s', hs', h'⟩ := hp
   simp only [qi3] at h'
   unfold Exit.inBlock
   cases hb : Nat.beq j i with
   | true =>
    rw [hb] at h'
    obtain rfl := Nat.eq_of_beq_eq_true hb
    simp only [if_true]
    exact ⟨s', hs', h'⟩
   | false =>
    rw [hb] at h'
    simp only [Nat.ne_of_beq_eq_false hb, if_false]
    exact ⟨s', hs', h'⟩
  | ret => obtain ⟨s', hs', h'⟩ := hp; exact ⟨s', hs', h'⟩
  | _ => exact hp.elim
 | .loop c, R, r, n, s, k, a, w, hl, hd, hs, h => by
  simp only [run] at h
  split at h
  ·cases h
  ·rename_i key hkey
   split at h
   ·cases h
   ·rename_i li hli
    split at h
    ·cases h
    ·rename_i d hd'
     rw [qo] at h
     replace h := Option.bind_eq_some_iff.1 h
     obtain ⟨o, ho, h⟩ := h
     obtain ⟨heq0, heq⟩ := hl.2 key li hkey hli
     have hs' := qb4 hd' hs
     have rounds : ∀ m d a w, li.g m d = some o → jY P C (li.ins.fill d) a w → Code.rounds P c (Post P C k r) m a w := by
      intro m
      induction m with
      | zero => intro d a w hg; rw [heq0] at hg; cases hg
      | succ m ih =>
       intro d a w hg hsd
       rw [heq] at hg
       refine wp_mono (qch hm hcfg hC c hl.1 hd hsd hg) ?_
       intro e a w hp
       cases e with
       | normal =>
        obtain ⟨s2, hs2, h2⟩ := hp
        simp only [qN] at h2
        split at h2
        ·rename_i d2 hd2
         exact ih d2 a w h2 (qb4 hd2 hs2)
        ·cases h2
       | exit j =>
        obtain ⟨s2, hs2, h2⟩ := hp
        obtain ⟨s3, hs3, h3⟩ := qcJ hs2 (k := k) h2
        exact ⟨s3, hs3, by rw [← h3]; exact h⟩
       | ret =>
        obtain ⟨s2, hs2, h2⟩ := hp
        obtain ⟨s3, hs3, h3⟩ := qcJ hs2 (k := k) h2
        exact ⟨s3, hs3, by rw [← h3]; exact h⟩
       | _ => exact hp.elim
     exact wp_loop_rounds n (rounds n d a w ho hs')
 | .rangeFunc _ _ _ _, _, _, _, _, _, _, _, _, hd, _, _ => by cases hd
 | .scope _, _, _, _, _, _, _, _, _, _, _, h => by cases h
 | .label _, _, _, _, _, _, _, _, _, _, _, h => by cases h
 | .goto _, _, _, _, _, _, _, _, _, _, _, h => by cases h
 | .refuse _, _, _, _, _, _, _, _, _, _, _, h => by cases h
end
end Go.Vi
namespace Go.Vi
section
variable {P : Program} {C : Ctx} {cfg : qS} {R : Type} {r : R} {s : St} {a : Act} {w : World} {H : FH} {Φ : Nat → qF}
def nilI (id : Nat) : qF := if 4000000 ≤ id ∧ id < 7000000 then ⟨0, .slice (some ⟨0, 0, none⟩) 0 0, []⟩ else if 7000000 ≤ id ∧ id < 10000000 then ⟨0, .slice none 0 0, []⟩ else qH
theorem qjB (id : Nat) : cls id (nilI id).hdr := by
 unfold nilI
 by_cases h1 : 4000000 ≤ id ∧ id < 7000000
 ·rw [if_pos h1]
  exact ⟨fun _ _ => ⟨_, _, _, rfl⟩, fun _ _ => by omega⟩
 ·rw [if_neg h1]
  by_cases h2 : 7000000 ≤ id ∧ id < 10000000
  ·rw [if_pos h2]
   exact ⟨fun _ _ => by omega, fun _ _ => rfl⟩
  ·rw [if_neg h2]
   exact ⟨fun _ _ => by omega, fun _ _ => by omega⟩
def qad : List jL → List qF → Nat → List (Nat × qF)
 | .v _ :: ps, _ :: Φs, i => qad ps Φs (i + 1)
 | .r _ :: ps, _ :: Φs, i => qad ps Φs (i + 1)
 | .c _ :: ps, _ :: Φs, i => qad ps Φs (i + 1)
 | .m _ :: ps, φ :: Φs, i => (pid i, φ) :: qad ps Φs (i + 1)
 | .mr _ _ :: ps, φ :: Φs, i => (pid i, φ) :: qad ps Φs (i + 1)
 | .t _ _ :: ps, φ :: Φs, i => (pid i, φ) :: qad ps Φs (i + 1)
 | .gm _ :: ps, φ :: Φs, i => (pid i, φ) :: qad ps Φs (i + 1)
 | .cm _ _ :: ps, φ :: Φs, i => (pid i, φ) :: qad ps Φs (i + 1)
 | _, _, _ => []
theorem qeB {α : Type} {n : Nat} {x : α} : ∀ {l : List (Nat × α)}, (l.map (·.1)).Nodup → (n, x) ∈ l → lk l n = some x
 | [], _, h => by cases h
 | (m, y) :: l, hnd, h => by
  simp only [List.map_cons, List.nodup_cons] at hnd
  rw [jP]
  rcases List.mem_cons.1 h with e | h
  ·cases e; simp [Nat.beq_refl]
  ·have : Nat.beq m n = false := by
    cases hb : Nat.beq m n with
    | false => rfl
    | true => obtain rfl := Nat.eq_of_beq_eq_true hb; exact absurd (List.mem_map.2 ⟨_, h, rfl⟩) hnd.1
   rw [this]
   exact qeB hnd.2 h
theorem qaj {i j : Nat} (h : i < j) : pid i < pid j := by unfold pid; omega
theorem qaD : ∀ {ps : List jL} {d : PDens ps} {vs : List Value} {Φs : List qF} (i : Nat), jR P w H ps d vs Φs →
  vs.length = ps.length ∧ qf Φs = (qad ps Φs i).flatMap (·.2.fp) ∧ (∀ x ∈ qad ps Φs i, pid i ≤ x.1) ∧ ((qad ps Φs i).map (·.1)).Nodup ∧ ((jG ps i d).map (·.1)).Nodup ∧ (∀ x ∈ jG ps i d, pid i ≤ x.1) ∧
   (∀ id x, (id, x) ∈ jG ps i d → ∃ o φ, x = some o ∧ (id, φ) ∈ qad ps Φs i ∧ qX P w H o φ) ∧
   ∀ (Φ : Nat → qF) (os : Nat → Option Obj), (∀ x ∈ qad ps Φs i, Φ x.1 = x.2) → (∀ id o, (id, some o) ∈ jG ps i d → os id = some o) → ∀ t av, lk (jV ps i d) t = some av → ∃ j v, t = i + j ∧ vs[j]? = some v ∧ qn P C w H Φ os av v
 | [], d, vs, Φs, i, h => by
  obtain ⟨rfl, rfl⟩ := h
  exact ⟨rfl, rfl, by simp [qad], by simp [qad], by simp [jG], by simp [jG], by simp [jG], fun _ _ _ _ t av ht => by cases ht⟩
 | .v τ :: ps, d, vs, Φs, i, h => by
  obtain ⟨v, vs', φ, Φs', rfl, rfl, hfz, hφ, hv, h⟩ := h
  obtain ⟨h1, h2, h3, h4, h5, h6, h7, h8⟩ := qaD (i + 1) h
  refine ⟨by simp [h1], by simpa [qf, hφ, qad] using h2, fun x hx => Nat.le_trans (Nat.le_of_lt (qaj (Nat.lt_succ_self i))) (h3 x hx), h4, h5, fun x hx => Nat.le_trans (Nat.le_of_lt (qaj (Nat.lt_succ_self i))) (h6 x hx), h7, ?_⟩
  intro Φ os hΦ hos t av ht
  rw [jV, jP] at ht
  cases hb : Nat.beq i t with
  | true =>
   rw [hb] at ht
   cases ht
   obtain rfl := Nat.eq_of_beq_eq_true hb
   exact ⟨0, v, rfl, rfl, hfz, hv⟩
  | false =>
   rw [hb] at ht
   obtain ⟨j, u, e, hu, hr⟩ := h8 Φ os hΦ hos t av ht
   exact ⟨j + 1, u, by omega, by simpa using hu, hr⟩
 | .r τ :: ps, d, vs, Φs, i, h => by
  obtain ⟨v, vs', φ, Φs', rfl, rfl, hfz, hφ, hv, h⟩ := h
  obtain ⟨h1, h2, h3, h4, h5, h6, h7, h8⟩ := qaD (i + 1) h
  refine ⟨by simp [h1], by simpa [qf, hφ, qad] using h2, fun x hx => Nat.le_trans (Nat.le_of_lt (qaj (Nat.lt_succ_self i))) (h3 x hx), h4, h5, fun x hx => Nat.le_trans (Nat.le_of_lt (qaj (Nat.lt_succ_self i))) (h6 x hx), h7, ?_⟩
  intro Φ os hΦ hos t av ht
  rw [jV, jP] at ht
  cases hb : Nat.beq i t with
  | true =>
   rw [hb] at ht
   cases ht
   obtain rfl := Nat.eq_of_beq_eq_true hb
   exact ⟨0, v, rfl, rfl, hfz, hv⟩
  | false =>
   rw [hb] at ht
   obtain ⟨j, u, e, hu, hr⟩ := h8 Φ os hΦ hos t av ht
   exact ⟨j + 1, u, by omega, by simpa using hu, hr⟩
 | .c f :: ps, d, vs, Φs, i, h => by
  obtain ⟨v, vs', φ, Φs', rfl, rfl, hfz, hφ, hv, h⟩ := h
  obtain ⟨h1, h2, h3, h4, h5, h6, h7, h8⟩ := qaD (i + 1) h
  refine ⟨by simp [h1], by simpa [qf, hφ, qad] using h2, fun x hx => Nat.le_trans (Nat.le_of_lt (qaj (Nat.lt_succ_self i))) (h3 x hx), h4, h5, fun x hx => Nat.le_trans (Nat.le_of_lt (qaj (Nat.lt_succ_self i))) (h6 x hx), h7, ?_⟩
  intro Φ os hΦ hos t av ht
  rw [jV, jP] at ht
  cases hb : Nat.beq i t with
  | true =>
   rw [hb] at ht
   cases ht
   obtain rfl := Nat.eq_of_beq_eq_true hb
   exact ⟨0, v, rfl, rfl, #[], #[], hv, rfl, rfl⟩
  | false =>
   rw [hb] at ht
   obtain ⟨j, u, e, hu, hr⟩ := h8 Φ os hΦ hos t av ht
   exact ⟨j + 1, u, by omega, by simpa using hu, hr⟩
 | .m τ :: ps, d, vs, Φs, i, h => by
  obtain ⟨v, vs', φ, Φs', rfl, rfl, hv, hok, h⟩ := h
  obtain ⟨h1, h2, h3, h4, h5, h6, h7, h8⟩ := qaD (i + 1) h
  have hlt : pid i < pid (i + 1) := qaj (Nat.lt_add_one i)
  refine ⟨by simp [h1], by simpa [qf, qad] using h2, ?_, ?_, ?_, ?_, ?_, ?_⟩
  ·intro x hx
   rcases List.mem_cons.1 hx with rfl | hx
   ·exact Nat.le_refl _
   ·exact Nat.le_trans (Nat.le_of_lt hlt) (h3 x hx)
  ·simp only [qad, List.map_cons, List.nodup_cons]
   refine ⟨fun hm => ?_, h4⟩
   obtain ⟨x, hx, e⟩ := List.mem_map.1 hm
   have := h3 x hx
   omega
  ·simp only [jG, List.map_cons, List.nodup_cons]
   refine ⟨fun hm => ?_, h5⟩
   obtain ⟨x, hx, e⟩ := List.mem_map.1 hm
   have := h6 x hx
   omega
  ·intro x hx
   rcases List.mem_cons.1 hx with rfl | hx
   ·exact Nat.le_refl _
   ·exact Nat.le_trans (Nat.le_of_lt hlt) (h6 x hx)
  ·intro id x hx
   rcases List.mem_cons.1 hx with e | hx
   ·cases e
    exact ⟨_, φ, rfl, List.mem_cons_self, hok⟩
   ·obtain ⟨o, φ', e, hm, hok'⟩ := h7 id x hx
    exact ⟨o, φ', e, List.mem_cons_of_mem _ hm, hok'⟩
  ·intro Φ os hΦ hos t av ht
   rw [jV, jP] at ht
   cases hb : Nat.beq i t with
   | true =>
    rw [hb] at ht
    cases ht
    obtain rfl := Nat.eq_of_beq_eq_true hb
    have e := hΦ (pid i, φ) List.mem_cons_self
    simp only at e
    refine ⟨0, v, rfl, rfl, ⟨false, τ, d.1⟩, ⟨τ, d.1⟩, φ.b, 0, hos _ _ List.mem_cons_self, rfl, qO _ _, ?_, hv⟩
    rw [e]
    exact jU _ _ _ _
   | false =>
    rw [hb] at ht
    obtain ⟨j, u, e, hu, hr⟩ := h8 Φ os (fun x hx => hΦ x (List.mem_cons_of_mem _ hx)) (fun id o ho => hos id o (List.mem_cons_of_mem _ ho)) t av ht
    exact ⟨j + 1, u, by omega, by simpa using hu, hr⟩
 | .gm τ :: ps, d, vs, Φs, i, h => by
  obtain ⟨v, vs', φ, Φs', rfl, rfl, hv, hok, h⟩ := h
  obtain ⟨h1, h2, h3, h4, h5, h6, h7, h8⟩ := qaD (i + 1) h
  have hlt : pid i < pid (i + 1) := qaj (Nat.lt_add_one i)
  refine ⟨by simp [h1], by simpa [qf, qad] using h2, ?_, ?_, ?_, ?_, ?_, ?_⟩
  ·intro x hx
   rcases List.mem_cons.1 hx with rfl | hx
   ·exact Nat.le_refl _
   ·exact Nat.le_trans (Nat.le_of_lt hlt) (h3 x hx)
  ·simp only [qad, List.map_cons, List.nodup_cons]
   refine ⟨fun hm => ?_, h4⟩
   obtain ⟨x, hx, e⟩ := List.mem_map.1 hm
   have := h3 x hx
   omega
  ·simp only [jG, List.map_cons, List.nodup_cons]
   refine ⟨fun hm => ?_, h5⟩
   obtain ⟨x, hx, e⟩ := List.mem_map.1 hm
   have := h6 x hx
   omega
  ·intro x hx
   rcases List.mem_cons.1 hx with rfl | hx
   ·exact Nat.le_refl _
   ·exact Nat.le_trans (Nat.le_of_lt hlt) (h6 x hx)
  ·intro id x hx
   rcases List.mem_cons.1 hx with e | hx
   ·cases e
    exact ⟨_, φ, rfl, List.mem_cons_self, hok⟩
   ·obtain ⟨o, φ', e, hm, hok'⟩ := h7 id x hx
    exact ⟨o, φ', e, List.mem_cons_of_mem _ hm, hok'⟩
  ·intro Φ os hΦ hos t av ht
   rw [jV, jP] at ht
   cases hb : Nat.beq i t with
   | true =>
    rw [hb] at ht
    cases ht
    obtain rfl := Nat.eq_of_beq_eq_true hb
    have e := hΦ (pid i, φ) List.mem_cons_self
    simp only at e
    refine ⟨0, v, rfl, rfl, ⟨false, τ, d.1⟩, ⟨τ, d.1⟩, φ.b, 0, hos _ _ List.mem_cons_self, rfl, qO _ _, ?_, hv⟩
    rw [e]
    exact jU _ _ _ _
   | false =>
    rw [hb] at ht
    obtain ⟨j, u, e, hu, hr⟩ := h8 Φ os (fun x hx => hΦ x (List.mem_cons_of_mem _ hx)) (fun id o ho => hos id o (List.mem_cons_of_mem _ ho)) t av ht
    exact ⟨j + 1, u, by omega, by simpa using hu, hr⟩
 | .mr tid e :: ps, d, vs, Φs, i, h => by
  obtain ⟨v, vs', φ, Φs', rfl, rfl, hv, hok, h⟩ := h
  obtain ⟨h1, h2, h3, h4, h5, h6, h7, h8⟩ := qaD (i + 1) h
  have hlt : pid i < pid (i + 1) := qaj (Nat.lt_add_one i)
  refine ⟨by simp [h1], by simpa [qf, qad] using h2, ?_, ?_, ?_, ?_, ?_, ?_⟩
  ·intro x hx
   rcases List.mem_cons.1 hx with rfl | hx
   ·exact Nat.le_refl _
   ·exact Nat.le_trans (Nat.le_of_lt hlt) (h3 x hx)
  ·simp only [qad, List.map_cons, List.nodup_cons]
   refine ⟨fun hm => ?_, h4⟩
   obtain ⟨x, hx, e⟩ := List.mem_map.1 hm
   have := h3 x hx
   omega
  ·simp only [jG, List.map_cons, List.nodup_cons]
   refine ⟨fun hm => ?_, h5⟩
   obtain ⟨x, hx, e⟩ := List.mem_map.1 hm
   have := h6 x hx
   omega
  ·intro x hx
   rcases List.mem_cons.1 hx with rfl | hx
   ·exact Nat.le_refl _
   ·exact Nat.le_trans (Nat.le_of_lt hlt) (h6 x hx)
  ·intro id x hx
   rcases List.mem_cons.1 hx with e | hx
   ·cases e
    exact ⟨_, φ, rfl, List.mem_cons_self, hok⟩
   ·obtain ⟨o, φ', e, hm, hok'⟩ := h7 id x hx
    exact ⟨o, φ', e, List.mem_cons_of_mem _ hm, hok'⟩
  ·intro Φ os hΦ hos t av ht
   rw [jV, jP] at ht
   cases hb : Nat.beq i t with
   | true =>
    rw [hb] at ht
    cases ht
    obtain rfl := Nat.eq_of_beq_eq_true hb
    have e := hΦ (pid i, φ) List.mem_cons_self
    simp only at e
    refine ⟨0, v, rfl, rfl, ⟨true, .list true tid _, d.1⟩, ⟨.list true tid _, d.1⟩, hos _ _ List.mem_cons_self, qO _ _, ?_⟩
    simp only [List.isEmpty_nil, Bool.and_self]
    rw [e]
    exact hv
   | false =>
    rw [hb] at ht
    obtain ⟨j, u, e, hu, hr⟩ := h8 Φ os (fun x hx => hΦ x (List.mem_cons_of_mem _ hx)) (fun id o ho => hos id o (List.mem_cons_of_mem _ ho)) t av ht
    exact ⟨j + 1, u, by omega, by simpa using hu, hr⟩
 | .t tid e :: ps, d, vs, Φs, i, h => by
  obtain ⟨v, vs', φ, Φs', rfl, rfl, hv, hok, h⟩ := h
  obtain ⟨h1, h2, h3, h4, h5, h6, h7, h8⟩ := qaD (i + 1) h
  have hlt : pid i < pid (i + 1) := qaj (Nat.lt_add_one i)
  refine ⟨by simp [h1], by simpa [qf, qad] using h2, ?_, ?_, ?_, ?_, ?_, ?_⟩
  ·intro x hx
   rcases List.mem_cons.1 hx with rfl | hx
   ·exact Nat.le_refl _
   ·exact Nat.le_trans (Nat.le_of_lt hlt) (h3 x hx)
  ·simp only [qad, List.map_cons, List.nodup_cons]
   refine ⟨fun hm => ?_, h4⟩
   obtain ⟨x, hx, e⟩ := List.mem_map.1 hm
   have := h3 x hx
   omega
  ·simp only [jG, List.map_cons, List.nodup_cons]
   refine ⟨fun hm => ?_, h5⟩
   obtain ⟨x, hx, e⟩ := List.mem_map.1 hm
   have := h6 x hx
   omega
  ·intro x hx
   rcases List.mem_cons.1 hx with rfl | hx
   ·exact Nat.le_refl _
   ·exact Nat.le_trans (Nat.le_of_lt hlt) (h6 x hx)
  ·intro id x hx
   rcases List.mem_cons.1 hx with e | hx
   ·cases e
    exact ⟨_, φ, rfl, List.mem_cons_self, hok⟩
   ·obtain ⟨o, φ', e, hm, hok'⟩ := h7 id x hx
    exact ⟨o, φ', e, List.mem_cons_of_mem _ hm, hok'⟩
  ·intro Φ os hΦ hos t av ht
   rw [jV, jP] at ht
   cases hb : Nat.beq i t with
   | true =>
    rw [hb] at ht
    cases ht
    obtain rfl := Nat.eq_of_beq_eq_true hb
    have e := hΦ (pid i, φ) List.mem_cons_self
    simp only at e
    refine ⟨0, v, rfl, rfl, ⟨true, .list true tid _, d.1⟩, ⟨.list true tid _, d.1⟩, hos _ _ List.mem_cons_self, qO _ _, ?_⟩
    simp only [List.isEmpty_nil, Bool.and_self]
    rw [e]
    exact hv
   | false =>
    rw [hb] at ht
    obtain ⟨j, u, e, hu, hr⟩ := h8 Φ os (fun x hx => hΦ x (List.mem_cons_of_mem _ hx)) (fun id o ho => hos id o (List.mem_cons_of_mem _ ho)) t av ht
    exact ⟨j + 1, u, by omega, by simpa using hu, hr⟩
 | .cm f τ :: ps, d, vs, Φs, i, h => by
  obtain ⟨v, vs', φ, Φs', rfl, rfl, hv, hok, h⟩ := h
  obtain ⟨h1, h2, h3, h4, h5, h6, h7, h8⟩ := qaD (i + 1) h
  have hlt : pid i < pid (i + 1) := qaj (Nat.lt_add_one i)
  refine ⟨by simp [h1], by simpa [qf, qad] using h2, ?_, ?_, ?_, ?_, ?_, ?_⟩
  ·intro x hx
   rcases List.mem_cons.1 hx with rfl | hx
   ·exact Nat.le_refl _
   ·exact Nat.le_trans (Nat.le_of_lt hlt) (h3 x hx)
  ·simp only [qad, List.map_cons, List.nodup_cons]
   refine ⟨fun hm => ?_, h4⟩
   obtain ⟨x, hx, e⟩ := List.mem_map.1 hm
   have := h3 x hx
   omega
  ·simp only [jG, List.map_cons, List.nodup_cons]
   refine ⟨fun hm => ?_, h5⟩
   obtain ⟨x, hx, e⟩ := List.mem_map.1 hm
   have := h6 x hx
   omega
  ·intro x hx
   rcases List.mem_cons.1 hx with rfl | hx
   ·exact Nat.le_refl _
   ·exact Nat.le_trans (Nat.le_of_lt hlt) (h6 x hx)
  ·intro id x hx
   rcases List.mem_cons.1 hx with e | hx
   ·cases e
    exact ⟨_, φ, rfl, List.mem_cons_self, hok⟩
   ·obtain ⟨o, φ', e, hm, hok'⟩ := h7 id x hx
    exact ⟨o, φ', e, List.mem_cons_of_mem _ hm, hok'⟩
  ·intro Φ os hΦ hos t av ht
   rw [jV, jP] at ht
   cases hb : Nat.beq i t with
   | true =>
    rw [hb] at ht
    cases ht
    obtain rfl := Nat.eq_of_beq_eq_true hb
    have e := hΦ (pid i, φ) List.mem_cons_self
    simp only at e
    refine ⟨0, v, rfl, rfl, #[], #[.pointer (some ⟨φ.b, 0, none⟩)], hv, rfl, _, [], rfl, ⟨⟨false, τ, d.1⟩, ⟨τ, d.1⟩, φ.b, 0, hos _ _ List.mem_cons_self, rfl, qO _ _, ?_, rfl⟩, rfl⟩
    rw [e]
    exact jU _ _ _ _
   | false =>
    rw [hb] at ht
    obtain ⟨j, u, e, hu, hr⟩ := h8 Φ os (fun x hx => hΦ x (List.mem_cons_of_mem _ hx)) (fun id o ho => hos id o (List.mem_cons_of_mem _ ho)) t av ht
    exact ⟨j + 1, u, by omega, by simpa using hu, hr⟩
def qa8 (w : World) (H : FH) (nt : Nat) (ps : List jL) (Φs : List qF) : Ctx := ⟨w, (· ∈ qf Φs), H, nt, lk (qad ps Φs 0), [], fun _ => none⟩
theorem qdi {ps : List jL} {d : PDens ps} {vs : List Value} {Φs : List qF} (hok : HOk H w) (hargs : jR P w H ps d vs Φs) (hnd : (qf Φs).Nodup) (hfr : ∀ b ∈ qf Φs, H b = none ∧ b < w.heap.size) {nt : Nat} (hnt : ps.length ≤ nt) :
  qm P (qa8 w H nt ps Φs) (qbB ps d) { tmps := vs.toArray ++ Array.replicate (nt - vs.toArray.size) undef, defers := [] } w H (fun id => (lk (qad ps Φs 0) id).getD (nilI id)) := by
 obtain ⟨h1, h2, h3, h4, h5, h6, h7, h8⟩ := qaD (C := qa8 w H nt ps Φs) 0 hargs
 have hΦ : ∀ x ∈ qad ps Φs 0, (lk (qad ps Φs 0) x.1).getD (nilI x.1) = x.2 := fun x hx => by rw [qeB h4 hx]; rfl
 have hobj : ∀ id o, (qbB ps d).obj id = some o → (id, some o) ∈ jG ps 0 d := by
  intro id o ho
  have ho' : (lk (jG ps 0 d) id).join = some o := ho
  cases hq : lk (jG ps 0 d) id with
  | none => rw [hq] at ho'; cases ho'
  | some x => rw [hq] at ho'; simp only [Option.join_some] at ho'; rw [← ho']; exact qbh hq
 have hpin : ∀ id o, (qbB ps d).obj id = some o → ∃ φ, (id, φ) ∈ qad ps Φs 0 ∧ qX P w H o φ := by
  intro id o ho
  obtain ⟨o', φ, e, hm, hok⟩ := h7 id _ (hobj id o ho)
  cases e
  exact ⟨φ, hm, hok⟩
 refine ⟨rfl, ?_, FH.le_refl _, hok, fun b c hb => .inl hb, j9.refl _ _, ?_, ?_, ?_, ?_⟩
 ·simp only [Array.size_append, List.size_toArray, Array.size_replicate, qa8]
  omega
 ·intro t av ht
  obtain ⟨j, v, e, hv, hr⟩ := h8 (fun id => (lk (qad ps Φs 0) id).getD (nilI id)) (qbB ps d).obj hΦ (fun id o ho => by
   show (lk (jG ps 0 d) id).join = some o
   rw [qeB h5 ho]; rfl) t av ht
  obtain rfl : t = j := by omega
  have : (vs.toArray ++ Array.replicate (nt - vs.toArray.size) undef).getD t undef = v := by
   have hlt := (List.getElem?_eq_some_iff.1 hv).1
   rw [Array.getD_eq_getD_getElem?, Array.getElem?_append_left (by simpa using hlt)]
   simp [hv]
  simp only [this]
  exact hr
 ·intro id o ho
  obtain ⟨φ, hm, hok⟩ := hpin id o ho
  rw [hΦ _ hm]
  refine ⟨hok, fun b hb => ?_⟩
  have hb' : b ∈ qf Φs := by rw [h2]; exact List.mem_flatMap.2 ⟨_, hm, hb⟩
  exact ⟨(hfr b hb').1, .inl hb', (hfr b hb').2⟩
 ·intro i j o o' hij hi hj b hb
  obtain ⟨φ, hm, _⟩ := hpin i o hi
  obtain ⟨φ', hm', _⟩ := hpin j o' hj
  rw [hΦ _ hm] at hb
  rw [hΦ _ hm']
  rw [h2] at hnd
  exact qfL hnd _ hm _ hm' (by intro e; cases e; exact hij rfl) b hb
 ·refine ⟨fun id φ hφ => ?_, fun id => ?_⟩
  ·have : lk (qad ps Φs 0) id = some φ := hφ
   rw [this]
   exact ⟨rfl, rfl⟩
  ·cases hq : lk (qad ps Φs 0) id with
   | none => exact qjB id
   | some φ =>
    have h := h3 _ (qbh hq)
    exact qjY (Nat.le_trans (by unfold pid; omega) h)
theorem qev {ps : List jL} {d : PDens ps} {vs : List Value} {Φs : List qF} (hargs : jR P w H ps d vs Φs) : qM (qa8 w H cfg.nt ps Φs) cfg := by
 obtain ⟨_, _, h3, _⟩ := qaD (C := qa8 w H cfg.nt ps Φs) 0 hargs
 refine ⟨rfl, fun id hid => ?_⟩
 show lk (qad ps Φs 0) id = none
 cases hq : lk (qad ps Φs 0) id with
 | none => rfl
 | some φ =>
  have h := h3 _ (qbh hq)
  have h' : pid 0 ≤ id := h
  unfold pid at h'
  omega
end
end Go.Vi
namespace Go.Vi
section
variable {P : Program} {C : Ctx} {cfg : qS} {R : Type} {r : R} {s : St} {a : Act} {w : World} {H : FH} {Φ : Nat → qF}
theorem qdJ {t : TypeId} {τ : Ty} (h : qZ P t τ) {w : World} {b o : Nat} {blk : Array Value} {bt : TypeId} {f : Nat × Nat} (hb : w.heap[b]? = some (.cells blk bt f)) (hs : (seg blk o τ.size).length = τ.size) :
  (loadVar t ⟨b, o, none⟩).run P w = .ok (jZ τ (seg blk o τ.size)) w := by
 obtain ⟨_, _, _, hp, _⟩ := h.info
 obtain ⟨pre, post, e1, e2⟩ := qhV hs hp
 have := qf2 h hb e1 hs
 rw [e2] at this
 exact this
theorem loadK_ok (hcfg : qB P cfg) (hs : qm P C s a w H Φ) {T : TypeId} {av : AV} {v : Value} (hr : qn P C w H Φ s.obj av v) {kk : AV → Option R} (h : qjK s (lk cfg.ty T) av kk = some r) :
  ∃ bv u, kk bv = some r ∧ qn P C w H Φ s.obj bv u ∧ ∃ ad, v = .pointer (some ad) ∧ (loadVar T ad).run P w = .ok u w := by
 unfold qjK at h
 split at h
 ·rename_i σ y
  cases hT : decide (lk cfg.ty T = some σ) with
  | false => rw [hT] at h; cases h
  | true =>
   rw [hT, cond_true] at h
   obtain ⟨hty, _⟩ := hcfg.ty T _ (of_decide_eq_true hT)
   obtain ⟨hf, b, o, blk, hv, hH, hrep⟩ := hr
   obtain ⟨t, f, hb⟩ := hs.hok b blk hH
   exact ⟨_, jZ σ (seg blk o σ.size), h, ⟨hf, _, rfl, hrep⟩, _, hv, qdJ hty hb (qx.length σ hrep)⟩
 ·rename_i id p
  obtain ⟨o, y, b, off, h1, h2, h3, h4, hv⟩ := hr
  rw [h1] at h
  simp only [h2, cond_false] at h
  have hyt := jN _ h3
  rw [hyt] at h
  obtain ⟨σ, y⟩ := y
  simp only at h hyt
  cases hT : decide (lk cfg.ty T = some σ.fz) with
  | false => rw [hT] at h; cases h
  | true =>
   rw [hT, cond_true] at h
   obtain ⟨hty, _⟩ := hcfg.ty T _ (of_decide_eq_true hT)
   have hty' := qZ.unfz hty
   have hok := (hs.os id o h1).1
   obtain ⟨b', o', hl, blk', t', pre', c, post', f1, f', f2, e1, e2, e3, e4, e5, e6, _⟩ := hok.desc (y := y) h3 ⟨w, _, _, h4⟩ h2
   obtain ⟨rfl, rfl⟩ := qak.det h4 (hl w (fun _ _ => rfl))
   have hseg : seg blk' off σ.size = c := by rw [← e3]; exact j5 e2 (qx.length σ e6)
   have hrun : (loadVar T ⟨b, off, none⟩).run P w = .ok (jZ σ c) w := by
    have := qdJ hty' (o := off) e1 (by rw [hseg]; exact qx.length σ e6)
    rw [hseg] at this
    exact this
   cases hfz : σ.isFz with
   | true =>
    rw [hfz, cond_true, jX, h3] at h
    have hf0 := qx.fz_fp σ hfz e6
    subst hf0
    exact ⟨_, jZ σ c, h, ⟨hfz, c, rfl, e6⟩, _, hv, hrun⟩
   | false =>
    rw [hfz, cond_false] at h
    refine ⟨_, jZ σ c, h, ⟨o, ⟨σ, y⟩, h1, h3, ?_⟩, _, hv, hrun⟩
    rw [h2]
    exact ⟨b, off, blk', t', h4, e1, by rw [hseg]⟩
 ·cases h
def qgu (P : Program) (a : Act) (w : World) (v : ResultVar) (u : Value) : Prop :=
 (match v with
  | .tmp t => (pure (a.tmps.getD t undef) : Sem Value)
  | .cell x t => do loadVar t (← asAddr (a.tmps.getD x undef))).run P w = .ok u w
theorem qdT (hcfg : qB P cfg) (hs : qm P C s a w H Φ) {v : ResultVar} {kk : AV → Option R} (h : qgF cfg s v kk = some r) : ∃ av u, kk av = some r ∧ qn P C w H Φ s.obj av u ∧ qgu P a w v u := by
 unfold qgF at h
 split at h
 ·rename_i t
  split at h
  ·rename_i av hav
   exact ⟨av, _, h, hs.ts t av hav, rfl⟩
  ·cases h
 ·rename_i t T
  split at h
  ·rename_i av hav
   obtain ⟨bv, u, h, hr, ad, hv, hrun⟩ := loadK_ok hcfg hs (hs.ts t av hav) h
   refine ⟨bv, u, h, hr, ?_⟩
   unfold qgu
   simp [hv, asAddr, hrun]
  ·cases h
theorem qjk (g : ResultVar → Sem Value) : ∀ (l : List ResultVar) (us : List Value), j7 (fun v u => (g v).run P w = .ok u w) l us → (l.mapM g).run P w = .ok us w
 | [], us, h => by match us, h with | [], _ => simp
 | v :: l, us, h => by
  match us, h with
  | u :: us, h =>
   have h1 := h.1
   simp only at h1
   rw [List.mapM_cons]
   simp only [Sem.run_bind, h1, Result.andThen_ok, qjk g l us h.2]
   simp
  | [], h => exact h.elim
theorem qlk (g : ResultVar → Sem Value) (l : Array ResultVar) (us : List Value) (h : j7 (fun v u => (g v).run P w = .ok u w) l.toList us) : (l.mapM g).run P w = .ok us.toArray w := by
 rw [Array.mapM_eq_mapM_toList]
 simp only [Sem.run_map, qjk g _ _ h, Result.andThen_ok]
theorem qcR {fn : Func} {us : List Value} (h : j7 (qgu P a w) fn.results.toList us) : (results fn a.tmps).run P w = .ok (qah us) w := by
 unfold results
 rw [Sem.run_bind, qlk _ fn.results us (j7.imp (fun v u h => by cases v <;> exact h) h)]
 simp only [Result.andThen_ok]
 match us with
 | [] => simp [qah]
 | [u] => simp [qah]
 | _ :: _ :: _ => simp [qah]
theorem qgE (s : St) (av : AV) (τ : Ty) (kk : τ.den → Option R) : qbN s av τ kk = (qbN s av τ some).bind kk := by
 unfold qbN
 split
 ·simp [qo]
 ·split
  ·simp only [jX, qo]
   cases j1 _ _ _ <;> simp
  ·rfl
 ·simp [qo]
 ·split
  ·rename_i o _
   cases o.row with
   | true => rfl
   | false =>
    simp only [cond_false]
    split
    ·simp [qo]
    ·rfl
  ·rfl
 ·rfl
theorem qiq {l r : List Nat} (h : qaz l r = true) {id : Nat} (hid : id ∈ l) : id ∉ r := (qbT h).2 id hid
theorem qdq (hcfg : qB P cfg) (hs : qm P C s a w H Φ) : ∀ {vs : List ResultVar} {rs : List RTy} {used : List Nat} {kk : RDens rs → Option R}, qgh cfg s used vs rs kk = some r →
  ∃ T hand : List Nat, (∀ id ∈ T, id ∉ used) ∧ hand.Nodup ∧ (∀ id ∈ hand, id ∉ used ∧ id ∉ T) ∧ ∀ Hf, H.le Hf → Fzn w Hf Φ s.obj T →
   ∃ d us Ψs, kk d = some r ∧ j7 (qgu P a w) vs us ∧ qai P w Hf rs d us Ψs ∧ (qf Ψs).Nodup ∧ ∀ b ∈ qf Ψs, ∃ id ∈ hand, ∃ o, s.obj id = some o ∧ b ∈ (Φ id).fp
 | [], [], used, kk, h => ⟨[], [], by simp, by simp, by simp, fun Hf _ _ => ⟨(), [], [], h, trivial, ⟨rfl, rfl⟩, by simp [qf], by simp [qf]⟩⟩
 | [], .v _ :: _, _, _, h => by cases h
 | [], .own _ _ :: _, _, _, h => by cases h
 | [], .optr _ :: _, _, _, h => by cases h
 | [], .ownv _ :: _, _, _, h => by cases h
 | [], .sure _ _ _ :: _, _, _, h => by cases h
 | _ :: _, [], _, _, h => by cases h
 | v :: vs, .v τ :: rs, used, kk, h => by
  simp only [qgh] at h
  obtain ⟨av, u, h, hr, hrun⟩ := qdT hcfg hs h
  cases hap : qaz av.touches used with
  | false => rw [hap] at h; cases h
  | true =>
  rw [hap, cond_true] at h
  rw [qgE] at h
  replace h := Option.bind_eq_some_iff.1 h
  obtain ⟨x, hsn, hx⟩ := h
  obtain ⟨T, hand, t1, t2, t3, t4⟩ := qdq hcfg hs hx
  refine ⟨av.touches ++ T, hand, ?_, t2, ?_, ?_⟩
  ·intro id hid
   rcases List.mem_append.1 hid with hid | hid
   ·exact qiq hap hid
   ·exact fun hu => t1 id hid (List.mem_append.2 (.inr hu))
  ·intro id hid
   obtain ⟨q1, q2⟩ := t3 id hid
   refine ⟨fun hu => q1 (List.mem_append.2 (.inr hu)), fun hu => ?_⟩
   rcases List.mem_append.1 hu with hu | hu
   ·exact q1 (List.mem_append.2 (.inl hu))
   ·exact q2 hu
  ·intro Hf hle hf
   obtain ⟨hfz, x2, hx2, hv2⟩ := qcH hs hle (FH.le_refl Hf) (fun id hid => hf id (by simp [hid])) (.inl hr) hsn
   cases hx2
   obtain ⟨d, us, Ψs, g1, g2, g3, g4, g5⟩ := t4 Hf hle (fun id hid => hf id (by simp [hid]))
   exact ⟨(x, d), u :: us, qH :: Ψs, g1, ⟨hrun, g2⟩, ⟨u, us, qH, Ψs, rfl, rfl, hfz, rfl, hv2, g3⟩, by simpa [qf, qH] using g4, by simpa [qf, qH] using g5⟩
 | v :: vs, .own tid e :: rs, used, kk, h => by
  simp only [qgh] at h
  obtain ⟨av, u, h, hr, hrun⟩ := qdT hcfg hs h
  split at h
  case h_2 => cases h
  rename_i id p
  cases hu : qaR id used with
  | true => rw [hu] at h; cases h
  | false =>
  rw [hu, cond_false] at h
  have hnu : id ∉ used := fun hm => by rw [qbi.2 hm] at hu; cases hu
  split at h
  case h_2 => cases h
  rename_i o ho
  rw [jX] at h
  replace h := Option.bind_eq_some_iff.1 h
  obtain ⟨y, hy, h⟩ := h
  rw [qo] at h
  replace h := Option.bind_eq_some_iff.1 h
  obtain ⟨x, hx, h⟩ := h
  obtain ⟨T, hand, t1, t2, t3, t4⟩ := qdq hcfg hs h
  have hok := (hs.os id o ho).1
  obtain ⟨cs, fp, hv, hrep, hsub, hndf⟩ := qbK hr ho hok hy
  obtain ⟨σ, y⟩ := y
  obtain ⟨e1, hx⟩ := qj hx
  simp only at e1
  subst e1
  subst hx
  have hnf := qaA _ hok.1 hy
  obtain ⟨hdr, xs, fp', rfl, rfl, k3, k4⟩ := hrep
  refine ⟨T, id :: hand, fun j hj hm => t1 j hj (List.mem_cons_of_mem _ hm), ?_, ?_, ?_⟩
  ·exact List.nodup_cons.2 ⟨fun hm => (t3 id hm).1 List.mem_cons_self, t2⟩
  ·intro j hj
   rcases List.mem_cons.1 hj with rfl | hj
   ·exact ⟨hnu, fun hm => t1 j hm List.mem_cons_self⟩
   ·exact ⟨fun hm => (t3 j hj).1 (List.mem_cons_of_mem _ hm), (t3 j hj).2⟩
  ·intro Hf hle hf
   obtain ⟨d, us, Ψs, g1, g2, g3, g4, g5⟩ := t4 Hf hle hf
   have hv' : u = hdr := hv
   refine ⟨(_, d), u :: us, ⟨0, hdr, hdr.ownBlock.toList ++ fp'⟩ :: Ψs, g1, ⟨hrun, g2⟩, ⟨u, us, _, Ψs, rfl, rfl, hv', qX.of_list hnf hndf (qx.mono _ hle (fun _ _ => rfl) ⟨hdr, xs, fp', rfl, rfl, k3, k4⟩), g3⟩, ?_, ?_⟩
   ·have : qf (⟨0, hdr, hdr.ownBlock.toList ++ fp'⟩ :: Ψs) = (hdr.ownBlock.toList ++ fp') ++ qf Ψs := by simp [qf]
    rw [this, List.nodup_append]
    refine ⟨hndf, g4, ?_⟩
    rintro b hb _ hb' rfl
    obtain ⟨j, hj, o', ho', hbj⟩ := g5 b hb'
    exact hs.disj id j o o' (by rintro rfl; exact (t3 id hj).1 List.mem_cons_self) ho ho' b (hsub b hb) hbj
   ·intro b hb
    have : qf (⟨0, hdr, hdr.ownBlock.toList ++ fp'⟩ :: Ψs) = (hdr.ownBlock.toList ++ fp') ++ qf Ψs := by simp [qf]
    rw [this] at hb
    rcases List.mem_append.1 hb with hb | hb
    ·exact ⟨id, List.mem_cons_self, o, ho, hsub b hb⟩
    ·obtain ⟨j, hj, o', ho', hbj⟩ := g5 b hb
     exact ⟨j, List.mem_cons_of_mem _ hj, o', ho', hbj⟩
 | v :: vs, .ownv τ :: rs, used, kk, h => by
  simp only [qgh] at h
  obtain ⟨av, u, h, hr, hrun⟩ := qdT hcfg hs h
  split at h
  case h_2 => cases h
  rename_i id p
  cases hu0 : qaR id used || !qeA τ with
  | true => rw [hu0] at h; cases h
  | false =>
  rw [hu0, cond_false] at h
  rw [Bool.or_eq_false_iff, Bool.not_eq_false'] at hu0
  obtain ⟨hu, hrow⟩ := hu0
  have hnu : id ∉ used := fun hm => by rw [qbi.2 hm] at hu; cases hu
  split at h
  case h_2 => cases h
  rename_i o ho
  rw [jX] at h
  replace h := Option.bind_eq_some_iff.1 h
  obtain ⟨y, hy, h⟩ := h
  rw [qo] at h
  replace h := Option.bind_eq_some_iff.1 h
  obtain ⟨x, hx, h⟩ := h
  obtain ⟨T, hand, t1, t2, t3, t4⟩ := qdq hcfg hs h
  have hok := (hs.os id o ho).1
  obtain ⟨cs, fp, hv, hrep, hsub, hndf⟩ := qbK hr ho hok hy
  obtain ⟨σ, y⟩ := y
  obtain ⟨e1, hx⟩ := qj hx
  simp only at e1
  subst e1
  subst hx
  have hnf := qaA _ hok.1 hy
  refine ⟨T, id :: hand, fun j hj hm => t1 j hj (List.mem_cons_of_mem _ hm), ?_, ?_, ?_⟩
  ·exact List.nodup_cons.2 ⟨fun hm => (t3 id hm).1 List.mem_cons_self, t2⟩
  ·intro j hj
   rcases List.mem_cons.1 hj with rfl | hj
   ·exact ⟨hnu, fun hm => t1 j hm List.mem_cons_self⟩
   ·exact ⟨fun hm => (t3 j hj).1 (List.mem_cons_of_mem _ hm), (t3 j hj).2⟩
  ·intro Hf hle hf
   obtain ⟨d, us, Ψs, g1, g2, g3, g4, g5⟩ := t4 Hf hle hf
   refine ⟨(_, d), u :: us, ⟨0, u, fp⟩ :: Ψs, g1, ⟨hrun, g2⟩, ⟨u, us, _, Ψs, rfl, rfl, rfl, ⟨hnf, hndf, hrow, cs, hv, qx.mono _ hle (fun _ _ => rfl) hrep⟩, g3⟩, ?_, ?_⟩
   ·have : qf (⟨0, u, fp⟩ :: Ψs) = fp ++ qf Ψs := by simp [qf]
    rw [this, List.nodup_append]
    refine ⟨hndf, g4, ?_⟩
    rintro b hb _ hb' rfl
    obtain ⟨j, hj, o', ho', hbj⟩ := g5 b hb'
    exact hs.disj id j o o' (by rintro rfl; exact (t3 id hj).1 List.mem_cons_self) ho ho' b (hsub b hb) hbj
   ·intro b hb
    have : qf (⟨0, u, fp⟩ :: Ψs) = fp ++ qf Ψs := by simp [qf]
    rw [this] at hb
    rcases List.mem_append.1 hb with hb | hb
    ·exact ⟨id, List.mem_cons_self, o, ho, hsub b hb⟩
    ·obtain ⟨j, hj, o', ho', hbj⟩ := g5 b hb
     exact ⟨j, List.mem_cons_of_mem _ hj, o', ho', hbj⟩
 | v :: vs, .optr τ :: rs, used, kk, h => by
  simp only [qgh] at h
  obtain ⟨av, u, h, hr, hrun⟩ := qdT hcfg hs h
  split at h
  case h_2 => cases h
  rename_i id
  cases hu : qaR id used with
  | true => rw [hu] at h; cases h
  | false =>
  rw [hu, cond_false] at h
  have hnu : id ∉ used := fun hm => by rw [qbi.2 hm] at hu; cases hu
  split at h
  case h_2 => cases h
  rename_i o ho
  obtain ⟨row, σ, x0⟩ := o
  cases row with
  | true => cases h
  | false =>
  simp only [cond_false, qo] at h
  replace h := Option.bind_eq_some_iff.1 h
  obtain ⟨x, hx, h⟩ := h
  obtain ⟨T, hand, t1, t2, t3, t4⟩ := qdq hcfg hs h
  have hok := (hs.os id _ ho).1
  obtain ⟨e1, hx⟩ := qj hx
  subst e1
  subst hx
  obtain ⟨o2, y2, b, off, q1, _, _, q4, q5⟩ := hr
  rw [ho] at q1
  cases q1
  obtain ⟨rfl, rfl⟩ := Loc.det _ q4 (jU w σ (Φ id).b 0)
  refine ⟨T, id :: hand, fun j hj hm => t1 j hj (List.mem_cons_of_mem _ hm), ?_, ?_, ?_⟩
  ·exact List.nodup_cons.2 ⟨fun hm => (t3 id hm).1 List.mem_cons_self, t2⟩
  ·intro j hj
   rcases List.mem_cons.1 hj with rfl | hj
   ·exact ⟨hnu, fun hm => t1 j hm List.mem_cons_self⟩
   ·exact ⟨fun hm => (t3 j hj).1 (List.mem_cons_of_mem _ hm), (t3 j hj).2⟩
  ·intro Hf hle hf
   obtain ⟨d, us, Ψs, g1, g2, g3, g4, g5⟩ := t4 Hf hle hf
   have hfe : qf (Φ id :: Ψs) = (Φ id).fp ++ qf Ψs := by simp [qf]
   refine ⟨(_, d), u :: us, Φ id :: Ψs, g1, ⟨hrun, g2⟩, ⟨u, us, _, Ψs, rfl, rfl, q5, hok.frame hle (fun _ _ => rfl), g3⟩, ?_, ?_⟩
   ·rw [hfe, List.nodup_append]
    refine ⟨hok.2.1, g4, ?_⟩
    rintro b hb _ hb' rfl
    obtain ⟨j, hj, o', ho', hbj⟩ := g5 b hb'
    exact hs.disj id j _ o' (by rintro rfl; exact (t3 id hj).1 List.mem_cons_self) ho ho' b hb hbj
   ·intro b hb
    rw [hfe] at hb
    rcases List.mem_append.1 hb with hb | hb
    ·exact ⟨id, List.mem_cons_self, _, ho, hb⟩
    ·obtain ⟨j, hj, o', ho', hbj⟩ := g5 b hb
     exact ⟨j, List.mem_cons_of_mem _ hj, o', ho', hbj⟩
 | v :: vs, .sure nn tid e :: rs, used, kk, h => by
  simp only [qgh] at h
  obtain ⟨av, u, h, hr, hrun⟩ := qdT hcfg hs h
  split at h
  case h_2 => cases h
  rename_i id
  cases hu : qaR id used || !qeH id nn with
  | true => rw [hu] at h; cases h
  | false =>
  rw [hu, cond_false] at h
  rw [Bool.or_eq_false_iff, Bool.not_eq_false'] at hu
  have hnu : id ∉ used := fun hm => by rw [qbi.2 hm] at hu; cases hu.1
  split at h
  case h_2 => cases h
  rename_i o ho
  obtain ⟨row, σ, x0⟩ := o
  cases row with
  | false => cases h
  | true =>
  simp only [cond_true, qo] at h
  replace h := Option.bind_eq_some_iff.1 h
  obtain ⟨x, hx, h⟩ := h
  obtain ⟨T, hand, t1, t2, t3, t4⟩ := qdq hcfg hs h
  have hok := (hs.os id _ ho).1
  obtain ⟨e1, hx⟩ := qj hx
  subst e1
  subst hx
  obtain ⟨o2, y2, q1, _, q5⟩ := hr
  rw [ho] at q1
  cases q1
  simp only [List.isEmpty_nil, Bool.and_self] at q5
  have hsv := qgA hu.2 (hs.pins.2 id)
  refine ⟨T, id :: hand, fun j hj hm => t1 j hj (List.mem_cons_of_mem _ hm), ?_, ?_, ?_⟩
  ·exact List.nodup_cons.2 ⟨fun hm => (t3 id hm).1 List.mem_cons_self, t2⟩
  ·intro j hj
   rcases List.mem_cons.1 hj with rfl | hj
   ·exact ⟨hnu, fun hm => t1 j hm List.mem_cons_self⟩
   ·exact ⟨fun hm => (t3 j hj).1 (List.mem_cons_of_mem _ hm), (t3 j hj).2⟩
  ·intro Hf hle hf
   obtain ⟨d, us, Ψs, g1, g2, g3, g4, g5⟩ := t4 Hf hle hf
   have hfe : qf (Φ id :: Ψs) = (Φ id).fp ++ qf Ψs := by simp [qf]
   refine ⟨(_, d), u :: us, Φ id :: Ψs, g1, ⟨hrun, g2⟩, ⟨u, us, _, Ψs, rfl, rfl, q5, hok.frame hle (fun _ _ => rfl), hsv, g3⟩, ?_, ?_⟩
   ·rw [hfe, List.nodup_append]
    refine ⟨hok.2.1, g4, ?_⟩
    rintro b hb _ hb' rfl
    obtain ⟨j, hj, o', ho', hbj⟩ := g5 b hb'
    exact hs.disj id j _ o' (by rintro rfl; exact (t3 id hj).1 List.mem_cons_self) ho ho' b hb hbj
   ·intro b hb
    rw [hfe] at hb
    rcases List.mem_append.1 hb with hb | hb
    ·exact ⟨id, List.mem_cons_self, _, ho, hb⟩
    ·obtain ⟨j, hj, o', ho', hbj⟩ := g5 b hb
     exact ⟨j, List.mem_cons_of_mem _ hj, o', ho', hbj⟩
end
end Go.Vi
namespace Go.Vi
section
variable {P : Program} {C : Ctx} {cfg : qS} {s : St} {a : Act} {w : World} {H : FH} {Φ : Nat → qF}
theorem qaI : ∀ {ps : List jL} {i : Nat}, (∀ id ∈ qat ps i, pid i ≤ id) ∧ (qat ps i).Nodup
 | [], _ => ⟨by simp [qat], by simp [qat]⟩
 | .v _ :: ps, i => by
  obtain ⟨h1, h2⟩ := qaI (ps := ps) (i := i + 1)
  exact ⟨fun id hid => Nat.le_trans (Nat.le_of_lt (qaj (Nat.lt_add_one i))) (h1 id hid), h2⟩
 | .r _ :: ps, i => by
  obtain ⟨h1, h2⟩ := qaI (ps := ps) (i := i + 1)
  exact ⟨fun id hid => Nat.le_trans (Nat.le_of_lt (qaj (Nat.lt_add_one i))) (h1 id hid), h2⟩
 | .c _ :: ps, i => by
  obtain ⟨h1, h2⟩ := qaI (ps := ps) (i := i + 1)
  exact ⟨fun id hid => Nat.le_trans (Nat.le_of_lt (qaj (Nat.lt_add_one i))) (h1 id hid), h2⟩
 | .m _ :: ps, i => by
  obtain ⟨h1, h2⟩ := qaI (ps := ps) (i := i + 1)
  have hlt : pid i < pid (i + 1) := qaj (Nat.lt_add_one i)
  refine ⟨fun id hid => ?_, List.nodup_cons.2 ⟨fun hm => ?_, h2⟩⟩
  ·rcases List.mem_cons.1 hid with rfl | hid
   ·exact Nat.le_refl _
   ·exact Nat.le_trans (Nat.le_of_lt hlt) (h1 id hid)
  ·have := h1 _ hm; omega
 | .mr _ _ :: ps, i => by
  obtain ⟨h1, h2⟩ := qaI (ps := ps) (i := i + 1)
  have hlt : pid i < pid (i + 1) := qaj (Nat.lt_add_one i)
  refine ⟨fun id hid => ?_, List.nodup_cons.2 ⟨fun hm => ?_, h2⟩⟩
  ·rcases List.mem_cons.1 hid with rfl | hid
   ·exact Nat.le_refl _
   ·exact Nat.le_trans (Nat.le_of_lt hlt) (h1 id hid)
  ·have := h1 _ hm; omega
 | .t _ _ :: ps, i => by
  obtain ⟨h1, h2⟩ := qaI (ps := ps) (i := i + 1)
  exact ⟨fun id hid => Nat.le_trans (Nat.le_of_lt (qaj (Nat.lt_add_one i))) (h1 id hid), h2⟩
 | .gm _ :: ps, i => by
  obtain ⟨h1, h2⟩ := qaI (ps := ps) (i := i + 1)
  exact ⟨fun id hid => Nat.le_trans (Nat.le_of_lt (qaj (Nat.lt_add_one i))) (h1 id hid), h2⟩
 | .cm _ _ :: ps, i => by
  obtain ⟨h1, h2⟩ := qaI (ps := ps) (i := i + 1)
  have hlt : pid i < pid (i + 1) := qaj (Nat.lt_add_one i)
  refine ⟨fun id hid => ?_, List.nodup_cons.2 ⟨fun hm => ?_, h2⟩⟩
  ·rcases List.mem_cons.1 hid with rfl | hid
   ·exact Nat.le_refl _
   ·exact Nat.le_trans (Nat.le_of_lt hlt) (h1 id hid)
  ·have := h1 _ hm; omega
theorem qar (hs : qm P C s a w H Φ) {Hf : FH} (hle : H.le Hf) {w0 : World} {H0 : FH} : ∀ {ps : List jL} {i : Nat} {d : PDens ps} {vs : List Value} {Φs : List qF} {md : MDens ps}, jR P w0 H0 ps d vs Φs →
  (∀ x ∈ qad ps Φs i, (Φ x.1).b = x.2.b ∧ (Φ x.1).hdr = x.2.hdr) → jB s ps i = some md → ∃ Φs', jQ P w Hf ps md vs Φs' ∧ qf Φs' = (qat ps i).flatMap (fun id => (Φ id).fp) ∧ ∀ id ∈ qat ps i, ∃ o, s.obj id = some o
 | [], i, d, vs, Φs, md, ha, _, h => by
  obtain ⟨rfl, rfl⟩ := ha
  exact ⟨[], ⟨rfl, rfl⟩, rfl, by simp [qat]⟩
 | .v τ :: ps, i, d, vs, Φs, md, ha, hp, h => by
  obtain ⟨v, vs', φ, Φs', rfl, rfl, _, _, _, ha⟩ := ha
  obtain ⟨Ψ, h1, h2, h3⟩ := qar hs hle (i := i + 1) ha hp h
  exact ⟨qH :: Ψ, ⟨v, vs', qH, Ψ, rfl, rfl, rfl, h1⟩, by simpa [qf, qH, qat] using h2, h3⟩
 | .r τ :: ps, i, d, vs, Φs, md, ha, hp, h => by
  obtain ⟨v, vs', φ, Φs', rfl, rfl, _, _, _, ha⟩ := ha
  obtain ⟨Ψ, h1, h2, h3⟩ := qar hs hle (i := i + 1) ha hp h
  exact ⟨qH :: Ψ, ⟨v, vs', qH, Ψ, rfl, rfl, rfl, h1⟩, by simpa [qf, qH, qat] using h2, h3⟩
 | .c _ :: ps, i, d, vs, Φs, md, ha, hp, h => by
  obtain ⟨v, vs', φ, Φs', rfl, rfl, _, _, _, ha⟩ := ha
  obtain ⟨Ψ, h1, h2, h3⟩ := qar hs hle (i := i + 1) ha hp h
  exact ⟨qH :: Ψ, ⟨v, vs', qH, Ψ, rfl, rfl, rfl, h1⟩, by simpa [qf, qH, qat] using h2, h3⟩
 | .m τ :: ps, i, d, vs, Φs, md, ha, hp, h => by
  obtain ⟨v, vs', φ, Φs', rfl, rfl, hv, _, ha⟩ := ha
  simp only [jB] at h
  split at h
  case h_2 => cases h
  rename_i o ho
  obtain ⟨row, σ, x0⟩ := o
  cases row with
  | true => cases h
  | false =>
  simp only [cond_false] at h
  split at h
  case h_2 => cases h
  rename_i x d' hx hd'
  cases h
  obtain ⟨e1, hx⟩ := qj hx
  subst e1
  subst hx
  obtain ⟨Ψ, h1, h2, h3⟩ := qar hs hle (i := i + 1) ha (fun x hx => hp x (List.mem_cons_of_mem _ hx)) hd'
  have hb := (hp (pid i, φ) List.mem_cons_self).1
  simp only at hb
  refine ⟨Φ (pid i) :: Ψ, ⟨v, vs', _, Ψ, rfl, rfl, by rw [hb]; exact hv, (hs.os _ _ ho).1.frame hle (fun _ _ => rfl), h1⟩, by simpa [qf, qat] using h2, ?_⟩
  intro id hid
  rcases List.mem_cons.1 hid with rfl | hid
  ·exact ⟨_, ho⟩
  ·exact h3 id hid
 | .mr tid e :: ps, i, d, vs, Φs, md, ha, hp, h => by
  obtain ⟨v, vs', φ, Φs', rfl, rfl, hv, _, ha⟩ := ha
  simp only [jB] at h
  split at h
  case h_2 => cases h
  rename_i o ho
  obtain ⟨row, σ, x0⟩ := o
  cases row with
  | false => cases h
  | true =>
  simp only [cond_true] at h
  split at h
  case h_2 => cases h
  rename_i x d' hx hd'
  cases h
  obtain ⟨e1, hx⟩ := qj hx
  subst e1
  subst hx
  obtain ⟨Ψ, h1, h2, h3⟩ := qar hs hle (i := i + 1) ha (fun x hx => hp x (List.mem_cons_of_mem _ hx)) hd'
  have hb := (hp (pid i, φ) List.mem_cons_self).2
  simp only at hb
  refine ⟨Φ (pid i) :: Ψ, ⟨v, vs', _, Ψ, rfl, rfl, by rw [hb]; exact hv, (hs.os _ _ ho).1.frame hle (fun _ _ => rfl), h1⟩, by simpa [qf, qat] using h2, ?_⟩
  intro id hid
  rcases List.mem_cons.1 hid with rfl | hid
  ·exact ⟨_, ho⟩
  ·exact h3 id hid
 | .t tid e :: ps, i, d, vs, Φs, md, ha, hp, h => by
  obtain ⟨v, vs', φ, Φs', rfl, rfl, _, _, ha⟩ := ha
  obtain ⟨Ψ, h1, h2, h3⟩ := qar hs hle (i := i + 1) ha (fun x hx => hp x (List.mem_cons_of_mem _ hx)) h
  exact ⟨qH :: Ψ, ⟨v, vs', qH, Ψ, rfl, rfl, rfl, h1⟩, by simpa [qf, qH, qat] using h2, h3⟩
 | .gm _ :: ps, i, d, vs, Φs, md, ha, hp, h => by
  obtain ⟨v, vs', φ, Φs', rfl, rfl, _, _, ha⟩ := ha
  obtain ⟨Ψ, h1, h2, h3⟩ := qar hs hle (i := i + 1) ha (fun x hx => hp x (List.mem_cons_of_mem _ hx)) h
  exact ⟨qH :: Ψ, ⟨v, vs', qH, Ψ, rfl, rfl, rfl, h1⟩, by simpa [qf, qH, qat] using h2, h3⟩
 | .cm f τ :: ps, i, d, vs, Φs, md, ha, hp, h => by
  obtain ⟨v, vs', φ, Φs', rfl, rfl, hv, _, ha⟩ := ha
  simp only [jB] at h
  split at h
  case h_2 => cases h
  rename_i o ho
  obtain ⟨row, σ, x0⟩ := o
  cases row with
  | true => cases h
  | false =>
  simp only [cond_false] at h
  split at h
  case h_2 => cases h
  rename_i x d' hx hd'
  cases h
  obtain ⟨e1, hx⟩ := qj hx
  subst e1
  subst hx
  obtain ⟨Ψ, h1, h2, h3⟩ := qar hs hle (i := i + 1) ha (fun x hx => hp x (List.mem_cons_of_mem _ hx)) hd'
  have hb := (hp (pid i, φ) List.mem_cons_self).1
  simp only at hb
  refine ⟨Φ (pid i) :: Ψ, ⟨v, vs', _, Ψ, rfl, rfl, by rw [hb]; exact hv, (hs.os _ _ ho).1.frame hle (fun _ _ => rfl), h1⟩, by simpa [qf, qat] using h2, ?_⟩
  intro id hid
  rcases List.mem_cons.1 hid with rfl | hid
  ·exact ⟨_, ho⟩
  ·exact h3 id hid
def qk6 (gh : Nat → Option Value) (w : World) (H : FH) (nt : Nat) (ps : List jL) (Φs : List qF) : Ctx := ⟨w, (· ∈ qf Φs), H, nt, lk (qad ps Φs 0), [], gh⟩
theorem fin_ok (hcfg : qB P cfg) {gh : Nat → Option Value} {fn : Func} {p : qE} {d : PDens p.ps} {y : RDens p.rs × MDens p.ps} {vs : List Value} {Φs : List qF} (hargs : jR P w H p.ps d vs Φs) {a' : Act} {w' : World} {H2 : FH} {Φ2 : Nat → qF}
  (hs : qm P (qk6 gh w H cfg.nt p.ps Φs) s a' w' H2 Φ2) (h : qcP cfg fn p.ps p.rs .ret s = some y) :
  a'.defers = [] ∧ ∃ v, (results fn a'.tmps).run P w' = .ok v w' ∧ ∃ us H' Φs' Ψs, Ending.returned v = .returned (qah us) ∧ j9 (· ∈ qf Φs) w w' ∧ H.le H' ∧ HOk H' w' ∧ (∀ b c, H' b = some c → H b = some c ∨ b ∈ qf Φs ∨ w.heap.size ≤ b) ∧
    qai P w' H' p.rs y.1 us Ψs ∧ jQ P w' H' p.ps y.2 vs Φs' ∧ (qf (Ψs ++ Φs')).Nodup ∧ ∀ b ∈ qf (Ψs ++ Φs'), H' b = none ∧ (b ∈ qf Φs ∨ w.heap.size ≤ b) ∧ b < w'.heap.size := by
 obtain ⟨_, _, _, h4, _⟩ := qaD (C := qa8 w H cfg.nt p.ps Φs) 0 hargs
 simp only [qcP] at h
 split at h
 case h_2 => cases h
 rename_i md hmd
 obtain ⟨T, hand, t1, t2, t3, t4⟩ := qdq hcfg hs h
 obtain ⟨Hf, m1, m2, m3, m4, m5⟩ := qm.freezeAll T hs
 obtain ⟨d', us, Ψs, g1, g2, g3, g4, g5⟩ := t4 Hf m1 m3
 cases g1
 obtain ⟨Φs', k1, k2, k3⟩ := qar hs m1 (i := 0) hargs (fun x hx => by
  obtain ⟨id, φ⟩ := x
  have hpin : (qk6 gh w H cfg.nt p.ps Φs).pin id = some φ := qeB h4 hx
  exact hs.pins.1 id φ hpin) hmd
 have hids := qaI (ps := p.ps) (i := 0)
 have hfapp : qf (Ψs ++ Φs') = qf Ψs ++ qf Φs' := by simp [qf]
 have hobj : ∀ id, id ∉ T → ∀ o, s.obj id = some o → ∀ b ∈ (Φ2 id).fp, Hf b = none ∧ (b ∈ qf Φs ∨ w.heap.size ≤ b) ∧ b < w'.heap.size := by
  intro id hid o ho b hb'
  obtain ⟨q1, q2, q3⟩ := (hs.os id o ho).2 b hb'
  refine ⟨?_, q2, q3⟩
  cases hq : Hf b with
  | none => rfl
  | some c =>
   rcases m2 b c hq with h1 | ⟨j, hj, o', ho', hbj⟩
   ·rw [q1] at h1; cases h1
   ·exact absurd hbj (hs.disj id j o o' (by rintro rfl; exact hid hj) ho ho' b hb')
 refine ⟨hs.defers, _, qcR g2, us, Hf, Φs', Ψs, rfl, hs.mod, FH.le_trans hs.le m1, m4.hok, m4.hnew, g3, k1, ?_, ?_⟩
 ·rw [hfapp, List.nodup_append]
  refine ⟨g4, ?_, ?_⟩
  ·rw [k2]
   refine qaS hids.2 (fun id hid => ?_) (fun i hi j hj hij b hb' => ?_)
   ·obtain ⟨o, ho⟩ := k3 id hid
    exact (hs.os id o ho).1.2.1
   ·obtain ⟨o, ho⟩ := k3 i hi
    obtain ⟨o', ho'⟩ := k3 j hj
    exact hs.disj i j o o' hij ho ho' b hb'
  ·rintro b hb1 _ hb2 rfl
   obtain ⟨i, hi, o, ho, hbi⟩ := g5 b hb1
   rw [k2] at hb2
   obtain ⟨j, hj, hbj⟩ := List.mem_flatMap.1 hb2
   obtain ⟨o', ho'⟩ := k3 j hj
   exact hs.disj i j o o' (by rintro rfl; exact (t3 i hi).1 hj) ho ho' b hbi hbj
 ·intro b hb'
  rw [hfapp] at hb'
  rcases List.mem_append.1 hb' with hb1 | hb2
  ·obtain ⟨i, hi, o, ho, hbi⟩ := g5 b hb1
   exact hobj i (t3 i hi).2 o ho b hbi
  ·rw [k2] at hb2
   obtain ⟨j, hj, hbj⟩ := List.mem_flatMap.1 hb2
   obtain ⟨o', ho'⟩ := k3 j hj
   exact hobj j (fun hT => t1 j hT hj) o' ho' b hbj
theorem fn_sound (hm : P.follows .mixedOrders = true) (hcfg : qB P cfg) {f : FuncId} {fn : Func} {c : Code} (hf : P.funcs[f]? = some fn) (hb : fn.body = some c) (hnt : fn.ntmps = cfg.nt) (hl : qac cfg c) (hd : ql cfg c = true)
  {p : qE} (hps : p.ps.length ≤ cfg.nt) (hg : ∀ d y, p.g d = some y → ∃ n, qy cfg n fn c p.ps p.rs d = some y) : qir P f p := by
 intro d y hy w H vs Φs hok hargs hnd hfr
 obtain ⟨n, hn⟩ := hg d y hy
 refine calls_of_wp hf hb ?_
 rw [hnt]
 have hsim := qdi hok hargs hnd hfr hps
 have hC := qev (cfg := cfg) hargs
 refine wp_mono (qch hm hcfg hC c hl hd ⟨H, _, hsim, trivial⟩ hn) ?_
 have fin : ∀ (s : St) (a' : Act) (w' : World), Sim P (qa8 w H cfg.nt p.ps Φs) s a' w' → qcP cfg fn p.ps p.rs .ret s = some y →
   a'.defers = [] ∧ ∃ v, (results fn a'.tmps).run P w' = .ok v w' ∧ ∃ us H' Φs' Ψs, Ending.returned v = .returned (qah us) ∧ j9 (· ∈ qf Φs) w w' ∧ H.le H' ∧ HOk H' w' ∧ (∀ b c, H' b = some c → H b = some c ∨ b ∈ qf Φs ∨ w.heap.size ≤ b) ∧
    qai P w' H' p.rs y.1 us Ψs ∧ jQ P w' H' p.ps y.2 vs Φs' ∧ (qf (Ψs ++ Φs')).Nodup ∧ ∀ b ∈ qf (Ψs ++ Φs'), H' b = none ∧ (b ∈ qf Φs ∨ w.heap.size ≤ b) ∧ b < w'.heap.size := by
  rintro s a' w' ⟨H2, Φ2, hs⟩ h
  exact fin_ok (gh := fun _ => none) hcfg hargs hs h
 intro e a' w' hp
 cases e with
 | normal => obtain ⟨s, hs, h⟩ := hp; exact fin s a' w' hs.sim h
 | ret => obtain ⟨s, hs, h⟩ := hp; exact fin s a' w' hs.sim h
 | exit i => obtain ⟨s, hs, h⟩ := hp; cases h
 | _ => exact hp.elim
theorem qab {f : FuncId} {fn : Func} {c : Code} (hf : P.funcs[f]? = some fn) (hb : fn.body = some c) (hn : (fn.name == "runtime.NumGoroutine") = false) : jJ P f := ⟨fn, hf, hn, by rw [hb]; rfl⟩
end
end Go.Vi
namespace Go.Vi
def qc : Nat := 18446744073709551616
def qhl {α R : Type} (x : α) (k : α → Option R) : Option R := k x
theorem qbn {R : Type} (x : Option R) : jC [x] = x := by
 cases x with
 | some r => exact qlP (fun y hy => List.mem_singleton.1 hy)
 | none =>
  cases h : jC [(none : Option R)] with
  | none => rfl
  | some r => exact (qgc h none (List.mem_singleton.2 rfl)).symm
theorem qbm {R : Type} (x : Option R) (l : List (Option R)) : jC (x :: x :: l) = jC (x :: l) := by
 unfold jC
 congr 1
 funext y
 simp
def qaF {α R : Type} (x : α) (k : α → Option R) : Option R := k x
def body (f : Func) : Code := match f.body with | some c => c | none => .skip
def qe : Code → List Code
 | .seq a b => qe a ++ qe b
 | .cond _ a b => qe a ++ qe b
 | .block _ c => qe c
 | .loop c => c :: qe c
 | _ => []
def jW (i : Nat) (l : List Code) : Code := match l[i]? with | some c => c | none => .skip
def qc2 (cfg : qS) (b : Code) : Prop := ∀ key li, qaO b = some key → lk cfg.loops key = some li → LoopEq cfg li b
theorem qC {cfg : qS} {b : Code} {key : Nat} {li : qY} (h1 : qaO b = some key) (h2 : lk cfg.loops key = some li) (h3 : ∀ d, li.g 0 d = none) (h4 : ∀ n d, li.g (n + 1) d = run cfg n b (li.ins.fill d) (qN li n)) : qc2 cfg b := by
 intro key' li' e1 e2
 rw [h1] at e1
 cases e1
 rw [h2] at e2
 cases e2
 exact ⟨h3, h4⟩
theorem qr {cfg : qS} {c : Code} (h : qe c = []) : ∀ b ∈ qe c, qc2 cfg b := by
 intro b hb
 rw [h] at hb
 cases hb
theorem qam {cfg : qS} : ∀ {c : Code}, (∀ b ∈ qe c, qc2 cfg b) → qac cfg c
 | .seq _a _b, h => ⟨qam fun x hx => h x (List.mem_append.2 (.inl hx)), qam fun x hx => h x (List.mem_append.2 (.inr hx))⟩
 | .cond _ _a _b, h => ⟨qam fun x hx => h x (List.mem_append.2 (.inl hx)), qam fun x hx => h x (List.mem_append.2 (.inr hx))⟩
 | .block _ c, h => qam (c := c) h
 | .loop c, h => ⟨qam fun x hx => h x (List.mem_cons_of_mem _ hx), h c List.mem_cons_self⟩
 | .skip, _ => trivial
 | .region _ _ _, _ => trivial
 | .rangeFunc _ _ _ _, _ => trivial
 | .exit _, _ => trivial
 | .scope _, _ => trivial
 | .label _, _ => trivial
 | .goto _, _ => trivial
 | .ret, _ => trivial
 | .refuse _, _ => trivial
def qw (P : Program) (f : Nat) (p : qE) : Prop := jJ P f ∧ qir P f p
def qei (P : Program) (l : List (Nat × qE)) : Prop := ∀ x ∈ l, qw P x.1 x.2
theorem qh {P : Program} : qei P [] := by intro x hx; cases hx
theorem qd {P : Program} {f : Nat} {p : qE} {l : List (Nat × qE)} (h : qw P f p) (hl : qei P l) : qei P ((f, p) :: l) := by
 intro x hx
 rcases List.mem_cons.1 hx with rfl | hx
 ·exact h
 ·exact hl x hx
def mapB (P : Program) (x : Nat × Nat × Nat) : Bool :=
 (match P.underlying x.1 with | some (.map k e) => Nat.beq k x.2.1 && Nat.beq e x.2.2 | _ => false) && (tyB P (.int .i64)).1 x.2.1 && (tyB P (.int .i64)).1 x.2.2
def tysB (P : Program) (l : List (Nat × Ty)) : Bool := l.all fun x => (tyB P x.2).1 x.1 && x.2.isFz
theorem qp {P : Program} {cfg : qS} (hty : tysB P cfg.ty = true) (hp : qei P cfg.prims) (hs : Nat.ble cfg.nt 2000 = true) (hmap : cfg.maps.all (mapB P) = true) (hmk : ∀ f m, lk cfg.makers f = some m → jJ P f ∧ qc6 P f m := by intro _ _ h; cases h) (hal : qei P cfg.alts := by intro _ h; cases h) (hkp : ∀ f m, lk cfg.keeps f = some m → jJ P f ∧ qhB P f m := by intro _ _ h; cases h) (hma : ∀ f m, lk cfg.mas f = some m → jJ P f ∧ qhA P f m := by intro _ _ h; cases h) (hse : ∀ sp, cfg.self = some sp → jJ P sp.f ∧ SoundL P sp ∧ qgq P sp.T = true := by intro _ h; cases h) : qB P cfg := by
 refine ⟨fun t τ h => ?_, fun f p h => hp (f, p) (qbh h), fun f p h => hal (f, p) (qbh h), Nat.le_of_ble_eq_true hs, hmk, fun T kt vt h => ?_, hkp, hma, hse⟩
 ·have := List.all_eq_true.1 hty (t, τ) (qbh h)
  rw [Bool.and_eq_true] at this
  exact this
 ·have := List.all_eq_true.1 hmap (T, kt, vt) (qbh h)
  unfold mapB at this
  rw [Bool.and_eq_true, Bool.and_eq_true] at this
  obtain ⟨⟨h1, h2⟩, h3⟩ := this
  refine ⟨?_, h2, h3⟩
  simp only at h1
  split at h1
  ·rename_i k e hu
   rw [Bool.and_eq_true] at h1
   rw [hu, Nat.eq_of_beq_eq_true h1.1, Nat.eq_of_beq_eq_true h1.2]
  ·cases h1
theorem fn_done {P : Program} {cfg : qS} (hm : P.follows .mixedOrders = true) (hcfg : qB P cfg) {f : FuncId} {fn : Func} (hf : P.funcs[f]? = some fn) (hb : fn.body.isSome = true) (hnt : fn.ntmps = cfg.nt) (hname : (fn.name == "runtime.NumGoroutine") = false)
  {p : qE} (hps : Nat.ble p.ps.length cfg.nt = true) (hl : ∀ b ∈ qe (body fn), qc2 cfg b) (hd : ql cfg (body fn) = true) (hg : ∀ d y, p.g d = some y → ∃ n, qy cfg n fn (body fn) p.ps p.rs d = some y) : qw P f p := by
 have hb2 : fn.body = some (body fn) := by
  unfold body
  cases h : fn.body with
  | none => rw [h] at hb; cases hb
  | some c => rfl
 exact ⟨qab hf hb2 hname, fn_sound hm hcfg hf hb2 hnt (qam hl) hd (Nat.le_of_ble_eq_true hps) hg⟩
end Go.Vi
namespace Go.Vi
open Go.Proofs Go.Shelf Go.Sort
section
variable {P : Program} {ρ : Ren}
end
end Go.Vi
namespace Go.Vi
open Go.ChangeShapes Go.WideShapes Go.ChangeAt Go.RowKit Go.WideElems Go.Proofs.YtealdoeaafoemaaGreat
def Ty.plain : Ty → Bool
 | .int _ => true
 | .bool => true
 | .list own _ e => !own && e.plain
 | .pair a b => a.plain && b.plain
 | .str t => t.plain
 | _ => false
def WfD : (τ : Ty) → τ.den → Prop
 | .int k, x => k.min ≤ x ∧ x ≤ k.max
 | .list _ _ e, l => ∀ y ∈ l, WfD e y
 | .pair a b, x => WfD a x.1 ∧ WfD b x.2
 | .str t, x => WfD t x
 | _, _ => True
def qed : (τ : Ty) → τ.den → Nat
 | .list _ _ e, l => (l.map (qed e)).sum + 1
 | .pair a b, x => qed a x.1 + qed b x.2
 | .str t, x => qed t x + 1
 | _, _ => 1
def qeG : (ps : List jL) → PDens ps → Prop
 | [], _ => True
 | .v τ :: ps, d => WfD τ d.1 ∧ qeG ps d.2
 | .r _ :: ps, d => qeG ps d.2
 | .c _ :: ps, d => qeG ps d.2
 | .m _ :: ps, d => qeG ps d.2
 | .mr _ _ :: ps, d => qeG ps d.2
 | .t _ _ :: ps, d => qeG ps d.2
 | .gm _ :: ps, d => qeG ps d.2
 | .cm _ _ :: ps, d => qeG ps d.2
def qbS : (ps : List jL) → PDens ps → Nat
 | [], _ => 0
 | .v τ :: ps, d => qed τ d.1 + qbS ps d.2
 | .r _ :: ps, d => qbS ps d.2
 | .c _ :: ps, d => qbS ps d.2
 | .m _ :: ps, d => qbS ps d.2
 | .mr _ _ :: ps, d => qbS ps d.2
 | .t _ _ :: ps, d => qbS ps d.2
 | .gm _ :: ps, d => qbS ps d.2
 | .cm _ _ :: ps, d => qbS ps d.2
def qbF (P : Program) : List jL → List TypeId → Bool
 | [], [] => true
 | .v τ :: ps, t :: ts => τ.plain && τ.isFz && (tyB P τ).1 t && P.readableRec t && Nat.blt t P.types.size && qbF P ps ts
 | _, _ => false
def allH (w : World) : FH := fun b => match w.heap[b]? with
 | some (.cells c _ _) => some c
 | _ => none
theorem allH_ok (w : World) : HOk (allH w) w := by
 intro b c h
 unfold allH at h
 split at h
 ·rename_i c' t f e; cases h; exact ⟨t, f, e⟩
 ·cases h
section
variable {H : Type} {enc : TypeId × Value → H} {P : Program} {W : World}
theorem qik {a : Addr} {n : Nat} {cs : List Value} (h : W.cells? 0 a n = some cs) (hn : 0 < n) : ∃ b o blk, a = ⟨b, o, none⟩ ∧ allH W b = some blk ∧ cs = seg blk o n ∧ cs.length = n := by
 unfold World.cells? at h
 rw [if_pos (Nat.zero_le _)] at h
 have hl : cs.length = n := by simpa using mapM_some_length h
 have hg := mapM_some_get h
 have h0 := hg 0 0 (by simp [hn])
 obtain ⟨b, o, sp⟩ := a
 have hc : ∃ c t f, W.heap[b]? = some (.cells c t f) ∧ sp = none := by
  simp only [Addr.add, if_true] at h0
  unfold World.cell? at h0
  simp only at h0
  have : cs[0]? ≠ none := by rw [List.getElem?_eq_getElem (by omega)]; simp
  cases hb : W.heap[b]? with
  | none => rw [hb] at h0; exact absurd h0.symm this
  | some ob =>
   rw [hb] at h0
   cases ob with
   | cells c t f =>
    cases sp with
    | none => exact ⟨c, t, f, rfl, rfl⟩
    | some u => simp only [Option.isSome_some, if_true] at h0; exact absurd h0.symm this
   | _ => exact absurd h0.symm this
 obtain ⟨c, t, f, hb, rfl⟩ := hc
 refine ⟨b, o, c, rfl, by unfold allH; rw [hb], ?_, hl⟩
 have hi : ∀ i, i < n → c[o + i]? = cs[i]? := by
  intro i hi
  have := hg i i (by simp [hi])
  have e : (⟨b, o, none⟩ : Addr).add i = ⟨b, o + i, none⟩ := by
   unfold Addr.add
   split
   ·rename_i e; subst e; rfl
   ·rfl
  rw [e] at this
  rw [← this]
  simp [World.cell?, hb]
 unfold seg
 apply List.ext_getElem?
 intro i
 rw [List.getElem?_take]
 split
 ·rename_i hlt
  rw [List.getElem?_drop, ← hi i hlt, Array.getElem?_toList]
 ·rename_i hlt
  rw [List.getElem?_eq_none (by omega)]
theorem seg_succ (blk : Array Value) (o z n : Nat) : seg blk o ((n + 1) * z) = seg blk o z ++ seg blk (o + z) (n * z) := by
 unfold seg
 rw [show (n + 1) * z = z + n * z by rw [Nat.succ_mul, Nat.add_comm], List.take_add, List.drop_drop]
theorem qii {α : Type} {R : α → List Value → List Nat → Prop} {Q : α → Prop} {g : α → Nat} {blk : Array Value} {z : Nat} : ∀ {l : List (DataW H)} {o : Nat}, (∀ (i : Nat) d, l[i]? = some d → ∃ x, R x (seg blk (o + i * z) z) [] ∧ Q x ∧ g x ≤ Rows.uptoBulk d) →
  ∃ xs : List α, xs.length = l.length ∧ qg R xs (seg blk o (xs.length * z)) [] ∧ (∀ x ∈ xs, Q x) ∧ (xs.map g).sum ≤ Rows.uptoBulkAll l
 | [], o, _ => ⟨[], rfl, ⟨by simp [seg], rfl⟩, by simp, by simp⟩
 | d :: l, o, h => by
  obtain ⟨x, h1, h2, h3⟩ := h 0 d rfl
  obtain ⟨xs, k1, k2, k3, k4⟩ := qii (R := R) (Q := Q) (g := g) (l := l) (o := o + z) (blk := blk) (z := z) (fun i d hd => by
   have := h (i + 1) d hd
   rw [show o + (i + 1) * z = o + z + i * z by rw [Nat.succ_mul]; omega] at this
   exact this)
  refine ⟨x :: xs, by simp [k1], ?_, ?_, ?_⟩
  ·rw [List.length_cons, seg_succ]
   exact ⟨_, _, [], [], rfl, rfl, by simpa using h1, k2⟩
  ·intro y hy
   rcases List.mem_cons.1 hy with rfl | hy
   ·exact h2
   ·exact k3 y hy
  ·simp only [List.map_cons, List.sum_cons, Rows.uptoBulkAll]
   omega
theorem qfZ {base : Nat} {spare : Nat → Bool} {held : Bool} : ∀ {ts : List TypeId} {vs : List Value} {ds : List (DataW H)} {ps : List MemPlace}, DataW.TrodAll enc P W base spare held ts vs ds ps → ds.length = ts.length
 | [], _, _, _, h => by obtain ⟨rfl, rfl, _⟩ := trodAll_nil h; rfl
 | _ :: _, _, _, _, h => by
  obtain ⟨_, _, _, _, _, _, rfl, rfl, _, _, hr⟩ := trodAll_cons h
  rw [List.length_cons, List.length_cons, qfZ hr]
theorem qdE {t : TypeId} {τ : Ty} (h : qZ P t τ) : P.cellsOf t = τ.size := by
 obtain ⟨i, hi, hs, _⟩ := h.info
 unfold Program.cellsOf
 rw [hi]
 exact hs
def qc1 (P : Program) (W : World) (τ : Ty) (cs : List Value) (n : Nat) : Prop := ∃ x : τ.den, qx P τ W (allH W) x cs [] ∧ WfD τ x ∧ qed τ x ≤ n
theorem qbz {τ : Ty} (hA : ∀ ⦃t : TypeId⦄ ⦃n : Nat⦄ ⦃cs : List Value⦄ ⦃y : DataW H × List MemPlace⦄, qZ P t τ → DataW.trod enc P W 0 (fun _ => true) true n t cs = some y → qc1 P W τ cs (Rows.uptoBulk y.1))
  {l : List Field} {o n : Nat} {cs : List Value} {xs : List (DataW H × List MemPlace)} (hf : ∃ x, l = [x] ∧ x.offset = o ∧ qZ P x.type τ) (hl : xs.length = l.length)
  (h : ∀ (i : Nat) (f : Field), l[i]? = some f → DataW.trod enc P W 0 (fun _ => true) true n f.type ((cs.drop f.offset).take (P.cellsOf f.type)) = xs[i]?) :
  qc1 P W τ ((cs.drop o).take τ.size) (Rows.uptoBulkAll (xs.map (·.1))) := by
 obtain ⟨x, rfl, rfl, ht⟩ := hf
 match xs, hl with
 | [y], _ =>
  have := h 0 x rfl
  rw [qdE ht] at this
  obtain ⟨v, h1, h2, h3⟩ := hA ht this
  exact ⟨v, h1, h2, by simpa [Rows.uptoBulkAll] using h3⟩
theorem qdC {τ : Ty} (hp : ∀ a b, τ ≠ .pair a b) {l : List Field} {o : Nat} (h : j4 P τ l o) : ∃ x, l = [x] ∧ x.offset = o ∧ qZ P x.type τ := by
 unfold j4 at h
 match l with
 | [x] =>
  refine ⟨x, rfl, ?_⟩
  cases τ <;> simp only [tyB, Bool.and_eq_true] at h
  case pair a b => exact absurd rfl (hp a b)
  all_goals exact ⟨Nat.eq_of_beq_eq_true h.1, by unfold qZ; simp only [tyB, Bool.and_eq_true]; exact h.2⟩
 | [] => cases τ <;> simp [tyB] at h
 | x :: y :: r =>
  cases τ <;> simp [tyB] at h
  case pair a b => exact absurd rfl (hp a b)
theorem qe4 : ∀ (τ : Ty), τ.plain = true →
  (∀ ⦃t : TypeId⦄ ⦃n : Nat⦄ ⦃cs : List Value⦄ ⦃y : DataW H × List MemPlace⦄, qZ P t τ → DataW.trod enc P W 0 (fun _ => true) true n t cs = some y → qc1 P W τ cs (Rows.uptoBulk y.1)) ∧
  (∀ ⦃l : List Field⦄ ⦃o n : Nat⦄ ⦃cs : List Value⦄ ⦃xs : List (DataW H × List MemPlace)⦄, j4 P τ l o → xs.length = l.length →
   (∀ (i : Nat) (f : Field), l[i]? = some f → DataW.trod enc P W 0 (fun _ => true) true n f.type ((cs.drop f.offset).take (P.cellsOf f.type)) = xs[i]?) →
   qc1 P W τ ((cs.drop o).take τ.size) (Rows.uptoBulkAll (xs.map (·.1))))
 | .int k, _ => by
  have hA : ∀ ⦃t : TypeId⦄ ⦃n : Nat⦄ ⦃cs : List Value⦄ ⦃y : DataW H × List MemPlace⦄, qZ P t (.int k) → DataW.trod enc P W 0 (fun _ => true) true n t cs = some y → qc1 P W (.int k) cs (Rows.uptoBulk y.1) := by
   intro t n cs y ht h
   obtain ⟨x, rfl, rfl, hw⟩ := DataW.trod_int ht.int h
   simp only [Lit.wf, Bool.and_eq_true, decide_eq_true_eq] at hw
   exact ⟨x, ⟨rfl, rfl⟩, hw, by simp [qed, Rows.uptoBulk]⟩
  exact ⟨hA, fun _ _ _ _ _ hf => qbz hA (qdC (fun _ _ h => by cases h) hf)⟩
 | .bool, _ => by
  have hA : ∀ ⦃t : TypeId⦄ ⦃n : Nat⦄ ⦃cs : List Value⦄ ⦃y : DataW H × List MemPlace⦄, qZ P t .bool → DataW.trod enc P W 0 (fun _ => true) true n t cs = some y → qc1 P W .bool cs (Rows.uptoBulk y.1) := by
   intro t n cs y ht h
   obtain ⟨x, rfl, rfl⟩ := DataW.trod_bool ht.bool h
   exact ⟨x, ⟨rfl, rfl⟩, trivial, by simp [qed, Rows.uptoBulk]⟩
  exact ⟨hA, fun _ _ _ _ _ hf => qbz hA (qdC (fun _ _ h => by cases h) hf)⟩
 | .list false tid e, hp => by
  have ih := (qe4 e (by simpa [Ty.plain] using hp)).1
  have hA : ∀ ⦃t : TypeId⦄ ⦃n : Nat⦄ ⦃cs : List Value⦄ ⦃y : DataW H × List MemPlace⦄, qZ P t (.list false tid e) → DataW.trod enc P W 0 (fun _ => true) true n t cs = some y → qc1 P W (.list false tid e) cs (Rows.uptoBulk y.1) := by
   intro t n cs y ht h
   obtain ⟨hu, he⟩ := ht.list
   have hz := qdE he
   obtain ⟨_, _, _, hpos, _⟩ := he.info
   rcases DataW.trod_slice hu h with ⟨rfl, rfl⟩ | ⟨a, len, cap, elems, rest, m, rfl, rfl, rfl, _, hlc, _, hel, hget, _, _⟩
   ·exact ⟨([] : List e.den), ⟨rfl, none, 0, rfl, Nat.le_refl _, .inl rfl⟩, (fun y hy => by cases hy), by simp [qed, Rows.uptoBulk]⟩
   ·cases len with
    | zero =>
     refine ⟨([] : List e.den), ⟨rfl, some a, cap, rfl, Nat.zero_le _, .inl rfl⟩, (fun y hy => by cases hy), ?_⟩
     simp [qed, Rows.uptoBulk]
    | succ len =>
     have hne : ∀ i, i < len + 1 → ∃ y, elems[i]? = some y := fun i hi => ⟨_, List.getElem?_eq_getElem (by omega)⟩
     have hc0 : ∃ cs0, W.cells? 0 a e.size = some cs0 := by
      obtain ⟨y, hy⟩ := hne 0 (by omega)
      have := hget 0 (by omega)
      rw [hy, hz] at this
      obtain ⟨cs0, h1, _⟩ := Option.bind_eq_some_iff.1 this
      exact ⟨cs0, by simpa [Addr.add] using h1⟩
     obtain ⟨cs0, hc0⟩ := hc0
     obtain ⟨b, o, blk, rfl, hb, _, _⟩ := qik hc0 hpos
     obtain ⟨xs, k1, k2, k3, k4⟩ := qii (R := qx P e W (allH W)) (Q := WfD e) (g := qed e) (l := elems.map (·.1)) (o := o) (blk := blk) (z := e.size) (fun i d hd => by
      rw [List.getElem?_map] at hd
      obtain ⟨y, hy, rfl⟩ := Option.map_eq_some_iff.1 hd
      have hi : i < len + 1 := by
       have := (List.getElem?_eq_some_iff.1 hy).1
       omega
      have := hget i hi
      rw [hy, hz] at this
      obtain ⟨cs1, h1, h2⟩ := Option.bind_eq_some_iff.1 this
      obtain ⟨b', o', blk', e1, hb', rfl, _⟩ := qik h1 hpos
      have e2 : b' = b ∧ o' = o + i * e.size := by
       unfold Addr.add at e1
       split at e1
       ·rename_i e0
        cases e1
        exact ⟨rfl, by rw [e0]; rfl⟩
       ·cases e1; exact ⟨rfl, rfl⟩
      obtain ⟨rfl, rfl⟩ := e2
      rw [hb] at hb'
      cases hb'
      exact ih he h2)
     refine ⟨xs, ⟨rfl, some ⟨b, o, none⟩, cap, ?_, ?_, .inr ⟨b, o, blk, rfl, hb, k2⟩⟩, k3, ?_⟩
     ·rw [k1, List.length_map, hel]
     ·rw [k1, List.length_map, hel]; exact hlc
     ·simp only [qed, Rows.uptoBulk]
      omega
  exact ⟨hA, fun _ _ _ _ _ hf => qbz hA (qdC (fun _ _ h => by cases h) hf)⟩
 | .pair a b, hp => by
  simp only [Ty.plain, Bool.and_eq_true] at hp
  have iha := (qe4 a hp.1).1
  have ihb := (qe4 b hp.2).2
  refine ⟨fun _ _ _ _ ht => ht.not_pair.elim, ?_⟩
  intro l o n cs xs hf hl h
  unfold j4 at hf
  match l with
  | [] => simp [tyB] at hf
  | [x] => simp [tyB] at hf
  | x :: y :: r =>
   simp only [tyB, Bool.and_eq_true] at hf
   obtain ⟨⟨e1, hx⟩, hr⟩ := hf
   obtain rfl := Nat.eq_of_beq_eq_true e1
   match xs, hl with
   | z :: zs, hl =>
    have h0 := h 0 x rfl
    have hx : qZ P x.type a := hx
    rw [qdE hx] at h0
    obtain ⟨u, h1, h2, h3⟩ := iha hx h0
    obtain ⟨v, k1, k2, k3⟩ := ihb (l := y :: r) (o := x.offset + a.size) (n := n) (cs := cs) (xs := zs) hr (by simpa using hl) (fun i f hi => h (i + 1) f hi)
    refine ⟨(u, v), ⟨_, _, [], [], ?_, rfl, h1, k1⟩, ⟨h2, k2⟩, ?_⟩
    ·rw [show (Ty.pair a b).size = a.size + b.size from rfl, List.take_add, List.drop_drop]
    ·simp only [qed, List.map_cons, Rows.uptoBulkAll]
     omega
 | .str s, hp => by
  have ih := (qe4 s (by simpa [Ty.plain] using hp)).2
  have hA : ∀ ⦃t : TypeId⦄ ⦃n : Nat⦄ ⦃cs : List Value⦄ ⦃y : DataW H × List MemPlace⦄, qZ P t (.str s) → DataW.trod enc P W 0 (fun _ => true) true n t cs = some y → qc1 P W (.str s) cs (Rows.uptoBulk y.1) := by
   intro t n cs y ht h
   obtain ⟨fs, hu, hf⟩ := ht.str
   obtain ⟨xs, m, rfl, rfl, hl, hx, hget⟩ := DataW.trod_struct hu h
   obtain ⟨v, h1, h2, h3⟩ := ih (l := fs.toList) (o := 0) (n := m) (cs := cs) (xs := xs) hf (by simpa using hx) (fun i f hi => hget i f (by simpa using hi))
   have hsz : cs.length = s.size := by rw [hl, qdE ht]; rfl
   refine ⟨v, ?_, h2, ?_⟩
   ·have e : (cs.drop 0).take s.size = cs := by rw [List.drop_zero, ← hsz, List.take_length]
    rw [e] at h1
    exact h1
   ·simp only [qed, Rows.uptoBulk]
    omega
  exact ⟨hA, fun _ _ _ _ _ hf => qbz hA (qdC (fun _ _ h => by cases h) hf)⟩
 | .list true _ _, h => by simp [Ty.plain] at h
 | .ptr _, h => by cases h
 | .arr _ _, h => by cases h
 | .fn _ _, h => by cases h
 | .fn2 _ _ _, h => by cases h
theorem toV_of {t : TypeId} {τ : Ty} (hp : τ.plain = true) (ht : qZ P t τ) {r : Reach} {b0 : Nat} {v : Value} (h : Value.okWide P W r b0 t v) : v = jZ τ v.cells.toList := by
 cases τ with
 | int k => obtain ⟨n, rfl⟩ := okWide_int ht.int h; rfl
 | bool => obtain ⟨n, rfl⟩ := okWide_bool ht.bool h; rfl
 | list own tid e => obtain ⟨a, l, c, rfl⟩ := okWide_slice ht.list.1 h; rfl
 | pair a b => exact ht.not_pair.elim
 | str s =>
  obtain ⟨fs, hu, _⟩ := ht.str
  unfold Value.okWide at h
  rw [hu] at h
  obtain ⟨cs, rfl, _⟩ := h
  simp [jZ, Ty.isAgg, Value.cells]
 | _ => cases hp
theorem qip : ∀ {ps : List jL} {ts : List TypeId} {vs : List Value} {ds : List (DataW H)} {pl : List MemPlace}, qbF P ps ts = true →
  (∀ (j : Nat) t v, ts[j]? = some t → vs[j]? = some v → ∃ r b0, Value.okWide P W r b0 t v) → DataW.TrodAll enc P W 0 (fun _ => true) true ts vs ds pl →
  ∃ (d : PDens ps) (Φs : List qF), jR P W (allH W) ps d vs Φs ∧ qf Φs = [] ∧ qeG ps d ∧ qbS ps d ≤ Rows.uptoBulkAll ds
 | [], [], vs, ds, pl, _, _, h => by
  obtain ⟨rfl, rfl, _⟩ := trodAll_nil h
  exact ⟨(), [], ⟨rfl, rfl⟩, rfl, trivial, Nat.le_refl _⟩
 | .v τ :: ps, t :: ts, vs, ds, pl, hp, hval, h => by
  simp only [qbF, Bool.and_eq_true] at hp
  obtain ⟨⟨⟨⟨⟨h1, h2⟩, h3⟩, _⟩, _⟩, h6⟩ := hp
  obtain ⟨v, vs', d, ds', p, q, rfl, rfl, _, hd, hr⟩ := trodAll_cons h
  obtain ⟨d', Φs, k1, k2, k3, k4⟩ := qip (ps := ps) h6 (fun j t v hj hv => hval (j + 1) t v hj hv) hr
  obtain ⟨n, hn⟩ := hd
  obtain ⟨x, e1, e2, e3⟩ := (qe4 (enc := enc) (P := P) (W := W) τ h1).1 (t := t) h3 hn
  obtain ⟨r, b0, ho⟩ := hval 0 t v rfl rfl
  refine ⟨(x, d'), qH :: Φs, ⟨v, vs', qH, Φs, rfl, rfl, h2, rfl, ⟨v.cells.toList, toV_of h1 h3 ho, e1⟩, k1⟩, by simpa [qf, qH] using k2, ⟨e2, k3⟩, ?_⟩
  show qed τ x + qbS ps d' ≤ Rows.uptoBulk d + Rows.uptoBulkAll ds'
  have e3' : qed τ x ≤ Rows.uptoBulk d := e3
  omega
 | [], _ :: _, _, _, _, hp, _, _ => by cases hp
 | .v _ :: _, [], _, _, _, hp, _, _ => by cases hp
 | .r _ :: _, _, _, _, _, hp, _, _ => by simp [qbF] at hp
 | .c _ :: _, _, _, _, _, hp, _, _ => by simp [qbF] at hp
 | .m _ :: _, _, _, _, _, hp, _, _ => by simp [qbF] at hp
 | .mr _ _ :: _, _, _, _, _, hp, _, _ => by simp [qbF] at hp
 | .t _ _ :: _, _, _, _, _, hp, _, _ => by simp [qbF] at hp
 | .gm _ :: _, _, _, _, _, hp, _, _ => by simp [qbF] at hp
 | .cm _ _ :: _, _, _, _, _, hp, _, _ => by simp [qbF] at hp
theorem qio {W' : World} {sp : Nat → Bool} (hl : laidOutB P = true) : ∀ {ps : List jL} {ts : List TypeId} {vs : List Value} {ds : List (DataW H)} {pl : List MemPlace}, qbF P ps ts = true →
  DataW.TrodAll enc P W 0 (fun _ => true) true ts vs ds pl → (∀ p ∈ pl, W.sameAt W' p) → (∀ p ∈ pl, sp p.block = true) → DataW.TrodAll enc P W' 0 sp true ts vs ds pl
 | [], [], vs, ds, pl, _, h, _, _ => by
  obtain ⟨rfl, rfl, rfl⟩ := trodAll_nil h
  exact rfl
 | .v τ :: ps, t :: ts, vs, ds, pl, hp, h, hs, hb => by
  simp only [qbF, Bool.and_eq_true] at hp
  obtain ⟨⟨⟨⟨⟨_, _⟩, _⟩, h4⟩, h5⟩, h6⟩ := hp
  obtain ⟨v, vs', d, ds', p, q, rfl, rfl, rfl, hd, hr⟩ := trodAll_cons h
  exact ⟨p, q, Trod_stays hl h4 (Eq.mp Nat.blt_eq h5) hd (fun x hx => hs x (List.mem_append_left _ hx)) (fun x hx => hb x (List.mem_append_left _ hx)),
   qio hl h6 hr (fun x hx => hs x (List.mem_append_right _ hx)) (fun x hx => hb x (List.mem_append_right _ hx)), rfl⟩
 | [], _ :: _, _, _, _, hp, _, _, _ => by cases hp
 | .v _ :: _, [], _, _, _, hp, _, _, _ => by cases hp
 | .r _ :: _, _, _, _, _, hp, _, _, _ => by simp [qbF] at hp
 | .c _ :: _, _, _, _, _, hp, _, _, _ => by simp [qbF] at hp
 | .m _ :: _, _, _, _, _, hp, _, _, _ => by simp [qbF] at hp
 | .mr _ _ :: _, _, _, _, _, hp, _, _, _ => by simp [qbF] at hp
 | .t _ _ :: _, _, _, _, _, hp, _, _, _ => by simp [qbF] at hp
 | .gm _ :: _, _, _, _, _, hp, _, _, _ => by simp [qbF] at hp
 | .cm _ _ :: _, _, _, _, _, hp, _, _, _ => by simp [qbF] at hp
theorem qhJ {f : Func} {s : ChangeSpec} {qaz qd4 handsOn again : Bool} {W W' : World} {args : Array Value} {v : Value} {ds gs : List (DataW H)} {before pa pv : List MemPlace}
  (hW : DataW.Whole enc P f.params.toList s.vars qaz W args.toList ds gs before)
  (hres : ∀ (b : Nat) (sp : Nat → Bool) (hd : Bool), DataW.TrodAll enc P W' b sp hd f.resultTypes.toList (v.resultList f.resultTypes.size) (s.fn H (ds ++ gs)).results [])
  (hargs : ∀ sp : Nat → Bool, (∀ p ∈ before, sp p.block = true) → DataW.TrodAll enc P W' 0 sp true f.params.toList args.toList (s.fn H (ds ++ gs)).args pa)
  (hvars : ∀ sp : Nat → Bool, (∀ p ∈ before, sp p.block = true) → DataW.TrodVars enc P W' sp s.vars (s.fn H (ds ++ gs)).vars pv)
  (hps : before = pa ++ pv) (hb : Below W.heap.size W W')
  (hok : ∀ (j : Nat) (t : TypeId) (r : Value), f.resultTypes[j]? = some t → (v.resultList f.resultTypes.size)[j]? = some r → Value.okWide P W' .any 0 t r) :
  s.post enc P f qaz qd4 handsOn again W args v W' := by
 have hlt : ∀ p ∈ before, p.block < W.heap.size := fun p hp => hW.lt p hp
 have hold : ∀ p ∈ before, (fun b => decide (b < W.heap.size)) p.block = true := fun p hp => by simpa using hlt p hp
 refine ⟨ds, gs, before, [], pa, pv, hW, hres _ _ _, hargs _ hold, hvars _ hold, World.keptBut_mono (fun p hp => ⟨hp, ?_⟩) (hb.frame (· ∈ before)), fun _ => ?_⟩
 ·rw [hps, List.mem_append] at hp
  exact Or.inr hp
 ·obtain ⟨_, _, _, _, _, hz, hn⟩ := hW
  refine ⟨hok, _, _, ([] ++ pa) ++ pv, ⟨[] ++ pa, pv, trodAll_append (hargs _ (fun _ _ => rfl)) (hres _ _ _), hvars _ (fun _ _ => rfl), rfl, ?_, ?_⟩, ?_⟩
  ·intro b off hp
   have hin : MemPlace.cell b off ∈ before := by rw [hps]; simpa using hp
   rw [hb.frozen (hlt _ hin)]
   exact hz b off hin
  ·intro ha
   have := hn ha
   rw [hps] at this
   simpa using this
  ·intro p hp _
   rw [hps]
   simpa using hp
theorem law_post {f : FuncId} {fn : Func} {ps : List jL} {g : PDens ps → Option (RDens [.v .bool] × MDens ps)} (hp : qw P f ⟨ps, [.v .bool], g⟩) (hl : laidOutB P = true) (hps : qbF P ps fn.params.toList = true)
  {rt : TypeId} (hrt : fn.resultTypes = #[rt]) (hb : P.underlying rt = some .bool) {s : ChangeSpec} (hv : s.vars = []) (hfn : ∀ ds : List (DataW H), ds.length = fn.params.size → s.fn H ds = { results := [.lit (.bool true)], args := ds })
  (hlaw : ∀ d, qeG ps d → qbS ps d ≤ 1048576 → ∃ md, g d = some ((true, ()), md))
  {r : Reach} {base : Nat} {args : Array Value} {ds gs : List (DataW H)} {before : List MemPlace} {qaz qd4 handsOn again : Bool}
  (hval : ∀ (j : Nat) t v, fn.params[j]? = some t → args[j]? = some v → Value.okWide P W r base t v)
  (hW : DataW.Whole enc P fn.params.toList s.vars qaz W args.toList ds gs before) (hk : Rows.uptoSmall H (ds ++ gs) = true) :
  Calls P f args W fun e W' => ∃ v, e = .returned v ∧ s.post enc P fn qaz qd4 handsOn again W args v W' := by
 have hW' := hW
 obtain ⟨p, q, hA, hV, rfl, hfz, hnd⟩ := hW
 rw [hv] at hV
 obtain ⟨rfl, rfl⟩ := trodVars_none hV
 rw [List.append_nil] at hk
 obtain ⟨d, Φs, k1, k2, k3, k4⟩ := qip hps (fun j t v hj hv => ⟨r, base, hval j t v (by simpa using hj) (by simpa using hv)⟩) hA
 have hsm : Rows.uptoBulkAll ds ≤ 1048576 := of_decide_eq_true hk
 obtain ⟨md, hg⟩ := hlaw d k3 (Nat.le_trans k4 hsm)
 have hc := hp.2 d _ hg W (allH W) args.toList Φs (allH_ok W) k1 (by rw [k2]; exact List.nodup_nil) (by rw [k2]; simp)
 rw [Array.toArray_toList] at hc
 refine hc.mono ?_
 rintro e W' ⟨us, H', Φs', Ψs, rfl, hmod, _, _, _, hres, _⟩
 obtain ⟨v, vs', φ, Φs2, rfl, _, _, _, ⟨cs, rfl, hrep⟩, hnil⟩ := hres
 obtain ⟨rfl, _⟩ := hnil
 obtain ⟨rfl, _⟩ := hrep
 have hdl : ds.length = fn.params.size := by rw [qfZ hA]; simp
 have hbelow : Below W.heap.size W W' := ⟨hmod.os, hmod.tape, hmod.output, hmod.size, fun k hk => hmod.block k hk (by rw [k2]; simp)⟩
 have hlt : ∀ x ∈ p, x.block < W.heap.size := fun x hx => hW'.lt x (List.mem_append_left _ hx)
 have hsame : ∀ x ∈ p, W.sameAt W' x := by
  intro x hx
  have hb := hbelow.block x.block (hlt x hx)
  cases x with
  | cell b off => exact World.cell?_of_block (w := W) hb
  | map b => exact hb
 refine ⟨.bool true, rfl, qhJ (pa := p) (pv := []) hW' ?_ ?_ ?_ rfl hbelow ?_⟩
 ·intro b sp hd
  rw [List.append_nil, hfn ds hdl, hrt]
  exact trodAll_mk1 (shut_bool hb true)
 ·intro sp hsp
  rw [List.append_nil, hfn ds hdl]
  exact qio hl hps hA hsame (fun x hx => hsp x (List.mem_append_left _ hx))
 ·intro sp _
  rw [hv, List.append_nil, hfn ds hdl]
  exact rfl
 ·exact ok_one hrt rfl (okWide_bool_mk hb true)
end
end Go.Vi
namespace Go.Vi
theorem qP : 1099511627776 < qc := by decide
theorem wI {x : Int} (h1 : -9223372036854775808 ≤ x) (h2 : x ≤ 9223372036854775807) : IntKind.wrap .i64 x = x := IntWalk.i64_in x ⟨h1, h2⟩
theorem qb {α R : Type} (x : α) (k : α → Option R) : qa (some x) k = k x := rfl
theorem qV {α R : Type} {o : Option α} {x : α} (h : o = some x) (k : α → Option R) : qa o k = k x := by rw [h]; rfl
theorem qcG {α β R : Type} (x : β) (k : α → Option R) (l : β → Option R) : qbd (.inr x) k l = l x := rfl
theorem qaG {R : Type} {a b : Int} (h : a ≤ b) (k : Option R) : leK a b k = k := by unfold leK; rw [if_pos h]
theorem jT {R : Type} {n : Int} (h0 : 0 ≤ n) (h : n ≤ 274877906944) (k : Option R) : jE n k = k := by rw [qgp, if_pos ⟨h0, h⟩]
theorem jM {R : Type} {i : Int} {n : Nat} (h0 : 0 ≤ i) (h : i < n) (k : Option R) : jS i n k = k := by unfold jS; rw [if_pos ⟨h0, h⟩]
theorem qao {α R : Type} (x : α) (k : α → Option R) : qaF x k = k x := rfl
theorem qdh {α R : Type} (x : α) (k : α → Option R) : qhl x k = k x := rfl
theorem qu {p : Prop} [Decidable p] (h : p) : decide p = true := decide_eq_true h
theorem qD {p : Prop} [Decidable p] (h : ¬ p) : decide p = false := decide_eq_false h
theorem getI_at {α R : Type} {l : List α} {i : Int} {x : α} (h0 : 0 ≤ i) (h : l[i.toNat]? = some x) (k : α → Option R) : qi l i k = k x := by
 unfold qi
 rw [if_pos h0, h]
def gd {α : Type} [Inhabited α] (l : List α) (i : Int) : α := l.getD i.toNat default
theorem qiR {α : Type} [Inhabited α] {l : List α} {i : Int} (h0 : 0 ≤ i) (h : i < l.length) : l[i.toNat]? = some (gd l i) := by
 unfold gd
 rw [List.getD_eq_getElem?_getD, List.getElem?_eq_getElem (by omega)]
 rfl
theorem qiS {α : Type} [Inhabited α] {l : List α} {i : Nat} (h : i < l.length) : l[i]? = some (gd l (i : Int)) := by
 have := qiR (l := l) (i := (i : Int)) (by omega) (by omega)
 rwa [show ((i : Int)).toNat = i by omega] at this
theorem qdM {α : Type} [Inhabited α] {l : List α} {i : Nat} {x : α} (h : l[i]? = some x) : gd l (i : Int) = x := by
 unfold gd
 rw [List.getD_eq_getElem?_getD, show ((i : Int)).toNat = i by omega, h]
 rfl
theorem qk {α R : Type} [Inhabited α] {l : List α} {i : Int} (h0 : 0 ≤ i) (h : i < l.length) (k : α → Option R) : qi l i k = k (gd l i) := getI_at h0 (qiR h0 h) k
theorem qau {α : Type} [Inhabited α] {l : List α} {i : Int} (h0 : 0 ≤ i) (h : i < l.length) : gd l i ∈ l := List.mem_of_getElem? (qiR h0 h)
theorem qaN {α : Type} [Inhabited α] {l : List α} {i : Int} {c : α} (h0 : 0 ≤ i) (h : i < l.length) : gd (l.set i.toNat c) i = c := by
 unfold gd
 rw [List.getD_eq_getElem?_getD, List.getElem?_set_self (by omega)]
 rfl
theorem qbI {α : Type} [Inhabited α] {l : List α} {i j : Int} {c : α} (h0 : 0 ≤ i) (hj : 0 ≤ j) (h : j ≠ i) : gd (l.set i.toNat c) j = gd l j := by
 unfold gd
 rw [List.getD_eq_getElem?_getD, List.getElem?_set_ne (by omega), List.getD_eq_getElem?_getD]
theorem qd8 {α : Type} [Inhabited α] {l : List α} {i : Nat} (h : i < l.length) : l.drop i = gd l (i : Int) :: l.drop (i + 1) := by
 have := qiS h
 rw [List.getElem?_eq_getElem h] at this
 rw [List.drop_eq_getElem_cons h, Option.some.inj this]
theorem qgy {α : Type} [Inhabited α] {l : List α} {i : Nat} (h : i < l.length) : l.take (i + 1) = l.take i ++ [gd l (i : Int)] := by
 rw [List.take_add_one, qiS h]
 rfl
theorem qfO {α : Type} [Inhabited α] {a b : List α} (hl : a.length = b.length) (h : ∀ i : Nat, i < a.length → gd a (i : Int) = gd b (i : Int)) : a = b := by
 refine List.ext_getElem? fun i => ?_
 by_cases hi : i < a.length
 ·rw [qiS hi, qiS (by omega), h i hi]
 ·rw [List.getElem?_eq_none (by omega), List.getElem?_eq_none (by omega)]
theorem qcu {α : Type} [Inhabited α] {n : Nat} {x : α} {i : Int} (h0 : 0 ≤ i) (h : i < n) : gd (List.replicate n x) i = x := by
 unfold gd
 rw [List.getD_eq_getElem?_getD, List.getElem?_replicate_of_lt (by omega)]
 rfl
theorem gd_app_l {α : Type} [Inhabited α] {a b : List α} {i : Int} (h0 : 0 ≤ i) (h : i < a.length) : gd (a ++ b) i = gd a i := by
 unfold gd
 rw [List.getD_eq_getElem?_getD, List.getD_eq_getElem?_getD, List.getElem?_append_left (by omega)]
theorem qkz {α : Type} [Inhabited α] {a b : List α} {x : α} {i : Int} (h : i = a.length) : gd (a ++ x :: b) i = x := by
 subst h
 unfold gd
 rw [List.getD_eq_getElem?_getD]
 simp
theorem loopN {D R S : Type} {L : Nat → D → Option R} (mk : Nat → S → D) (P : Nat → S → Prop) (Q : R → Prop) (c n : Nat)
  (hend : ∀ N s, P n s → ∃ r, L (N + 1) (mk n s) = some r ∧ Q r)
  (hstep : ∀ N i s, c ≤ N → i < n → P i s → (∃ s', P (i + 1) s' ∧ L (N + 1) (mk i s) = L N (mk (i + 1) s')) ∨ ∃ r, L (N + 1) (mk i s) = some r ∧ Q r) :
  ∀ (d i : Nat) (N : Nat) (s : S), i + d = n → P i s → d + c < N → ∃ r, L N (mk i s) = some r ∧ Q r
 | 0, i, N, s, hi, hP, hN => by
  obtain ⟨m, rfl⟩ : ∃ m, N = m + 1 := ⟨N - 1, by omega⟩
  obtain rfl : i = n := by omega
  exact hend m s hP
 | d + 1, i, N, s, hi, hP, hN => by
  obtain ⟨m, rfl⟩ : ∃ m, N = m + 1 := ⟨N - 1, by omega⟩
  rcases hstep m i s (by omega) (by omega) hP with ⟨s', hs', e⟩ | h
  ·rw [e]
   exact loopN mk P Q c n hend hstep d (i + 1) m s' (by omega) hs' (by omega)
  ·exact h
theorem qia {D R S : Type} {L : Nat → D → Option R} (mk : Nat → S → D) (P : Nat → S → Prop) (Q : R → Prop) (c n : Nat) {N : Nat} {s : S} (h0 : P 0 s) (hN : n + c < N)
  (hend : ∀ N s, P n s → ∃ r, L (N + 1) (mk n s) = some r ∧ Q r)
  (hstep : ∀ N i s, c ≤ N → i < n → P i s → (∃ s', P (i + 1) s' ∧ L (N + 1) (mk i s) = L N (mk (i + 1) s')) ∨ ∃ r, L (N + 1) (mk i s) = some r ∧ Q r) :
  ∃ r, L N (mk 0 s) = some r ∧ Q r := loopN mk P Q c n hend hstep n 0 N s (by omega) h0 hN
theorem qd2 {D R : Type} {L : Nat → D → Option R} (mk : Nat → D) (res : R) (c n : Nat) {N : Nat} (hN : n + c < N)
  (hend : ∀ N, L (N + 1) (mk n) = some res)
  (hstep : ∀ N i, c ≤ N → i < n → L (N + 1) (mk i) = L N (mk (i + 1))) : L N (mk 0) = some res := by
 obtain ⟨_, h, rfl⟩ := qia (L := L) (fun i (_ : Unit) => mk i) (fun _ _ => True) (fun r => r = res) c n (s := ()) trivial hN (fun N _ _ => ⟨_, hend N, rfl⟩) (fun N i _ hc hi _ => .inl ⟨(), trivial, hstep N i hc hi⟩)
 exact h
theorem loopM {D R S : Type} {L : Nat → D → Option R} (mk : S → D) (P : S → Prop) (Q : R → Prop) (c : Nat) (m : S → Nat)
  (hstep : ∀ N s, c ≤ N → P s → (∃ s', P s' ∧ m s' < m s ∧ L (N + 1) (mk s) = L N (mk s')) ∨ ∃ r, L (N + 1) (mk s) = some r ∧ Q r) :
  ∀ (d : Nat) (N : Nat) (s : S), m s ≤ d → P s → d + c < N → ∃ r, L N (mk s) = some r ∧ Q r
 | 0, N, s, hd, hP, hN => by
  obtain ⟨k, rfl⟩ : ∃ k, N = k + 1 := ⟨N - 1, by omega⟩
  rcases hstep k s (by omega) hP with ⟨s', _, hm, _⟩ | h
  ·omega
  ·exact h
 | d + 1, N, s, hd, hP, hN => by
  obtain ⟨k, rfl⟩ : ∃ k, N = k + 1 := ⟨N - 1, by omega⟩
  rcases hstep k s (by omega) hP with ⟨s', hs', hm, e⟩ | h
  ·rw [e]
   exact loopM mk P Q c m hstep d k s' (by omega) hs' (by omega)
  ·exact h
end Go.Vi
