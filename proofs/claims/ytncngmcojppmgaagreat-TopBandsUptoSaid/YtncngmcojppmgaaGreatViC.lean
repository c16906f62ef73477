/- The abstract interpreter Vi, part C: a verified interpreter over the model's code, whose run of a function gives the contract of the function. No condition beyond those typed in each theorem. -/
import Derived.Test.YtncngmcojppmgaaGreatViB
import Derived.Maps.Range
import Derived.Maps.RangeWalk
import Derived.Carry
import Derived.KernelRfl
import Derived.Shelf.Slices.Reverse
import Derived.Test.YtncngmcojppmgaaGreatRows
import Derived.Below
import Derived.ChangeSame
import Derived.OpenShut
import Derived.ProofKit
import Derived.WideKeyArgs
import Derived.JoinedCond
import Derived.IntWalk
namespace Go.Vi
section
variable {P : Program} {C : Ctx} {cfg : jM} {R : Type} {r : R} {s : St} {a : Act} {w : World} {H : FH} {Φ : Nat → qC} {dst : Option Nat} {ty : TypeId} {pos : String} {after : Array Edge} {guard : Option (Nat × Bool)} {k : St → Option R}
theorem St.obj_freeze (s : St) (id j : Nat) : (s.freeze id).obj j = if id = j then none else s.obj j := by
 unfold St.freeze
 cases ho : s.obj id with
 | none =>
  simp only
  split
  ·rename_i e; rw [← e]; exact ho
  ·rfl
 | some o => exact St.obj_setObj s id j none
theorem qk.freezeAll : ∀ (ids : List Nat) {s : St} {H : FH}, qk P C s a w H Φ →
  ∃ Hf, H.le Hf ∧ (∀ b c, Hf b = some c → H b = some c ∨ ∃ id ∈ ids, ∃ o, s.obj id = some o ∧ b ∈ (Φ id).fp) ∧ Fzn w Hf Φ s.obj ids ∧ qk P C (s.freezeAll ids) a w Hf Φ ∧ ∀ j, (s.freezeAll ids).obj j = if j ∈ ids then none else s.obj j
 | [], s, H, h => ⟨H, FH.le_refl _, fun _ _ hb => .inl hb, (fun id hid => by cases hid), h, fun j => by simp [St.freezeAll]⟩
 | i :: r, s, H, h => by
  obtain ⟨H1, k1, k2, k3, k4⟩ := h.freeze i
  obtain ⟨H2, m1, m2, m3, m4, m5⟩ := qk.freezeAll r k4
  refine ⟨H2, FH.le_trans k1 m1, ?_, ?_, m4, ?_⟩
  ·intro b c hb
   rcases m2 b c hb with hb | ⟨id, hid, o, ho, hbf⟩
   ·rcases k2 b c hb with hb | ⟨o, ho, hbf⟩
    ·exact .inl hb
    ·exact .inr ⟨i, by simp, o, ho, hbf⟩
   ·rw [St.obj_freeze] at ho
    split at ho
    ·cases ho
    ·exact .inr ⟨id, by simp [hid], o, ho, hbf⟩
  ·intro id hid o ho b hb c t f hc
   by_cases e : i = id
   ·subst e
    exact m1 _ _ (k3 o ho b hb c t f hc)
   ·rcases List.mem_cons.1 hid with h1 | hid
    ·exact absurd h1.symm e
    ·exact m3 id hid o (by rw [St.obj_freeze, if_neg e]; exact ho) b hb c t f hc
  ·intro j
   show ((s.freeze i).freezeAll r).obj j = _
   rw [m5 j, St.obj_freeze]
   by_cases h1 : j ∈ r
   ·simp [h1]
   ·by_cases h2 : i = j
    ·simp [h2]
    ·have h3 : j ≠ i := fun e => h2 e.symm
     simp [h1, h2, h3]
def qdH (n m j : Nat) : Prop := ∀ i, n ≤ i → i < n + m → j ≠ i ∧ j ≠ qaL true i ∧ j ≠ qaL false i
theorem qcp {n m j : Nat} (h : qdH n (m + 1) j) : qdH (n + 1) m j := fun i h1 h2 => h i (by omega) (by omega)
theorem qeD {n m : Nat} (h : n + (m + 1) < 3000000) : qdH (n + 1) m n := fun i h1 h2 => ⟨by omega, by have := @qfe true i; omega, by have := @qfe false i; omega⟩
theorem qkH {nn : Bool} {n m : Nat} (h : n + (m + 1) < 3000000) : qdH (n + 1) m (qaL nn n) := fun i h1 h2 =>
 ⟨by have := @qfe nn n; omega, qhY (by omega) (by omega) (by omega), qhY (by omega) (by omega) (by omega)⟩
theorem qc0 {n m j : Nat} (h : qdH n (m + 1) j) : j ≠ n := (h n (Nat.le_refl _) (by omega)).1
theorem qek {nn : Bool} {n m j : Nat} (h : qdH n (m + 1) j) : j ≠ qaL nn n := by
 cases nn with
 | true => exact (h n (Nat.le_refl _) (by omega)).2.1
 | false => exact (h n (Nat.le_refl _) (by omega)).2.2
theorem qfh : ∀ (rs : List RTy) {n : Nat} {d : RDens rs} {us : List Value} {Ψs : List qC} {s : St} {Φ : Nat → qC}, qk P C s a w H Φ → qac P w H rs d us Ψs → (∀ i, i < 10000000 → C.pin i = none) → n + rs.length < 3000000 →
  (∀ b ∈ qd Ψs, H b = none ∧ (C.M0 b ∨ C.w0.heap.size ≤ b) ∧ b < w.heap.size ∧ ∀ j o, s.obj j = some o → b ∉ (Φ j).fp) → (qd Ψs).Nodup →
  ∃ Φ', qk P C (jK s n rs d).1 a w H Φ' ∧ qg P C w H Φ' (jK s n rs d).1.obj (jK s n rs d).2 (.tuple us.toArray) ∧ (jK s n rs d).2.isTup = true ∧ ∀ j, qdH n rs.length j → (jK s n rs d).1.obj j = s.obj j ∧ Φ' j = Φ j
 | [], n, d, us, Ψs, s, Φ, hs, hr, _, _, _, _ => by
  obtain ⟨rfl, rfl⟩ := hr
  exact ⟨Φ, hs, rfl, rfl, fun _ _ => ⟨rfl, rfl⟩⟩
 | .v τ :: rs, n, d, us, Ψs, s, Φ, hs, hr, hpin, hlt, hb, hnd => by
  obtain ⟨v, vs', φ, Φs', rfl, rfl, hfz, hφ, hv, hr⟩ := hr
  obtain ⟨Φ', h1, h2, h3, h4⟩ := qfh rs (n := n + 1) hs hr hpin (by rw [List.length_cons] at hlt; omega) (fun b hb' => hb b (by simpa [qd, hφ] using hb')) (by simpa [qd, hφ] using hnd)
  exact ⟨Φ', h1, ⟨v, vs', rfl, ⟨hfz, hv⟩, h2⟩, h3, fun j hj => h4 j (qcp hj)⟩
 | .own tid e :: rs, n, d, us, Ψs, s, Φ, hs, hr, hpin, hlt, hb, hnd => by
  obtain ⟨v, vs', φ, Φs', rfl, rfl, hv, hok, hr⟩ := hr
  have hnd' : φ.fp.Nodup ∧ (qd Φs').Nodup ∧ ∀ b ∈ φ.fp, b ∉ qd Φs' := by
   simp only [qd, List.flatMap_cons, List.nodup_append] at hnd
   exact ⟨hnd.1, hnd.2.1, fun b h1 h2 => hnd.2.2 b h1 b h2 rfl⟩
  have h0 := hs.newObj (j7.refl _ w) (hpin n (by rw [List.length_cons] at hlt; omega)) (qa2 (by rw [List.length_cons] at hlt; omega)) (row := true) (τ := .list true tid e) (x := d.1) (φ := φ) hok (fun b hb' => by
   obtain ⟨k1, k2, k3, k4⟩ := hb b (by simp [qd, hb'])
   exact ⟨k1, k2, k3, fun j o _ hj => k4 j o hj⟩)
  obtain ⟨Φ', h1, h2, h3, h4⟩ := qfh rs (n := n + 1) h0 hr hpin (by rw [List.length_cons] at hlt; omega) (fun b hb' => by
   obtain ⟨k1, k2, k3, k4⟩ := hb b (by simp only [qd, List.flatMap_cons, List.mem_append]; exact .inr hb')
   refine ⟨k1, k2, k3, fun j o hj => ?_⟩
   rw [St.newObj, St.obj_setObj] at hj
   split at hj
   ·rename_i e1; subst e1; rw [qr]; exact fun h1 => hnd'.2.2 b h1 hb'
   ·rename_i e1; rw [qZ _ _ (fun e => e1 e.symm)]; exact k4 j o hj) hnd'.2.1
  obtain ⟨h5, h6⟩ := h4 n (qeD (by rw [List.length_cons] at hlt; omega))
  refine ⟨Φ', h1, ⟨v, vs', rfl, ⟨⟨true, .list true tid e, d.1⟩, ⟨.list true tid e, d.1⟩, ?_, qN _ _, ?_⟩, h2⟩, h3, fun j hj => ?_⟩
  ·show (jK ((s.kill n).setObj n _) (n + 1) rs d.2).1.obj n = _
   have h5' := h5
   rw [St.newObj, St.obj_setObj, if_pos rfl] at h5'
   exact h5'
  ·simp only [List.isEmpty_nil, Bool.and_self]
   rw [h6, qr, hv]
  ·obtain ⟨h7, h8⟩ := h4 j (qcp hj)
   refine ⟨?_, by rw [h8, qZ _ _ (qc0 hj)]⟩
   show (jK ((s.kill n).setObj n _) (n + 1) rs d.2).1.obj j = _
   rw [St.newObj, St.obj_setObj, if_neg (fun e => qc0 hj e.symm)] at h7
   exact h7
 | .sure nn tid e :: rs, n, d, us, Ψs, s, Φ, hs, hr, hpin, hlt, hb, hnd => by
  obtain ⟨v, vs', φ, Φs', rfl, rfl, hv, hok, hsv, hr⟩ := hr
  have hnd' : φ.fp.Nodup ∧ (qd Φs').Nodup ∧ ∀ b ∈ φ.fp, b ∉ qd Φs' := by
   simp only [qd, List.flatMap_cons, List.nodup_append] at hnd
   exact ⟨hnd.1, hnd.2.1, fun b h1 h2 => hnd.2.2 b h1 b h2 rfl⟩
  have h0 := hs.newObj (j7.refl _ w) (hpin (qaL nn n) (qfd (by rw [List.length_cons] at hlt; omega))) (qhz (by rw [List.length_cons] at hlt; omega) hsv) (row := true) (τ := .list true tid e) (x := d.1) (φ := φ) hok (fun b hb' => by
   obtain ⟨k1, k2, k3, k4⟩ := hb b (by simp [qd, hb'])
   exact ⟨k1, k2, k3, fun j o _ hj => k4 j o hj⟩)
  obtain ⟨Φ', h1, h2, h3, h4⟩ := qfh rs (n := n + 1) h0 hr hpin (by rw [List.length_cons] at hlt; omega) (fun b hb' => by
   obtain ⟨k1, k2, k3, k4⟩ := hb b (by simp only [qd, List.flatMap_cons, List.mem_append]; exact .inr hb')
   refine ⟨k1, k2, k3, fun j o hj => ?_⟩
   rw [St.newObj, St.obj_setObj] at hj
   split at hj
   ·rename_i e1; subst e1; rw [qr]; exact fun h1 => hnd'.2.2 b h1 hb'
   ·rename_i e1; rw [qZ _ _ (fun e => e1 e.symm)]; exact k4 j o hj) hnd'.2.1
  obtain ⟨h5, h6⟩ := h4 (qaL nn n) (qkH (by rw [List.length_cons] at hlt; omega))
  refine ⟨Φ', h1, ⟨v, vs', rfl, ⟨⟨true, .list true tid e, d.1⟩, ⟨.list true tid e, d.1⟩, ?_, qN _ _, ?_⟩, h2⟩, h3, fun j hj => ?_⟩
  ·show (jK ((s.kill (qaL nn n)).setObj (qaL nn n) _) (n + 1) rs d.2).1.obj (qaL nn n) = _
   have h5' := h5
   rw [St.newObj, St.obj_setObj, if_pos rfl] at h5'
   exact h5'
  ·simp only [List.isEmpty_nil, Bool.and_self]
   rw [h6, qr, hv]
  ·obtain ⟨h7, h8⟩ := h4 j (qcp hj)
   refine ⟨?_, by rw [h8, qZ _ _ (qek hj)]⟩
   show (jK ((s.kill (qaL nn n)).setObj (qaL nn n) _) (n + 1) rs d.2).1.obj j = _
   rw [St.newObj, St.obj_setObj, if_neg (fun e => qek hj e.symm)] at h7
   exact h7
 | .ownv τ :: rs, n, d, us, Ψs, s, Φ, hs, hr, hpin, hlt, hb, hnd => by
  obtain ⟨v, vs', φ, Φs', rfl, rfl, hv, hok, hr⟩ := hr
  have hnd' : φ.fp.Nodup ∧ (qd Φs').Nodup ∧ ∀ b ∈ φ.fp, b ∉ qd Φs' := by
   simp only [qd, List.flatMap_cons, List.nodup_append] at hnd
   exact ⟨hnd.1, hnd.2.1, fun b h1 h2 => hnd.2.2 b h1 b h2 rfl⟩
  have h0 := hs.newObj (j7.refl _ w) (hpin n (by rw [List.length_cons] at hlt; omega)) (qa2 (by rw [List.length_cons] at hlt; omega)) (row := true) (τ := τ) (x := d.1) (φ := φ) hok (fun b hb' => by
   obtain ⟨k1, k2, k3, k4⟩ := hb b (by simp [qd, hb'])
   exact ⟨k1, k2, k3, fun j o _ hj => k4 j o hj⟩)
  obtain ⟨Φ', h1, h2, h3, h4⟩ := qfh rs (n := n + 1) h0 hr hpin (by rw [List.length_cons] at hlt; omega) (fun b hb' => by
   obtain ⟨k1, k2, k3, k4⟩ := hb b (by simp only [qd, List.flatMap_cons, List.mem_append]; exact .inr hb')
   refine ⟨k1, k2, k3, fun j o hj => ?_⟩
   rw [St.newObj, St.obj_setObj] at hj
   split at hj
   ·rename_i e1; subst e1; rw [qr]; exact fun h1 => hnd'.2.2 b h1 hb'
   ·rename_i e1; rw [qZ _ _ (fun e => e1 e.symm)]; exact k4 j o hj) hnd'.2.1
  obtain ⟨h5, h6⟩ := h4 n (qeD (by rw [List.length_cons] at hlt; omega))
  refine ⟨Φ', h1, ⟨v, vs', rfl, ⟨⟨true, τ, d.1⟩, ⟨τ, d.1⟩, ?_, qN _ _, ?_⟩, h2⟩, h3, fun j hj => ?_⟩
  ·show (jK ((s.kill n).setObj n _) (n + 1) rs d.2).1.obj n = _
   have h5' := h5
   rw [St.newObj, St.obj_setObj, if_pos rfl] at h5'
   exact h5'
  ·simp only [List.isEmpty_nil, Bool.and_self]
   rw [h6, qr, hv]
  ·obtain ⟨h7, h8⟩ := h4 j (qcp hj)
   refine ⟨?_, by rw [h8, qZ _ _ (qc0 hj)]⟩
   show (jK ((s.kill n).setObj n _) (n + 1) rs d.2).1.obj j = _
   rw [St.newObj, St.obj_setObj, if_neg (fun e => qc0 hj e.symm)] at h7
   exact h7
 | .optr τ :: rs, n, d, us, Ψs, s, Φ, hs, hr, hpin, hlt, hb, hnd => by
  obtain ⟨v, vs', φ, Φs', rfl, rfl, hv, hok, hr⟩ := hr
  have hnd' : φ.fp.Nodup ∧ (qd Φs').Nodup ∧ ∀ b ∈ φ.fp, b ∉ qd Φs' := by
   simp only [qd, List.flatMap_cons, List.nodup_append] at hnd
   exact ⟨hnd.1, hnd.2.1, fun b h1 h2 => hnd.2.2 b h1 b h2 rfl⟩
  have h0 := hs.newObj (j7.refl _ w) (hpin n (by rw [List.length_cons] at hlt; omega)) (qa2 (by rw [List.length_cons] at hlt; omega)) (row := false) (τ := τ) (x := d.1) (φ := φ) hok (fun b hb' => by
   obtain ⟨k1, k2, k3, k4⟩ := hb b (by simp [qd, hb'])
   exact ⟨k1, k2, k3, fun j o _ hj => k4 j o hj⟩)
  obtain ⟨Φ', h1, h2, h3, h4⟩ := qfh rs (n := n + 1) h0 hr hpin (by rw [List.length_cons] at hlt; omega) (fun b hb' => by
   obtain ⟨k1, k2, k3, k4⟩ := hb b (by simp only [qd, List.flatMap_cons, List.mem_append]; exact .inr hb')
   refine ⟨k1, k2, k3, fun j o hj => ?_⟩
   rw [St.newObj, St.obj_setObj] at hj
   split at hj
   ·rename_i e1; subst e1; rw [qr]; exact fun h1 => hnd'.2.2 b h1 hb'
   ·rename_i e1; rw [qZ _ _ (fun e => e1 e.symm)]; exact k4 j o hj) hnd'.2.1
  obtain ⟨h5, h6⟩ := h4 n (qeD (by rw [List.length_cons] at hlt; omega))
  refine ⟨Φ', h1, ⟨v, vs', rfl, ⟨⟨false, τ, d.1⟩, ⟨τ, d.1⟩, φ.b, 0, ?_, rfl, qN _ _, ?_, hv⟩, h2⟩, h3, fun j hj => ?_⟩
  ·show (jK ((s.kill n).setObj n _) (n + 1) rs d.2).1.obj n = _
   have h5' := h5
   rw [St.newObj, St.obj_setObj, if_pos rfl] at h5'
   exact h5'
  ·rw [h6, qr]
   exact jV _ _ _ _
  ·obtain ⟨h7, h8⟩ := h4 j (qcp hj)
   refine ⟨?_, by rw [h8, qZ _ _ (qc0 hj)]⟩
   show (jK ((s.kill n).setObj n _) (n + 1) rs d.2).1.obj j = _
   rw [St.newObj, St.obj_setObj, if_neg (fun e => qc0 hj e.symm)] at h7
   exact h7
theorem qiW {os : Nat → Option Obj} {av : AV} {us : List Value} (ht : av.isTup = true) (h : qg P C w H Φ os av (.tuple us.toArray)) : qg P C w H Φ os av.lone (qaa us) := by
 have hl := qai ht h
 match av, ht with
 | .nil, _ =>
  match us, hl with
  | [], _ => exact h
 | .cons b .nil, _ =>
  match us, hl with
  | [u], hl => exact hl.1
  | _ :: _ :: _, hl => exact hl.2.elim
 | .cons b (.cons c d), _ =>
  match us, hl with
  | _ :: _ :: _, _ => exact h
  | [_], hl => exact hl.2.elim
theorem qbB {α : Type} {n : Nat} {x : α} : ∀ {l : List (Nat × α)}, lk l n = some x → (n, x) ∈ l
 | [], h => by cases h
 | (m, y) :: l, h => by
  rw [jD] at h
  cases hb : Nat.beq m n with
  | true => rw [hb] at h; cases h; obtain rfl := Nat.eq_of_beq_eq_true hb; simp
  | false => rw [hb] at h; exact List.mem_cons_of_mem _ (qbB h)
theorem lk_not {α : Type} {n : Nat} : ∀ {l : List (Nat × α)}, lk l n = none → ∀ x ∈ l, x.1 ≠ n
 | [], _, x, hx => by cases hx
 | (m, y) :: l, h, x, hx => by
  rw [jD] at h
  cases hb : Nat.beq m n with
  | true => rw [hb] at h; cases h
  | false =>
   rw [hb] at h
   rcases List.mem_cons.1 hx with rfl | hx
   ·exact Nat.ne_of_beq_eq_false hb
   ·exact lk_not h x hx
theorem qfy {α : Type} {f : α → List Nat} : ∀ {l : List α}, (l.flatMap f).Nodup → ∀ x ∈ l, ∀ y ∈ l, x ≠ y → ∀ b ∈ f x, b ∉ f y
 | [], _, x, hx, _, _, _, _, _ => by cases hx
 | z :: l, h, x, hx, y, hy, hne, b, hb => by
  simp only [List.flatMap_cons, List.nodup_append] at h
  intro hb'
  rcases List.mem_cons.1 hx with rfl | hx2
  ·rcases List.mem_cons.1 hy with rfl | hy2
   ·exact hne rfl
   ·exact h.2.2 b hb b (List.mem_flatMap.2 ⟨y, hy2, hb'⟩) rfl
  ·rcases List.mem_cons.1 hy with rfl | hy2
   ·exact h.2.2 b hb' b (List.mem_flatMap.2 ⟨x, hx2, hb⟩) rfl
   ·exact qfy h.2.1 x hx2 y hy2 hne b hb hb'
theorem qbo {f : Nat → List Nat} : ∀ {l : List Nat}, l.Nodup → (∀ x ∈ l, (f x).Nodup) → (∀ x ∈ l, ∀ y ∈ l, x ≠ y → ∀ b ∈ f x, b ∉ f y) → (l.flatMap f).Nodup
 | [], _, _, _ => by simp
 | z :: l, h, h1, h2 => by
  simp only [List.nodup_cons] at h
  simp only [List.flatMap_cons, List.nodup_append]
  refine ⟨h1 z (by simp), qbo h.2 (fun x hx => h1 x (by simp [hx])) (fun x hx y hy => h2 x (by simp [hx]) y (by simp [hy])), ?_⟩
  rintro b hb _ hb' rfl
  obtain ⟨y, hy, hb'⟩ := List.mem_flatMap.1 hb'
  exact h2 z (by simp) y (by simp [hy]) (by rintro rfl; exact h.1 hy) b hb hb'
theorem qe7 (hcfg : qA P cfg) (hC : qG C cfg) {s0 : St} {H0 H2 Hf : FH} {w' : World} (hs : qk P C s0 a w H0 Φ) (hd : qQ cfg.nt dst = true) (hle : H0.le H2) (hok2 : HOk H2 w') {p : jH} (hrs : p.rs.length < 1000)
  {l : List AV} {vs us : List Value} {d : PDens p.ps} {y : RDens p.rs × MDens p.ps} {Φs Φs' Ψs : List qC} {G : List Nat} (hG : ∀ b ∈ G, (C.M0 b ∨ C.w0.heap.size ≤ b) ∧ ∀ j o, s0.obj j = some o → b ∉ (Φ j).fp) (hm : j7 (· ∈ qd Φs ++ G) w w') (hnew2 : ∀ b c, H2 b = some c → H0 b = some c ∨ b ∈ qd Φs ++ G ∨ w.heap.size ≤ b)
  (hmr : qdt s0.obj Φ p.ps l Φs) (hargs : jU P w Hf p.ps d vs Φs) (hmu : jN P w' H2 p.ps y.2 vs Φs') (hres : qac P w' H2 p.rs y.1 us Ψs) (hnd : (qd (Ψs ++ Φs')).Nodup)
  (hall : ∀ b ∈ qd (Ψs ++ Φs'), H2 b = none ∧ (b ∈ qd Φs ++ G ∨ w.heap.size ≤ b) ∧ b < w'.heap.size) (hms : (qJ p.ps l).Nodup) :
  ∃ Φ', qk P C (jK (qu (s0.killIf AV.isUpd) p.ps l y.2) (1000 * (dst.getD 0 + 1)) p.rs y.1).1 a w' H2 Φ' ∧ qg P C w' H2 Φ' (jK (qu (s0.killIf AV.isUpd) p.ps l y.2) (1000 * (dst.getD 0 + 1)) p.rs y.1).1.obj (jK (qu (s0.killIf AV.isUpd) p.ps l y.2) (1000 * (dst.getD 0 + 1)) p.rs y.1).2 (.tuple us.toArray) ∧ (jK (qu (s0.killIf AV.isUpd) p.ps l y.2) (1000 * (dst.getD 0 + 1)) p.rs y.1).2.isTup = true ∧
   ∀ j, 10000000 ≤ j → (Φ' j).b = (Φ j).b ∧ (jK (qu (s0.killIf AV.isUpd) p.ps l y.2) (1000 * (dst.getD 0 + 1)) p.rs y.1).1.obj j = (qu (s0.killIf AV.isUpd) p.ps l y.2).obj j := by
 obtain ⟨ML, h1, h2, h3, h4, h5⟩ := qbf hmr hargs hmu
 obtain ⟨F, g1, g2, g3⟩ := h5 (s0.killIf AV.isUpd)
 rw [← h1] at hms
 have g3 := g3 hms
 have hfpsapp : qd (Ψs ++ Φs') = qd Ψs ++ qd Φs' := by simp [qd]
 rw [hfpsapp] at hnd hall
 simp only [List.nodup_append] at hnd
 obtain ⟨hnd1, hnd2, hnd3⟩ := hnd
 have hmay : ∀ b ∈ qd Φs ++ G, C.M0 b ∨ C.w0.heap.size ≤ b := by
  intro b hb
  rcases List.mem_append.1 hb with hb | hb
  case inr => exact (hG b hb).1
  rw [h3] at hb
  obtain ⟨x, hx, hb⟩ := List.mem_flatMap.1 hb
  obtain ⟨o, ho, _⟩ := h4 x hx
  exact ((hs.os _ o ho).2 b hb).2.1
 have hother : ∀ j o', lk ML j = none → s0.obj j = some o' → ∀ b ∈ (Φ j).fp, b ∉ qd Φs ++ G ∧ b < w.heap.size ∧ H0 b = none := by
  intro j o' hj hoj b hb
  refine ⟨fun hb' => ?_, ((hs.os j o' hoj).2 b hb).2.2, ((hs.os j o' hoj).2 b hb).1⟩
  rcases List.mem_append.1 hb' with hb' | hb'
  case inr => exact (hG b hb').2 j o' hoj hb
  rw [h3] at hb'
  obtain ⟨x, hx, hb'⟩ := List.mem_flatMap.1 hb'
  obtain ⟨o, ho, _⟩ := h4 x hx
  exact hs.disj x.1 j o o' (lk_not hj x hx) ho hoj b hb' hb
 have hapart : ∀ b, (b ∈ qd Φs ++ G ∨ w.heap.size ≤ b) → ∀ j o', lk ML j = none → s0.obj j = some o' → b ∉ (Φ j).fp := by
  intro b hb j o' hj hoj hbj
  obtain ⟨k1, k2, _⟩ := hother j o' hj hoj b hbj
  rcases hb with hb | hb
  ·exact k1 hb
  ·omega
 have hmay2 : ∀ b, (b ∈ qd Φs ++ G ∨ w.heap.size ≤ b) → C.M0 b ∨ C.w0.heap.size ≤ b := by
  rintro b (hb | hb)
  ·exact hmay b hb
  ·exact .inr (Nat.le_trans hs.mod.size hb)
 have hinΦ' : ∀ id x, lk ML id = some x → ∀ b ∈ x.2, b ∈ qd Φs' := by
  intro id x hx b hb
  rw [h2]
  exact List.mem_flatMap.2 ⟨(id, x), qbB hx, hb⟩
 have hsim : qk P C (qu (s0.killIf AV.isUpd) p.ps l y.2) a w' H2 (qdL (lk ML) Φ) := by
  refine hs.changes (ch := lk ML) (F := fun av => AV.isUpd av || F av) ?_ g3 ?_ ?_ ?_ hle hok2 ?_ (hs.mod.trans_new hm hmay) hm.size ?_ ?_ ?_
  ·intro id x hx
   exact h4 (id, x) (qbB hx)
  ·intro t
   rw [g1, St.get_killIf]
   cases s0.get t with
   | none => rfl
   | some av => simp [j3]
  ·intro id x hx av hst
   simp [g2 (id, x) (qbB hx) av hst]
  ·intro av hu; simp [hu]
  ·intro b c hb
   rcases hnew2 b c hb with hb | hb | hb
   ·exact hs.hnew b c hb
   ·exact .inr (hmay b hb)
   ·exact .inr (.inr (Nat.le_trans hs.mod.size hb))
  ·intro j o' hj hoj b hb
   obtain ⟨k1, k2, k3⟩ := hother j o' hj hoj b hb
   refine ⟨hm.block b k2 k1, ?_⟩
   cases hq : H2 b with
   | none => rfl
   | some c =>
    rcases hnew2 b c hq with h | h | h
    ·rw [k3] at h; cases h
    ·exact absurd h k1
    ·omega
  ·intro id x hx b hb
   obtain ⟨k1, k2, k3⟩ := hall b (List.mem_append.2 (.inr (hinΦ' id x hx b hb)))
   exact ⟨k1, hmay2 b k2, k3, hapart b k2⟩
  ·intro i j x y' hij hx hy b hb
   rw [h2] at hnd2
   exact qfy hnd2 (i, x) (qbB hx) (j, y') (qbB hy) (by intro e; cases e; exact hij rfl) b hb
 have hdn : dst.getD 0 < 2000 := by
  cases dst with
  | none => decide
  | some d' => exact Nat.lt_of_lt_of_le (Eq.mp Nat.blt_eq hd : d' < cfg.nt) hcfg.small
 obtain ⟨Φ', k1, k2, k3, k4⟩ := qfh p.rs (n := 1000 * (dst.getD 0 + 1)) hsim hres (fun i hi => hC.pin i hi) (by omega) (by
  intro b hb
  obtain ⟨q1, q2, q3⟩ := hall b (List.mem_append.2 (.inl hb))
  refine ⟨q1, hmay2 b q2, q3, fun j o hj => ?_⟩
  rw [g3] at hj
  unfold qdL
  cases hc : lk ML j with
  | some x =>
   simp only
   exact fun hb' => hnd3 b hb b (hinΦ' j x hc b hb') rfl
  | none =>
   rw [hc] at hj
   exact hapart b q2 j o hc hj) hnd1
 refine ⟨Φ', k1, k2, k3, fun j hj => ?_⟩
 obtain ⟨q1, q2⟩ := k4 j (fun i h1 h2 => ⟨by omega, by have := @qfd true i (by omega); omega, by have := @qfd false i (by omega); omega⟩)
 refine ⟨?_, q1⟩
 rw [q2]
 unfold qdL
 cases lk ML j <;> rfl
theorem qe8 (hcfg : qA P cfg) (hC : qG C cfg) {s0 : St} {H0 H2 Hf : FH} {w' : World} (hs : qk P C s0 a w H0 Φ) (hd : qQ cfg.nt dst = true) (hle : H0.le H2) (hok2 : HOk H2 w') {p : jH} (hrs : p.rs.length < 1000)
  {l : List AV} {vs us : List Value} {d : PDens p.ps} {y : RDens p.rs × MDens p.ps} {Φs Φs' Ψs : List qC} {G : List Nat} (hG : ∀ b ∈ G, (C.M0 b ∨ C.w0.heap.size ≤ b) ∧ ∀ j o, s0.obj j = some o → b ∉ (Φ j).fp) (hm : j7 (· ∈ qd Φs ++ G) w w') (hnew2 : ∀ b c, H2 b = some c → H0 b = some c ∨ b ∈ qd Φs ++ G ∨ w.heap.size ≤ b)
  (hmr : qdt s0.obj Φ p.ps l Φs) (hargs : jU P w Hf p.ps d vs Φs) (hmu : jN P w' H2 p.ps y.2 vs Φs') (hres : qac P w' H2 p.rs y.1 us Ψs) (hnd : (qd (Ψs ++ Φs')).Nodup)
  (hall : ∀ b ∈ qd (Ψs ++ Φs'), H2 b = none ∧ (b ∈ qd Φs ++ G ∨ w.heap.size ≤ b) ∧ b < w'.heap.size) (hms : (qJ p.ps l).Nodup) :
  ∃ Φ', qk P C (jK (qu (s0.killIf AV.isUpd) p.ps l y.2) (1000 * (dst.getD 0 + 1)) p.rs y.1).1 a w' H2 Φ' ∧ qg P C w' H2 Φ' (jK (qu (s0.killIf AV.isUpd) p.ps l y.2) (1000 * (dst.getD 0 + 1)) p.rs y.1).1.obj (jK (qu (s0.killIf AV.isUpd) p.ps l y.2) (1000 * (dst.getD 0 + 1)) p.rs y.1).2 (.tuple us.toArray) ∧ (jK (qu (s0.killIf AV.isUpd) p.ps l y.2) (1000 * (dst.getD 0 + 1)) p.rs y.1).2.isTup = true := by
 obtain ⟨Φ', k1, k2, k3, _⟩ := qe7 hcfg hC hs hd hle hok2 hrs hG hm hnew2 hmr hargs hmu hres hnd hall hms
 exact ⟨Φ', k1, k2, k3⟩
theorem qjX (hcfg : qA P cfg) (hC : qG C cfg) {s0 : St} {H0 H2 Hf : FH} {w' : World} (hs : qk P C s0 a w H0 Φ) (hd : qQ cfg.nt dst = true) (hle : H0.le H2) (hok2 : HOk H2 w') {p : jH} (hrs : p.rs.length < 1000)
  {l : List AV} {vs us : List Value} {d : PDens p.ps} {y : RDens p.rs × MDens p.ps} {Φs Φs' Ψs : List qC} {G : List Nat} (hG : ∀ b ∈ G, (C.M0 b ∨ C.w0.heap.size ≤ b) ∧ ∀ j o, s0.obj j = some o → b ∉ (Φ j).fp) (hm : j7 (· ∈ qd Φs ++ G) w w') (hnew2 : ∀ b c, H2 b = some c → H0 b = some c ∨ b ∈ qd Φs ++ G ∨ w.heap.size ≤ b)
  (hmr : qdt s0.obj Φ p.ps l Φs) (hargs : jU P w Hf p.ps d vs Φs) (hmu : jN P w' H2 p.ps y.2 vs Φs') (hres : qac P w' H2 p.rs y.1 us Ψs) (hnd : (qd (Ψs ++ Φs')).Nodup)
  (hall : ∀ b ∈ qd (Ψs ++ Φs'), H2 b = none ∧ (b ∈ qd Φs ++ G ∨ w.heap.size ≤ b) ∧ b < w'.heap.size) (hms : (qJ p.ps l).Nodup) :
  Sim P C ((jK (qu (s0.killIf AV.isUpd) p.ps l y.2) (1000 * (dst.getD 0 + 1)) p.rs y.1).1.setDst dst (jK (qu (s0.killIf AV.isUpd) p.ps l y.2) (1000 * (dst.getD 0 + 1)) p.rs y.1).2.lone) (a.put dst (qaa us)) w' := by
 obtain ⟨Φ', k1, k2, k3⟩ := qe8 hcfg hC hs hd hle hok2 hrs hG hm hnew2 hmr hargs hmu hres hnd hall hms
 exact ⟨H2, Φ', k1.setDst (by rw [hC.nt]; exact hd) (qiW k3 k2)⟩
theorem qjY (hcfg : qA P cfg) (hC : qG C cfg) {s0 : St} {H0 H2 Hf : FH} {w' : World} (hs : qk P C s0 a w H0 Φ) (hd : qQ cfg.nt dst = true) (hle : H0.le H2) (hok2 : HOk H2 w') {p : jH} (hrs : p.rs.length < 1000)
  {l : List AV} {vs us : List Value} {d : PDens p.ps} {y : RDens p.rs × MDens p.ps} {Φs Φs' Ψs : List qC} (hm : j7 (· ∈ qd Φs) w w') (hnew2 : ∀ b c, H2 b = some c → H0 b = some c ∨ b ∈ qd Φs ∨ w.heap.size ≤ b)
  (hmr : qdt s0.obj Φ p.ps l Φs) (hargs : jU P w Hf p.ps d vs Φs) (hmu : jN P w' H2 p.ps y.2 vs Φs') (hres : qac P w' H2 p.rs y.1 us Ψs) (hnd : (qd (Ψs ++ Φs')).Nodup)
  (hall : ∀ b ∈ qd (Ψs ++ Φs'), H2 b = none ∧ (b ∈ qd Φs ∨ w.heap.size ≤ b) ∧ b < w'.heap.size) (hms : (qJ p.ps l).Nodup) :
  ∃ Φ', qk P C (jK (qu (s0.killIf AV.isUpd) p.ps l y.2) (1000 * (dst.getD 0 + 1)) p.rs y.1).1 a w' H2 Φ' ∧ qg P C w' H2 Φ' (jK (qu (s0.killIf AV.isUpd) p.ps l y.2) (1000 * (dst.getD 0 + 1)) p.rs y.1).1.obj (jK (qu (s0.killIf AV.isUpd) p.ps l y.2) (1000 * (dst.getD 0 + 1)) p.rs y.1).2 (.tuple us.toArray) ∧ (jK (qu (s0.killIf AV.isUpd) p.ps l y.2) (1000 * (dst.getD 0 + 1)) p.rs y.1).2.isTup = true :=
 qe8 hcfg hC hs hd hle hok2 hrs (G := []) (by simp) (by simpa using hm) (by simpa using hnew2) hmr hargs hmu hres hnd (by simpa using hall) hms
theorem qds (hcfg : qA P cfg) (hC : qG C cfg) {s0 : St} {H0 H2 Hf : FH} {w' : World} (hs : qk P C s0 a w H0 Φ) (hd : qQ cfg.nt dst = true) (hle : H0.le H2) (hok2 : HOk H2 w') {p : jH} (hrs : p.rs.length < 1000)
  {l : List AV} {vs us : List Value} {d : PDens p.ps} {y : RDens p.rs × MDens p.ps} {Φs Φs' Ψs : List qC} (hm : j7 (· ∈ qd Φs) w w') (hnew2 : ∀ b c, H2 b = some c → H0 b = some c ∨ b ∈ qd Φs ∨ w.heap.size ≤ b)
  (hmr : qdt s0.obj Φ p.ps l Φs) (hargs : jU P w Hf p.ps d vs Φs) (hmu : jN P w' H2 p.ps y.2 vs Φs') (hres : qac P w' H2 p.rs y.1 us Ψs) (hnd : (qd (Ψs ++ Φs')).Nodup)
  (hall : ∀ b ∈ qd (Ψs ++ Φs'), H2 b = none ∧ (b ∈ qd Φs ∨ w.heap.size ≤ b) ∧ b < w'.heap.size) (hms : (qJ p.ps l).Nodup) :
  Sim P C ((jK (qu (s0.killIf AV.isUpd) p.ps l y.2) (1000 * (dst.getD 0 + 1)) p.rs y.1).1.setDst dst (jK (qu (s0.killIf AV.isUpd) p.ps l y.2) (1000 * (dst.getD 0 + 1)) p.rs y.1).2.lone) (a.put dst (qaa us)) w' :=
 qjX hcfg hC hs hd hle hok2 hrs (G := []) (by simp) (by simpa using hm) (by simpa using hnew2) hmr hargs hmu hres hnd (by simpa using hall) hms
theorem qa6 {os : Nat → Option Obj} : ∀ {ps : List jZ} {l : List AV} {Φs : List qC}, qdt os Φ ps l Φs → qd Φs = (qJ ps l).flatMap (fun id => (Φ id).fp) ∧ ∀ id ∈ qJ ps l, ∃ o, os id = some o
 | [], l, Φs, h => by obtain ⟨rfl, rfl⟩ := h; exact ⟨rfl, by simp [qJ]⟩
 | .v τ :: ps, l, Φs, h => by
  obtain ⟨av, l', φ, Φs1, rfl, rfl, hφ, hm⟩ := h
  obtain ⟨h1, h2⟩ := qa6 hm
  exact ⟨by simpa [qd, hφ, qJ] using h1, by simpa [qJ] using h2⟩
 | .r τ :: ps, l, Φs, h => by
  obtain ⟨av, l', φ, Φs1, rfl, rfl, hφ, hm⟩ := h
  obtain ⟨h1, h2⟩ := qa6 hm
  exact ⟨by simpa [qd, hφ, qJ] using h1, by simpa [qJ] using h2⟩
 | .c _ :: ps, l, Φs, h => by
  obtain ⟨av, l', φ, Φs1, rfl, rfl, hφ, hm⟩ := h
  obtain ⟨h1, h2⟩ := qa6 hm
  exact ⟨by simpa [qd, hφ, qJ] using h1, by simpa [qJ] using h2⟩
 | .m τ :: ps, l, Φs, h => by
  obtain ⟨id, l', Φs1, x, rfl, rfl, ho, hm⟩ := h
  obtain ⟨h1, h2⟩ := qa6 hm
  exact ⟨by simpa [qd, qJ, AV.name] using h1, by simpa [qJ, AV.name, ho] using h2⟩
 | .gm τ :: ps, l, Φs, h => by
  obtain ⟨id, l', Φs1, x, rfl, rfl, ho, hm⟩ := h
  obtain ⟨h1, h2⟩ := qa6 hm
  exact ⟨by simpa [qd, qJ, AV.name] using h1, by simpa [qJ, AV.name, ho] using h2⟩
 | .mr tid e :: ps, l, Φs, h => by
  obtain ⟨id, l', Φs1, x, rfl, rfl, ho, hm⟩ := h
  obtain ⟨h1, h2⟩ := qa6 hm
  exact ⟨by simpa [qd, qJ, AV.name] using h1, by simpa [qJ, AV.name, ho] using h2⟩
 | .t tid e :: ps, l, Φs, h => by
  obtain ⟨id, l', Φs1, x, rfl, rfl, ho, hm⟩ := h
  obtain ⟨h1, h2⟩ := qa6 hm
  exact ⟨by simpa [qd, qJ, AV.name] using h1, by simpa [qJ, AV.name, ho] using h2⟩
 | .cm f τ :: ps, l, Φs, h => by
  obtain ⟨id, l', Φs1, x, rfl, rfl, ho, hm⟩ := h
  obtain ⟨h1, h2⟩ := qa6 hm
  exact ⟨by simpa [qd, qJ, AV.capName, AV.name] using h1, by simpa [qJ, AV.capName, AV.name, ho] using h2⟩
theorem qav {os os' : Nat → Option Obj} : ∀ {ps : List jZ} {l : List AV} {Φs : List qC}, (∀ id ∈ qJ ps l, os' id = os id) → qdt os Φ ps l Φs → qdt os' Φ ps l Φs
 | [], l, Φs, _, h => h
 | .v τ :: ps, l, Φs, hh, h => by
  obtain ⟨av, l', φ, Φs1, rfl, rfl, hφ, hm⟩ := h
  exact ⟨av, l', φ, Φs1, rfl, rfl, hφ, qav (by simpa [qJ] using hh) hm⟩
 | .r τ :: ps, l, Φs, hh, h => by
  obtain ⟨av, l', φ, Φs1, rfl, rfl, hφ, hm⟩ := h
  exact ⟨av, l', φ, Φs1, rfl, rfl, hφ, qav (by simpa [qJ] using hh) hm⟩
 | .c _ :: ps, l, Φs, hh, h => by
  obtain ⟨av, l', φ, Φs1, rfl, rfl, hφ, hm⟩ := h
  exact ⟨av, l', φ, Φs1, rfl, rfl, hφ, qav (by simpa [qJ] using hh) hm⟩
 | .m τ :: ps, l, Φs, hh, h => by
  obtain ⟨id, l', Φs1, x, rfl, rfl, ho, hm⟩ := h
  exact ⟨id, l', Φs1, x, rfl, rfl, by rw [hh id (by simp [qJ, AV.name])]; exact ho, qav (fun j hj => hh j (by simp [qJ, hj])) hm⟩
 | .gm τ :: ps, l, Φs, hh, h => by
  obtain ⟨id, l', Φs1, x, rfl, rfl, ho, hm⟩ := h
  exact ⟨id, l', Φs1, x, rfl, rfl, by rw [hh id (by simp [qJ, AV.name])]; exact ho, qav (fun j hj => hh j (by simp [qJ, hj])) hm⟩
 | .mr tid e :: ps, l, Φs, hh, h => by
  obtain ⟨id, l', Φs1, x, rfl, rfl, ho, hm⟩ := h
  exact ⟨id, l', Φs1, x, rfl, rfl, by rw [hh id (by simp [qJ, AV.name])]; exact ho, qav (fun j hj => hh j (by simp [qJ, hj])) hm⟩
 | .t tid e :: ps, l, Φs, hh, h => by
  obtain ⟨id, l', Φs1, x, rfl, rfl, ho, hm⟩ := h
  exact ⟨id, l', Φs1, x, rfl, rfl, by rw [hh id (by simp [qJ, AV.name])]; exact ho, qav (fun j hj => hh j (by simp [qJ, hj])) hm⟩
 | .cm f τ :: ps, l, Φs, hh, h => by
  obtain ⟨id, l', Φs1, x, rfl, rfl, ho, hm⟩ := h
  exact ⟨id, l', Φs1, x, rfl, rfl, by rw [hh id (by simp [qJ, AV.capName, AV.name])]; exact ho, qav (fun j hj => hh j (by simp [qJ, hj])) hm⟩
theorem qP.closed {w : World} {H H' : FH} {o : Obj} {φ : qC} (hc : o.τ.isClosed = true) (h : qP P w H o φ) : qP P w H' o φ := by
 obtain ⟨h1, h2, h3⟩ := h
 refine ⟨h1, h2, ?_⟩
 cases hr : o.row with
 | false =>
  rw [hr] at h3
  obtain ⟨blk, t, fp', h4, h5, h6⟩ := h3
  exact ⟨blk, t, fp', h4, qn.closed _ hc h5, h6⟩
 | true =>
  rw [hr] at h3
  obtain ⟨k1, cs, k2, k3⟩ := h3
  exact ⟨k1, cs, k2, qn.closed _ hc k3⟩
theorem jN.closed {w : World} {H H' : FH} : ∀ {ps : List jZ} {md : MDens ps} {vs : List Value} {Φs : List qC}, ps.all jZ.closed = true → jN P w H ps md vs Φs → jN P w H' ps md vs Φs
 | [], _, _, _, _, h => h
 | .v τ :: ps, md, vs, Φs, hc, h => by
  obtain ⟨v, vs', φ, Φs', e1, e2, e3, h⟩ := h
  exact ⟨v, vs', φ, Φs', e1, e2, e3, jN.closed (by simpa [jZ.closed] using hc) h⟩
 | .r τ :: ps, md, vs, Φs, hc, h => by
  obtain ⟨v, vs', φ, Φs', e1, e2, e3, h⟩ := h
  exact ⟨v, vs', φ, Φs', e1, e2, e3, jN.closed (by simpa [jZ.closed] using hc) h⟩
 | .c _ :: ps, md, vs, Φs, hc, h => by
  obtain ⟨v, vs', φ, Φs', e1, e2, e3, h⟩ := h
  exact ⟨v, vs', φ, Φs', e1, e2, e3, jN.closed (by simpa [jZ.closed] using hc) h⟩
 | .m τ :: ps, md, vs, Φs, hc, h => by
  simp only [List.all_cons, Bool.and_eq_true] at hc
  obtain ⟨v, vs', φ, Φs', e1, e2, e3, e4, h⟩ := h
  exact ⟨v, vs', φ, Φs', e1, e2, e3, qP.closed hc.1 e4, jN.closed hc.2 h⟩
 | .mr tid e :: ps, md, vs, Φs, hc, h => by
  simp only [List.all_cons, Bool.and_eq_true] at hc
  obtain ⟨v, vs', φ, Φs', e1, e2, e3, e4, h⟩ := h
  exact ⟨v, vs', φ, Φs', e1, e2, e3, qP.closed (by simpa [Ty.isClosed] using Ty.flat_closed e hc.1) e4, jN.closed hc.2 h⟩
 | .t _ _ :: ps, md, vs, Φs, hc, h => by
  simp only [List.all_cons, Bool.and_eq_true] at hc
  obtain ⟨v, vs', φ, Φs', e1, e2, e3, h⟩ := h
  exact ⟨v, vs', φ, Φs', e1, e2, e3, jN.closed hc.2 h⟩
 | .gm _ :: ps, md, vs, Φs, hc, h => by
  simp only [List.all_cons, Bool.and_eq_true] at hc
  obtain ⟨v, vs', φ, Φs', e1, e2, e3, h⟩ := h
  exact ⟨v, vs', φ, Φs', e1, e2, e3, jN.closed hc.2 h⟩
 | .cm f τ :: ps, md, vs, Φs, hc, h => by
  simp only [List.all_cons, Bool.and_eq_true] at hc
  obtain ⟨v, vs', φ, Φs', e1, e2, e3, e4, h⟩ := h
  exact ⟨v, vs', φ, Φs', e1, e2, e3, qP.closed hc.1 e4, jN.closed hc.2 h⟩
theorem qac.closed {w : World} {H H' : FH} : ∀ {rs : List RTy} {d : RDens rs} {vs : List Value} {Φs : List qC}, rs.all RTy.closed = true → qac P w H rs d vs Φs → qac P w H' rs d vs Φs
 | [], _, _, _, _, h => h
 | .v τ :: rs, d, vs, Φs, hc, h => by
  simp only [List.all_cons, Bool.and_eq_true] at hc
  obtain ⟨v, vs', φ, Φs', e1, e2, e3, e4, ⟨cs, e5, e6⟩, h⟩ := h
  exact ⟨v, vs', φ, Φs', e1, e2, e3, e4, ⟨cs, e5, qn.closed τ (Ty.flat_closed τ hc.1) e6⟩, qac.closed hc.2 h⟩
 | .own tid e :: rs, d, vs, Φs, hc, h => by
  simp only [List.all_cons, Bool.and_eq_true] at hc
  obtain ⟨v, vs', φ, Φs', e1, e2, e3, e4, h⟩ := h
  exact ⟨v, vs', φ, Φs', e1, e2, e3, qP.closed (by simpa [Ty.isClosed] using Ty.flat_closed e hc.1) e4, qac.closed hc.2 h⟩
 | .sure _ tid e :: rs, d, vs, Φs, hc, h => by
  simp only [List.all_cons, Bool.and_eq_true] at hc
  obtain ⟨v, vs', φ, Φs', e1, e2, e3, e4, e5, h⟩ := h
  exact ⟨v, vs', φ, Φs', e1, e2, e3, qP.closed (by simpa [Ty.isClosed] using Ty.flat_closed e hc.1) e4, e5, qac.closed hc.2 h⟩
 | .ownv _ :: rs, d, vs, Φs, hc, h => by
  simp only [List.all_cons, Bool.and_eq_true] at hc
  obtain ⟨v, vs', φ, Φs', e1, e2, e3, e4, h⟩ := h
  exact ⟨v, vs', φ, Φs', e1, e2, e3, qP.closed hc.1 e4, qac.closed hc.2 h⟩
 | .optr τ :: rs, d, vs, Φs, hc, h => by
  simp only [List.all_cons, Bool.and_eq_true] at hc
  obtain ⟨v, vs', φ, Φs', e1, e2, e3, e4, h⟩ := h
  exact ⟨v, vs', φ, Φs', e1, e2, e3, qP.closed hc.1 e4, qac.closed hc.2 h⟩
theorem qlZ (hcfg : qA P cfg) (hC : qG C cfg) {f : Nat} {m : qep} (hp : lk cfg.makers f = some m) {l : List AV} {vs : List Value} (hs : qk P C s a w H Φ) (hd : qQ cfg.nt dst = true) (hrel : j6 (qg P C w H Φ s.obj) l vs)
  (h : qkP cfg s dst m l k = some r) : ∃ s', k s' = some r ∧ Calls P f vs.toArray w fun e w'' => ∃ v, e = .returned v ∧ Sim P C s' (a.put dst v) w'' := by
 obtain ⟨_, hsound⟩ := hcfg.makers f m hp
 unfold qkP at h
 cases hq : apart (qJ m.p.ps l) (qx m.p.ps l) && Nat.blt m.p.rs.length 1000 with
 | false => rw [hq] at h; cases h
 | true =>
 rw [hq, cond_true] at h
 rw [Bool.and_eq_true] at hq
 obtain ⟨hap, hrs⟩ := hq
 have hrs : m.p.rs.length < 1000 := Eq.mp Nat.blt_eq hrs
 obtain ⟨hms, hmt⟩ := qbW hap
 obtain ⟨Hf, m1, m2, m3, m4, m5⟩ := qk.freezeAll (qx m.p.ps l) hs
 obtain ⟨d, h, Φs, hargs, hmr⟩ := qaT hcfg hs m1 m3 hrel h
 rw [ql] at h
 replace h := Option.bind_eq_some_iff.1 h
 obtain ⟨y, hy, h⟩ := h
 obtain ⟨hfps, hmo⟩ := qa6 hmr
 have hnd : (qd Φs).Nodup := by
  rw [hfps]
  refine qbo hms (fun id hid => ?_) (fun i hi j hj hij b hb => ?_)
  ·obtain ⟨o, ho⟩ := hmo id hid
   exact (hs.os id o ho).1.2.1
  ·obtain ⟨o, ho⟩ := hmo i hi
   obtain ⟨o', ho'⟩ := hmo j hj
   exact hs.disj i j o o' hij ho ho' b hb
 have hnone : ∀ b ∈ qd Φs, Hf b = none ∧ b < w.heap.size := by
  intro b hb
  rw [hfps] at hb
  obtain ⟨id, hid, hb⟩ := List.mem_flatMap.1 hb
  obtain ⟨o, ho⟩ := hmo id hid
  obtain ⟨q1, q2, q3⟩ := (hs.os id o ho).2 b hb
  refine ⟨?_, q3⟩
  cases hq : Hf b with
  | none => rfl
  | some c =>
   rcases m2 b c hq with h1 | ⟨id2, hid2, o2, ho2, hb2⟩
   ·rw [q1] at h1; cases h1
   ·exact absurd hb2 (hs.disj id id2 o o2 (by rintro rfl; exact hmt id hid hid2) ho ho2 b hb)
 have hc := hsound d y hy w Hf vs Φs m4.hok hargs hnd hnone
 refine ⟨_, h, hc.mono ?_⟩
 rintro e w'' ⟨us, H', Φs', Ψs, he, hm, hle, hok', hnew, hres, hmu, hnd2, hall⟩
 refine ⟨_, he, ?_⟩
 obtain ⟨Φ', k1, k2, _⟩ := qjY hcfg hC m4 hd hle hok' hrs hm hnew (qav (fun id hid => by rw [m5, if_neg (hmt id hid)]) hmr) hargs hmu hres hnd2 hall hms
 exact ⟨H', Φ', k1.setDst (by rw [hC.nt]; exact hd) ⟨#[], us.toArray, rfl, rfl, k2⟩⟩
theorem qit (hcfg : qA P cfg) (hC : qG C cfg) {p : jH} {X : (Ending → World → Prop) → Prop} (hX : ∀ {Q Q' : Ending → World → Prop}, X Q → (∀ e w, Q e w → Q' e w) → X Q') {l : List AV} {vs : List Value} (hs : qk P C s a w H Φ) (hd : qQ cfg.nt dst = true) (hrel : j6 (qg P C w H Φ s.obj) l vs)
  (hsound : ∀ (d : PDens p.ps) (y : RDens p.rs × MDens p.ps), p.g d = some y → ∀ (H2 : FH) (Φs : List qC), H.le H2 → HOk H2 w → jU P w H2 p.ps d vs Φs → (qd Φs).Nodup → (∀ b ∈ qd Φs, H2 b = none ∧ b < w.heap.size) →
   X fun e w' => ∃ us H' Φs' Ψs, e = .returned (qaa us) ∧ j7 (· ∈ qd Φs) w w' ∧ H2.le H' ∧ HOk H' w' ∧ (∀ b c, H' b = some c → H2 b = some c ∨ b ∈ qd Φs ∨ w.heap.size ≤ b) ∧
    qac P w' H' p.rs y.1 us Ψs ∧ jN P w' H' p.ps y.2 vs Φs' ∧ (qd (Ψs ++ Φs')).Nodup ∧ ∀ b ∈ qd (Ψs ++ Φs'), H' b = none ∧ (b ∈ qd Φs ∨ w.heap.size ≤ b) ∧ b < w'.heap.size)
  (h : qe6 cfg s dst p l k = some r) : ∃ s', k s' = some r ∧ X fun e w'' => ∃ v, e = .returned v ∧ Sim P C s' (a.put dst v) w'' := by
 unfold qe6 at h
 cases hq : apart (qJ p.ps l) (qx p.ps l) && Nat.blt p.rs.length 1000 with
 | false => rw [hq] at h; cases h
 | true =>
 rw [hq, cond_true] at h
 rw [Bool.and_eq_true] at hq
 obtain ⟨hap, hrs⟩ := hq
 have hrs : p.rs.length < 1000 := Eq.mp Nat.blt_eq hrs
 obtain ⟨hms, hmt⟩ := qbW hap
 obtain ⟨Hf, m1, m2, m3, m4, m5⟩ := qk.freezeAll (qx p.ps l) hs
 obtain ⟨d, h, Φs, hargs, hmr⟩ := qaT hcfg hs m1 m3 hrel h
 rw [ql] at h
 replace h := Option.bind_eq_some_iff.1 h
 obtain ⟨y, hy, h⟩ := h
 obtain ⟨hfps, hmo⟩ := qa6 hmr
 have hnd : (qd Φs).Nodup := by
  rw [hfps]
  refine qbo hms (fun id hid => ?_) (fun i hi j hj hij b hb => ?_)
  ·obtain ⟨o, ho⟩ := hmo id hid
   exact (hs.os id o ho).1.2.1
  ·obtain ⟨o, ho⟩ := hmo i hi
   obtain ⟨o', ho'⟩ := hmo j hj
   exact hs.disj i j o o' hij ho ho' b hb
 have hnone : ∀ b ∈ qd Φs, Hf b = none ∧ b < w.heap.size := by
  intro b hb
  rw [hfps] at hb
  obtain ⟨id, hid, hb⟩ := List.mem_flatMap.1 hb
  obtain ⟨o, ho⟩ := hmo id hid
  obtain ⟨q1, q2, q3⟩ := (hs.os id o ho).2 b hb
  refine ⟨?_, q3⟩
  cases hq : Hf b with
  | none => rfl
  | some c =>
   rcases m2 b c hq with h1 | ⟨id2, hid2, o2, ho2, hb2⟩
   ·rw [q1] at h1; cases h1
   ·exact absurd hb2 (hs.disj id id2 o o2 (by rintro rfl; exact hmt id hid hid2) ho ho2 b hb)
 have hc := hsound d y hy Hf Φs m1 m4.hok hargs hnd hnone
 refine ⟨_, h, hX hc ?_⟩
 rintro e w'' ⟨us, H', Φs', Ψs, he, hm, hle, hok', hnew, hres, hmu, hnd2, hall⟩
 refine ⟨_, he, ?_⟩
 cases hcl : p.rs.all RTy.closed && p.ps.all jZ.closed with
 | false =>
  rw [cond_false]
  exact qds hcfg hC m4 hd hle hok' hrs hm hnew (qav (fun id hid => by rw [m5, if_neg (hmt id hid)]) hmr) hargs hmu hres hnd2 hall hms
 | true =>
  rw [cond_true]
  rw [Bool.and_eq_true] at hcl
  classical
  have htf : ∀ b, (∃ id ∈ qx p.ps l, ∃ o, s.obj id = some o ∧ b ∈ (Φ id).fp) → H b = none := by
   rintro b ⟨id, _, o, ho, hb⟩
   exact ((hs.os id o ho).2 b hb).1
  let H2 : FH := fun b => if (∃ id ∈ qx p.ps l, ∃ o, s.obj id = some o ∧ b ∈ (Φ id).fp) then none else H' b
  have hH2 : ∀ b c, H2 b = some c → H' b = some c ∧ ¬ ∃ id ∈ qx p.ps l, ∃ o, s.obj id = some o ∧ b ∈ (Φ id).fp := by
   intro b c hb
   simp only [H2] at hb
   split at hb
   ·cases hb
   ·exact ⟨hb, ‹_›⟩
  refine qds (H2 := H2) hcfg hC hs hd ?_ (fun b c hb => hok' b c (hH2 b c hb).1) hrs hm ?_ hmr hargs (jN.closed hcl.2 hmu) (qac.closed hcl.1 hres) hnd2 ?_ hms
  ·intro b c hb
   simp only [H2]
   rw [if_neg (fun hh => by rw [htf b hh] at hb; cases hb)]
   exact hle _ _ (m1 _ _ hb)
  ·intro b c hb
   obtain ⟨q1, q2⟩ := hH2 b c hb
   rcases hnew b c q1 with q | q | q
   ·rcases m2 b c q with q | q
    ·exact .inl q
    ·exact absurd q q2
   ·exact .inr (.inl q)
   ·exact .inr (.inr q)
  ·intro b hb
   obtain ⟨q1, q2, q3⟩ := hall b hb
   refine ⟨?_, q2, q3⟩
   simp only [H2]
   split
   ·rfl
   ·exact q1
theorem callK_ok (hcfg : qA P cfg) (hC : qG C cfg) {f : Nat} {p : jH} (hp : lk cfg.prims f = some p) {l : List AV} {vs : List Value} (hs : qk P C s a w H Φ) (hd : qQ cfg.nt dst = true) (hrel : j6 (qg P C w H Φ s.obj) l vs)
  (h : qe6 cfg s dst p l k = some r) : ∃ s', k s' = some r ∧ Calls P f vs.toArray w fun e w'' => ∃ v, e = .returned v ∧ Sim P C s' (a.put dst v) w'' :=
 qit hcfg hC (X := fun Q => Calls P f vs.toArray w Q) (fun h hm => h.mono hm) hs hd hrel (fun d y hy H2 Φs _ hok ha hn hf => (hcfg.prims f p hp).2 d y hy w H2 vs Φs hok ha hn hf) h
theorem keepT_ok {s' : St} {a' : Act} {w' : World} {H' : FH} {Φ' : Nat → qC} {id : Nat} {q : List qs} {τ : Ty} {x x' : τ.den} (hs : qk P C s a w H Φ) (hs' : qk P C s' a' w' H' Φ') (ho : s.obj id = some ⟨false, τ, x⟩) (ho' : s'.obj id = some ⟨false, τ, x'⟩)
  (hb : (Φ' id).b = (Φ id).b) (hk : ∀ u, qi8 w τ (Φ id).b q u → qi8 w' τ (Φ id).b q u) (ha : ∀ t, qhh dst t = false → a'.tmps.getD t undef = a.tmps.getD t undef) : ∀ ts, qk P C (qeW s s' id q dst ts) a' w' H' Φ' ∧ (qeW s s' id q dst ts).obj = s'.obj := by
 have key : ∀ p v, qS p q = true → qg P C w H Φ s.obj (.view id p) v → qg P C w' H' Φ' s'.obj (.view id q) v := by
  intro p v hp hr
  obtain rfl := qbq hp
  obtain ⟨o, y, h1, h2, h3⟩ := hr
  rw [ho] at h1
  cases h1
  simp only [Bool.false_and] at h3
  obtain ⟨b, off, blk, t, h4, h5, h6⟩ := h3
  obtain ⟨σ, b', off', blk', t', g1, g2, g3, g4⟩ := hk v ⟨y.1, b, off, blk, t, jQ _ h2, h4, h5, h6⟩
  have hst : p.any qs.isI = false := qbZ hp
  obtain ⟨y', hy'⟩ := qbv τ x' hst g1
  refine ⟨_, ⟨σ, y'⟩, ho', hy', ?_⟩
  simp only [Bool.false_and]
  refine ⟨b', off', blk', t', ?_, g3, g4⟩
  unfold j1
  simp only
  rw [hb]
  exact g2
 intro ts
 induction ts with
 | nil => exact ⟨hs', rfl⟩
 | cons t ts ih =>
  obtain ⟨i1, i2⟩ := ih
  simp only [qeW]
  split
  ·rename_i j p hg
   cases hc : Nat.beq j id && (qS p q && !qhh dst t) with
   | false => exact ⟨i1, i2⟩
   | true =>
    simp only [Bool.and_eq_true, Bool.not_eq_true'] at hc
    obtain rfl := Nat.eq_of_beq_eq_true hc.1
    refine ⟨i1.setAV ?_, i2⟩
    rw [i2, ha t hc.2.2]
    exact key p _ hc.2.1 (hs.ts t _ hg)
  ·rename_i n j p hg
   cases hc : Nat.beq j id && (qS p q && !qhh dst t) with
   | false => exact ⟨i1, i2⟩
   | true =>
    simp only [Bool.and_eq_true, Bool.not_eq_true'] at hc
    obtain rfl := Nat.eq_of_beq_eq_true hc.1
    refine ⟨i1.setAV ?_, i2⟩
    rw [i2]
    obtain ⟨u, hu, hr⟩ := hs.ts t _ hg
    exact ⟨u, hu, key p _ hc.2.1 hr⟩
  ·exact ⟨i1, i2⟩
theorem qiY (hcfg : qA P cfg) (hC : qG C cfg) {f : Nat} {kp : qeq} (hp : lk cfg.keeps f = some kp) {l : List AV} {vs : List Value} (hs : qk P C s a w H Φ) (hd : qQ cfg.nt dst = true) (hrel : j6 (qg P C w H Φ s.obj) l vs)
  (h : qfn s dst kp l k = some r) : ∃ s', k s' = some r ∧ Calls P f vs.toArray w fun e w'' => ∃ v, e = .returned v ∧ Sim P C s' (a.put dst v) w'' := by
 obtain ⟨_, hsound⟩ := hcfg.keeps f kp hp
 unfold qfn at h
 split at h
 case h_2 => cases h
 rename_i id
 split at h
 case h_2 => cases h
 rename_i o ho
 cases hc : !o.row && (Nat.ble 10000000 id && Nat.blt kp.rs.length 1000) with
 | false => rw [hc] at h; cases h
 | true =>
 rw [hc, cond_true] at h
 simp only [Bool.and_eq_true, Bool.not_eq_true'] at hc
 obtain ⟨hrow, hid, hrs⟩ := hc
 have hid : 10000000 ≤ id := Nat.le_of_ble_eq_true hid
 have hrs : kp.rs.length < 1000 := Eq.mp Nat.blt_eq hrs
 obtain ⟨row, σ, x0⟩ := o
 simp only at hrow
 subst hrow
 rw [ql] at h
 replace h := Option.bind_eq_some_iff.1 h
 obtain ⟨x, hx, h⟩ := h
 obtain ⟨e1, hx⟩ := qj hx
 simp only at e1
 subst e1
 subst hx
 rw [ql] at h
 replace h := Option.bind_eq_some_iff.1 h
 obtain ⟨y, hy, h⟩ := h
 match vs, hrel with
 | [v], hrel =>
  have hrel := hrel.1
  have hok := hs.os id _ ho
  obtain ⟨o2, y2, b, off, q1, _, _, q4, q5⟩ := hrel
  rw [ho] at q1
  cases q1
  obtain ⟨rfl, rfl⟩ := jT.det _ q4 (jV w _ (Φ id).b 0)
  have hargs : jU P w H kp.prim.ps (_, ()) [v] [Φ id] := ⟨v, [], Φ id, [], rfl, rfl, q5, hok.1, rfl, rfl⟩
  have hmr : qdt s.obj Φ kp.prim.ps [.ptr id []] [Φ id] := ⟨id, [], [], _, rfl, rfl, ho, rfl, rfl⟩
  have hfe : qd [Φ id] = (Φ id).fp := by simp [qd]
  have hcall := hsound (_, ()) y hy w H [v] [Φ id] hs.hok hargs (by rw [hfe]; exact hok.1.2.1) (by rw [hfe]; exact fun b hb => ⟨(hok.2 b hb).1, (hok.2 b hb).2.2⟩)
  refine ⟨_, h, hcall.mono ?_⟩
  rintro e w'' ⟨⟨us, H', Φs', Ψs, he, hm, hle, hok', hnew, hres, hmu, hnd2, hall⟩, hkeep⟩
  refine ⟨_, he, ?_⟩
  obtain ⟨Φ', k1, k2, k3, k4⟩ := qe7 (p := kp.prim) (l := [.ptr id []]) (G := []) hcfg hC hs hd hle hok' hrs (by simp) (by simpa using hm) (by simpa using hnew) hmr hargs hmu hres hnd2 (by simpa using hall) (by simp [qJ, AV.name, qeq.prim])
  obtain ⟨kb, ko⟩ := k4 id hid
  have hob : ∀ (s' : St) (d : Option Nat) (av : AV), (s'.setDst d av).obj = s'.obj := fun s' d av => by cases d <;> rfl
  refine ⟨H', Φ', (keepT_ok (x' := y.2.1) hs (k1.setDst (by rw [hC.nt]; exact hd) (qiW k3 k2)) ho ?_ kb (hkeep (Φ id) List.mem_cons_self) ?_ _).1⟩
  ·rw [hob, ko]
   show (((s.killIf AV.isUpd).killIf (AV.stale id false)).setObj id (some ⟨false, kp.τ, y.2.1⟩)).obj id = _
   rw [St.obj_setObj, if_pos rfl]
  ·intro t ht
   cases dst with
   | none => rfl
   | some d =>
    have hdt : d < a.tmps.size := by rw [hs.size, hC.nt]; exact Eq.mp Nat.blt_eq hd
    rw [qcZ hdt, if_neg (Nat.ne_of_beq_eq_false ht)]
 | [], hrel => exact hrel.elim
 | _ :: _ :: _, hrel => exact hrel.2.elim
theorem ql0 (hcfg : qA P cfg) (hC : qG C cfg) {f : Nat} {p : jH} (hp : lk cfg.alts f = some p) {l : List AV} {vs : List Value} (hs : qk P C s a w H Φ) (hd : qQ cfg.nt dst = true) (hrel : j6 (qg P C w H Φ s.obj) l vs)
  {alt : Option R} (h : qkQ cfg s dst p l alt k = some r) : (∃ s', k s' = some r ∧ Calls P f vs.toArray w fun e w'' => ∃ v, e = .returned v ∧ Sim P C s' (a.put dst v) w'') ∨ alt = some r := by
 obtain ⟨_, hsound⟩ := hcfg.alts f p hp
 unfold qkQ at h
 cases hq : apart (qJ p.ps l) (qx p.ps l) && Nat.blt p.rs.length 1000 with
 | false => rw [hq] at h; cases h
 | true =>
 rw [hq, cond_true] at h
 rw [Bool.and_eq_true] at hq
 obtain ⟨hap, hrs⟩ := hq
 have hrs : p.rs.length < 1000 := Eq.mp Nat.blt_eq hrs
 obtain ⟨hms, hmt⟩ := qbW hap
 obtain ⟨Hf, m1, m2, m3, m4, m5⟩ := qk.freezeAll (qx p.ps l) hs
 obtain ⟨d, h, Φs, hargs, hmr⟩ := qaT hcfg hs m1 m3 hrel h
 unfold altK at h
 split at h
 case h_2 => exact .inr h
 rename_i y hy
 obtain ⟨hfps, hmo⟩ := qa6 hmr
 have hnd : (qd Φs).Nodup := by
  rw [hfps]
  refine qbo hms (fun id hid => ?_) (fun i hi j hj hij b hb => ?_)
  ·obtain ⟨o, ho⟩ := hmo id hid
   exact (hs.os id o ho).1.2.1
  ·obtain ⟨o, ho⟩ := hmo i hi
   obtain ⟨o', ho'⟩ := hmo j hj
   exact hs.disj i j o o' hij ho ho' b hb
 have hnone : ∀ b ∈ qd Φs, Hf b = none ∧ b < w.heap.size := by
  intro b hb
  rw [hfps] at hb
  obtain ⟨id, hid, hb⟩ := List.mem_flatMap.1 hb
  obtain ⟨o, ho⟩ := hmo id hid
  obtain ⟨q1, q2, q3⟩ := (hs.os id o ho).2 b hb
  refine ⟨?_, q3⟩
  cases hq : Hf b with
  | none => rfl
  | some c =>
   rcases m2 b c hq with h1 | ⟨id2, hid2, o2, ho2, hb2⟩
   ·rw [q1] at h1; cases h1
   ·exact absurd hb2 (hs.disj id id2 o o2 (by rintro rfl; exact hmt id hid hid2) ho ho2 b hb)
 have hc := hsound d y hy w Hf vs Φs m4.hok hargs hnd hnone
 refine .inl ⟨_, h, hc.mono ?_⟩
 rintro e w'' ⟨us, H', Φs', Ψs, he, hm, hle, hok', hnew, hres, hmu, hnd2, hall⟩
 refine ⟨_, he, ?_⟩
 cases hcl : p.rs.all RTy.closed && p.ps.all jZ.closed with
 | false =>
  rw [cond_false]
  exact qds hcfg hC m4 hd hle hok' hrs hm hnew (qav (fun id hid => by rw [m5, if_neg (hmt id hid)]) hmr) hargs hmu hres hnd2 hall hms
 | true =>
  rw [cond_true]
  rw [Bool.and_eq_true] at hcl
  classical
  have htf : ∀ b, (∃ id ∈ qx p.ps l, ∃ o, s.obj id = some o ∧ b ∈ (Φ id).fp) → H b = none := by
   rintro b ⟨id, _, o, ho, hb⟩
   exact ((hs.os id o ho).2 b hb).1
  let H2 : FH := fun b => if (∃ id ∈ qx p.ps l, ∃ o, s.obj id = some o ∧ b ∈ (Φ id).fp) then none else H' b
  have hH2 : ∀ b c, H2 b = some c → H' b = some c ∧ ¬ ∃ id ∈ qx p.ps l, ∃ o, s.obj id = some o ∧ b ∈ (Φ id).fp := by
   intro b c hb
   simp only [H2] at hb
   split at hb
   ·cases hb
   ·exact ⟨hb, ‹_›⟩
  refine qds (H2 := H2) hcfg hC hs hd ?_ (fun b c hb => hok' b c (hH2 b c hb).1) hrs hm ?_ hmr hargs (jN.closed hcl.2 hmu) (qac.closed hcl.1 hres) hnd2 ?_ hms
  ·intro b c hb
   simp only [H2]
   rw [if_neg (fun hh => by rw [htf b hh] at hb; cases hb)]
   exact hle _ _ (m1 _ _ hb)
  ·intro b c hb
   obtain ⟨q1, q2⟩ := hH2 b c hb
   rcases hnew b c q1 with q | q | q
   ·rcases m2 b c q with q | q
    ·exact .inl q
    ·exact absurd q q2
   ·exact .inr (.inl q)
   ·exact .inr (.inr q)
  ·intro b hb
   obtain ⟨q1, q2, q3⟩ := hall b hb
   refine ⟨?_, q2, q3⟩
   simp only [H2]
   split
   ·rfl
   ·exact q1
theorem qg.keep {os os' : Nat → Option Obj} {osl : List (Nat × Bool × Ty)} (hos : ∀ id, (lk osl id).isSome = true → os' id = os id) :
  ∀ {a b : AV} {v : Value}, a.same b = true → a.within osl = true → qg P C w H Φ os b v → qg P C w H Φ os' a v
 | .dead, _, _, _, _, _ => trivial
 | .ptr i p, b, v, hs, hw, h => by
  cases b with
  | ptr j q =>
   simp only [AV.same, Bool.and_eq_true] at hs
   obtain rfl := Nat.eq_of_beq_eq_true hs.1
   obtain rfl := qbq hs.2
   obtain ⟨o, y, b, off, h1, h2⟩ := h
   exact ⟨o, y, b, off, by rw [hos i hw]; exact h1, h2⟩
  | _ => cases hs
 | .view i p, b, v, hs, hw, h => by
  cases b with
  | view j q =>
   simp only [AV.same, Bool.and_eq_true] at hs
   obtain rfl := Nat.eq_of_beq_eq_true hs.1
   obtain rfl := qbq hs.2
   obtain ⟨o, y, h1, h2⟩ := h
   exact ⟨o, y, by rw [hos i hw]; exact h1, h2⟩
  | _ => cases hs
 | .fn f x y, b, v, hs, hw, h => by
  cases b with
  | fn g x' y' =>
   simp only [AV.same, Bool.and_eq_true] at hs
   simp only [AV.within, Bool.and_eq_true] at hw
   obtain rfl := Nat.eq_of_beq_eq_true hs.1.1
   obtain ⟨vs, us, h1, h2, h3⟩ := h
   exact ⟨vs, us, h1, qg.keep hos hs.1.2 hw.1 h2, qg.keep hos hs.2 hw.2 h3⟩
  | _ => cases hs
 | .nil, b, v, hs, _, h => by
  cases b with
  | nil => exact h
  | _ => cases hs
 | .gh n x, b, v, hs, hw, h => by
  cases b with
  | gh m x' =>
   simp only [AV.same, Bool.and_eq_true] at hs
   simp only [AV.within] at hw
   obtain ⟨u, h1, h2⟩ := h
   exact ⟨u, by rw [Nat.eq_of_beq_eq_true hs.1]; exact h1, qg.keep hos hs.2 hw h2⟩
  | _ => cases hs
 | .cons x y, b, v, hs, hw, h => by
  cases b with
  | cons x' y' =>
   simp only [AV.same, Bool.and_eq_true] at hs
   simp only [AV.within, Bool.and_eq_true] at hw
   obtain ⟨u, us, h1, h2, h3⟩ := h
   exact ⟨u, us, h1, qg.keep hos hs.1 hw.1 h2, qg.keep hos hs.2 hw.2 h3⟩
  | _ => cases hs
 | .cv i f n, b, v, hs, _, h => by
  cases b with
  | cv j g m =>
   simp only [AV.same, Bool.and_eq_true] at hs
   obtain rfl := Nat.eq_of_beq_eq_true hs.1
   obtain rfl := Nat.eq_of_beq_eq_true hs.2.1
   obtain rfl := Nat.eq_of_beq_eq_true hs.2.2
   exact h
  | _ => cases hs
 | .val _ _, b, _, hs, _, _ => by cases b <;> cases hs
 | .ref _ _, b, _, hs, _, _ => by cases b <;> cases hs
 | .upd _ _ _ _ _, b, _, hs, _, _ => by cases b <;> cases hs
 | .cut _ _ _ _, b, _, hs, _, _ => by cases b <;> cases hs
theorem qaY {t : Nat} {x : Option AV} {b : AV} (h : qb6 t x = some b) : x = some (qcs t b) := by
 unfold qb6 at h
 unfold qcs
 split at h
 ·rename_i n a
  cases hb : Nat.ble 20000000 t with
  | true =>
   rw [hb, cond_true] at h
   cases hn : Nat.beq n t with
   | true => rw [hn] at h; cases h; rw [Nat.eq_of_beq_eq_true hn]; rfl
   | false => rw [hn] at h; cases h
  | false => rw [hb] at h; cases h; rfl
 ·cases hb : Nat.ble 20000000 t with
  | true => rw [hb] at h; cases h
  | false => rw [hb] at h; exact h
theorem qbm {os os' : Nat → Option Obj} {t : Nat} {a b : AV} (h : ∀ v, qg P C w H Φ os b v → qg P C w H Φ os' a v) : ∀ v, qg P C w H Φ os (qcs t b) v → qg P C w H Φ os' (qcs t a) v := by
 intro v hv
 unfold qcs at hv ⊢
 cases hb : Nat.ble 20000000 t with
 | true =>
  rw [hb] at hv
  obtain ⟨u, h1, h2⟩ := hv
  exact ⟨u, h1, h u h2⟩
 | false => rw [hb] at hv; exact h v hv
theorem isZ_eq {a : Int} (h : isZ a = true) : a = 0 := by
 cases a with
 | ofNat n => rw [Nat.eq_of_beq_eq_true (n := n) (m := 0) h]; rfl
 | negSucc n => cases h
theorem qeS : ∀ {p q : List qs}, qgV p q = true → p = q
 | [], [], _ => rfl
 | .L :: p, .L :: q, h => by rw [qeS (p := p) (q := q) h]
 | .R :: p, .R :: q, h => by rw [qeS (p := p) (q := q) h]
 | .I a :: p, .I b :: q, h => by
  simp only [qgV, Bool.and_eq_true] at h
  rw [isZ_eq h.1, isZ_eq h.2.1, qeS h.2.2]
 | [], _ :: _, h => by cases h
 | .L :: _, [], h => by cases h
 | .R :: _, [], h => by cases h
 | .I _ :: _, [], h => by cases h
 | .L :: _, .R :: _, h => by cases h
 | .L :: _, .I _ :: _, h => by cases h
 | .R :: _, .L :: _, h => by cases h
 | .R :: _, .I _ :: _, h => by cases h
 | .I _ :: _, .L :: _, h => by cases h
 | .I _ :: _, .R :: _, h => by cases h
theorem qcP : ∀ {q1 q2 p : List qs} {n : Int}, qfW q1 q2 p = some n → p = q1 ++ .I n :: q2
 | [], q2, .I i :: p, n, h => by
  simp only [qfW] at h
  cases hz : qgV q2 p with
  | false => rw [hz] at h; cases h
  | true => rw [hz] at h; cases h; rw [qeS hz]; rfl
 | .L :: q1, q2, .L :: p, n, h => by rw [qcP (q1 := q1) (q2 := q2) (p := p) h]; rfl
 | .R :: q1, q2, .R :: p, n, h => by rw [qcP (q1 := q1) (q2 := q2) (p := p) h]; rfl
 | [], _, [], _, h => by cases h
 | [], _, .L :: _, _, h => by cases h
 | [], _, .R :: _, _, h => by cases h
 | .L :: _, _, [], _, h => by cases h
 | .L :: _, _, .R :: _, _, h => by cases h
 | .L :: _, _, .I _ :: _, _, h => by cases h
 | .R :: _, _, [], _, h => by cases h
 | .R :: _, _, .L :: _, _, h => by cases h
 | .R :: _, _, .I _ :: _, _, h => by cases h
 | .I _ :: _, _, [], _, h => by cases h
 | .I _ :: _, _, .L :: _, _, h => by cases h
 | .I _ :: _, _, .R :: _, _, h => by cases h
 | .I _ :: _, _, .I _ :: _, _, h => by cases h
theorem qjc (hs : qk P C s a w H Φ) {id : Nat} {p : List qs} {o : Obj} {tid : Nat} {e : Ty} {l : List e.den} {v : Value} (ho : s.obj id = some o) (hy : qT o.τ o.x p = some ⟨.list true tid e, l⟩) (hn : e.noFn = true) (hr : qg P C w H Φ s.obj (.view id p) v) : qg P C w H Φ s.obj (.upd id p tid e l) v := by
 obtain ⟨cs, fp, hv, hrep, hsub, hnd⟩ := qa5 hr ho (hs.os id o ho).1 hy
 have hrep0 := hrep
 replace hrep : qn P (.list true tid e) w H l cs fp := hrep
 replace hv : v = jY (.list true tid e) cs := hv
 obtain ⟨hdr, xs, fp', rfl, rfl, hown, hch⟩ := hrep
 have hv : v = hdr := hv
 subst hv
 refine ⟨o, ho, hn, jQ _ hy, v.ownBlock.toList ++ fp', hnd, ⟨v, xs, fp', rfl, rfl, hown, hch⟩, fun b hb => ⟨((hs.os id o ho).2 b (hsub b hb)).2.2, .inr ?_⟩⟩
 obtain ⟨o', y', q1, q2, q3⟩ := hr
 rw [ho] at q1
 cases q1
 rw [hy] at q2
 cases q2
 unfold qbY
 cases hrp : o.row && p.isEmpty with
 | true =>
  exact hsub b hb
 | false =>
  rw [hrp] at q3
  obtain ⟨b2, off, blk, t, q4, q5, q6⟩ := q3
  refine ⟨⟨.list true tid e, l⟩, b2, off, blk, t, v.ownBlock.toList ++ fp', hy, q4, q5, ?_, hb⟩
  obtain ⟨b', o', hl, blk', t', pre', c, post', f1, f, f2, e1, e2, e3, e4, e5, e6, _⟩ := (hs.os id o ho).1.desc (σ := .list true tid e) (y := (l : (Ty.list true tid e).den)) hy ⟨w, _, _, q4⟩ hrp
  obtain ⟨rfl, rfl⟩ := j1.det q4 (hl w (fun _ _ => rfl))
  rw [e1] at q5
  cases q5
  have hsg := qV e2 (qn.length _ e6)
  rw [e3] at hsg
  simp only [hsg] at q6 ⊢
  have hlc := qn.length _ e6
  have hc : c = [v] := by
   match c, hlc with
   | [u], _ =>
    have : v = u := q6
    rw [this]
  rw [hc]
  exact hrep0
theorem qjd {os os' : Nat → Option Obj} (hsub : ∀ id o, os' id = some o → os id = some o) {id : Nat} (hid : os' id = os id) {p : List qs} {tid : Nat} {e : Ty} {l : List e.den} {v : Value} (h : qg P C w H Φ os (.upd id p tid e l) v) : qg P C w H Φ os' (.upd id p tid e l) v := by
 obtain ⟨o, h1, h3, h4, fp, h0, h5, h6⟩ := h
 exact ⟨o, by rw [hid]; exact h1, h3, h4, fp, h0, h5, fun b hb => ⟨(h6 b hb).1, (h6 b hb).2.imp_left fun hf => ⟨hf.fz, fun j o hj => hf.obj j o (hsub j o hj), hf.may, hf.lt⟩⟩⟩
theorem qcv (hs : qk P C s a w H Φ) {osl : List (Nat × Bool × Ty)} {os' : Nat → Option Obj} (hos : ∀ id, (lk osl id).isSome = true → os' id = s.obj id) (hsub : ∀ id o, os' id = some o → s.obj id = some o) :
  ∀ {l : List (Nat × Sh)} {d : TDen l}, (l.all fun x => x.2.within osl) = true → qeB s l = some d → ∀ t av, lk (qcq l d) t = some av → qg P C w H Φ os' av (a.tmps.getD t undef)
 | [], _, _, _, _, _, ht => by cases ht
 | (u, .v τ) :: l, d, hw, h, t, av, ht => by
  simp only [List.all_cons, Bool.and_eq_true] at hw
  simp only [qeB] at h
  split at h
  ·rename_i σ x hx
   split at h
   ·rename_i y d' hy hd'
    cases h
    obtain ⟨e, hy⟩ := qj hy
    subst e
    subst hy
    rw [qcq, jD] at ht
    cases hb : Nat.beq u t with
    | true =>
     rw [hb] at ht
     cases ht
     obtain rfl := Nat.eq_of_beq_eq_true hb
     exact qbm (P := P) (C := C) (w := w) (H := H) (Φ := Φ) (os := s.obj) (os' := os') (a := .val σ y) (b := .val σ y) (fun v hv => hv) _ (hs.ts _ _ (qaY hx))
    | false =>
     rw [hb] at ht
     exact qcv hs hos hsub hw.2 hd' t av ht
   ·cases h
  ·cases h
 | (u, .r τ) :: l, d, hw, h, t, av, ht => by
  simp only [List.all_cons, Bool.and_eq_true] at hw
  simp only [qeB] at h
  split at h
  ·rename_i σ x hx
   split at h
   ·rename_i y d' hy hd'
    cases h
    obtain ⟨e, hy⟩ := qj hy
    subst e
    subst hy
    rw [qcq, jD] at ht
    cases hb : Nat.beq u t with
    | true =>
     rw [hb] at ht
     cases ht
     obtain rfl := Nat.eq_of_beq_eq_true hb
     exact qbm (P := P) (C := C) (w := w) (H := H) (Φ := Φ) (os := s.obj) (os' := os') (a := .ref σ y) (b := .ref σ y) (fun v hv => hv) _ (hs.ts _ _ (qaY hx))
    | false =>
     rw [hb] at ht
     exact qcv hs hos hsub hw.2 hd' t av ht
   ·cases h
  ·cases h
 | (u, .c b) :: l, d, hw, h, t, av, ht => by
  simp only [List.all_cons, Bool.and_eq_true] at hw
  simp only [qeB] at h
  split at h
  ·rename_i b' hx
   cases hsame : b.same b' with
   | false => rw [hsame] at h; cases h
   | true =>
    rw [hsame, cond_true] at h
    rw [qcq, jD] at ht
    cases hb : Nat.beq u t with
    | true =>
     rw [hb] at ht
     cases ht
     obtain rfl := Nat.eq_of_beq_eq_true hb
     exact qbm (fun v hv => qg.keep hos hsame hw.1 hv) _ (hs.ts _ _ (qaY hx))
    | false =>
     rw [hb] at ht
     exact qcv hs hos hsub hw.2 h t av ht
  ·cases h
 | (u, .k g i τ) :: l, d, hw, h, t, av, ht => by
  simp only [List.all_cons, Bool.and_eq_true] at hw
  simp only [qeB] at h
  split at h
  ·rename_i f j σ x hx
   cases hq : Nat.beq f g && Nat.beq j i with
   | false => rw [hq] at h; cases h
   | true =>
   rw [hq, cond_true] at h
   rw [Bool.and_eq_true] at hq
   obtain rfl := Nat.eq_of_beq_eq_true hq.1
   obtain rfl := Nat.eq_of_beq_eq_true hq.2
   split at h
   ·rename_i y d' hy hd'
    cases h
    obtain ⟨e, hy⟩ := qj hy
    subst e
    subst hy
    rw [qcq, jD] at ht
    cases hb : Nat.beq u t with
    | true =>
     rw [hb] at ht
     cases ht
     obtain rfl := Nat.eq_of_beq_eq_true hb
     refine qbm (fun v hv => ?_) _ (hs.ts _ _ (qaY hx))
     obtain ⟨vs, us, h1, h2, u1, us1, h3, h4, h5⟩ := hv
     exact ⟨vs, us, h1, h2, u1, us1, h3, qg.keep hos (a := .ptr j []) (b := .ptr j []) (by simp [AV.same, qS]) hw.1 h4, h5⟩
    | false =>
     rw [hb] at ht
     exact qcv hs hos hsub hw.2 hd' t av ht
   ·cases h
  ·cases h
 | (u, .p vw i q1 q2) :: l, d, hw, h, t, av, ht => by
  simp only [List.all_cons, Bool.and_eq_true] at hw
  simp only [qeB] at h
  split at h
  ·rename_i j p hx
   cases hq : !vw && Nat.beq j i with
   | false => rw [hq] at h; cases h
   | true =>
   rw [hq, cond_true] at h
   rw [Bool.and_eq_true, Bool.not_eq_true'] at hq
   obtain ⟨rfl, hq⟩ := hq
   obtain rfl := Nat.eq_of_beq_eq_true hq
   split at h
   ·rename_i n d' hn hd'
    cases h
    obtain rfl := qcP hn
    rw [qcq, jD] at ht
    cases hb : Nat.beq u t with
    | true =>
     rw [hb] at ht
     cases ht
     obtain rfl := Nat.eq_of_beq_eq_true hb
     refine qbm (fun v hv => ?_) _ (hs.ts _ _ (qaY hx))
     obtain ⟨o, y, b, off, k1, k2⟩ := hv
     exact ⟨o, y, b, off, by rw [hos j hw.1]; exact k1, k2⟩
    | false =>
     rw [hb] at ht
     exact qcv hs hos hsub hw.2 hd' t av ht
   ·cases h
  ·rename_i j p hx
   cases hq : vw && Nat.beq j i with
   | false => rw [hq] at h; cases h
   | true =>
   rw [hq, cond_true] at h
   rw [Bool.and_eq_true] at hq
   obtain ⟨rfl, hq⟩ := hq
   obtain rfl := Nat.eq_of_beq_eq_true hq
   split at h
   ·rename_i n d' hn hd'
    cases h
    obtain rfl := qcP hn
    rw [qcq, jD] at ht
    cases hb : Nat.beq u t with
    | true =>
     rw [hb] at ht
     cases ht
     obtain rfl := Nat.eq_of_beq_eq_true hb
     refine qbm (fun v hv => ?_) _ (hs.ts _ _ (qaY hx))
     obtain ⟨o, y, k1, k2⟩ := hv
     exact ⟨o, y, by rw [hos j hw.1]; exact k1, k2⟩
    | false =>
     rw [hb] at ht
     exact qcv hs hos hsub hw.2 hd' t av ht
   ·cases h
  ·cases h
 | (u, .u i q1 q2 tid e) :: l, d, hw, h, t, av, ht => by
  simp only [List.all_cons, Bool.and_eq_true] at hw
  simp only [qeB] at h
  split at h
  case h_2 => cases h
  rename_i y d' hy hd'
  cases h
  rw [qcq, jD] at ht
  cases hb : Nat.beq u t with
  | false =>
   rw [hb] at ht
   exact qcv hs hos hsub hw.2 hd' t av ht
  | true =>
   rw [hb] at ht
   cases ht
   obtain rfl := Nat.eq_of_beq_eq_true hb
   cases hx : qb6 u (s.get u) with
   | none => rw [hx] at hy; cases hy
   | some b =>
   rw [hx] at hy
   refine qbm (os := s.obj) (b := b) (fun v hv => ?_) _ (hs.ts _ _ (qaY hx))
   unfold rowAt at hy
   split at hy
   ·rename_i j p t' e' l' hbb
    cases hbb
    cases hj : Nat.beq j i with
    | false => rw [hj] at hy; cases hy
    | true =>
    rw [hj, cond_true] at hy
    obtain rfl := Nat.eq_of_beq_eq_true hj
    split at hy
    ·rename_i n l2 hn hl2
     cases hy
     obtain rfl := qcP hn
     obtain ⟨_, rfl, rfl, rfl⟩ := qd1 hl2
     exact qjd hsub (hos _ hw.1) hv
    ·cases hy
   ·rename_i j p hbb
    cases hbb
    cases hj : Nat.beq j i && e.noFn with
    | false => rw [hj] at hy; cases hy
    | true =>
    rw [hj, cond_true] at hy
    rw [Bool.and_eq_true] at hj
    obtain rfl := Nat.eq_of_beq_eq_true hj.1
    split at hy
    ·rename_i n o hn ho
     obtain rfl := qcP hn
     rw [jJ] at hy
     obtain ⟨⟨σ, y0⟩, hy0, hy⟩ := Option.bind_eq_some_iff.1 hy
     rw [ql] at hy
     obtain ⟨l2, hl2, hy⟩ := Option.bind_eq_some_iff.1 hy
     cases hy
     obtain ⟨hσ, hyl⟩ := qbj hl2
     simp only at hσ
     subst hσ
     obtain rfl := eq_of_heq hyl
     exact qjd hsub (hos _ hw.1) (qjc hs ho hy0 hj.2 hv)
    ·cases hy
   ·cases hy
theorem qi0 : ∀ {l : List (Nat × Bool × Ty)} {d : ODen l}, getO s l = some d → ∀ id, (lk (qjO l d) id).join = if (lk l id).isSome = true then s.obj id else none
 | [], _, _, _ => rfl
 | (i, b, τ) :: l, d, h, id => by
  simp only [getO] at h
  split at h
  ·rename_i o ho
   cases hrow : o.row == b with
   | false => rw [hrow] at h; cases h
   | true =>
    rw [hrow, cond_true] at h
    split at h
    ·rename_i y d' hy hd'
     cases h
     obtain ⟨row, σ, x⟩ := o
     obtain ⟨e, hy⟩ := qj hy
     simp only at e hrow
     subst e
     obtain rfl : row = b := by simpa using hrow
     subst hy
     rw [qjO, jD, jD]
     cases hb : Nat.beq i id with
     | true =>
      obtain rfl := Nat.eq_of_beq_eq_true hb
      simp [ho]
     | false => exact qi0 hd' id
    ·cases h
  ·cases h
theorem qjl {sk : qc4} {d : sk.Den} (h : sk.get s = some d) : (∀ id o, (sk.fill d).obj id = some o → s.obj id = some o) ∧ getK s sk.mp = some d.2.2 := by
 unfold qc4.get at h
 cases hw : sk.ts.all fun x => x.2.within sk.os with
 | false => rw [hw] at h; cases h
 | true =>
 rw [hw, cond_true] at h
 split at h
 ·rename_i d1 d2 d3 h1 h2 h3
  cases h
  refine ⟨fun id o hid => ?_, h3⟩
  have hid' : (lk (qjO sk.os d2) id).join = some o := hid
  rw [qi0 h2] at hid'
  split at hid'
  ·exact hid'
  ·cases hid'
 ·cases h
theorem qgA {sk : qc4} {d : sk.Den} (h : sk.get s = some d) (hs : qk P C s a w H Φ) : qk P C (sk.fill d) a w H Φ := by
 have hsub := (qjl h).1
 unfold qc4.get at h
 cases hw : sk.ts.all fun x => x.2.within sk.os with
 | false => rw [hw] at h; cases h
 | true =>
 rw [hw, cond_true] at h
 split at h
 ·rename_i d1 d2 d3 h1 h2 h3
  cases h
  exact hs.weaken hsub (qcv hs (osl := sk.os) (fun id hid => by
   have := qi0 h2 id
   rw [if_pos hid] at this
   exact this) hsub hw h1)
 ·cases h
end
end Go.Vi
namespace Go.Vi
def qcf : (τ : Ty) → τ.den → List Value
 | .int k, x => [.int k x]
 | .bool, x => [.bool x]
 | .pair a b, x => qcf a x.1 ++ qcf b x.2
 | .str t, x => qcf t x
 | .arr _ e, l => (l.map fun x => qcf e x).flatten
 | _, _ => []
def RTy.isV : RTy → Bool
 | .v τ => τ.isFlat
 | _ => false
def qgT (p : jH) : Bool := p.ps.all jZ.reads && p.rs.all RTy.isV && Nat.blt p.rs.length 1000
def qfz : (rs : List RTy) → RDens rs → List Value
 | [], _ => []
 | .v τ :: rs, d => jY τ (qcf τ d.1) :: qfz rs d.2
 | .own _ _ :: rs, d => undef :: qfz rs d.2
 | .optr _ :: rs, d => undef :: qfz rs d.2
 | .ownv _ :: rs, d => undef :: qfz rs d.2
 | .sure _ _ _ :: rs, d => undef :: qfz rs d.2
section
variable {P : Program} {C : Ctx} {cfg : jM} {R : Type} {r : R} {s : St} {a : Act} {w : World} {H : FH} {Φ : Nat → qC} {dst : Option Nat} {ty : TypeId} {pos : String} {after : Array Edge} {guard : Option (Nat × Bool)} {k : St → Option R}
theorem qe.flat {α : Type} {Q : α → List Value → List Nat → Prop} {f : α → List Value} (h : ∀ x c fp, Q x c fp → c = f x) : ∀ {l : List α} {xs fp}, qe Q l xs fp → xs = (l.map f).flatten
 | [], _, _, hh => by simp [hh.1]
 | x :: l, _, _, ⟨c, xs', g, fp', e1, _, h2, h3⟩ => by rw [e1, h _ _ _ h2, qe.flat h h3]; simp
theorem qn.flat : (τ : Ty) → τ.isFlat = true → ∀ {w H x cs fp}, qn P τ w H x cs fp → cs = qcf τ x
 | .int _, _, _, _, _, _, _, h => h.1
 | .bool, _, _, _, _, _, _, h => h.1
 | .list _ _ _, hf, _, _, _, _, _, _ => by simp [Ty.isFlat] at hf
 | .pair a b, hf, _, _, _, _, _, h => by
  simp only [Ty.isFlat, Bool.and_eq_true] at hf
  obtain ⟨c1, c2, f1, f2, e, _, h1, h2⟩ := h
  rw [e, qn.flat a hf.1 h1, qn.flat b hf.2 h2]; rfl
 | .str t, hf, _, _, _, _, _, h => qn.flat t (by simpa [Ty.isFlat] using hf) h
 | .ptr _, hf, _, _, _, _, _, _ => by simp [Ty.isFlat] at hf
 | .op _, hf, _, _, _, _, _, _ => by simp [Ty.isFlat] at hf
 | .arr _ e, hf, _, _, _, _, _, h => qe.flat (fun _ _ _ hh => qn.flat e (by simpa [Ty.isFlat] using hf) hh) h.2
 | .fn _ _, hf, _, _, _, _, _, _ => by simp [Ty.isFlat] at hf
 | .fn2 _ _ _, hf, _, _, _, _, _, _ => by simp [Ty.isFlat] at hf
theorem qn.flat_any : (τ : Ty) → τ.isFlat = true → ∀ {w H x cs fp}, qn P τ w H x cs fp → ∀ w' H', qn P τ w' H' x cs []
 | τ, hf, w, H, x, cs, fp, h => by
  intro w' H'
  have hfp := qn.fz_fp τ (Ty.flat_fz τ hf) h
  subst hfp
  exact qn.closed τ (Ty.flat_closed τ hf) (qn.mono τ (FH.le_refl H) (by simp) h)
theorem qgN : ∀ {rs : List RTy} {d : RDens rs} {us : List Value} {Ψs : List qC}, rs.all RTy.isV = true → qac P w H rs d us Ψs → us = qfz rs d ∧
  ∀ {w' H' Φ' os} (s : St) (n : Nat), (jK s n rs d).1 = s ∧ (jK s n rs d).2.isTup = true ∧ qg P C w' H' Φ' os (jK s n rs d).2 (.tuple us.toArray)
 | [], _, us, Ψs, _, h => by
  obtain ⟨rfl, rfl⟩ := h
  exact ⟨rfl, fun s n => ⟨rfl, rfl, rfl⟩⟩
 | .v τ :: rs, d, us, Ψs, hf, h => by
  simp only [List.all_cons, Bool.and_eq_true] at hf
  obtain ⟨v, vs', φ, Φs', rfl, rfl, hfz, _, ⟨cs, hv, hrep⟩, h⟩ := h
  obtain ⟨h1, h2⟩ := qgN hf.2 h
  have hcs := qn.flat τ hf.1 hrep
  refine ⟨by rw [hv, hcs, h1]; rfl, fun s n => ?_⟩
  obtain ⟨k1, k2, k3⟩ := h2 s (n + 1)
  exact ⟨k1, k2, v, vs', rfl, ⟨hfz, cs, hv, qn.flat_any τ hf.1 hrep _ _⟩, k3⟩
 | .own _ _ :: rs, _, _, _, hf, _ => by simp [RTy.isV] at hf
 | .optr _ :: rs, _, _, _, hf, _ => by simp [RTy.isV] at hf
 | .ownv _ :: rs, _, _, _, hf, _ => by simp [RTy.isV] at hf
 | .sure _ _ _ :: rs, _, _, _, hf, _ => by simp [RTy.isV] at hf
theorem qeG {w' : World} : ∀ {ps : List jZ} {d : PDens ps} {vs : List Value} {Φs : List qC}, ps.all jZ.reads = true → jU P w H ps d vs Φs → jU P w' H ps d vs Φs ∧ qd Φs = []
 | [], _, _, _, _, h => ⟨h, by rw [h.2]; rfl⟩
 | .v τ :: ps, d, vs, Φs, hp, h => by
  obtain ⟨v, vs', φ, Φs', e1, e2, e3, e4, e5, h⟩ := h
  obtain ⟨h1, h2⟩ := qeG (by simpa [jZ.reads] using hp) h
  exact ⟨⟨v, vs', φ, Φs', e1, e2, e3, e4, RepV.mono (FH.le_refl H) e5, h1⟩, by rw [e2]; simpa [qd, e4] using h2⟩
 | .r τ :: ps, d, vs, Φs, hp, h => by
  obtain ⟨v, vs', φ, Φs', e1, e2, e3, e4, e5, h⟩ := h
  obtain ⟨h1, h2⟩ := qeG (by simpa [jZ.reads] using hp) h
  exact ⟨⟨v, vs', φ, Φs', e1, e2, e3, e4, qfM.mono (FH.le_refl H) e5, h1⟩, by rw [e2]; simpa [qd, e4] using h2⟩
 | .c _ :: _, _, _, _, hp, _ => by simp [jZ.reads] at hp
 | .m _ :: _, _, _, _, hp, _ => by simp [jZ.reads] at hp
 | .mr _ _ :: _, _, _, _, hp, _ => by simp [jZ.reads] at hp
 | .t _ _ :: _, _, _, _, hp, _ => by simp [jZ.reads] at hp
 | .gm _ :: _, _, _, _, hp, _ => by simp [jZ.reads] at hp
 | .cm _ _ :: _, _, _, _, hp, _ => by simp [jZ.reads] at hp
theorem qev : ∀ {ps : List jZ} (l : List AV) (md : MDens ps) (s : St), ps.all jZ.reads = true → qu s ps l md = s
 | [], l, _, _, _ => by cases l <;> rfl
 | .v _ :: ps, [], _, _, _ => rfl
 | .v _ :: ps, _ :: l, md, s, hp => qev (ps := ps) l md s (by simpa [jZ.reads] using hp)
 | .r _ :: ps, [], _, _, _ => rfl
 | .c _ :: ps, [], _, _, _ => rfl
 | .r _ :: ps, _ :: l, md, s, hp => qev (ps := ps) l md s (by simpa [jZ.reads] using hp)
 | .c _ :: _, _ :: _, _, _, hp => by simp [jZ.reads] at hp
 | .m _ :: _, _, _, _, hp => by simp [jZ.reads] at hp
 | .mr _ _ :: _, _, _, _, hp => by simp [jZ.reads] at hp
 | .t _ _ :: _, _, _, _, hp => by simp [jZ.reads] at hp
 | .gm _ :: _, _, _, _, hp => by simp [jZ.reads] at hp
 | .cm _ _ :: _, _, _, _, hp => by simp [jZ.reads] at hp
theorem qhb : ∀ {rs : List RTy}, rs.all RTy.isV = true → rs.all RTy.closed = true
 | [], _ => rfl
 | .v τ :: rs, h => by
  simp only [List.all_cons, Bool.and_eq_true] at h ⊢
  exact ⟨h.1, qhb h.2⟩
 | .own _ _ :: rs, h => by simp [RTy.isV] at h
 | .optr _ :: rs, h => by simp [RTy.isV] at h
 | .ownv _ :: rs, h => by simp [RTy.isV] at h
 | .sure _ _ _ :: rs, h => by simp [RTy.isV] at h
theorem qc9 : ∀ {ps : List jZ}, ps.all jZ.reads = true → ps.all jZ.closed = true
 | [], _ => rfl
 | .v _ :: ps, h => by simpa [jZ.closed] using qc9 (ps := ps) (by simpa [jZ.reads] using h)
 | .r _ :: ps, h => by simpa [jZ.closed] using qc9 (ps := ps) (by simpa [jZ.reads] using h)
 | .c _ :: _, h => by simp [jZ.reads] at h
 | .m _ :: _, hp => by simp [jZ.reads] at hp
 | .mr _ _ :: _, hp => by simp [jZ.reads] at hp
 | .t _ _ :: _, hp => by simp [jZ.reads] at hp
 | .gm _ :: _, hp => by simp [jZ.reads] at hp
 | .cm _ _ :: _, hp => by simp [jZ.reads] at hp
theorem qjW (hcfg : qA P cfg) (hC : qG C cfg) {f : Nat} {p : jH} (hp : lk cfg.prims f = some p) (hqp : qgT p = true) {l : List AV} {vs : List Value} (hs : qk P C s a w H Φ) (hd : qQ cfg.nt dst = true) (hrel : j6 (qg P C w H Φ s.obj) l vs)
  (h : qe6 cfg s dst p l k = some r) : ∃ s', k s' = some r ∧ ∃ v, Sim P C s' (a.put dst v) w ∧ ∀ w', j7 jP w w' → Calls P f vs.toArray w' fun e w'' => e = .returned v ∧ j7 jP w w'' := by
 obtain ⟨_, hsound⟩ := hcfg.prims f p hp
 simp only [qgT, Bool.and_eq_true] at hqp
 obtain ⟨⟨hps, hrv⟩, _⟩ := hqp
 unfold qe6 at h
 cases hq : apart (qJ p.ps l) (qx p.ps l) && Nat.blt p.rs.length 1000 with
 | false => rw [hq] at h; cases h
 | true =>
 rw [hq, cond_true] at h
 obtain ⟨Hf, m1, m2, m3, m4, m5⟩ := qk.freezeAll (qx p.ps l) hs
 obtain ⟨d, h, Φs, hargs, hmr⟩ := qaT hcfg hs m1 m3 hrel h
 rw [ql] at h
 replace h := Option.bind_eq_some_iff.1 h
 obtain ⟨y, hy, h⟩ := h
 rw [qhb hrv, qc9 hps, Bool.and_self, cond_true] at h
 dsimp only at h
 rw [qev l _ _ hps] at h
 have hcall : ∀ w', j7 jP w w' → Calls P f vs.toArray w' fun e w'' => (∃ us Ψs H', e = .returned (qaa us) ∧ qac P w'' H' p.rs y.1 us Ψs) ∧ j7 jP w w'' := by
  intro w' hm
  obtain ⟨ha, hfp⟩ := qeG (w' := w') hps hargs
  have hok' : HOk Hf w' := m4.hok.mod hm (fun _ hb => hb.elim)
  refine (hsound d y hy w' Hf vs Φs hok' ha (by rw [hfp]; simp) (by rw [hfp]; simp)).mono ?_
  rintro e w'' ⟨us, H', Φs', Ψs, he, hm2, _, _, _, hres, _⟩
  exact ⟨⟨us, Ψs, H', he, hres⟩, hm.trans (qiS hfp hm2)⟩
 obtain ⟨_, w0, _, ⟨⟨us, Ψs, H', _, hres⟩, _⟩, _⟩ := hcall w (j7.refl _ _) []
 obtain ⟨hus, htup⟩ := qgN (C := C) hrv hres
 obtain ⟨k1, k2, k3⟩ := htup (w' := w) (H' := H) (Φ' := Φ) (os := s.obj) (s.killIf AV.isUpd) (1000 * (dst.getD 0 + 1))
 refine ⟨_, h, qaa us, ?_, ?_⟩
 ·rw [k1]
  exact ⟨H, Φ, (hs.killIf AV.isUpd).setDst (by rw [hC.nt]; exact hd) (qiW k2 k3)⟩
 ·intro w' hm
  refine (hcall w' hm).mono ?_
  rintro e w'' ⟨⟨us2, Ψs2, H2, he, hres2⟩, hm2⟩
  refine ⟨?_, hm2⟩
  rw [he, (qgN (C := C) hrv hres2).1, hus]
theorem qlA {f : Nat} (hcal : jO P f) (args : Array Value) (w : World) : (callFunc f args).run P w = .ok (.enter f args) w := by
 obtain ⟨fn, hf, hn, hb⟩ := hcal
 have hb' : ¬ fn.body = none := by intro h; rw [h] at hb; cases hb
 have hn' : ¬ fn.name = "runtime.NumGoroutine" := by simpa using hn
 simp [callFunc, hf, hn', hb']
theorem qat {c : Call} {fop : Operand} (hc : c.callee = .value fop) {f : Nat} {vs us : Array Value} (hv : a.eval fop = .func (.func f) vs us) (hcal : jO P f) (w : World) :
  (execOp a.eval ⟨dst, .call c, ty, pos, after, guard⟩).run P w = .ok (.enter f (vs ++ c.args.map a.eval ++ us)) w := by
 simp [execOp, resolve, hc, hv, Deferred.ofValue, invoke, qlA hcal]
theorem qaE {o : Oper} {f : Nat} {args : Array Value} {s' : St} (hrun : (execOp a.eval o).run P w = .ok (.enter f args) w) (h : Calls P f args w fun e w'' => ∃ v, e = .returned v ∧ Sim P C s' (a.put o.dst v) w'') : qa4 P C o a w s' := by
 unfold qa4
 rw [hrun]
 exact h
theorem qjG {β : Type} (f : Operand → β) (c : Array Operand) : (c.map f).toList = c.toList.map f := by simp
theorem qbP {s : St} {avs : List AV} : ∀ {l : List Operand}, j6 (fun av x => qg P C w H Φ s.obj av (a.eval x)) avs l → j6 (qg P C w H Φ s.obj) avs (l.map a.eval)
 | l, h => by
  induction l generalizing avs with
  | nil => cases avs <;> first | trivial | exact h.elim
  | cons x l ih => cases avs <;> first | exact h.elim | exact ⟨h.1, ih h.2⟩
theorem qe5 (hC : qG C cfg) {f : Nat} {tid : Nat} {e : Ty} {g : List e.den × Unit → Option (Unit × (List e.den × Unit))} {tail : List Value} (hsound : ∀ d y, g d = some y → ∀ (w : World) (H : FH) (vs : List Value) (Φs : List qC), HOk H w → jU P w H [.mr tid e] d vs Φs →
   (qd Φs).Nodup → (∀ b ∈ qd Φs, H b = none ∧ b < w.heap.size) →
   Calls P f (vs ++ tail).toArray w fun ev w' => ∃ us H' Φs' Ψs, ev = .returned (qaa us) ∧ j7 (· ∈ qd Φs) w w' ∧ H.le H' ∧ HOk H' w' ∧ (∀ b c, H' b = some c → H b = some c ∨ b ∈ qd Φs ∨ w.heap.size ≤ b) ∧
    qac P w' H' [] y.1 us Ψs ∧ jN P w' H' [.mr tid e] y.2 vs Φs' ∧ (qd (Ψs ++ Φs')).Nodup ∧ ∀ b ∈ qd (Ψs ++ Φs'), H' b = none ∧ (b ∈ qd Φs ∨ w.heap.size ≤ b) ∧ b < w'.heap.size)
  {id : Nat} {path : List qs} {v : Value} (hs : qk P C s a w H Φ) (hd : qQ cfg.nt dst = true) (hr : qg P C w H Φ s.obj (.view id path) v)
  (h : qd8 s dst tid e g id path k = some r) : ∃ s', k s' = some r ∧ Calls P f (v :: tail).toArray w fun e w'' => ∃ v, e = .returned v ∧ Sim P C s' (a.put dst v) w'' := by
 unfold qd8 at h
 split at h
 case h_2 => cases h
 rename_i o ho
 cases hfl : e.isFlat && !(o.row && path.isEmpty) with
 | false => rw [hfl] at h; cases h
 | true =>
 rw [hfl, cond_true, jJ] at h
 rw [Bool.and_eq_true, Bool.not_eq_true'] at hfl
 obtain ⟨hfl, hrp⟩ := hfl
 replace h := Option.bind_eq_some_iff.1 h
 obtain ⟨⟨σ, y⟩, hy, h⟩ := h
 rw [ql] at h
 replace h := Option.bind_eq_some_iff.1 h
 obtain ⟨l, hl, h⟩ := h
 obtain ⟨e1, hl⟩ := qj hl
 simp only at e1
 subst e1
 subst hl
 rw [ql] at h
 replace h := Option.bind_eq_some_iff.1 h
 obtain ⟨⟨u0, l', u1⟩, hg, h⟩ := h
 rw [qah] at h
 replace h := Option.bind_eq_some_iff.1 h
 obtain ⟨z, hz, h⟩ := h
 simp only at hz h hg
 obtain ⟨o', y', q1, q2, q3⟩ := hr
 rw [ho] at q1
 cases q1
 rw [hrp] at q3
 rw [hy] at q2
 cases q2
 obtain ⟨b, off, blk, t, hloc, hblk, hv⟩ := q3
 have hok := (hs.os id o ho).1
 have hob := (hs.os id o ho).2
 obtain ⟨b', o', blk', t', pre', c, post', f1, f, f2, e1, e2, e3, e4, e5, e6, hl', e7⟩ := hok.desc2 hy ⟨w, _, _, hloc⟩ hrp
 obtain ⟨rfl, rfl⟩ := j1.det hloc (hl' w (fun _ _ => rfl))
 rw [hblk] at e1
 cases e1
 have e6' := e6
 obtain ⟨hdr, xs, fp', ec, ef, _, _⟩ := e6'
 have hvh : v = hdr := by
  rw [hv]
  have : seg blk off (Ty.list true tid e).size = c := by rw [← e3]; exact qV e2 (qn.length _ e6)
  rw [this, ec]; rfl
 subst hvh
 have hnd := hok.2.1
 rw [e4] at hnd
 have hndf : f.Nodup := (List.nodup_append.1 (List.nodup_append.1 hnd).1).2.1
 have hin : ∀ k ∈ f, k ∈ (Φ id).fp := fun k hk => by rw [e4]; simp [hk]
 have hin1 : ∀ k ∈ f1, k ∈ (Φ id).fp := fun k hk => by rw [e4]; simp [hk]
 have hin2 : ∀ k ∈ f2, k ∈ (Φ id).fp := fun k hk => by rw [e4]; simp [hk]
 have hnot1 : ∀ k ∈ f1, k ∉ f := fun k h1 h2 => (List.nodup_append.1 (List.nodup_append.1 hnd).1).2.2 k h1 k h2 rfl
 have hnot2 : ∀ k ∈ f2, k ∉ f := fun k h1 h2 => (List.nodup_append.1 hnd).2.2 k (by simp [h2]) k h1 rfl
 have hne2 : (Ty.list true tid e).noFn = true := qaj _ hok.1 hy
 subst ec
 have hc := hsound (l, ()) (u0, l', u1) hg w H [v] [⟨0, v, f⟩] hs.hok ⟨v, [], _, [], rfl, rfl, rfl, qP.of_list hne2 hndf e6, rfl, rfl⟩ (by simpa [qd] using hndf) (by
  intro k hk
  have hk' : k ∈ f := by simpa [qd] using hk
  exact ⟨(hob k (hin k hk')).1, (hob k (hin k hk')).2.2⟩)
 refine ⟨_, h, hc.mono ?_⟩
 rintro ev w'' ⟨us, H', Φs', Ψs, he, hm, hle, hok', hnew, hres, hmu, hnd2, hall⟩
 obtain ⟨rfl, rfl⟩ := hres
 obtain ⟨v2, vs2, φ', Φs2, ea, eb, ev2, hobj', hmt⟩ := hmu
 cases ea
 subst eb
 obtain ⟨_, rfl⟩ := hmt
 have hmf : ∀ k, (k ∈ qd [(⟨0, v, f⟩ : qC)]) ↔ k ∈ f := fun k => by simp [qd]
 have hm' : j7 (· ∈ f) w w'' := hm.mono (fun k hk => (hmf k).1 hk)
 have hfp' : ∀ k ∈ φ'.fp, (k ∈ f ∨ w.heap.size ≤ k) ∧ k < w''.heap.size := by
  intro k hk
  obtain ⟨_, p2, p3⟩ := hall k (by simp [qd, hk])
  exact ⟨p2.imp_left (hmf k).1, p3⟩
 have hcl : (Ty.list true tid e).isClosed = true := by simpa [Ty.isClosed] using Ty.flat_closed e hfl
 have hrep' : qn P (.list true tid e) w'' H l' [v] φ'.fp := by
  have := (qP.closed (H' := H) hcl hobj').row_list
  rw [← ev2] at this
  exact this
 have hokw : HOk H w'' := hs.hok.mod hm' (fun k hk => (hob k (hin k hk)).1)
 have hb1 : b ∉ f := hnot1 b e5
 have hblt : b < w.heap.size := (Array.getElem?_eq_some_iff.1 hblk).1
 have hblkw : w''.heap[b]? = some (.cells (pre' ++ [v] ++ post').toArray t (0, 0)) := by
  rw [hm'.block b hblt hb1, hblk]
  rw [← e2]
 have hnd3 : (f1 ++ φ'.fp ++ f2).Nodup := by
  have k1 := List.nodup_append.1 hnd
  have k2 := List.nodup_append.1 k1.1
  have hφ : φ'.fp.Nodup := hobj'.2.1
  rw [List.nodup_append, List.nodup_append]
  refine ⟨⟨k2.1, hφ, ?_⟩, k1.2.1, ?_⟩
  ·rintro x hx _ hx2 rfl
   rcases (hfp' x hx2).1 with h1 | h1
   ·exact hnot1 x hx h1
   ·have := (hob x (hin1 x hx)).2.2; omega
  ·rintro x hx _ hx2 rfl
   rcases List.mem_append.1 hx with h1 | h1
   ·exact k1.2.2 x (by simp [h1]) x hx2 rfl
   ·rcases (hfp' x h1).1 with h1 | h1
    ·exact hnot2 x hx2 h1
    ·have := (hob x (hin2 x hx2)).2.2; omega
 have hobj2 := e7 w'' [v] φ'.fp (.list true tid e) l' z hrep' hz hblkw (by
  intro k hk _
  rcases List.mem_append.1 hk with h1 | h1
  ·exact hm'.block k (hob k (hin1 k h1)).2.2 (hnot1 k h1)
  ·exact hm'.block k (hob k (hin2 k h1)).2.2 (hnot2 k h1)) hnd3
 have hmod2 : j7 C.M0 C.w0 w'' := hs.mod.trans_new hm' (fun k hk => (hob k (hin k hk)).2.1)
 have hch := hs.change ho z ⟨(Φ id).b, (Φ id).hdr, f1 ++ φ'.fp ++ f2⟩ rfl rfl (FH.le_refl _) hokw hs.hnew hmod2 hm'.size (by
  intro j o2 hj hoj k hk
  refine ⟨hm'.block k ((hs.os j o2 hoj).2 k hk).2.2 (fun hkf => hs.disj j id o2 o hj hoj ho k hk (hin k hkf)), ((hs.os j o2 hoj).2 k hk).1⟩) hobj2 (by
  intro k hk
  have hk' : k ∈ f1 ++ φ'.fp ++ f2 := hk
  have old : ∀ k, k ∈ (Φ id).fp → H k = none ∧ (C.M0 k ∨ C.w0.heap.size ≤ k) ∧ k < w''.heap.size ∧ ∀ j o2, j ≠ id → s.obj j = some o2 → k ∉ (Φ j).fp := fun k hk => by
   obtain ⟨p1, p2, p3⟩ := hob k hk
   exact ⟨p1, p2, Nat.lt_of_lt_of_le p3 hm'.size, fun j o2 hj hoj => hs.disj id j o o2 (fun e => hj e.symm) ho hoj k hk⟩
  rcases List.mem_append.1 hk' with h1 | h1
  ·rcases List.mem_append.1 h1 with h1 | h1
   ·exact old k (hin1 k h1)
   ·obtain ⟨p1, p2⟩ := hfp' k h1
    rcases p1 with p1 | p1
    ·exact old k (hin k p1)
    ·refine ⟨?_, .inr (Nat.le_trans hs.mod.size p1), p2, fun j o2 _ hoj hkj => ?_⟩
     ·cases hq : H k with
      | none => rfl
      | some c => obtain ⟨t2, f2, hh⟩ := hs.hok _ _ hq; exact absurd (Array.getElem?_eq_some_iff.1 hh).1 (by omega)
     ·have := ((hs.os j o2 hoj).2 k hkj).2.2
      omega
  ·exact old k (hin2 k h1))
 exact ⟨_, he, H, _, hch.setDst (by rw [hC.nt]; exact hd) rfl⟩
theorem qel {s : St} {id id' : Nat} {q q' : List qs} (h : qc2 s id q = some (id', q')) : id = id' ∧ q = q' := by
 unfold qc2 at h
 split at h
 ·rename_i o _
  cases hrq : o.row && q.isEmpty with
  | true => rw [hrq] at h; cases h
  | false => rw [hrq] at h; cases h; exact ⟨rfl, rfl⟩
 ·cases h
theorem qjQ {s : St} {f g id : Nat} {q : List qs} {z : Nat × List qs} (h : (bif Nat.beq g f then qc2 s id q else none) = some z) : g = f ∧ qc2 s id q = some z := by
 cases hb : Nat.beq g f with
 | true => rw [hb] at h; exact ⟨Nat.eq_of_beq_eq_true hb, h⟩
 | false => rw [hb] at h; cases h
theorem qjS {s : St} {tid : Nat} {e : Ty} {x y : AV} {l : List AV} {id : Nat} {q : List qs} (h : qbR s [.mr tid e] x y l = some (id, q)) : l = [.view id q] := by
 unfold qbR at h
 split at h
 ·obtain ⟨rfl, rfl⟩ := qel h; rfl
 ·rename_i hps; cases hps
 ·cases h
theorem qjR {s : St} {tid f : Nat} {e : Ty} {x y : AV} {l : List AV} {id : Nat} {q : List qs} (h : qbR s [.mr tid e, .c f] x y l = some (id, q)) : l = [.view id q, .fn f .nil .nil] := by
 unfold qbR at h
 split at h
 ·rename_i hps; cases hps
 ·rename_i hps
  cases hps
  replace h := qjQ h
  obtain ⟨rfl, h⟩ := h
  replace h := qel h
  obtain ⟨rfl, rfl⟩ := h
  rfl
 ·cases h
theorem qjV (hcfg : qA P cfg) (hC : qG C cfg) {f : Nat} {p : jH} (hp : lk cfg.prims f = some p) {id : Nat} {path : List qs} {l : List AV} {vs : List Value} (hs : qk P C s a w H Φ) (hd : qQ cfg.nt dst = true) (hr : j6 (qg P C w H Φ s.obj) l vs) {x y : AV} (hda : qbR s p.ps x y l = some (id, path))
  (h : qfI s dst p id path k = some r) : ∃ s', k s' = some r ∧ Calls P f vs.toArray w fun e w'' => ∃ v, e = .returned v ∧ Sim P C s' (a.put dst v) w'' := by
 obtain ⟨_, hsound⟩ := hcfg.prims f p hp
 unfold qfI at h
 split at h
 ·rename_i tid e g
  obtain rfl := qjS hda
  match vs, hr with
  | [v], hr =>
   exact qe5 (cfg := cfg) (tail := []) hC (fun d y hy w H vs Φs h1 h2 h3 h4 => by rw [List.append_nil]; exact hsound d y hy w H vs Φs h1 h2 h3 h4) hs hd hr.1 h
  | [], hr => exact hr.elim
  | _ :: _ :: _, hr => exact hr.2.elim
 ·rename_i tid e f2 g
  obtain rfl := qjR hda
  match vs, hr with
  | [v, u], hr =>
   obtain ⟨fs, us, hu, hr1, hr2⟩ := hr.2.1
   have hfs : fs = #[] := by have : Value.tuple fs = .tuple #[] := hr1; injection this
   have hus : us = #[] := by have : Value.tuple us = .tuple #[] := hr2; injection this
   subst hfs
   subst hus
   subst hu
   exact qe5 (cfg := cfg) (tail := [.func (.func f2) #[] #[]]) hC (fun d y hy w H vs Φs h1 h2 h3 h4 => by
    obtain ⟨v0, vs', φ, Φs', rfl, rfl, k1, k2, rfl, rfl⟩ := h2
    have hfp : ∀ φ : qC, qd [φ, qM] = qd [φ] := fun φ => by simp [qd, qM]
    refine (hsound (d.1, ((), ())) y hy w H [v0, .func (.func f2) #[] #[]] [φ, qM] h1 ⟨v0, _, φ, _, rfl, rfl, k1, k2, _, [], qM, [], rfl, rfl, trivial, rfl, rfl, rfl, rfl⟩ (by rw [hfp]; exact h3) (by rw [hfp]; exact h4)).mono ?_
    rintro ev w' ⟨us, H', Φs2, Ψs, e1, e2, e3, e4, e5, e6, e7, e8, e9⟩
    obtain ⟨v1, vs1, φ1, Φs1, q1, rfl, q3, q4, v2, vs2, φ2, Φs3, q5, rfl, q7, q8, q9⟩ := e7
    cases q1
    cases q5
    subst q9
    rw [hfp] at e2 e5 e9
    have hfp2 : qd (Ψs ++ [φ1, φ2]) = qd (Ψs ++ [φ1]) := by simp [qd, q7]
    rw [hfp2] at e8 e9
    exact ⟨us, H', [φ1], Ψs, e1, e2, e3, e4, e5, e6, ⟨v0, [], φ1, [], rfl, rfl, q3, q4, rfl, rfl⟩, e8, e9⟩) hs hd hr.1 h
  | [], hr => exact hr.elim
  | [_], hr => exact hr.2.elim
  | _ :: _ :: _ :: _, hr => exact hr.2.2.elim
 ·cases h
theorem toV_inj {τ : Ty} (h : qfT τ = true) {c c' : List Value} (hl : c.length = τ.size) (hl' : c'.length = τ.size) (he : jY τ c = jY τ c') : c = c' := by
 cases τ with
 | list o t e =>
  match c, c', hl, hl', he with
  | [u], [u'], _, _, he => have he : u = u' := he; rw [he]
  | [], _, hl, _, _ => cases hl
  | _ :: _ :: _, _, hl, _, _ => simp [Ty.size] at hl
  | [_], [], _, hl, _ => cases hl
  | [_], _ :: _ :: _, _, hl, _ => simp [Ty.size] at hl
 | str t =>
  have he : Value.agg c.toArray = .agg c'.toArray := he
  have he : c.toArray = c'.toArray := by injection he
  exact congrArg Array.toList he
 | _ => cases h
theorem qh8 {Q : AV → Value → Prop} : ∀ {n : Nat} {l : List AV} {vs : List Value} {av : AV} {r : List AV}, j6 Q l vs → l.drop n = av :: r → ∃ v, Q av v ∧ vs = vs.take n ++ v :: vs.drop (n + 1) ∧ j6 Q (l.take n ++ r) (vs.take n ++ vs.drop (n + 1)) ∧ (vs.take n).length = n
 | 0, l, vs, av, r, h, hd => by
  have hd : l = av :: r := hd
  subst hd
  match vs, h with
  | v :: vs, h => exact ⟨v, h.1, rfl, h.2, rfl⟩
  | [], h => exact h.elim
 | n + 1, l, vs, av, r, h, hd => by
  match l, vs, h with
  | [], _, _ => cases hd
  | a :: l, v0 :: vs, h =>
   obtain ⟨v, h1, h2, h3, h4⟩ := qh8 (n := n) h.2 hd
   refine ⟨v, h1, ?_, ⟨h.1, h3⟩, by simpa using h4⟩
   show v0 :: vs = v0 :: (vs.take n ++ v :: vs.drop (n + 1))
   rw [← h2]
  | _ :: _, [], h => exact h.elim
theorem qg2 : ∀ {ps : List jZ} {l : List AV}, ps.all jZ.reads = true → qJ ps l = []
 | [], _, _ => by cases ‹List AV› <;> rfl
 | .v _ :: ps, [], _ => rfl
 | .r _ :: ps, [], _ => rfl
 | .v _ :: ps, _ :: l, h => qg2 (ps := ps) (l := l) (by simpa [jZ.reads] using h)
 | .r _ :: ps, _ :: l, h => qg2 (ps := ps) (l := l) (by simpa [jZ.reads] using h)
 | .c _ :: _, _, h => by simp [jZ.reads] at h
 | .m _ :: _, _, h => by simp [jZ.reads] at h
 | .mr _ _ :: _, _, h => by simp [jZ.reads] at h
 | .t _ _ :: _, _, h => by simp [jZ.reads] at h
 | .gm _ :: _, _, h => by simp [jZ.reads] at h
 | .cm _ _ :: _, _, h => by simp [jZ.reads] at h
theorem qjF (hcfg : qA P cfg) (hC : qG C cfg) {f : Nat} {mp : qhK} (hp : lk cfg.mas f = some mp) {l : List AV} {vs : List Value} (hs : qk P C s a w H Φ) (hd : qQ cfg.nt dst = true) (hrel : j6 (qg P C w H Φ s.obj) l vs)
  (h : qg5 cfg s dst mp l k = some r) : ∃ s', k s' = some r ∧ Calls P f vs.toArray w fun e w'' => ∃ v, e = .returned v ∧ Sim P C s' (a.put dst v) w'' := by
 obtain ⟨_, hsound⟩ := hcfg.mas f mp hp
 unfold qg5 at h
 split at h
 case h_2 => cases h
 rename_i id path rst hdrop
 obtain ⟨v, hr, hvs, hrel2, hlen⟩ := qh8 hrel hdrop
 split at h
 case h_2 => cases h
 rename_i o ho
 cases hq : mp.rest.all jZ.reads && (qfT mp.τ && (mp.τ.isClosed && ((qx mp.rest (l.take mp.pos ++ rst)).isEmpty && !(o.row && path.isEmpty)))) with
 | false => rw [hq] at h; cases h
 | true =>
 rw [hq, cond_true, jJ] at h
 simp only [Bool.and_eq_true, Bool.not_eq_true'] at hq
 obtain ⟨hreads, hrow, hcl, htch, hrp⟩ := hq
 have htch : qx mp.rest (l.take mp.pos ++ rst) = [] := List.isEmpty_iff.1 htch
 replace h := Option.bind_eq_some_iff.1 h
 obtain ⟨⟨σ, y⟩, hy, h⟩ := h
 rw [ql] at h
 replace h := Option.bind_eq_some_iff.1 h
 obtain ⟨x, hx, h⟩ := h
 obtain ⟨e1, hx⟩ := qj hx
 simp only at e1
 subst e1
 subst hx
 obtain ⟨d, h, Φs, hargs, hmr⟩ := qaT hcfg hs (FH.le_refl H) (by rw [htch]; intro id hid; cases hid) hrel2 h
 rw [ql] at h
 replace h := Option.bind_eq_some_iff.1 h
 obtain ⟨x', hg, h⟩ := h
 rw [qah] at h
 replace h := Option.bind_eq_some_iff.1 h
 obtain ⟨z, hz, h⟩ := h
 have hfs : qd Φs = [] := by rw [(qa6 hmr).1, qg2 hreads]; rfl
 obtain ⟨o', y', q1, q2, q3⟩ := hr
 rw [ho] at q1
 cases q1
 rw [hrp] at q3
 rw [hy] at q2
 cases q2
 obtain ⟨b, off, blk, t, hloc, hblk, hv⟩ := q3
 have hok := (hs.os id o ho).1
 have hob := (hs.os id o ho).2
 obtain ⟨b', o', blk', t', pre', c, post', f1, f0, f2, e1, e2, e3, e4, e5, e6, hl', e7⟩ := hok.desc2 hy ⟨w, _, _, hloc⟩ hrp
 obtain ⟨rfl, rfl⟩ := j1.det hloc (hl' w (fun _ _ => rfl))
 rw [hblk] at e1
 cases e1
 have hvh : v = jY mp.τ c := by
  rw [hv]
  have : seg blk off mp.τ.size = c := by rw [← e3]; exact qV e2 (qn.length _ e6)
  rw [this]
 have hnd := hok.2.1
 rw [e4] at hnd
 have hndf : f0.Nodup := (List.nodup_append.1 (List.nodup_append.1 hnd).1).2.1
 have hin : ∀ k ∈ f0, k ∈ (Φ id).fp := fun k hk => by rw [e4]; simp [hk]
 have hin1 : ∀ k ∈ f1, k ∈ (Φ id).fp := fun k hk => by rw [e4]; simp [hk]
 have hin2 : ∀ k ∈ f2, k ∈ (Φ id).fp := fun k hk => by rw [e4]; simp [hk]
 have hnot1 : ∀ k ∈ f1, k ∉ f0 := fun k h1 h2 => (List.nodup_append.1 (List.nodup_append.1 hnd).1).2.2 k h1 k h2 rfl
 have hnot2 : ∀ k ∈ f2, k ∉ f0 := fun k h1 h2 => (List.nodup_append.1 hnd).2.2 k (by simp [h2]) k h1 rfl
 have hne2 : mp.τ.noFn = true := qaj _ hok.1 hy
 have hc := hsound d _ x' hg w H (vs.take mp.pos ++ vs.drop (mp.pos + 1)) Φs ⟨0, v, f0⟩ hs.hok hargs hfs ⟨hne2, hndf, hrow, c, hvh, e6⟩ (fun k hk => ⟨(hob k (hin k hk)).1, (hob k (hin k hk)).2.2⟩)
 have hvv : (List.take mp.pos (vs.take mp.pos ++ vs.drop (mp.pos + 1)) ++ v :: List.drop mp.pos (vs.take mp.pos ++ vs.drop (mp.pos + 1))) = vs := by
  rw [List.take_left' hlen, List.drop_left' hlen]
  exact hvs.symm
 simp only at hc
 rw [hvv] at hc
 refine ⟨_, h, hc.mono ?_⟩
 rintro ev w'' ⟨H', fp', he, hm', hle, hok', hnew, hobj', hall⟩
 have hfp' : ∀ k ∈ fp', (k ∈ f0 ∨ w.heap.size ≤ k) ∧ k < w''.heap.size := fun k hk => (hall k hk).2
 have hrep' : qn P mp.τ w'' H x' c fp' := by
  obtain ⟨_, _, _, c2, k1, k2⟩ := qP.closed (H' := H) hcl hobj'
  simp only at k1 k2
  have : c = c2 := toV_inj hrow (qn.length _ e6) (qn.length _ k2) (by rw [← hvh]; exact k1)
  rw [this]
  exact k2
 have hokw : HOk H w'' := hs.hok.mod hm' (fun k hk => (hob k (hin k hk)).1)
 have hb1 : b ∉ f0 := hnot1 b e5
 have hblt : b < w.heap.size := (Array.getElem?_eq_some_iff.1 hblk).1
 have hblkw : w''.heap[b]? = some (.cells (pre' ++ c ++ post').toArray t (0, 0)) := by
  rw [hm'.block b hblt hb1, hblk]
  rw [← e2]
 have hnd3 : (f1 ++ fp' ++ f2).Nodup := by
  have k1 := List.nodup_append.1 hnd
  have k2 := List.nodup_append.1 k1.1
  have hφ : fp'.Nodup := hobj'.2.1
  rw [List.nodup_append, List.nodup_append]
  refine ⟨⟨k2.1, hφ, ?_⟩, k1.2.1, ?_⟩
  ·rintro x hx _ hx2 rfl
   rcases (hfp' x hx2).1 with h1 | h1
   ·exact hnot1 x hx h1
   ·have := (hob x (hin1 x hx)).2.2; omega
  ·rintro x hx _ hx2 rfl
   rcases List.mem_append.1 hx with h1 | h1
   ·exact k1.2.2 x (by simp [h1]) x hx2 rfl
   ·rcases (hfp' x h1).1 with h1 | h1
    ·exact hnot2 x hx2 h1
    ·have := (hob x (hin2 x hx2)).2.2; omega
 have hobj2 := e7 w'' c fp' mp.τ x' z hrep' hz hblkw (by
  intro k hk _
  rcases List.mem_append.1 hk with h1 | h1
  ·exact hm'.block k (hob k (hin1 k h1)).2.2 (hnot1 k h1)
  ·exact hm'.block k (hob k (hin2 k h1)).2.2 (hnot2 k h1)) hnd3
 have hmod2 : j7 C.M0 C.w0 w'' := hs.mod.trans_new hm' (fun k hk => (hob k (hin k hk)).2.1)
 have hch := hs.change ho z ⟨(Φ id).b, (Φ id).hdr, f1 ++ fp' ++ f2⟩ rfl rfl (FH.le_refl _) hokw hs.hnew hmod2 hm'.size (by
  intro j o2 hj hoj k hk
  refine ⟨hm'.block k ((hs.os j o2 hoj).2 k hk).2.2 (fun hkf => hs.disj j id o2 o hj hoj ho k hk (hin k hkf)), ((hs.os j o2 hoj).2 k hk).1⟩) hobj2 (by
  intro k hk
  have hk' : k ∈ f1 ++ fp' ++ f2 := hk
  have old : ∀ k, k ∈ (Φ id).fp → H k = none ∧ (C.M0 k ∨ C.w0.heap.size ≤ k) ∧ k < w''.heap.size ∧ ∀ j o2, j ≠ id → s.obj j = some o2 → k ∉ (Φ j).fp := fun k hk => by
   obtain ⟨p1, p2, p3⟩ := hob k hk
   exact ⟨p1, p2, Nat.lt_of_lt_of_le p3 hm'.size, fun j o2 hj hoj => hs.disj id j o o2 (fun e => hj e.symm) ho hoj k hk⟩
  rcases List.mem_append.1 hk' with h1 | h1
  ·rcases List.mem_append.1 h1 with h1 | h1
   ·exact old k (hin1 k h1)
   ·obtain ⟨p1, p2⟩ := hfp' k h1
    rcases p1 with p1 | p1
    ·exact old k (hin k p1)
    ·refine ⟨?_, .inr (Nat.le_trans hs.mod.size p1), p2, fun j o2 _ hoj hkj => ?_⟩
     ·cases hq : H k with
      | none => rfl
      | some c => obtain ⟨t2, f2, hh⟩ := hs.hok _ _ hq; exact absurd (Array.getElem?_eq_some_iff.1 hh).1 (by omega)
     ·have := ((hs.os j o2 hoj).2 k hkj).2.2
      omega
  ·exact old k (hin2 k h1))
 exact ⟨_, he, H, _, hch.setDst (by rw [hC.nt]; exact hd) rfl⟩
theorem qi4 {s : St} {ps : List jZ} {x y : AV} {l : List AV} {z : Nat × List qs} (h : qbR s ps x y l = some z) : x = .nil ∧ y = .nil := by
 unfold qbR at h
 split at h
 ·exact ⟨rfl, rfl⟩
 ·exact ⟨rfl, rfl⟩
 ·cases h
theorem qhW {s : St} {ps : List jZ} (h : ps.all jZ.reads = true) (x y : AV) (l : List AV) : qbR s ps x y l = none := by
 unfold qbR
 split
 ·simp [jZ.reads] at h
 ·simp [jZ.reads] at h
 ·rfl
theorem qk4 {α β : Type} {Q : α → β → Prop} : ∀ {l : List α} {r : List β}, l.length = r.length → (∀ (j : Nat) (x : α) (y : β), l[j]? = some x → r[j]? = some y → Q x y) → j6 Q l r
 | [], [], _, _ => trivial
 | x :: l, y :: r, h, hq => ⟨hq 0 x y rfl rfl, qk4 (by simpa using h) fun j x' y' h1 h2 => hq (j + 1) x' y' (by simpa using h1) (by simpa using h2)⟩
 | [], _ :: _, h, _ => by simp at h
 | _ :: _, [], h, _ => by simp at h
theorem qgP {α β : Type} {Q : α → β → Prop} : ∀ {l : List α} {r : List β}, j6 Q l r → l.length = r.length
 | [], [], _ => rfl
 | _ :: _, _ :: _, h => by rw [List.length_cons, List.length_cons, qgP h.2]
 | [], _ :: _, h => h.elim
 | _ :: _, [], h => h.elim
theorem qjA (hcfg : qA P cfg) (hC : qG C cfg) {c : Call} {fop : Operand} (hc : c.callee = .value fop) (hs : qk P C s a w H Φ) (hd : qQ cfg.nt dst = true) {i f n : Nat} {l : List AV} (he : qg P C w H Φ s.obj (.cv i f n) (a.eval fop)) (lm : j6 (qg P C w H Φ s.obj) l (c.args.toList.map a.eval))
  (h : qfg cfg s dst i f n l k = some r) : ∃ s', k s' = some r ∧ qa4 P C ⟨dst, .call c, ty, pos, after, guard⟩ a w s' := by
 unfold qfg at h
 split at h
 case h_2 => cases h
 rename_i sp hsp
 cases hq : Nat.beq i 1 && (Nat.beq f sp.f && (Nat.beq n (1000 * sp.m + sp.n) && (Nat.blt sp.n 1000 && (Nat.beq l.length sp.n && qjn s sp.n sp.m)))) with
 | false => rw [hq] at h; cases h
 | true =>
 rw [hq, cond_true] at h
 simp only [Bool.and_eq_true] at hq
 obtain ⟨q1, q2, q3, q4, q5, q6⟩ := hq
 obtain rfl := Nat.eq_of_beq_eq_true q1
 obtain rfl := Nat.eq_of_beq_eq_true q2
 obtain rfl := Nat.eq_of_beq_eq_true q3
 have q4 : sp.n < 1000 := Eq.mp Nat.blt_eq q4
 have q5 := Nat.eq_of_beq_eq_true q5
 obtain ⟨b, cv, e1, ⟨e2, e3⟩, e4⟩ := he
 have e2 : cv.length = sp.m := by rw [e2]; omega
 have hmod : (1000 * sp.m + sp.n) % 1000 = sp.n := by omega
 rw [hmod] at e3
 obtain ⟨hcal, hsound, _⟩ := hcfg.self sp hsp
 have hlen := qgP lm
 have l2 : j6 (qg P C w H Φ s.obj) (qeO sp.n sp.m) cv := by
  refine qk4 (by simp [qeO, e2]) fun j x y h1 h2 => ?_
  have hj : j < sp.m := by
   have := (List.getElem?_eq_some_iff.1 h2).1
   omega
  have hx : x = AV.ptr (10000000 + (sp.n + j)) [] := by
   simp [qeO, hj] at h1
   exact h1.symm
  subst hx
  obtain ⟨φ, p1, rfl⟩ := e3 j y h2
  have ho := List.all_eq_true.1 q6 j (List.mem_range.2 hj)
  split at ho
  ·rename_i o hobj
   refine ⟨o, ⟨o.τ, o.x⟩, φ.b, 0, hobj, by rw [Bool.not_eq_true'] at ho; rw [ho]; rfl, qN _ _, ?_, rfl⟩
   rw [Bool.not_eq_true'] at ho
   unfold j1
   rw [ho, ← (hs.pins.1 _ _ p1).1]
   exact jV _ _ _ _
  ·cases ho
 obtain ⟨s', h, hcalls⟩ := qit hcfg hC (X := fun Q => Calls P sp.f ((c.args.toList.map a.eval ++ cv) ++ [Value.pointer (some ⟨b, 0, none⟩)]).toArray w Q) (fun h hm => h.mono hm) hs hd (j6.append lm l2)
  (fun d y hy H2 Φs hle hok ha hn hf => hsound d y hy w H2 _ Φs hok ha hn hf b (by
   rw [show (c.args.toList.map a.eval ++ cv).drop sp.n = cv by rw [← q5, hlen, List.drop_left]]
   exact hle _ _ e1)) h
 have e : ((c.args.toList.map a.eval ++ cv) ++ [Value.pointer (some ⟨b, 0, none⟩)]).toArray = #[] ++ c.args.map a.eval ++ (cv ++ [Value.pointer (some ⟨b, 0, none⟩)]).toArray := by
  apply Array.toList_inj.1; simp
 rw [e] at hcalls
 exact ⟨s', h, qaE (qat hc e4 hcal w) hcalls⟩
theorem qh5 {x y : Operand} (h : qgI x y = true) : x = y := by
 unfold qgI at h
 split at h
 ·rw [Nat.eq_of_beq_eq_true h]
 ·rw [Nat.eq_of_beq_eq_true h]
 ·rename_i b1 b2
  have : b1 = b2 := by simpa using h
  rw [this]
 ·simp only [Bool.and_eq_true, beq_iff_eq] at h
  rw [h.1, h.2]
 ·cases h
theorem qgH : ∀ {l r : List Operand}, qeP l r = true → l = r
 | [], [], _ => rfl
 | a :: l, b :: r, h => by
  simp only [qeP, Bool.and_eq_true] at h
  rw [qh5 h.1, qgH h.2]
 | [], _ :: _, h => by cases h
 | _ :: _, [], h => by cases h
theorem qlH (hcfg : qA P cfg) (hC : qG C cfg) {c : Call} {fop : Operand} (hc : c.callee = .value fop) (hs : qk P C s a w H Φ) (hd : qQ cfg.nt dst = true) (h : qi7 cfg s dst fop c k = some r) :
  ∃ s', k s' = some r ∧ qa4 P C ⟨dst, .call c, ty, pos, after, guard⟩ a w s' := by
 unfold qi7 at h
 split at h
 ·rename_i il hil
  obtain ⟨d, rfl, hil⟩ := Option.bind_eq_some_iff.1 hil
  unfold inlK at h
  cases hso : qgI fop il.fop && qeP c.args.toList il.ops with
  | false => rw [hso] at h; cases h
  | true =>
  rw [hso, cond_true] at h
  rw [Bool.and_eq_true] at hso
  have e1 := qh5 hso.1
  have e2 := qgH hso.2
  split at h
  case h_2 => cases h
  rename_i d0 hd0
  rw [ql] at h
  obtain ⟨y, hy, h⟩ := Option.bind_eq_some_iff.1 h
  obtain ⟨f, vs, us, hv, hcal, hcalls⟩ := hcfg.inl d il hil d0 y hy C a w hC.pin (by rw [hC.nt]; exact Eq.mp Nat.blt_eq hd) ⟨H, Φ, qgA hd0 hs⟩
  have e : vs ++ (il.ops.map a.eval).toArray ++ us = vs ++ c.args.map a.eval ++ us := by
   rw [← e2]
   apply Array.toList_inj.1
   simp
  rw [e] at hcalls
  exact ⟨_, h, qaE (qat hc (by rw [e1]; exact hv) hcal w) hcalls⟩
 rename_i hnil
 clear hnil
 have hfz : ∀ i t, (fun i : Nat => (c.argTypes[i]?).bind (lk cfg.ty)) i = some t → t.isFz = true := by
  intro i t ht
  obtain ⟨T, _, ht⟩ := Option.bind_eq_some_iff.1 ht
  exact hcfg.fz T t ht
 split at h
 ·rename_i f first caps l he1 he2
  split at h
  case h_2 =>
   split at h
   case h_2 =>
    split at h
    case h_2 =>
     split at h
     case h_2 => cases h
     rename_i mp hp
     cases ht : first.isTup && caps.isTup with
     | false => rw [ht] at h; cases h
     | true =>
     rw [ht, cond_true] at h
     rw [Bool.and_eq_true] at ht
     obtain ⟨vs, us, hv, hr1, hr2⟩ := qo hs qD he1
     have l1 := qai (vs := vs.toList) ht.1 (by simpa using hr1)
     have l2 := qai (vs := us.toList) ht.2 (by simpa using hr2)
     have lm := qbP (jW hs hfz he2)
     obtain ⟨s', h, hcalls⟩ := qjF hcfg hC hp hs hd (j6.append (j6.append l1 lm) l2) h
     have e : (vs.toList ++ c.args.toList.map a.eval ++ us.toList).toArray = vs ++ c.args.map a.eval ++ us := by
      apply Array.toList_inj.1; simp
     rw [e] at hcalls
     exact ⟨s', h, qaE (qat hc hv (hcfg.mas f mp hp).1 w) hcalls⟩
    rename_i kp hp
    cases ht : first.isTup && caps.isTup with
    | false => rw [ht] at h; cases h
    | true =>
    rw [ht, cond_true] at h
    rw [Bool.and_eq_true] at ht
    obtain ⟨vs, us, hv, hr1, hr2⟩ := qo hs qD he1
    have l1 := qai (vs := vs.toList) ht.1 (by simpa using hr1)
    have l2 := qai (vs := us.toList) ht.2 (by simpa using hr2)
    have lm := qbP (jW hs hfz he2)
    obtain ⟨s', h, hcalls⟩ := qiY hcfg hC hp hs hd (j6.append (j6.append l1 lm) l2) h
    have e : (vs.toList ++ c.args.toList.map a.eval ++ us.toList).toArray = vs ++ c.args.map a.eval ++ us := by
     apply Array.toList_inj.1; simp
    rw [e] at hcalls
    exact ⟨s', h, qaE (qat hc hv (hcfg.keeps f kp hp).1 w) hcalls⟩
   rename_i m hp
   cases ht : first.isTup && caps.isTup with
   | false => rw [ht] at h; cases h
   | true =>
   rw [ht, cond_true] at h
   rw [Bool.and_eq_true] at ht
   obtain ⟨vs, us, hv, hr1, hr2⟩ := qo hs qD he1
   have l1 := qai (vs := vs.toList) ht.1 (by simpa using hr1)
   have l2 := qai (vs := us.toList) ht.2 (by simpa using hr2)
   have lm := qbP (jW hs hfz he2)
   obtain ⟨s', h, hcalls⟩ := qlZ hcfg hC hp hs hd (j6.append (j6.append l1 lm) l2) h
   have e : (vs.toList ++ c.args.toList.map a.eval ++ us.toList).toArray = vs ++ c.args.map a.eval ++ us := by
    apply Array.toList_inj.1; simp
   rw [e] at hcalls
   exact ⟨s', h, qaE (qat hc hv (hcfg.makers f m hp).1 w) hcalls⟩
  rename_i p hp
  split at h
  ·rename_i id path hda
   obtain ⟨rfl, rfl⟩ := qi4 hda
   obtain ⟨vs, us, hv, hr1, hr2⟩ := qo hs qD he1
   have lm := qbP (jW hs hfz he2)
   have hvs : vs = #[] := by have : Value.tuple vs = .tuple #[] := hr1; injection this
   have hus : us = #[] := by have : Value.tuple us = .tuple #[] := hr2; injection this
   subst hvs
   subst hus
   obtain ⟨s', h, hcalls⟩ := qjV hcfg hC hp hs hd lm hda h
   have e : (c.args.toList.map a.eval).toArray = #[] ++ c.args.map a.eval ++ #[] := by
    apply Array.toList_inj.1
    simp
   rw [e] at hcalls
   exact ⟨s', h, qaE (qat hc hv (hcfg.prims f p hp).1 w) hcalls⟩
  rename_i hda
  cases ht : first.isTup && caps.isTup with
  | false => rw [ht] at h; cases h
  | true =>
  rw [ht, cond_true] at h
  rw [Bool.and_eq_true] at ht
  obtain ⟨vs, us, hv, hr1, hr2⟩ := qo hs qD he1
  have l1 := qai (vs := vs.toList) ht.1 (by simpa using hr1)
  have l2 := qai (vs := us.toList) ht.2 (by simpa using hr2)
  have lm := qbP (jW hs hfz he2)
  have e : (vs.toList ++ c.args.toList.map a.eval ++ us.toList).toArray = vs ++ c.args.map a.eval ++ us := by
   apply Array.toList_inj.1; simp
  have plain : qe6 cfg s dst p (first.list ++ l ++ caps.list) k = some r → ∃ s', k s' = some r ∧ qa4 P C ⟨dst, .call c, ty, pos, after, guard⟩ a w s' := fun h => by
   obtain ⟨s', h, hcalls⟩ := callK_ok hcfg hC hp hs hd (j6.append (j6.append l1 lm) l2) h
   rw [e] at hcalls
   exact ⟨s', h, qaE (qat hc hv (hcfg.prims f p hp).1 w) hcalls⟩
  split at h
  ·rename_i q hq
   rcases ql0 hcfg hC hq hs hd (j6.append (j6.append l1 lm) l2) h with ⟨s', h, hcalls⟩ | h
   ·rw [e] at hcalls
    exact ⟨s', h, qaE (qat hc hv (hcfg.prims f p hp).1 w) hcalls⟩
   ·exact plain h
  ·exact plain h
 ·rename_i i f n l he1 he2
  exact qjA hcfg hC hc hs hd (qo hs qD he1) (qbP (jW hs hfz he2)) h
 ·rename_i b r2 g xav he1 he2
  cases hrf : r2.isFlat with
  | false => rw [hrf] at h; cases h
  | true =>
  rw [hrf, cond_true] at h
  obtain ⟨hfz2, cs, hv, hrep⟩ := qo hs qD he1
  have lm := qbP (jW hs hfz he2)
  obtain ⟨_, f, vs, us, rfl, hcal, hg⟩ := hrep
  obtain ⟨Hf, m1, m2, m3, m4, m5⟩ := qk.freezeAll xav.touches hs
  match hal : c.args.toList.map a.eval, lm with
  | [v], lm =>
   obtain ⟨hbz, x, h, cx, hvx, hrx⟩ := qck hs m1 (FH.le_refl Hf) m3 (.inl lm.1) h
   rw [ql] at h
   replace h := Option.bind_eq_some_iff.1 h
   obtain ⟨y, hy, h⟩ := h
   have hcalls := hg x y hy Hf w cx m1 m4.hok hrx
   have e : vs ++ #[jY b cx] ++ us = vs ++ c.args.map a.eval ++ us := by
    congr 2
    apply Array.toList_inj.1
    rw [qjG, hal, hvx]
   rw [e] at hcalls
   refine ⟨_, h, qaE (qat hc (by rw [hv]; rfl) hcal w) (hcalls.mono ?_)⟩
   rintro e w'' ⟨cy, he, hm, hry⟩
   exact ⟨_, he, H, Φ, (hs.grow hm).setDst (by rw [hC.nt]; exact hd) ⟨Ty.flat_fz r2 hrf, cy, rfl, qn.flat_any r2 hrf hry _ _⟩⟩
  | [], lm => exact lm.elim
  | _ :: _ :: _, lm => exact lm.2.elim
 ·rename_i b b2 r2 g xav yav he1 he2
  cases hrf : r2.isFlat with
  | false => rw [hrf] at h; cases h
  | true =>
  rw [hrf, cond_true] at h
  obtain ⟨hfz2, cs, hv, hrep⟩ := qo hs qD he1
  have lm := qbP (jW hs hfz he2)
  obtain ⟨_, f, vs, us, rfl, hcal, hg⟩ := hrep
  obtain ⟨Hf, m1, m2, m3, m4, m5⟩ := qk.freezeAll (xav.touches ++ yav.touches) hs
  match hal : c.args.toList.map a.eval, lm with
  | [v, u], lm =>
   obtain ⟨hbz, x, h, cx, hvx, hrx⟩ := qck hs m1 (FH.le_refl Hf) (fun id hid => m3 id (by simp [hid])) (.inl lm.1) h
   obtain ⟨hbz2, z, h, cz, hvz, hrz⟩ := qck hs m1 (FH.le_refl Hf) (fun id hid => m3 id (by simp [hid])) (.inl lm.2.1) h
   rw [ql] at h
   replace h := Option.bind_eq_some_iff.1 h
   obtain ⟨y, hy, h⟩ := h
   have hcalls := hg x z y hy Hf w cx cz m1 m4.hok hrx hrz
   have e : vs ++ #[jY b cx, jY b2 cz] ++ us = vs ++ c.args.map a.eval ++ us := by
    congr 2
    apply Array.toList_inj.1
    rw [qjG, hal, hvx, hvz]
   rw [e] at hcalls
   refine ⟨_, h, qaE (qat hc (by rw [hv]; rfl) hcal w) (hcalls.mono ?_)⟩
   rintro e w'' ⟨cy, he, hm, hry⟩
   exact ⟨_, he, H, Φ, (hs.grow hm).setDst (by rw [hC.nt]; exact hd) ⟨Ty.flat_fz r2 hrf, cy, rfl, qn.flat_any r2 hrf hry _ _⟩⟩
  | [], lm => exact lm.elim
  | [_], lm => exact lm.2.elim
  | _ :: _ :: _ :: _, lm => exact lm.2.2.elim
 ·cases h
theorem qk.commitT (hs : qk P C s a w H Φ) (hC : qG C cfg) (x : Operand) : ∃ Φ', qk P C (s.commitT x) a w H Φ' := by
 unfold St.commitT
 split
 ·rename_i t
  split
  ·rename_i id tid e l hg
   split
   ·rename_i o ho
    cases hq : o.row && Nat.blt id 4000000 with
    | false => exact ⟨Φ, hs⟩
    | true =>
     rw [Bool.and_eq_true] at hq
     rw [cond_true]
     have hid : id < 4000000 := Eq.mp Nat.blt_eq hq.2
     obtain ⟨_, h1⟩ := hs.commit hC (hs.ts t _ hg) ho hq.1 hid
     refine ⟨_, h1.weaken (fun _ _ h => h) ?_⟩
     intro u av hu
     rw [St.get_set] at hu
     split at hu
     ·rename_i e1
      subst e1
      cases hu
      refine ⟨⟨true, .list true tid e, l⟩, ⟨.list true tid e, l⟩, ?_, qN _ _, ?_⟩
      ·rw [St.obj_set, St.newObj, St.obj_setObj, if_pos rfl]
      ·simp only [List.isEmpty_nil, Bool.and_self, qr]
     ·exact h1.ts u av hu
   ·exact ⟨Φ, hs⟩
  ·exact ⟨Φ, hs⟩
 ·exact ⟨Φ, hs⟩
theorem qa4.map {o : Oper} {s' s'' : St} (hm : ∀ a w, Sim P C s' a w → Sim P C s'' a w) (h : qa4 P C o a w s') : qa4 P C o a w s'' := by
 unfold qa4 at h ⊢
 split at h
 ·exact hm _ _ h
 ·exact hm _ _ h
 ·exact h.mono (fun e w'' ⟨v, he, hs⟩ => ⟨v, he, hm _ _ hs⟩)
 ·exact h.elim
theorem qlK (hcfg : qA P cfg) (hC : qG C cfg) {c : Call} (hc : c.callee = .builtin .append) (hs : qk P C s a w H Φ) (hd : qQ cfg.nt dst = true) (h : qO cfg ⟨dst, .call c, ty, pos, after, guard⟩ s k = some r) :
  ∃ s', k s' = some r ∧ qa4 P C ⟨dst, .call c, ty, pos, after, guard⟩ a w s' := by
 obtain ⟨s', h, hg⟩ := qkp hcfg hC hc hs hd h
 rcases h with h | h
 case inr => exact ⟨s', h, hg⟩
 unfold qeu at h
 split at h
 ·exact ⟨s', h, hg⟩
 ·split at h
  ·exact ⟨s', h, hg⟩
  ·refine ⟨_, h, hg.map fun a w hs => ?_⟩
   obtain ⟨H, Φ, hs⟩ := hs
   obtain ⟨Φ', hs⟩ := hs.commitT hC _
   exact ⟨H, Φ', hs⟩
theorem qk.commitAll (hC : qG C cfg) : ∀ (l : List Operand) {s : St} {Φ : Nat → qC}, qk P C s a w H Φ → ∃ Φ', qk P C (commitAll s l) a w H Φ'
 | [], _, Φ, hs => ⟨Φ, hs⟩
 | x :: r, _, _, hs => by
  obtain ⟨Φ', h⟩ := hs.commitT hC x
  exact qk.commitAll hC r h
theorem op_callv (hcfg : qA P cfg) (hC : qG C cfg) {c : Call} {fop : Operand} (hc : c.callee = .value fop) (hs : qk P C s a w H Φ) (hd : qQ cfg.nt dst = true) (h : qO cfg ⟨dst, .call c, ty, pos, after, guard⟩ s k = some r) :
  ∃ s', k s' = some r ∧ qa4 P C ⟨dst, .call c, ty, pos, after, guard⟩ a w s' := by
 simp only [qO, hc] at h
 obtain ⟨Φ', hs'⟩ := hs.commitAll hC c.args.toList
 exact qlH hcfg hC hc hs' hd h
theorem op_callq (hcfg : qA P cfg) (hC : qG C cfg) {c : Call} {f : Nat} (hc : c.callee = .value (.func f)) {p : jH} (hp : lk cfg.prims f = some p) (hni : dst.bind (lk cfg.inl) = none) (hna : lk cfg.alts f = none) (hqp : qgT p = true) (hs : qk P C s a w H Φ) (hd : qQ cfg.nt dst = true)
  (h : qO cfg ⟨dst, .call c, ty, pos, after, guard⟩ s k = some r) : ∃ s', k s' = some r ∧ Quiet P C ⟨dst, .call c, ty, pos, after, guard⟩ a w s' := by
 simp only [qO, hc] at h
 obtain ⟨Φ', hs⟩ := hs.commitAll hC c.args.toList
 simp only [qi7, hni, jB] at h
 have hfz : ∀ i t, (fun i : Nat => (c.argTypes[i]?).bind (lk cfg.ty)) i = some t → t.isFz = true := by
  intro i t ht
  obtain ⟨T, _, ht⟩ := Option.bind_eq_some_iff.1 ht
  exact hcfg.fz T t ht
 split at h
 ·rename_i f' first caps l he1 he2
  cases he1
  have hrd : p.ps.all jZ.reads = true := by
   unfold qgT at hqp
   rw [Bool.and_eq_true, Bool.and_eq_true] at hqp
   exact hqp.1.1
  rw [hp] at h
  simp only [qhW hrd, AV.isTup, Bool.and_self, cond_true, AV.list, List.nil_append, List.append_nil, hna] at h
  have lm := qbP (jW hs hfz he2)
  obtain ⟨s', h, v, hsim, hcalls⟩ := qjW hcfg hC hp hqp hs hd lm h
  refine ⟨s', h, v, fun w' hm => ?_, hsim⟩
  unfold Oper.quietAt
  rw [qat hc (f := f) (vs := #[]) (us := #[]) rfl (hcfg.prims f p hp).1 w']
  refine ⟨rfl, ?_⟩
  have e : (c.args.toList.map a.eval).toArray = #[] ++ c.args.map a.eval ++ #[] := by
   apply Array.toList_inj.1; simp
  rw [← e]
  exact hcalls w' hm
 ·rename_i he1 _; cases he1
 ·rename_i he1 _; cases he1
 ·rename_i he1 _; cases he1
 ·cases h
end
end Go.Vi
namespace Go.Vi
open Go.Maps (Keyed)
theorem qdf : ∀ (l : List (Int × Int)) (n v : Int), lkI (qdw l n v) n = some v
 | [], n, v => by simp [qdw, lkI]
 | (m, u) :: r, n, v => by
  unfold qdw
  cases h : m == n with
  | true => simp [lkI]
  | false =>
   rw [cond_false]
   unfold lkI
   rw [h, cond_false]
   exact qdf r n v
theorem qcD {n k : Int} (hne : k ≠ n) (v : Int) : ∀ (l : List (Int × Int)), lkI (qdw l n v) k = lkI l k
 | [] => by
  have : (n == k) = false := by simpa using fun e => hne e.symm
  simp [qdw, lkI, this]
 | (m, u) :: r => by
  unfold qdw
  cases h : m == n with
  | true =>
   have e : m = n := by simpa using h
   have h2 : (m == k) = false := by rw [e]; simpa using fun e => hne e.symm
   have h3 : (n == k) = false := by simpa using fun e => hne e.symm
   simp [lkI, h2, h3]
  | false =>
   rw [cond_false]
   unfold lkI
   rw [qcD hne v r]
theorem qgU : ∀ (l : List (Int × Int)) (n v : Int), (qdw l n v).length = if (lkI l n).isSome then l.length else l.length + 1
 | [], n, v => by simp [qdw, lkI]
 | (m, u) :: r, n, v => by
  unfold qdw lkI
  cases h : m == n with
  | true => simp
  | false =>
   rw [cond_false, cond_false, List.length_cons, qgU r n v, List.length_cons]
   split <;> rfl
theorem qjt : ∀ (l : List (Int × Int)) (n v : Int) (k : Int), k ∈ (qdw l n v).map (·.1) ↔ k = n ∨ k ∈ l.map (·.1)
 | [], n, v, k => by simp [qdw]
 | (m, u) :: r, n, v, k => by
  unfold qdw
  cases h : m == n with
  | true =>
   have e : m = n := by simpa using h
   simp [e]
  | false =>
   rw [cond_false]
   simp only [List.map_cons, List.mem_cons, qjt r n v k]
   constructor
   ·rintro (h | h | h)
    ·exact .inr (.inl h)
    ·exact .inl h
    ·exact .inr (.inr h)
   ·rintro (h | h | h)
    ·exact .inr (.inl h)
    ·exact .inl h
    ·exact .inr (.inr h)
theorem qh9 : ∀ (l : List (Int × Int)) (n v : Int), (l.map (·.1)).Nodup → ((qdw l n v).map (·.1)).Nodup
 | [], n, v, _ => by simp [qdw]
 | (m, u) :: r, n, v, h => by
  simp only [List.map_cons, List.nodup_cons] at h
  unfold qdw
  cases hq : m == n with
  | true =>
   have e : m = n := by simpa using hq
   subst e
   simpa using h
  | false =>
   rw [cond_false]
   simp only [List.map_cons, List.nodup_cons, qjt]
   have hne : m ≠ n := by simpa using hq
   exact ⟨fun hh => hh.elim hne h.1, qh9 r n v h.2⟩
theorem qg9 : ∀ {l : List (Int × Int)} {n : Int}, n ∉ l.map (·.1) → lkI l n = none
 | [], _, _ => rfl
 | (m, u) :: r, n, h => by
  simp only [List.map_cons, List.mem_cons, not_or] at h
  unfold lkI
  have : (m == n) = false := by simpa using fun e => h.1 e.symm
  rw [this, cond_false]
  exact qg9 h.2
theorem qle : ∀ {l : List (Int × Int)} {n : Int}, n ∈ l.map (·.1) → (lkI l n).isSome = true
 | [], _, h => by simp at h
 | (m, u) :: r, n, h => by
  unfold lkI
  cases hq : m == n with
  | true => rfl
  | false =>
   rw [cond_false]
   simp only [List.map_cons, List.mem_cons] at h
   have hne : m ≠ n := by simpa using hq
   exact qle (h.resolve_left (fun e => hne e.symm))
theorem qks {l : List (Int × Int)} {n : Int} : (lkI l n).isSome = true ↔ n ∈ l.map (·.1) := by
 constructor
 ·intro h
  cases hd : decide (n ∈ l.map (·.1)) with
  | true => exact of_decide_eq_true hd
  | false =>
   rw [qg9 (of_decide_eq_false hd)] at h
   cases h
 ·exact qle
theorem qdg : ∀ {l : List (Int × Int)} {n : Int}, (l.map (·.1)).Nodup → lkI (qhw l n) n = none
 | [], _, _ => rfl
 | (m, u) :: r, n, h => by
  simp only [List.map_cons, List.nodup_cons] at h
  unfold qhw
  cases hq : m == n with
  | true =>
   have e : m = n := by simpa using hq
   rw [cond_true, ← e]
   exact qg9 h.1
  | false =>
   rw [cond_false]
   unfold lkI
   rw [hq, cond_false]
   exact qdg h.2
theorem qcE {n k : Int} (hne : k ≠ n) : ∀ (l : List (Int × Int)), lkI (qhw l n) k = lkI l k
 | [] => rfl
 | (m, u) :: r => by
  unfold qhw
  cases hq : m == n with
  | true =>
   have e : m = n := by simpa using hq
   have : (m == k) = false := by rw [e]; simpa using fun e => hne e.symm
   rw [cond_true, lkI, this, cond_false]
  | false =>
   rw [cond_false]
   unfold lkI
   rw [qcE hne r]
theorem qhv : ∀ (l : List (Int × Int)) (n : Int), (qhw l n).length + (if (lkI l n).isSome then 1 else 0) = l.length
 | [], _ => rfl
 | (m, u) :: r, n => by
  unfold qhw lkI
  cases hq : m == n with
  | true => simp
  | false =>
   have := qhv r n
   rw [cond_false, cond_false, List.length_cons, List.length_cons]
   omega
theorem qlo : ∀ (l : List (Int × Int)) (n : Int), (qhw l n).Sublist l
 | [], _ => List.Sublist.refl _
 | (m, u) :: r, n => by
  unfold qhw
  cases m == n with
  | true => exact List.sublist_cons_self _ _
  | false => exact (qlo r n).cons_cons _
theorem qfE {k n : Int} : ∀ {l : List Int}, n ∈ qht k l ↔ n ∈ l ∧ n ≠ k
 | [] => by simp [qht]
 | m :: r => by
  unfold qht
  cases hq : m == k with
  | true =>
   have e : m = k := by simpa using hq
   rw [cond_true, qfE, List.mem_cons, e]
   constructor
   ·rintro ⟨h1, h2⟩; exact ⟨.inr h1, h2⟩
   ·rintro ⟨h1, h2⟩; exact ⟨h1.resolve_left h2, h2⟩
  | false =>
   have hne : m ≠ k := by simpa using hq
   rw [cond_false, List.mem_cons, qfE, List.mem_cons]
   constructor
   ·rintro (h | ⟨h1, h2⟩)
    ·exact ⟨.inl h, by rw [h]; exact hne⟩
    ·exact ⟨.inr h1, h2⟩
   ·rintro ⟨h1 | h1, h2⟩
    ·exact .inl h1
    ·exact .inr ⟨h1, h2⟩
theorem qcW {t : Nat} : ∀ {l : List Nat}, qcX t l = true ↔ t ∈ l
 | [] => by simp [qcX]
 | u :: r => by
  unfold qcX
  rw [Bool.or_eq_true, qcW, List.mem_cons]
  constructor
  ·rintro (h | h)
   ·exact .inl (Nat.eq_of_beq_eq_true h).symm
   ·exact .inr h
  ·rintro (h | h)
   ·exact .inl (by rw [h]; exact Nat.beq_refl _)
   ·exact .inr h
theorem qc1 {t u : Nat} : ∀ {l : List Nat}, u ∈ qe1 t l ↔ u ∈ l ∧ u ≠ t
 | [] => by simp [qe1]
 | m :: r => by
  unfold qe1
  cases hq : Nat.beq m t with
  | true =>
   have e := Nat.eq_of_beq_eq_true hq
   rw [cond_true, qc1, List.mem_cons, e]
   constructor
   ·rintro ⟨h1, h2⟩; exact ⟨.inr h1, h2⟩
   ·rintro ⟨h1, h2⟩; exact ⟨h1.resolve_left h2, h2⟩
  | false =>
   have hne := Nat.ne_of_beq_eq_false hq
   rw [cond_false, List.mem_cons, qc1, List.mem_cons]
   constructor
   ·rintro (h | ⟨h1, h2⟩)
    ·exact ⟨.inl h, by rw [h]; exact hne⟩
    ·exact ⟨.inr h1, h2⟩
   ·rintro ⟨h1 | h1, h2⟩
    ·exact .inl h1
    ·exact .inr ⟨h1, h2⟩
abbrev MD := DataW Unit
structure qhJ (D : MD) (kv : List (Int × Int)) : Prop where
 has : ∀ n, Maps.has D (.int .i64 n) = (lkI kv n).isSome
 val : ∀ n z, D.atKey (.int .i64 n) z = match lkI kv n with | some v => .lit (.int .i64 v) | none => z
 size : Maps.size D = kv.length
 nd : (kv.map (·.1)).Nodup
theorem qhe {n k : Int} (h : k ≠ n) : (Lit.int .i64 k) ≠ .int .i64 n := fun e => h (by injection e)
theorem qhJ.empty : qhJ (.map []) [] := ⟨fun _ => rfl, fun _ _ => rfl, rfl, List.nodup_nil⟩
theorem qhJ.put {D : MD} {kv : List (Int × Int)} (h : qhJ D kv) (hD : Maps.Tidy D) {n : Int} (hk : WideAt.IsKeyLit (.int .i64 n)) (v : Int) : qhJ (D.put (.int .i64 n) (.lit (.int .i64 v))) (qdw kv n v) := by
 refine ⟨fun m => ?_, fun m z => ?_, ?_, qh9 _ _ _ h.nd⟩
 ·by_cases e : m = n
  ·subst e; rw [Maps.has_put_same hD.isMap hk, qdf]; rfl
  ·rw [Maps.has_put_other (qhe e), qcD e]; exact h.has m
 ·by_cases e : m = n
  ·subst e; rw [Maps.atKey_put_same hD.isMap hk, qdf]
  ·rw [Maps.atKey_put_other (qhe e), qcD e]; exact h.val m z
 ·rw [Maps.size_put hD, qgU, h.has, h.size]
theorem qhJ.del {D : MD} {kv : List (Int × Int)} (h : qhJ D kv) (hD : Maps.Tidy D) (n : Int) : qhJ (D.del (.int .i64 n)) (qhw kv n) := by
 refine ⟨fun m => ?_, fun m z => ?_, ?_, List.Sublist.nodup ((qlo kv n).map _) h.nd⟩
 ·by_cases e : m = n
  ·subst e; rw [Maps.has_del_same, qdg h.nd]; rfl
  ·rw [Maps.has_del_other (qhe e), qcE e]; exact h.has m
 ·by_cases e : m = n
  ·subst e; rw [Maps.atKey_del_same, qdg h.nd]
  ·rw [Maps.atKey_del_other (qhe e), qcE e]; exact h.val m z
 ·have h1 := Maps.size_del hD (k := .int .i64 n)
  have h2 := qhv kv n
  rw [h.has, h.size] at h1
  omega
def qfa (P : Program) (w : World) (m : Ms) (b : Nat) : Prop :=
 ∃ D : MD, w.ownsMap P m.kt (plainElem P m.vt) b m.kv.length D ∧ qhJ D m.kv
def qcH (P : Program) (w : World) (m : Ms) (b r : Nat) (lf : List Int) : Prop :=
 ∃ (D : MD) (left : Lit → Bool) (cnt : Nat), w.ranges P m.kt (plainElem P m.vt) b r m.kv.length D left cnt ∧ qhJ D m.kv ∧ ∀ n, left (.int .i64 n) = true ↔ n ∈ lf
def MOKb (P : Program) (C : Ctx) (m : Ms) (os : Nat → Option Obj) (a : Act) (w : World) (H : FH) (Φ : Nat → qC) (b : Nat) : Prop :=
 qR P m.kt (.int .i64) ∧ qR P m.vt (.int .i64) ∧ qao C w H Φ os b ∧ qfa P w m b ∧ (∀ t ∈ m.tm, a.tmps.getD t undef = .map (some b)) ∧
  ∀ ti lf, m.it = some (ti, lf) → ∃ r, qao C w H Φ os r ∧ qcH P w m b r lf ∧ (∀ t ∈ ti, a.tmps.getD t undef = .pointer (some ⟨r, 0, none⟩)) ∧
   ∀ n v, m.cur = some (n, v) → (Instr.entry (.pointer (some ⟨r, 0, none⟩))).run P w = .ok (.tuple #[.int .i64 n, .int .i64 v]) w
def MOK (P : Program) (C : Ctx) (m : Ms) (os : Nat → Option Obj) (a : Act) (w : World) (H : FH) (Φ : Nat → qC) : Prop := ∃ b, MOKb P C m os a w H Φ b
def qb5 (P : Program) (C : Ctx) (mp : Option Ms) (os : Nat → Option Obj) (a : Act) (w : World) (H : FH) (Φ : Nat → qC) : Prop :=
 match mp with
 | none => True
 | some m => MOK P C m os a w H Φ
def qab (P : Program) (C : Ctx) (s : St) (a : Act) (w : World) : Prop := ∃ H Φ, qk P C s a w H Φ ∧ qb5 P C s.mp s.obj a w H Φ
section
variable {P : Program} {C : Ctx} {cfg : jM} {R : Type} {r : R} {s s' : St} {a : Act} {w w' : World} {H H' : FH} {Φ Φ' : Nat → qC}
theorem qab.sim (h : qab P C s a w) : Sim P C s a w := by obtain ⟨H, Φ, h, _⟩ := h; exact ⟨H, Φ, h⟩
theorem Sim.simM (h : Sim P C s a w) (hm : s.mp = none) : qab P C s a w := by obtain ⟨H, Φ, h⟩ := h; exact ⟨H, Φ, h, by rw [hm]; trivial⟩
theorem qk.withM (h : qk P C s a w H Φ) (m : Option Ms) : qk P C (s.withM m) a w H Φ := h.congr rfl rfl
theorem qfa.block {m : Ms} {b : Nat} (h : qfa P w m b) (hb : w'.heap[b]? = w.heap[b]?) : qfa P w' m b := by
 obtain ⟨D, ⟨es, clock, h1, h2⟩, h3⟩ := h
 exact ⟨D, ⟨es, clock, hb.trans h1, h2⟩, h3⟩
theorem qcH.block {m : Ms} {b i : Nat} {lf : List Int} (h : qcH P w m b i lf) (hb : w'.heap[b]? = w.heap[b]?) (hi : w'.heap[i]? = w.heap[i]?) : qcH P w' m b i lf := by
 obtain ⟨D, left, cnt, ⟨es, clock, since, seen, c0, h1, h2, h3, h4, h5, h6⟩, h7⟩ := h
 exact ⟨D, left, cnt, ⟨es, clock, since, seen, c0, hb.trans h1, h2, h3, h4, hi.trans h5, h6⟩, h7⟩
def reC (C : Ctx) (w : World) (H : FH) : Ctx := ⟨w, fun b => (C.M0 b ∨ C.w0.heap.size ≤ b) ∧ H b = none ∧ ∃ c t f, w.heap[b]? = some (.cells c t f), H, C.nt, C.pin, C.ds, C.gh⟩
theorem qgS (hC : qG C cfg) : qG (reC C w H) cfg := ⟨hC.nt, hC.pin⟩
theorem qg.ctx {C C' : Ctx} {os : Nat → Option Obj} (hg : C'.gh = C.gh) (hp : C'.pin = C.pin) (hf : ∀ b, qao C w H Φ os b → (∃ c t f, w.heap[b]? = some (.cells c t f)) → qao C' w H Φ os b) : ∀ {av : AV} {v : Value}, qg P C w H Φ os av v → qg P C' w H Φ os av v
 | .dead, _, h => h
 | .val _ _, _, h => h
 | .ref _ _, _, h => h
 | .ptr _ _, _, h => h
 | .view _ _, _, h => h
 | .upd id p tid e l, v, h => by
  obtain ⟨o, h1, h2, h3, h4, fp, h5, h6⟩ := h
  exact ⟨o, h1, h2, h3, h4, fp, h5, fun b hb => ⟨(h6 b hb).1, (h6 b hb).2.imp_left (fun hh => hf b hh (qn.cells _ h5 b hb))⟩⟩
 | .cut _ _ _ _, _, h => h
 | .fn _ _ _, _, ⟨vs, us, h1, h2, h3⟩ => ⟨vs, us, h1, qg.ctx hg hp hf h2, qg.ctx hg hp hf h3⟩
 | .nil, _, h => h
 | .gh _ _, _, ⟨u, h1, h2⟩ => ⟨u, by rw [hg]; exact h1, qg.ctx hg hp hf h2⟩
 | .cv _ _ _, _, ⟨b, cv, h1, h2⟩ => ⟨b, cv, h1, by rw [hp]; exact h2⟩
 | .cons _ _, _, ⟨u, us, h1, h2, h3⟩ => ⟨u, us, h1, qg.ctx hg hp hf h2, qg.ctx hg hp hf h3⟩
theorem qk.rebase (hs : qk P C s a w H Φ) : qk P (reC C w H) s a w H Φ := by
 refine ⟨hs.defers, hs.size, FH.le_refl _, hs.hok, fun b c hb => .inl hb, j7.refl _ _, ?_, ?_, hs.disj, hs.pins⟩
 ·intro t av ht
  exact qg.ctx (C := C) (C' := reC C w H) rfl rfl (fun b hb hc => (⟨hb.fz, hb.obj, .inl ⟨hb.may, hb.fz, hc⟩, hb.lt⟩ : qao (reC C w H) w H Φ s.obj b)) (hs.ts t av ht)
 ·intro id o ho
  have h := hs.os id o ho
  exact ⟨h.1, fun b hb => ⟨(h.2 b hb).1, .inl ⟨(h.2 b hb).2.1, (h.2 b hb).1, h.1.cells b hb⟩, (h.2 b hb).2.2⟩⟩
theorem qk.unbase {a' : Act} (hs : qk P C s a w H Φ) (h : qk P (reC C w H) s' a' w' H' Φ') : qk P C s' a' w' H' Φ' ∧
  ∀ b, qao C w H Φ s.obj b → (¬ ∃ c t f, w.heap[b]? = some (.cells c t f)) → qao C w' H' Φ' s'.obj b ∧ w'.heap[b]? = w.heap[b]? := by
 have hmay : ∀ b, (reC C w H).M0 b ∨ (reC C w H).w0.heap.size ≤ b → C.M0 b ∨ C.w0.heap.size ≤ b := by
  rintro b (hb | hb)
  ·exact hb.1
  ·exact .inr (Nat.le_trans hs.mod.size hb)
 refine ⟨⟨h.defers, h.size, FH.le_trans hs.le h.le, h.hok, ?_, hs.mod.trans_new h.mod (fun i hi => hi.1), ?_, ?_, h.disj, h.pins⟩, ?_⟩
 ·intro b c hb
  rcases h.hnew b c hb with h1 | h1 | h1
  ·exact hs.hnew b c h1
  ·exact .inr (hmay b (.inl h1))
  ·exact .inr (hmay b (.inr h1))
 ·intro t av ht
  exact qg.ctx (C := reC C w H) (C' := C) rfl rfl (fun b hb _ => (⟨hb.fz, hb.obj, hmay b hb.may, hb.lt⟩ : qao C w' H' Φ' s'.obj b)) (h.ts t av ht)
 ·intro id o ho
  have h1 := h.os id o ho
  exact ⟨h1.1, fun b hb => ⟨(h1.2 b hb).1, hmay b (h1.2 b hb).2.1, (h1.2 b hb).2.2⟩⟩
 ·intro b hb hnc
  have hnm : ¬ (reC C w H).M0 b := fun hh => hnc hh.2.2
  refine ⟨⟨?_, ?_, hb.may, Nat.lt_of_lt_of_le hb.lt h.mod.size⟩, h.mod.block b hb.lt hnm⟩
  ·cases hq : H' b with
   | none => rfl
   | some c =>
    rcases h.hnew b c hq with h1 | h1 | h1
    ·have h1' : H b = some c := h1
     rw [hb.fz] at h1'; cases h1'
    ·exact absurd h1 hnm
    ·have h1' : w.heap.size ≤ b := h1
     have := hb.lt
     omega
  ·intro id o ho hbf
   rcases ((h.os id o ho).2 b hbf).2.1 with h1 | h1
   ·exact hnm h1
   ·have h1' : w.heap.size ≤ b := h1
    have := hb.lt
    omega
theorem qfa.not_cells {m : Ms} {b : Nat} (h : qfa P w m b) : ¬ ∃ c t f, w.heap[b]? = some (.cells c t f) := by
 obtain ⟨D, ⟨es, clock, h1, _⟩, _⟩ := h
 rintro ⟨c, t, f, h2⟩
 rw [h1] at h2; cases h2
theorem qcH.not_cells {m : Ms} {b i : Nat} {lf : List Int} (h : qcH P w m b i lf) : ¬ ∃ c t f, w.heap[i]? = some (.cells c t f) := by
 obtain ⟨D, left, cnt, ⟨es, clock, since, seen, c0, _, _, _, _, h5, _⟩, _⟩ := h
 rintro ⟨c, t, f, h2⟩
 rw [h5] at h2; cases h2
theorem qbb {d : Option Nat} {v : Value} {t : Nat} (h : d ≠ some t) : (a.put d v).tmps.getD t undef = a.tmps.getD t undef := by
 cases d with
 | none => rfl
 | some d =>
  have hne : d ≠ t := fun e => h (by rw [e])
  simp only [Act.put, Array.getD_eq_getD_getElem?, Array.getElem?_setIfInBounds_ne hne]
theorem qdU {m : Ms} {d : Option Nat} {t : Nat} (h : t ∈ (m.strike d).tm) : t ∈ m.tm ∧ d ≠ some t := by
 cases d with
 | none => exact ⟨h, by simp⟩
 | some d =>
  have h2 := qc1.1 h
  exact ⟨h2.1, fun e => h2.2 (by injection e with e; exact e.symm)⟩
theorem qh0 {m : Ms} {d : Option Nat} {ti : List Nat} {lf : List Int} (h : (m.strike d).it = some (ti, lf)) : ∃ ti', m.it = some (ti', lf) ∧ ∀ t ∈ ti, t ∈ ti' ∧ d ≠ some t := by
 cases d with
 | none => exact ⟨ti, h, fun t ht => ⟨ht, by simp⟩⟩
 | some d =>
  have h' : (m.it.map fun x => (qe1 d x.1, x.2)) = some (ti, lf) := h
  obtain ⟨⟨ti', lf'⟩, h1, h2⟩ := Option.map_eq_some_iff.1 h'
  simp only [Prod.mk.injEq] at h2
  obtain ⟨rfl, rfl⟩ := h2
  exact ⟨ti', h1, fun t ht => by
   have h3 := qc1.1 ht
   exact ⟨h3.1, fun e => h3.2 (by injection e with e; exact e.symm)⟩⟩
theorem qbF {m : Ms} {d : Option Nat} : (m.strike d).kt = m.kt ∧ (m.strike d).vt = m.vt ∧ (m.strike d).kv = m.kv ∧ (m.strike d).cur = m.cur := by
 cases d <;> exact ⟨rfl, rfl, rfl, rfl⟩
theorem MOKb.step {m : Ms} {os os' : Nat → Option Obj} {d : Option Nat} {v : Value} {b : Nat} (h : MOKb P C m os a w H Φ b)
  (hk : ∀ b, qao C w H Φ os b → (¬ ∃ c t f, w.heap[b]? = some (.cells c t f)) → qao C w' H' Φ' os' b ∧ w'.heap[b]? = w.heap[b]?) {m' : Ms} (hm : m' = (m.strike d).calm ∨ (w' = w ∧ m' = m.strike d)) :
  MOKb P C m' os' (a.put d v) w' H' Φ' b := by
 obtain ⟨h1, h2, hb, hat, htm, hit⟩ := h
 obtain ⟨k1, k2⟩ := hk b hb hat.not_cells
 have e : m'.kt = m.kt ∧ m'.vt = m.vt ∧ m'.kv = m.kv ∧ m'.tm = (m.strike d).tm ∧ m'.it = (m.strike d).it := by
  rcases hm with rfl | ⟨_, rfl⟩
  ·exact ⟨qbF.1, qbF.2.1, qbF.2.2.1, rfl, rfl⟩
  ·exact ⟨qbF.1, qbF.2.1, qbF.2.2.1, rfl, rfl⟩
 obtain ⟨e1, e2, e3, e4, e5⟩ := e
 refine ⟨by rw [e1]; exact h1, by rw [e2]; exact h2, k1, ?_, ?_, ?_⟩
 ·have := hat.block k2
  unfold qfa at this ⊢
  rw [e1, e2, e3]; exact this
 ·intro t ht
  rw [e4] at ht
  obtain ⟨q1, q2⟩ := qdU ht
  rw [qbb q2]
  exact htm t q1
 ·intro ti lf hti
  rw [e5] at hti
  obtain ⟨ti', q1, q2⟩ := qh0 hti
  obtain ⟨i, hi, hia, hit2, hcur⟩ := hit ti' lf q1
  obtain ⟨k3, k4⟩ := hk i hi hia.not_cells
  refine ⟨i, k3, ?_, fun t ht => ?_, fun n u hc => ?_⟩
  ·have := hia.block k2 k4
   unfold qcH at this ⊢
   rw [e1, e2, e3]; exact this
  ·obtain ⟨q3, q4⟩ := q2 t ht
   rw [qbb q4]
   exact hit2 t q3
  ·rcases hm with rfl | ⟨rfl, rfl⟩
   ·cases hc
   ·exact hcur n u (by rw [← (qbF (m := m) (d := d)).2.2.2]; exact hc)
theorem MOK.step {m : Ms} {os os' : Nat → Option Obj} {d : Option Nat} {v : Value} (h : MOK P C m os a w H Φ)
  (hk : ∀ b, qao C w H Φ os b → (¬ ∃ c t f, w.heap[b]? = some (.cells c t f)) → qao C w' H' Φ' os' b ∧ w'.heap[b]? = w.heap[b]?) {m' : Ms} (hm : m' = (m.strike d).calm ∨ (w' = w ∧ m' = m.strike d)) :
  MOK P C m' os' (a.put d v) w' H' Φ' := by
 obtain ⟨b, h⟩ := h
 exact ⟨b, h.step hk hm⟩
theorem qdV {d : Option Nat} {v : Value} (hs : qk P C s a w H Φ) (hM : qb5 P C s.mp s.obj a w H Φ) (h : Sim P (reC C w H) s' (a.put d v) w') {mp : Option Ms}
  (hm : mp = none ∨ ∃ m m', s.mp = some m ∧ mp = some m' ∧ (m' = (m.strike d).calm ∨ (w' = w ∧ m' = m.strike d))) : qab P C (s'.withM mp) (a.put d v) w' := by
 obtain ⟨H', Φ', h⟩ := h
 obtain ⟨k1, k2⟩ := hs.unbase h
 refine ⟨H', Φ', k1.withM mp, ?_⟩
 rcases hm with rfl | ⟨m, m', e1, rfl, hm⟩
 ·trivial
 ·rw [e1] at hM
  exact MOK.step hM k2 hm
theorem qk.other (hs : qk P C s a w H Φ) {b : Nat} (hb : qao C w H Φ s.obj b) (hm : j7 (· = b) w w') : qk P C (s.killIf AV.isUpd) a w' H Φ := by
 have hne : ∀ j o, s.obj j = some o → ∀ c ∈ (Φ j).fp, c ≠ b := fun j o ho c hc e => hb.obj j o ho (by rw [← e]; exact hc)
 have := hs.changes (s' := s.killIf AV.isUpd) (ch := fun _ => none) (F := AV.isUpd) (w' := w') (H' := H) (fun id x hx => by cases hx) (fun id => rfl) (fun t => St.get_killIf _ _ _) (fun id x hx => by cases hx) (fun _ h => h) (FH.le_refl _)
  (hs.hok.mod hm (fun k hk => by rw [hk]; exact hb.fz)) hs.hnew (hs.mod.trans_new hm (fun k hk => by rw [hk]; exact hb.may)) hm.size
  (fun j o' _ ho c hc => ⟨hm.block c ((hs.os j o' ho).2 c hc).2.2 (hne j o' ho c hc), ((hs.os j o' ho).2 c hc).1⟩) (fun id x hx => by cases hx) (fun i j x y _ hx => by cases hx)
 exact this
end
def qcB (P : Program) (C : Ctx) (o : Oper) (a : Act) (w : World) (s' : St) : Prop :=
 match (execOp a.eval o).run P w with
 | .ok (.value v) w' => qab P C s' (a.put o.dst v) w'
 | .ok .skip w' => qab P C s' (a.put o.dst undef) w'
 | .ok (.enter f args) w' => Calls P f args w' fun e w'' => ∃ v, e = .returned v ∧ qab P C s' (a.put o.dst v) w''
 | _ => False
section
variable {P : Program} {C : Ctx} {cfg : jM} {R : Type} {r : R} {s s' : St} {a : Act} {w w' : World} {H H' : FH} {Φ Φ' : Nat → qC} {dst : Option Nat} {ty : TypeId} {pos : String} {after : Array Edge} {guard : Option (Nat × Bool)} {k : St → Option R}
theorem qbu {o : Oper} {v : Value} (hrun : (execOp a.eval o).run P w = .ok (.value v) w') (h : qab P C s' (a.put o.dst v) w') : qcB P C o a w s' := by
 unfold qcB; rw [hrun]; exact h
theorem qkF {o : Oper} (hrun : (execOp a.eval o).run P w = .ok .skip w') (h : qab P C s' (a.put o.dst undef) w') : qcB P C o a w s' := by
 unfold qcB; rw [hrun]; exact h
theorem qin {o : Oper} (hs : qk P C s a w H Φ) (hM : qb5 P C s.mp s.obj a w H Φ) (h : qa4 P (reC C w H) o a w s') {mp : Option Ms} (hm : mp = none ∨ ∃ m, s.mp = some m ∧ mp = some (m.strike o.dst).calm) : qcB P C o a w (s'.withM mp) := by
 have hm' : ∀ w', mp = none ∨ ∃ m m', s.mp = some m ∧ mp = some m' ∧ (m' = (m.strike o.dst).calm ∨ (w' = w ∧ m' = m.strike o.dst)) := fun w' => hm.imp_right (fun ⟨m, e1, e2⟩ => ⟨m, _, e1, e2, .inl rfl⟩)
 unfold qa4 at h
 unfold qcB
 split at h
 ·rename_i v w' e; rw [e]; exact qdV hs hM h (hm' _)
 ·rename_i w' e; rw [e]; exact qdV hs hM h (hm' _)
 ·rename_i f args w' e
  rw [e]
  refine h.mono ?_
  rintro e w'' ⟨v, he, hsim⟩
  exact ⟨v, he, qdV hs hM hsim (hm' _)⟩
 ·exact h.elim
theorem qj3 {o : Oper} (hs : qk P C s a w H Φ) (hM : qb5 P C s.mp s.obj a w H Φ) (h : qak P (reC C w H) o a w s') {mp : Option Ms} (hm : mp = none ∨ ∃ m, s.mp = some m ∧ mp = some (m.strike o.dst)) : qcB P C o a w (s'.withM mp) := by
 obtain ⟨v, h1, h2⟩ := h
 exact qbu (h1 w (j7.refl _ _)) (qdV hs hM h2 (hm.imp_right (fun ⟨m, e1, e2⟩ => ⟨m, _, e1, e2, .inr ⟨rfl, rfl⟩⟩)))
theorem qd2 (hs : qk P C s a w H Φ) {x : Operand} {n : Int} (h : qfp s x = some n) : a.eval x = .int .i64 n := by
 unfold qfp at h
 split at h
 ·rename_i he
  cases h
  exact (qo hs qD he).int
 ·cases h
theorem qeY {n : Int} {k : Option R} (h : inI n k = some r) : (Lit.int .i64 n).wf = true ∧ k = some r := by
 rw [inI_eq] at h
 split at h
 ·rename_i hh
  refine ⟨?_, h⟩
  have e1 : IntKind.i64.min = -9223372036854775808 := by decide
  have e2 : IntKind.i64.max = 9223372036854775807 := by decide
  simp only [Lit.wf, e1, e2, Bool.and_eq_true, decide_eq_true_eq]
  exact hh
 ·cases h
theorem qcd {m : Ms} {x : Operand} {b : Nat} (htm : ∀ t ∈ m.tm, a.tmps.getD t undef = .map (some b)) (h : qbn m x = true) : a.eval x = .map (some b) := by
 cases x with
 | tmp t => exact htm t (qcW.1 h)
 | _ => cases h
theorem qku {m : Ms} {x : Operand} (h : qdh m x = true) : ∃ t ti lf, x = .tmp t ∧ m.it = some (ti, lf) ∧ t ∈ ti := by
 cases x with
 | tmp t =>
  unfold qdh at h
  simp only at h
  split at h
  ·rename_i ti lf e; exact ⟨t, ti, lf, rfl, e, qcW.1 h⟩
  ·cases h
 | _ => cases h
theorem qkh (vt : TypeId) (hv : qR P vt (.int .i64)) : plainElem (H := Unit) P vt (.int .i64 0) = some (.lit (.int .i64 0), []) := plainElem_int hv.int (by decide)
theorem qeU {k : TypeId} {Rd : Value → Option (MD × List MemPlace)} {b n : Nat} {D : MD} (h : w.ownsMap P k Rd b n D) : w.ownsMap P k Rd b (Maps.size D) D := by
 obtain ⟨es, clock, h1, h2, _, rfl⟩ := h
 exact ⟨es, clock, h1, h2, by simp [Maps.size, length_sorted], rfl⟩
theorem j7.of_grown {b : Nat} (h : w.grownBy w' (some b)) : j7 (· = b) w w' := ⟨h.os, h.tape, h.output, h.size, fun i hi hne => h.block i hi (fun e => hne (by injection e))⟩
theorem j7.of_grown0 (h : w.grownBy w' none) : j7 jP w w' := ⟨h.os, h.tape, h.output, h.size, fun i hi _ => h.block i hi (by simp)⟩
theorem qao.keep {b c : Nat} (h : qao C w H Φ s.obj c) (hm : j7 (· = b) w w') : qao C w' H Φ (s.killIf AV.isUpd).obj c := ⟨h.fz, h.obj, h.may, Nat.lt_of_lt_of_le h.lt hm.size⟩
theorem MOK.iter_at {m : Ms} {os : Nat → Option Obj} (h : MOK P C m os a w H Φ) {x : Operand} (hx : qdh m x = true) : ∃ b ti lf i, m.it = some (ti, lf) ∧ a.eval x = .pointer (some ⟨i, 0, none⟩) ∧ qao C w H Φ os b ∧ (∀ t ∈ m.tm, a.tmps.getD t undef = .map (some b)) ∧ qao C w H Φ os i ∧ qcH P w m b i lf ∧
  (∀ t ∈ ti, a.tmps.getD t undef = .pointer (some ⟨i, 0, none⟩)) ∧ ∀ n v, m.cur = some (n, v) → (Instr.entry (.pointer (some ⟨i, 0, none⟩))).run P w = .ok (.tuple #[.int .i64 n, .int .i64 v]) w := by
 obtain ⟨t, ti, lf, rfl, hit, ht⟩ := qku hx
 obtain ⟨b, _, _, hb, hat, htm, hi⟩ := h
 obtain ⟨i, h1, h2, h3, h4⟩ := hi ti lf hit
 exact ⟨b, ti, lf, i, hit, h3 t ht, hb, htm, h1, h2, h3, h4⟩
theorem qj0 (hcfg : qA P cfg) (hC : qG C cfg) (habs : ∀ {C' : Ctx} {o : Oper} {k' : St → Option R}, qG C' cfg → qk P C' s a w H Φ → qQ cfg.nt o.dst = true → qO cfg o s k' = some r → ∃ s', k' s' = some r ∧ (jX o = true → qak P C' o a w s') ∧ qa4 P C' o a w s')
  {o : Oper} {m : Ms} (hs : qk P C s a w H Φ) (hmp : s.mp = some m) (hM : MOK P C m s.obj a w H Φ) (hd : qQ cfg.nt o.dst = true) (h : qkT cfg o s m k = some r) : ∃ s', k s' = some r ∧ qcB P C o a w s' := by
 have hM' : qb5 P C s.mp s.obj a w H Φ := by rw [hmp]; exact hM
 have hdC : qQ C.nt o.dst = true := by rw [hC.nt]; exact hd
 have def1 : ∀ {k' : St → Option R}, (k' = fun s' => k (s'.withM (some (bif jX o then m.strike o.dst else (m.strike o.dst).calm)))) → qO cfg o s k' = some r → ∃ s', k s' = some r ∧ qcB P C o a w s' := by
  rintro k' rfl h
  obtain ⟨s', h1, h2, h3⟩ := habs (qgS hC) hs.rebase hd h
  cases hst : jX o with
  | true =>
   rw [hst, cond_true] at h1
   exact ⟨_, h1, qj3 hs hM' (h2 hst) (.inr ⟨m, hmp, rfl⟩)⟩
  | false =>
   rw [hst, cond_false] at h1
   exact ⟨_, h1, qin hs hM' h3 (.inr ⟨m, hmp, rfl⟩)⟩
 have same : ∀ {v : Value} {av : AV}, qg P C w H Φ s.obj av v → (execOp a.eval o).run P w = .ok (.value v) w → qcB P C o a w ((s.setDst o.dst av).withM (some (m.strike o.dst))) := by
  intro v av hv hrun
  refine qbu hrun ⟨H, Φ, (hs.setDst hdC hv).withM _, ?_⟩
  have ho : ((s.setDst o.dst av).withM (some (m.strike o.dst))).obj = s.obj := by unfold St.setDst; cases o.dst <;> rfl
  show MOK P C _ ((s.setDst o.dst av).withM (some (m.strike o.dst))).obj _ w H Φ
  rw [ho]
  exact MOK.step hM (fun b hb _ => ⟨hb, rfl⟩) (.inr ⟨rfl, rfl⟩)
 obtain ⟨b, hk, hv, hb, ⟨D, hown, hrel⟩, htm, hit⟩ := id hM
 have K := Maps.int_keyed hk.int
 have move_case : ∀ (x : Operand), (o.op = .move x ∨ o.op = .assign x) → qO cfg o s (fun s' => k (s'.withM (some (bif qbn m x then (m.strike o.dst).add o.dst else m.strike o.dst)))) = some r → ∃ s', k s' = some r ∧ qcB P C o a w s' := by
  intro x hop h
  have hst : jX o = true := by rcases hop with e | e <;> simp [jX, e]
  cases hq : qbn m x with
  | false =>
   rw [hq] at h
   exact def1 (by rw [hst]; rfl) h
  | true =>
   rw [hq] at h
   simp only [cond_true] at h
   obtain ⟨s', h1, h2, _⟩ := habs (qgS hC) hs.rebase hd h
   obtain ⟨v, g1, H', Φ', g2⟩ := h2 hst
   have g1 := g1 w (j7.refl _ _)
   have hrun : (execOp a.eval o).run P w = .ok (.value (a.eval x)) w := by
    obtain ⟨dst, op, ty, pos, after, guard⟩ := o
    rcases hop with e | e <;> (simp only at e; subst e; rfl)
   rw [hrun] at g1
   have hv : v = a.eval x := by injection g1 with g1 _; injection g1 with g1; exact g1.symm
   subst hv
   obtain ⟨k1, k2⟩ := hs.unbase g2
   obtain ⟨b, hM⟩ := id hM
   have hb := hM.step (d := o.dst) (v := a.eval x) k2 (.inr ⟨rfl, rfl⟩)
   refine ⟨_, h1, qbu hrun ⟨H', Φ', k1.withM _, b, ?_⟩⟩
   have hx := qcd hM.2.2.2.2.1 hq
   cases hdst : o.dst with
   | none => rw [hdst] at hb; exact hb
   | some d =>
    rw [hdst] at hb hd
    obtain ⟨q1, q2, q3, q4, q5, q6⟩ := hb
    refine ⟨q1, q2, q3, q4, fun t ht => ?_, q6⟩
    rcases List.mem_cons.1 ht with rfl | ht
    ·rw [qcZ (by rw [hs.size, hC.nt]; exact Eq.mp Nat.blt_eq hd), if_pos rfl]
     exact hx
    ·exact q5 t ht
 obtain ⟨dst, op, ty, pos, after, guard⟩ := o
 simp only at hdC
 unfold qkT at h
 split at h
 ·-- lookup
  rename_i T x i hop
  simp only at hop
  subst hop
  cases hq : qbn m x && decide (lk cfg.maps T = some (m.kt, m.vt)) with
  | false => rw [hq] at h; cases h
  | true =>
  rw [hq, cond_true] at h
  rw [Bool.and_eq_true] at hq
  have hx := qcd htm hq.1
  obtain ⟨hT, _, _⟩ := hcfg.maps T _ _ (of_decide_eq_true hq.2)
  split at h
  case h_2 => cases h
  rename_i n hn
  have hi := qd2 hs hn
  obtain ⟨hwf, h⟩ := qeY h
  obtain ⟨v, ps, hrun, hRv⟩ := hown.look_ok K hT (hv.zeroValue w) (qkh m.vt hv) (Maps.keyOf_int_mk hk.int hwf)
  rw [hrel.val] at hRv
  rw [hrel.has] at hrun
  split at h
  ·rename_i u hu
   rw [hu] at hRv hrun
   obtain ⟨c, rfl, hc, _⟩ := plainElem_int_inv hv.int hRv
   simp only [Prod.mk.injEq, DataW.lit.injEq, Lit.int.injEq, true_and] at hc
   obtain ⟨rfl, _⟩ := hc
   exact ⟨_, h, same (v := .tuple #[.int .i64 u, .bool true]) ⟨.int .i64 u, [.bool true], rfl, qg.mk_int _ _ _ _ _ _, .bool true, [], rfl, qg.mk_bool _ _ _ _ _, rfl⟩ (by simp [execOp, hx, hi, hrun])⟩
  ·rename_i hu
   rw [hu] at hRv hrun
   obtain ⟨c, rfl, hc, _⟩ := plainElem_int_inv hv.int hRv
   simp only [Prod.mk.injEq, DataW.lit.injEq, Lit.int.injEq, true_and] at hc
   obtain ⟨rfl, _⟩ := hc
   exact ⟨_, h, same (v := .tuple #[.int .i64 0, .bool false]) ⟨.int .i64 0, [.bool false], rfl, qg.mk_int _ _ _ _ _ _, .bool false, [], rfl, qg.mk_bool _ _ _ _ _, rfl⟩ (by simp [execOp, hx, hi, hrun])⟩
 ·-- a store
  rename_i T x i y hop
  simp only at hop
  subst hop
  cases hq : qbn m x && decide (lk cfg.maps T = some (m.kt, m.vt)) with
  | false => rw [hq] at h; cases h
  | true =>
  rw [hq, cond_true] at h
  rw [Bool.and_eq_true] at hq
  have hx := qcd htm hq.1
  obtain ⟨hT, _, _⟩ := hcfg.maps T _ _ (of_decide_eq_true hq.2)
  split at h
  case h_2 => cases h
  rename_i n u hn hu
  have hi := qd2 hs hn
  have hy := qd2 hs hu
  obtain ⟨hwf, h⟩ := qeY h
  obtain ⟨hwf2, h⟩ := qeY h
  obtain ⟨_, hlen, h⟩ := qcT h
  have hkey := Maps.keyOf_int_mk hk.int hwf
  obtain ⟨w', hrun, hown', hturn⟩ := hown.store K hT (by unfold maxLen; omega) hkey (plainElem_int hv.int hwf2)
  have hmod := j7.of_grown hturn.grown
  have hrel' := hrel.put (hown.tidy K) (K.key hkey) u
  refine ⟨_, h, qkF (w' := w') (by simp [execOp, hx, hi, hy, hrun]) ⟨H, Φ, ((hs.other hb hmod).setDst hdC (av := .dead) (v := undef) trivial).withM _, ?_⟩⟩
  have ho : ∀ mm, ((((s.killIf AV.isUpd).setDst dst .dead)).withM mm).obj = s.obj := by intro mm; unfold St.setDst; cases dst <;> rfl
  show MOK P C _ _ _ _ _ _
  rw [ho]
  refine ⟨b, hk, hv, hb.keep hmod, ⟨_, ?_, hrel'⟩, fun t ht => ?_, fun ti lf e => by cases e⟩
  ·rw [← hrel'.size]
   exact qeU hown'
  ·obtain ⟨q1, q2⟩ := qdU ht
   rw [qbb q2]; exact htm t q1
 ·-- range
  rename_i T x hop
  simp only at hop
  subst hop
  split at h
  case h_2 => cases h
  rename_i d hdst
  simp only at hdst
  subst hdst
  cases hq : qbn m x && decide (lk cfg.maps T = some (m.kt, m.vt)) with
  | false => rw [hq] at h; cases h
  | true =>
  rw [hq, cond_true] at h
  rw [Bool.and_eq_true] at hq
  have hx := qcd htm hq.1
  obtain ⟨hT, _, _⟩ := hcfg.maps T _ _ (of_decide_eq_true hq.2)
  obtain ⟨w', hrun, hrg, hgr, hsz⟩ := hown.range K hT
  have hmod := j7.of_grown0 hgr
  have hs2 := (hs.grow hmod).set (d := d) (av := .dead) (v := .pointer (some ⟨w.heap.size, 0, none⟩)) (Eq.mp Nat.blt_eq hdC) trivial
  refine ⟨_, h, qbu (w' := w') (v := .pointer (some ⟨w.heap.size, 0, none⟩)) (by simp [execOp, hx, hrun]) ⟨H, Φ, hs2.withM _, ?_⟩⟩
  have hfr : ∀ c, qao C w H Φ s.obj c → qao C w' H Φ s.obj c := fun c hc => ⟨hc.fz, hc.obj, hc.may, by have := hc.lt; omega⟩
  refine ⟨b, hk, hv, hfr b hb, ⟨D, ?_, hrel⟩, fun t ht => ?_, ?_⟩
  ·exact hrg.owns
  ·have ht' := qc1.1 ht
   rw [qbb (fun e => ht'.2 (by injection e with e; exact e.symm))]
   exact htm t ht'.1
  ·rintro ti lf e
   cases e
   refine ⟨w.heap.size, ⟨?_, ?_, .inr hs.mod.size, by omega⟩, ⟨D, _, _, hrg, hrel, fun n => ?_⟩, fun t ht => ?_, fun n v e => by cases e⟩
   ·cases hq : H w.heap.size with
    | none => rfl
    | some c => obtain ⟨t, f, h⟩ := hs.hok _ _ hq; exact absurd (Array.getElem?_eq_some_iff.1 h).1 (by omega)
   ·intro id o ho hbf
    have := ((hs.os id o ho).2 _ hbf).2.2
    omega
   ·rw [hrel.has]; exact qks
   ·rw [List.mem_singleton.1 ht]
    rw [qcZ (by rw [hs.size]; exact Eq.mp Nat.blt_eq hdC), if_pos rfl]
 ·-- next
  rename_i x hop
  simp only at hop
  subst hop
  cases hq : qdh m x with
  | false => rw [hq] at h; cases h
  | true =>
  rw [hq, cond_true] at h
  obtain ⟨b2, ti0, lf0, i, hit0, hx, hb2, htm2, hi, hia, hti, hcur⟩ := hM.iter_at hq
  split at h
  case h_2 => cases h
  rename_i ti lf hti'
  obtain ⟨ti'', e1, e2⟩ := qh0 hti'
  rw [hit0] at e1
  obtain ⟨rfl, rfl⟩ : ti'' = ti0 ∧ lf = lf0 := by injection e1 with e1; injection e1 with e1 e2; exact ⟨e1.symm, e2.symm⟩
  obtain ⟨D2, left, cnt, hrg, hrel2, hleft⟩ := hia
  rcases hrg.next K ty with ⟨_, hnone, hrun⟩ | ⟨key, val, kl, y, w', cnt', hkey, hlk, hRv, hat, hrun, hrg', _, hgr, hsz, hent⟩
  ·have hnil : lf = [] := by
    match lf, hleft with
    | [], _ => rfl
    | n :: l, hleft =>
     have := (hleft n).2 (by simp)
     rw [hnone] at this; cases this
   subst hnil
   simp only at h
   refine ⟨_, h, qbu (w' := w) (v := .tuple #[.bool false]) (by simp [execOp, hx, hrun]) ⟨H, Φ, (hs.setDst hdC (av := .cons (.val .bool false) .nil) (v := .tuple #[.bool false]) ⟨.bool false, [], rfl, qg.mk_bool _ _ _ _ _, rfl⟩).withM _, ?_⟩⟩
   have ho : ∀ mm, (((s.setDst dst (.cons (.val .bool false) .nil))).withM mm).obj = s.obj := by intro mm; unfold St.setDst; cases dst <;> rfl
   show MOK P C _ _ _ _ _ _
   rw [ho]
   exact MOK.step hM (fun b hb _ => ⟨hb, rfl⟩) (.inl rfl)
  ·obtain ⟨n, rfl, rfl, hwf⟩ := Maps.keyOf_int_inv hk.int hkey
   have hmem : n ∈ lf := (hleft n).1 hlk
   have h' : (match lkI m.kv n with
    | some v => k (((s.killIf AV.isUpd).setDst dst (.cons (.val .bool true) (.cons (avI n) (.cons (avI v) .nil)))).withM (some ⟨m.kt, m.vt, (m.strike dst).tm, m.kv, some (ti, qht n lf), some (n, v)⟩))
    | none => none) = some r := by
    split at h
    ·cases hmem
    ·exact qdI h n hmem
   obtain ⟨v0, hv0⟩ : ∃ v0, lkI m.kv n = some v0 := by
    cases hq : lkI m.kv n with
    | none => rw [hq] at h'; cases h'
    | some v0 => exact ⟨v0, rfl⟩
   rw [hv0] at h'
   have hval := hat (.lit (.int .i64 0))
   rw [hrel2.val, hv0] at hval
   simp only at hval
   obtain ⟨y1, y2⟩ := y
   simp only at hval
   subst hval
   obtain ⟨c, rfl, hc, _⟩ := plainElem_int_inv hv.int hRv
   simp only [Prod.mk.injEq, DataW.lit.injEq, Lit.int.injEq, true_and] at hc
   obtain ⟨rfl, _⟩ := hc
   have hmod := j7.of_grown hgr
   refine ⟨_, h', qbu (w' := w') (v := .tuple #[.bool true, .int .i64 n, .int .i64 v0]) (by simp [execOp, hx, hrun])
    ⟨H, Φ, ((hs.other hi hmod).setDst hdC (av := .cons (.val .bool true) (.cons (avI n) (.cons (avI v0) .nil))) (v := .tuple #[.bool true, .int .i64 n, .int .i64 v0])
     ⟨.bool true, [.int .i64 n, .int .i64 v0], rfl, qg.mk_bool _ _ _ _ _, .int .i64 n, [.int .i64 v0], rfl, qg.mk_int _ _ _ _ _ _, .int .i64 v0, [], rfl, qg.mk_int _ _ _ _ _ _, rfl⟩).withM _, ?_⟩⟩
   have ho : ∀ av mm, ((((s.killIf AV.isUpd).setDst dst av)).withM mm).obj = s.obj := by intro av mm; unfold St.setDst; cases dst <;> rfl
   show MOK P C _ _ _ _ _ _
   rw [ho]
   refine ⟨b2, hk, hv, hb2.keep hmod, ⟨D2, hrg'.owns, hrel2⟩, fun t ht => ?_, ?_⟩
   ·obtain ⟨q1, q2⟩ := qdU ht
    rw [qbb q2]; exact htm2 t q1
   ·rintro ti3 lf3 e
    cases e
    refine ⟨i, hi.keep hmod, ⟨D2, _, cnt', hrg', hrel2, fun j => ?_⟩, fun t ht => ?_, ?_⟩
    ·rw [Bool.and_eq_true, hleft, qfE]
     refine and_congr_right (fun _ => ?_)
     constructor
     ·intro hs2 e
      subst e
      rw [WideAt.sameKey_self (K.key hkey)] at hs2
      cases hs2
     ·intro hne
      rw [Maps.sameKey_ne (qhe hne)]; rfl
    ·obtain ⟨q1, q2⟩ := e2 t ht
     rw [qbb q2]; exact hti t q1
    ·rintro n2 v2 e
     cases e
     exact hent
 ·-- entry
  rename_i x hop
  simp only at hop
  subst hop
  cases hq : qdh m x with
  | false => rw [hq] at h; cases h
  | true =>
  rw [hq, cond_true] at h
  obtain ⟨b2, ti0, lf0, i, hit0, hx, hb2, htm2, hi, hia, hti, hcur⟩ := hM.iter_at hq
  split at h
  case h_2 => cases h
  rename_i n v hc
  have hrun := hcur n v hc
  exact ⟨_, h, same (v := .tuple #[.int .i64 n, .int .i64 v]) ⟨.int .i64 n, [.int .i64 v], rfl, qg.mk_int _ _ _ _ _ _, .int .i64 v, [], rfl, qg.mk_int _ _ _ _ _ _, rfl⟩ (by simp [execOp, hx, hrun])⟩
 ·-- a call
  rename_i c hop
  simp only at hop
  subst hop
  split at h
  ·-- len
   rename_i hc
   split at h
   case h_2 => cases h
   rename_i x T hxl hTl
   cases hq : qbn m x && decide (lk cfg.maps T = some (m.kt, m.vt)) with
   | false =>
    rw [hq, cond_false] at h
    have hst : jX ⟨dst, .call c, ty, pos, after, guard⟩ = true := by simp [jX, hc]
    exact def1 (by rw [hst]; rfl) h
   | true =>
    rw [hq, cond_true] at h
    rw [Bool.and_eq_true] at hq
    have hx := qcd htm hq.1
    obtain ⟨hT, _, _⟩ := hcfg.maps T _ _ (of_decide_eq_true hq.2)
    have hrun := hown.len hT ty
    rw [hrel.size] at hrun
    have e2 : c = ⟨.builtin .len, #[x], #[T]⟩ := by
     obtain ⟨c1, c2, c3⟩ := c
     simp only at hc hxl hTl
     rw [hc, ← Array.toArray_toList (xs := c2), hxl, ← Array.toArray_toList (xs := c3), hTl]
    subst e2
    exact ⟨_, h, same (qg.mk_int w H Φ s.obj .i64 m.kv.length) (by simp [execOp, resolve, invoke, builtin, hx, hrun])⟩
  ·-- delete
   rename_i hc
   split at h
   case h_2 => cases h
   rename_i x i T T' hxl hTl
   cases hq : qbn m x && decide (lk cfg.maps T = some (m.kt, m.vt)) && Nat.beq T' m.kt with
   | false => rw [hq] at h; cases h
   | true =>
   rw [hq, cond_true] at h
   rw [Bool.and_eq_true, Bool.and_eq_true] at hq
   have hx := qcd htm hq.1.1
   have hT' := Nat.eq_of_beq_eq_true hq.2
   subst hT'
   obtain ⟨hT, _, _⟩ := hcfg.maps T _ _ (of_decide_eq_true hq.1.2)
   split at h
   case h_2 => cases h
   rename_i n hn
   have hi := qd2 hs hn
   obtain ⟨hwf, h⟩ := qeY h
   have hkey := Maps.keyOf_int_mk hk.int hwf
   obtain ⟨w', hrun, hown', hturn⟩ := hown.drop K hT hkey ty
   have hmod := j7.of_grown hturn.grown
   have hrel' := hrel.del (hown.tidy K) n
   have e2 : c = ⟨.builtin .delete, #[x, i], #[T, m.kt]⟩ := by
    obtain ⟨c1, c2, c3⟩ := c
    simp only at hc hxl hTl
    rw [hc, ← Array.toArray_toList (xs := c2), hxl, ← Array.toArray_toList (xs := c3), hTl]
   subst e2
   refine ⟨_, h, qbu (w' := w') (v := .tuple #[]) (by simp [execOp, resolve, invoke, builtin, hx, hi, hrun]) ⟨H, Φ, ((hs.other hb hmod).setDst hdC (av := .nil) (v := .tuple #[]) rfl).withM _, ?_⟩⟩
   have ho : ∀ mm, ((((s.killIf AV.isUpd).setDst dst .nil)).withM mm).obj = s.obj := by intro mm; unfold St.setDst; cases dst <;> rfl
   show MOK P C _ _ _ _ _ _
   rw [ho]
   refine ⟨b, hk, hv, hb.keep hmod, ⟨_, ?_, hrel'⟩, fun t ht => ?_, fun ti lf e => by cases e⟩
   ·rw [← hrel'.size]
    exact qeU hown'
   ·obtain ⟨q1, q2⟩ := qdU ht
    rw [qbb q2]; exact htm t q1
  ·exact def1 rfl h
 ·rename_i x hop
  simp only at hop
  subst hop
  exact move_case x (.inl rfl) h
 ·rename_i x hop
  simp only at hop
  subst hop
  exact move_case x (.inr rfl) h
 ·exact def1 rfl h
end
end Go.Vi
namespace Go.Vi
def qcu (cfg : jM) (o : Oper) : Bool := jX o || match o.op with
 | .call c => match c.callee with
  | .value (.func f) => match lk cfg.prims f with
   | some p => qgT p && ((lk cfg.alts f).isNone && (o.dst.bind (lk cfg.inl)).isNone)
   | none => false
  | _ => false
 | _ => false
section
variable {P : Program} {C : Ctx} {cfg : jM} {R : Type} {r : R} {s : St} {a : Act} {w : World} {H : FH} {Φ : Nat → qC}
theorem qbX (hcfg : qA P cfg) (hC : qG C cfg) {o : Oper} {k : St → Option R} (hs : Sim P C s a w) (hd : qQ cfg.nt o.dst = true) (hq : jX o = true) (h : qO cfg o s k = some r) : ∃ s', k s' = some r ∧ qak P C o a w s' := by
 obtain ⟨H, Φ, hs⟩ := hs
 obtain ⟨dst, op, ty, pos, after, guard⟩ := o
 cases op
 case move => exact op_move hcfg hC hs hd h
 case assign => exact qlJ hcfg hC hs hd h
 case pick => exact op_pick hcfg hC hs hd h
 case load => exact op_load hcfg hC hs hd h
 case nilCheck => exact qjx hcfg hC hs hd h
 case binOp => exact op_binOp hcfg hC hs hd h
 case unOp => exact op_unOp hcfg hC hs hd h
 case convert => exact qkm hcfg hC hs hd h
 case fieldAddr => exact qiO hcfg hC hs hd h
 case indexAddr => exact qiN hcfg hC hs hd h
 case extract => exact qkl hcfg hC hs hd h
 case slice => exact op_slice hcfg hC hs hd h
 case makeFunc fn first caps =>
  cases fn
  case func f => exact qjz hcfg hC hs hd h
  all_goals cases hq
 case call c =>
  simp only [jX] at hq
  split at hq
  ·rename_i hc; exact op_len hcfg hC hc hs hd h
  ·rename_i hc; exact op_max hcfg hC hc hs hd h
  ·rename_i hc; exact op_min hcfg hC hc hs hd h
  ·cases hq
 all_goals cases hq
theorem qjZ (hcfg : qA P cfg) (hC : qG C cfg) {o : Oper} {k : St → Option R} (hs : Sim P C s a w) (hd : qQ cfg.nt o.dst = true) (hq : qcu cfg o = true) (h : qO cfg o s k = some r) : ∃ s', k s' = some r ∧ Quiet P C o a w s' := by
 unfold qcu at hq
 cases hst : jX o with
 | true =>
  obtain ⟨s', h1, h2⟩ := qbX hcfg hC hs hd hst h
  exact ⟨s', h1, h2.quiet⟩
 | false =>
  rw [hst, Bool.false_or] at hq
  obtain ⟨H, Φ, hs⟩ := hs
  obtain ⟨dst, op, ty, pos, after, guard⟩ := o
  cases op
  case call c =>
   simp only at hq
   split at hq
   ·rename_i f hc
    split at hq
    ·rename_i p hp
     rw [Bool.and_eq_true, Bool.and_eq_true] at hq
     exact op_callq hcfg hC hc hp (Option.isNone_iff_eq_none.1 hq.2.2) (Option.isNone_iff_eq_none.1 hq.2.1) hq.1 hs hd h
    ·cases hq
   ·cases hq
  all_goals cases hq
theorem qkS (hcfg : qA P cfg) (hC : qG C cfg) {o : Oper} {k : St → Option R} (hs : Sim P C s a w) (hd : qQ cfg.nt o.dst = true) (h : qO cfg o s k = some r) : ∃ s', k s' = some r ∧ qa4 P C o a w s' := by
 cases hst : jX o with
 | true =>
  obtain ⟨s', h1, h2⟩ := qbX hcfg hC hs hd hst h
  exact ⟨s', h1, h2.quiet.goes⟩
 | false =>
 obtain ⟨H, Φ, hs⟩ := hs
 obtain ⟨dst, op, ty, pos, after, guard⟩ := o
 cases op
 case alloc => exact op_alloc hcfg hC hs hd h
 case box => exact op_box hcfg hC hs hd h
 case store => exact op_store hcfg hC hs hd h
 case makeSlice => exact qiM hcfg hC hs hd h
 case build => exact op_build hcfg hC hs hd h
 case buildSlice => exact qhT hcfg hC hs hd h
 case call c =>
  match hc : c.callee with
  | .value f => exact op_callv hcfg hC hc hs hd h
  | .invoke _ _ => simp [qO, hc] at h
  | .builtin b =>
   cases b
   case append => exact qlK hcfg hC hc hs hd h
   case copy => exact op_copy hcfg hC hc hs hd h
   case clear => exact op_clear hcfg hC hc hs hd h
   case len => simp [jX, hc] at hst
   case max => simp [jX, hc] at hst
   case min => simp [jX, hc] at hst
   all_goals simp [qO, hc] at h
 all_goals first | (simp [jX] at hst; done) | (simp only [qO] at h; cases h; done) | (rename_i fn _ _; cases fn <;> first | (simp [jX] at hst; done) | (simp only [qO] at h; cases h; done))
theorem qhG (hcfg : qA P cfg) (hC : qG C cfg) {o : Oper} {k : St → Option R} (hs : qk P C s a w H Φ) (hd : qQ cfg.nt o.dst = true) (h : qO cfg o s k = some r) : ∃ s', k s' = some r ∧ (jX o = true → qak P C o a w s') ∧ qa4 P C o a w s' := by
 cases hst : jX o with
 | true =>
  obtain ⟨s', h1, h2⟩ := qbX hcfg hC ⟨H, Φ, hs⟩ hd hst h
  exact ⟨s', h1, fun _ => h2, h2.quiet.goes⟩
 | false =>
  obtain ⟨s', h1, h2⟩ := qkS hcfg hC ⟨H, Φ, hs⟩ hd h
  exact ⟨s', h1, (fun e => by cases e), h2⟩
theorem Sim.withM (h : Sim P C s a w) (m : Option Ms) : Sim P C (s.withM m) a w := by obtain ⟨H, Φ, h⟩ := h; exact ⟨H, Φ, h.withM m⟩
theorem qdO (hcfg : qA P cfg) (hC : qG C cfg) {o : Oper} {k : St → Option R} (hs : qab P C s a w) (hd : qQ cfg.nt o.dst = true) (h : qbO cfg o s k = some r) : ∃ s', k s' = some r ∧ qcB P C o a w s' := by
 obtain ⟨H, Φ, hs, hM⟩ := hs
 unfold qbO at h
 split at h
 ·rename_i hmp
  split at h
  ·rename_i T hop
   split at h
   case h_2 => cases h
   rename_i d kt vt hdst hT
   obtain ⟨hu, hk, hv⟩ := hcfg.maps T kt vt hT
   have hdl : d < C.nt := by rw [hdst] at hd; rw [hC.nt]; exact Eq.mp Nat.blt_eq hd
   have hmod := qbt w (.map #[] 0)
   have hs2 := (hs.grow hmod).set (d := d) (av := .dead) (v := .map (some w.heap.size)) hdl trivial
   have hrun : (execOp a.eval o).run P w = .ok (.value (.map (some w.heap.size))) (w.alloc (.map #[] 0)) := by
    obtain ⟨dst, op, ty, pos, after, guard⟩ := o
    simp only at hop
    subst hop
    simp [execOp, RowKit.run_makeMap]
   refine ⟨_, h, qbu hrun ?_⟩
   rw [hdst]
   refine ⟨H, Φ, hs2.withM _, w.heap.size, hk, hv, ⟨?_, ?_, .inr hs.mod.size, by simp⟩, ⟨.map [], World.ownsMap_made _ _ _ _, qhJ.empty⟩, fun t ht => ?_, fun ti lf e => by cases e⟩
   ·cases hq : H w.heap.size with
    | none => rfl
    | some c => obtain ⟨t, f, h⟩ := hs.hok _ _ hq; exact absurd (Array.getElem?_eq_some_iff.1 h).1 (by omega)
   ·intro id o ho hbf
    have := ((hs.os id o ho).2 _ hbf).2.2
    omega
   ·rw [List.mem_singleton.1 ht]
    rw [qcZ (by rw [hs.size]; exact hdl), if_pos rfl]
  ·obtain ⟨s', h1, _, h3⟩ := qhG hcfg (qgS hC) hs.rebase hd h
   exact ⟨_, h1, qin hs hM h3 (.inl rfl)⟩
 ·rename_i m hmp
  rw [hmp] at hM
  exact qj0 hcfg hC (fun hC' hs' hd' h' => qhG hcfg hC' hs' hd' h') hs hmp hM hd h
theorem qdN (hmp : s.mp = none) {o : Oper} (hq : qcu cfg o = true) {k : St → Option R} : qbO cfg o s k = qO cfg o s fun s' => k (s'.withM none) := by
 unfold qbO
 rw [hmp]
 simp only
 split
 ·rename_i hop
  simp [qcu, jX, hop] at hq
 ·rfl
theorem qk.know (hs : qk P C s a w H Φ) {t : Nat} {av : AV} (hv : qg P C w H Φ s.obj av (a.tmps.getD t undef)) : qk P C (s.set t av) a w H Φ := by
 refine hs.weaken (fun _ _ h => h) ?_
 intro u av' hu
 rw [St.get_set] at hu
 split at hu
 ·rename_i e; subst e; cases hu; exact hv
 ·exact hs.ts u av' hu
theorem skip_obj (d : Option Nat) : (s.skip d).obj = s.obj := by unfold St.skip St.setDst; cases d <;> rfl
theorem qab.dead (hC : qG C cfg) (hs : qab P C s a w) {d : Option Nat} (hd : qQ cfg.nt d = true) : qab P C (s.skip d) (a.put d undef) w := by
 obtain ⟨H, Φ, hs, hM⟩ := hs
 refine ⟨H, Φ, (hs.setDst (by rw [hC.nt]; exact hd) (av := .nil) rfl).withM _, ?_⟩
 rw [skip_obj]
 show qb5 P C (s.mp.map fun m => m.strike d) s.obj _ w H Φ
 cases hmp : s.mp with
 | none => trivial
 | some m =>
  rw [hmp] at hM
  exact MOK.step hM (fun b hb _ => ⟨hb, rfl⟩) (.inr ⟨rfl, rfl⟩)
theorem qbK {ops : Array Oper} {o : Oper} {rest : List Oper} {kk : St → Option R} (hs : qab P C s a w) (h : qam cfg ops kk (o :: rest) s = some r) :
  qQ cfg.nt o.dst = true ∧ ((Region.wanted o (yielded ops a.tmps) = true ∧ ∃ s2, (qab P C s2 a w ∧ (s.mp = none → s2.mp = none)) ∧ qbO cfg o s2 (fun s => qam cfg ops kk rest s) = some r) ∨
   (Region.wanted o (yielded ops a.tmps) = false ∧ ∃ s2, (qab P C s2 a w ∧ (s.mp = none → s2.mp = none)) ∧ qam cfg ops kk rest (s2.skip o.dst) = some r)) := by
 simp only [qam] at h
 cases hd : qQ cfg.nt o.dst with
 | false => rw [hd] at h; cases h
 | true =>
 rw [hd, cond_true] at h
 refine ⟨rfl, ?_⟩
 unfold Region.wanted
 split at h
 ·rename_i hg
  rw [hg]
  exact .inl ⟨rfl, s, ⟨hs, id⟩, h⟩
 ·rename_i j want hg
  rw [hg]
  split at h
  ·cases h
  ·rename_i t ht
   split at h
   ·rename_i b hb
    obtain ⟨H, Φ, hs, hM⟩ := hs
    have hr := hs.ts t _ hb
    have hv := hr.bool
    have hy : yielded ops a.tmps j = some b := by
     unfold yielded
     rw [ht]
     simp only [Option.bind_some]
     rw [Array.getD_eq_getD_getElem?] at hv
     cases hq : a.tmps[t]? with
     | none => rw [hq] at hv; simp [undef] at hv
     | some u =>
      rw [hq] at hv
      simp only [Option.getD_some] at hv
      rw [hv]
    simp only [hy]
    have hs2 : qab P C (s.set t (.val .bool b)) a w ∧ (s.mp = none → (s.set t (.val .bool b)).mp = none) := ⟨⟨H, Φ, hs.know hr, hM⟩, fun h => h⟩
    cases b with
    | true =>
     simp only [cond_true] at h
     cases want with
     | true => exact .inl ⟨rfl, _, hs2, h⟩
     | false => exact .inr ⟨rfl, _, hs2, h⟩
    | false =>
     simp only [cond_false] at h
     cases want with
     | true => exact .inr ⟨rfl, _, hs2, h⟩
     | false => exact .inl ⟨rfl, _, hs2, h⟩
   ·rename_i hb
    obtain ⟨H, Φ, hs, hM⟩ := hs
    have hv : a.tmps.getD t undef = .tuple #[] := hs.ts t _ hb
    have hy : yielded ops a.tmps j = none := by
     unfold yielded
     rw [ht]
     simp only [Option.bind_some]
     rw [Array.getD_eq_getD_getElem?] at hv
     cases hq : a.tmps[t]? with
     | none => rfl
     | some u =>
      rw [hq] at hv
      simp only [Option.getD_some] at hv
      rw [hv]
    simp only [hy]
    exact .inr ⟨by simp, s, ⟨⟨H, Φ, hs, hM⟩, id⟩, h⟩
   ·cases h
theorem qdx {o : Oper} {s' : St} {K : Act → World → Prop} {Q : Exit → Act → World → Prop} (h : qcB P C o a w s') (hK : ∀ a w, qab P C s' a w → K a w) : o.wp P a w K Q := by
 unfold qcB at h
 unfold Oper.wp Oper.upon
 split at h
 ·rename_i v w' e; rw [e]; exact hK _ _ h
 ·rename_i w' e; rw [e]; exact hK _ _ h
 ·rename_i f args w' e
  rw [e]
  refine h.mono ?_
  rintro e w'' ⟨v, rfl, hsim⟩
  exact hK _ _ hsim
 ·exact h.elim
theorem qiL (hcfg : qA P cfg) (hC : qG C cfg) {ops : Array Oper} {kk : St → Option R} {Q : Exit → Act → World → Prop} (hQ : ∀ s a w, qab P C s a w → kk s = some r → Q .normal a w) :
  ∀ {l : List Oper} {s : St} {a : Act} {w : World}, qab P C s a w → qam cfg ops kk l s = some r → wpList P ops Q l a w
 | [], s, a, w, hs, h => hQ s a w hs h
 | o :: rest, s, a, w, hs, h => by
  obtain ⟨hd, h⟩ := qbK hs h
  unfold wpList
  rcases h with ⟨hw, s2, ⟨hs2, _⟩, h⟩ | ⟨hw, s2, ⟨hs2, _⟩, h⟩
  ·rw [hw, if_pos rfl]
   obtain ⟨s', h, hg⟩ := qdO hcfg hC hs2 hd h
   exact .inl (qdx hg (fun a w hs => qiL hcfg hC hQ hs h))
  ·rw [hw, if_neg (by simp)]
   exact qiL hcfg hC hQ (hs2.dead hC hd) h
theorem qfk (hcfg : qA P cfg) (hC : qG C cfg) {ops : Array Oper} {kk : St → Option R} {K : Act → Prop} (hK : ∀ s a, Sim P C s a w → s.mp = none → kk s = some r → K a) :
  ∀ {l : List Oper} {s : St} {a : Act}, l.all (qcu cfg) = true → Sim P C s a w → s.mp = none → qam cfg ops kk l s = some r → wpQuiet P ops (j7 jP w) K l a
 | [], s, a, _, hs, hmp, h => hK s a hs hmp h
 | o :: rest, s, a, hq, hs, hmp, h => by
  simp only [List.all_cons, Bool.and_eq_true] at hq
  obtain ⟨hd, h⟩ := qbK (hs.simM hmp) h
  unfold wpQuiet
  rcases h with ⟨hw, s2, ⟨hs2, hm2⟩, h⟩ | ⟨hw, s2, ⟨hs2, hm2⟩, h⟩
  ·rw [hw, if_pos rfl]
   rw [qdN (hm2 hmp) hq.1] at h
   obtain ⟨s', h, v, hv, hsim⟩ := qjZ hcfg hC hs2.sim hd hq.1 h
   exact ⟨v, hv, qfk hcfg hC hK hq.2 (hsim.withM none) rfl h⟩
  ·rw [hw, if_neg (by simp)]
   exact qfk hcfg hC hK hq.2 (hs2.dead hC hd).sim (by show Option.map _ _ = none; rw [hm2 hmp]; rfl) h
theorem qcU {o : Oper} (h : jX o = true) : qcu cfg o = true := by unfold qcu; rw [h]; rfl
theorem qfj (hcfg : qA P cfg) (hC : qG C cfg) {ops : Array Oper} {kk : St → Option R} {K : Act → Prop} {l2 : List Oper} (hK : ∀ s a, Sim P C s a w → s.mp = none → qam cfg ops kk l2 s = some r → K a) :
  ∀ {l : List Oper} {s : St} {a : Act}, l.all jX = true → Sim P C s a w → s.mp = none → qam cfg ops kk (l ++ l2) s = some r → wpStill P ops w K l a
 | [], s, a, _, hs, hmp, h => hK s a hs hmp h
 | o :: rest, s, a, hq, hs, hmp, h => by
  simp only [List.all_cons, Bool.and_eq_true] at hq
  obtain ⟨hd, h⟩ := qbK (hs.simM hmp) h
  unfold wpStill
  rcases h with ⟨hw, s2, ⟨hs2, hm2⟩, h⟩ | ⟨hw, s2, ⟨hs2, hm2⟩, h⟩
  ·rw [hw, if_pos rfl]
   rw [qdN (cfg := cfg) (hm2 hmp) (qcU hq.1)] at h
   obtain ⟨s', h, v, hv, hsim⟩ := qbX hcfg hC hs2.sim hd hq.1 h
   unfold Oper.still
   rw [hv w (j7.refl _ _)]
   exact ⟨rfl, qfj hcfg hC hK hq.2 (hsim.withM none) rfl h⟩
  ·rw [hw, if_neg (by simp)]
   exact qfj hcfg hC hK hq.2 (hs2.dead hC hd).sim (by show Option.map _ _ = none; rw [hm2 hmp]; rfl) h
def drawR (cfg : jM) (ops : Array Oper) : Bool :=
 (ops.toList.all (qcu cfg) && Region.lexB .any ops) || (List.range ops.size).any fun n => (ops.toList.take n).all jX && Region.lexTailB .any ops n
theorem qcS (w : World) : j7 jP w { w with drawn := w.drawn + 1 } := ⟨rfl, rfl, rfl, Nat.le_refl _, fun _ _ _ => rfl⟩
theorem qlD (hm : P.follows .mixedOrders = true) (hcfg : qA P cfg) (hC : qG C cfg) {id : Nat} {ops : Array Oper} {draw : Bool} (hdraw : draw = true → drawR cfg ops = true ∧ s.mp = none) {kk : St → Option R} {Q : Exit → Act → World → Prop} (hQ : ∀ s a w, qab P C s a w → kk s = some r → Q .normal a w)
  (hs : qab P C s a w) (h : qam cfg ops kk ops.toList s = some r) : (Code.region id ops draw).wp P Q a w := by
 cases draw with
 | false => exact wp_region_list (qiL hcfg hC hQ hs h)
 | true =>
  obtain ⟨hd, hmp⟩ := hdraw rfl
  unfold drawR at hd
  rw [Bool.or_eq_true] at hd
  have hs1 : Sim P C s a { w with drawn := w.drawn + 1 } := hs.sim.grow (qcS w)
  rcases hd with hd | hd
  ·rw [Bool.and_eq_true] at hd
   exact wp_region_quiet (C := j7 jP { w with drawn := w.drawn + 1 }) hm hd.2 (j7.refl _ _)
    (qfk hcfg hC (fun s a hsim hmp hk w' hm' => hQ s a w' ((hsim.grow hm').simM hmp) hk) hd.1 hs1 hmp h)
  ·obtain ⟨n, _, hn⟩ := List.any_eq_true.1 hd
   rw [Bool.and_eq_true] at hn
   have := wp_region_still_tail (P := P) (id := id) (Q := Q) (a := a) (w := w) (l := ops.toList) n hm (by simpa using hn.2)
    (by
     simp only [Array.toArray_toList]
     exact qfj hcfg hC (l2 := ops.toList.drop n) (fun s a hsim hmp hk => qiL hcfg hC hQ (hsim.simM hmp) hk) hn.1 hs1 hmp (by rw [List.take_append_drop]; exact h))
   simpa using this
theorem any_step (hcfg : qA P cfg) (hC : qG C cfg) {ops : Array Oper} {K : Act → World → Prop} {kk : St → Option R} {Q : Exit → Act → World → Prop} {i : Nat} (hK : ∀ s a w, qab P C s a w → kk s = some r → K a w)
  (hs : qab P C s a w) (h : qam cfg ops kk (qej ops i) s = some r) : wpOp P ops Q i K a w := by
 unfold wpOp
 unfold qej at h
 cases ho : ops[i]? with
 | none => rw [ho] at h; exact hK _ _ _ hs h
 | some o =>
  rw [ho] at h
  obtain ⟨hd, h⟩ := qbK hs h
  rcases h with ⟨hw, s2, ⟨hs2, _⟩, h⟩ | ⟨hw, s2, ⟨hs2, _⟩, h⟩
  ·simp only [hw, if_true]
   obtain ⟨s', h, hg⟩ := qdO hcfg hC hs2 hd h
   exact .inl (qdx hg (fun a w hs => hK _ _ _ hs h))
  ·simp only [hw]
   exact hK _ _ _ (hs2.dead hC hd) h
theorem qab.le (hs : qab P C s a w) : HOk C.H0 w := by
 obtain ⟨H, Φ, h, _⟩ := hs
 exact fun b c hb => h.hok b c (h.le b c hb)
theorem qk.rebaseM (hs : qk P C s a w H Φ) (hm : s.mp = none) : qab P (reC C w H) s a w := ⟨H, Φ, hs.rebase, by rw [hm]; trivial⟩
theorem qk.unbaseM {s' : St} {a' : Act} {w' : World} (hs : qk P C s a w H Φ) (h : qab P (reC C w H) s' a' w') : qab P C s' a' w' := by
 obtain ⟨H', Φ', h, hM⟩ := h
 refine ⟨H', Φ', (hs.unbase h).1, ?_⟩
 have hmay : ∀ b, qao (reC C w H) w' H' Φ' s'.obj b → qao C w' H' Φ' s'.obj b := by
  intro b hb
  refine ⟨hb.fz, hb.obj, ?_, hb.lt⟩
  rcases hb.may with h1 | h1
  ·exact h1.1
  ·exact .inr (Nat.le_trans hs.mod.size h1)
 unfold qb5 at hM ⊢
 cases hmp : s'.mp with
 | none => trivial
 | some m =>
  rw [hmp] at hM
  obtain ⟨b, q1, q2, q3, q4, q5, q6⟩ := hM
  refine ⟨b, q1, q2, hmay _ q3, q4, q5, fun ti lf e => ?_⟩
  obtain ⟨i, k1, k2⟩ := q6 ti lf e
  exact ⟨i, hmay _ k1, k2⟩
theorem qec {ops : Array Oper} {Q : Exit → Act → World → Prop} {S S' : World → Prop} (hS : ∀ w, S' w → S w) : ∀ (n : Nat) (listed : Array Bool) (a : Act) (w : World), wpAnyH P .any ops Q S' n listed a w → wpAnyH P .any ops Q S n listed a w
 | 0, _, _, _, h => h
 | n + 1, _, _, _, h => ⟨h.1, fun i hi => wpOp_mono (fun a' w' h' => ⟨hS _ h'.1, qec hS n _ a' w' h'.2⟩) (h.2 i hi)⟩
theorem qcy {ops : Array Oper} : ∀ {l dec : List Nat} {s : St} {k : List Nat → St → Option R}, qab P C s a w → decK ops l dec s k = some r → ∃ dec' s', qab P C s' a w ∧ k dec' s' = some r
 | [], dec, s, k, hs, h => ⟨dec, s, hs, h⟩
 | i :: l, dec, s, k, hs, h => by
  unfold decK at h
  split at h
  ·exact qcy hs h
  ·rename_i j want _
   cases hj : qcX j dec with
   | true => rw [hj] at h; exact qcy hs h
   | false =>
   rw [hj, cond_false] at h
   split at h
   ·exact qcy hs h
   ·rename_i t _
    split at h
    ·rename_i b hb
     obtain ⟨H, Φ, hs, hM⟩ := hs
     have hr := hs.ts t _ hb
     have hs2 : qab P C (s.set t (.val .bool b)) a w := ⟨H, Φ, hs.know hr, hM⟩
     cases b with
     | true => exact qcy hs2 h
     | false => exact qcy hs2 h
    ·exact qcy hs h
    ·exact qcy hs h
theorem qkE {ops : Array Oper} {o : Oper} {v : Bool} (hs : qk P C s a w H Φ) (h : qgp ops s o.guard = some v) : Region.wanted o (yielded ops a.tmps) = v := by
 unfold Region.wanted
 cases hg : o.guard with
 | none => rw [hg] at h; simp only [qgp] at h; cases h; rfl
 | some q =>
  obtain ⟨j, want⟩ := q
  rw [hg] at h
  simp only [qgp] at h
  split at h
  ·cases h
  ·rename_i t ht
   split at h
   ·rename_i b hb
    cases h
    have hv := (hs.ts t _ hb).bool
    have hy : yielded ops a.tmps j = some b := by
     unfold yielded
     rw [ht]
     simp only [Option.bind_some]
     rw [Array.getD_eq_getD_getElem?] at hv
     cases hq : a.tmps[t]? with
     | none => rw [hq] at hv; simp [undef] at hv
     | some u =>
      rw [hq] at hv
      simp only [Option.getD_some] at hv
      rw [hv]
    simp only [hy]
    cases b <;> cases want <;> rfl
   ·rename_i hb
    cases h
    have hv : a.tmps.getD t undef = .tuple #[] := hs.ts t _ hb
    have hy : yielded ops a.tmps j = none := by
     unfold yielded
     rw [ht]
     simp only [Option.bind_some]
     rw [Array.getD_eq_getD_getElem?] at hv
     cases hq : a.tmps[t]? with
     | none => rfl
     | some u =>
      rw [hq] at hv
      simp only [Option.getD_some] at hv
      rw [hv]
    simp only [hy]
    simp
   ·cases h
theorem qjj (hcfg : qA P cfg) (hs : qk P C s a w H Φ) {o : Oper} (h : qgx cfg s o.op = true) : ∃ v, ∀ w', HOk H w' → (execOp a.eval o).run P w' = .ok (.value v) w' := by
 obtain ⟨dst, op, ty, pos, after, guard⟩ := o
 unfold qgx at h
 split at h
 ·rename_i x hop
  simp only at hop
  subst hop
  exact ⟨a.eval x, fun w' _ => by simp [execOp]⟩
 ·rename_i T x hop
  simp only at hop
  subst hop
  split at h
  case h_3 => cases h
  ·rename_i σ y he
   obtain ⟨hty, _⟩ := hcfg.ty T _ (of_decide_eq_true h)
   obtain ⟨hfz, b, o, blk, hv, hH, hrep⟩ := qo hs qD he
   refine ⟨jY σ (seg blk o σ.size), fun w' hw' => ?_⟩
   obtain ⟨t, f, hb⟩ := hw' b blk hH
   simp [execOp, hv, qaM hty hb (qn.length σ hrep)]
  ·rename_i i f n he
   simp only [Bool.and_eq_true] at h
   obtain ⟨q1, q2, q3⟩ := h
   obtain rfl := Nat.eq_of_beq_eq_true q1
   have q2 := Nat.eq_of_beq_eq_true q2
   obtain ⟨b, cv, h1, ⟨h2, h3⟩, hv⟩ := qo hs qD he
   obtain ⟨σ, hT⟩ : ∃ σ, lk cfg.ty T = some (.ptr σ) := by
    unfold qeX at q3
    split at q3
    ·exact ⟨_, by assumption⟩
    ·cases q3
   obtain ⟨hty, hfz⟩ := hcfg.ty T _ hT
   rw [q2] at h2
   obtain ⟨u, rfl⟩ : ∃ u, cv = [u] := by
    match cv, h2 with
    | [u], _ => exact ⟨u, rfl⟩
   refine ⟨jY (.ptr σ) [u], fun w' hw' => ?_⟩
   obtain ⟨t, f', hb⟩ := hw' b _ h1
   have := qaM hty (o := 0) hb rfl
   have hv' : a.eval x = .pointer (some ⟨b, 0, none⟩) := hv
   simp [execOp, hv', this]
   rfl
 ·rename_i T x j hop
  simp only at hop
  subst hop
  split at h
  case h_3 => cases h
  ·rename_i σ y t' he hT
   obtain ⟨hty, hfz'⟩ := hcfg.ty T _ hT
   obtain ⟨fs, hu, hfs⟩ := hty.str
   obtain ⟨f, σ', q1, q2, q3, q4, q5, q6, q7⟩ := hfs.at t' h
   obtain ⟨hfz, b, o, blk, hv, hH, hrep⟩ := qo hs qD he
   refine ⟨.pointer (some ⟨b, o + f.offset, none⟩), fun w' _ => ?_⟩
   simp [execOp, hv, qct hu q1 q3]
  ·rename_i i p t' he hT
   obtain ⟨hty, hfz'⟩ := hcfg.ty T _ hT
   obtain ⟨fs, hu, hfs⟩ := hty.str
   obtain ⟨f, σ', q1, q2, q3, q4, q5, q6, q7⟩ := hfs.at t' h
   obtain ⟨ob, y, b, o, _, _, _, _, hv⟩ := qo hs qD he
   refine ⟨.pointer (some ⟨b, o + f.offset, none⟩), fun w' _ => ?_⟩
   simp [execOp, hv, qct hu q1 q3]
 ·rename_i x hop
  simp only at hop
  subst hop
  split at h
  case h_3 => cases h
  ·rename_i σ y he
   obtain ⟨_, b, off, blk, hv, _⟩ := qo hs qD he
   exact ⟨a.eval x, fun w' _ => by simp [execOp, hv]⟩
  ·rename_i i p he
   obtain ⟨o, y, b, off, _, _, _, _, hv⟩ := qo hs qD he
   exact ⟨a.eval x, fun w' _ => by simp [execOp, hv]⟩
 ·rename_i x i hop
  simp only at hop
  subst hop
  split at h
  case h_3 => cases h
  ·rename_i b c he
   obtain ⟨u, us, hv, _, _⟩ := qo hs qD he
   exact ⟨u, fun w' _ => by simp [execOp, hv, Instr.extract]⟩
  ·rename_i b c d he
   obtain ⟨u, us, hv, _, u2, us2, hv2, _, _⟩ := qo hs qD he
   obtain rfl : us = u2 :: us2 := by simpa using hv2
   exact ⟨u2, fun w' _ => by simp [execOp, hv, Instr.extract]⟩
 ·rename_i T x y T' hop
  simp only at hop
  subst hop
  split at h
  case h_2 => cases h
  rename_i i m j n h1 h2
  have v1 := (qo hs qD h1).int
  have v2 := (qo hs qD h2).int
  have hij : i = j := by simpa using h
  subst hij
  exact ⟨_, fun w' _ => by simp [execOp, v1, v2, eqGuard, binOp, Op.intArith]; rfl⟩
 ·rename_i T x y T' hop
  simp only at hop
  subst hop
  split at h
  case h_2 => cases h
  rename_i i m j n h1 h2
  have v1 := (qo hs qD h1).int
  have v2 := (qo hs qD h2).int
  have hij : i = j := by simpa using h
  subst hij
  exact ⟨_, fun w' _ => by simp [execOp, v1, v2, eqGuard, binOp, Op.intArith]; rfl⟩
 ·rename_i x T hop
  simp only at hop
  subst hop
  split at h
  case h_2 => cases h
  rename_i o2 tid e l he
  obtain ⟨n, _, ad, cap, hv⟩ := qjJ (f := fun n => some n) (r := List.length l) hs (qo hs qD he) rfl
  obtain ⟨own, tid, e, hlk⟩ : ∃ own tid e, lk cfg.ty T = some (.list own tid e) := by
   unfold qbC at h
   split at h
   ·exact ⟨_, _, _, ‹_›⟩
   ·cases h
  have hu := (hcfg.ty T _ hlk).1.list.1
  exact ⟨goInt n, fun w' _ => by simp [execOp, resolve, invoke, builtin, Builtin.len_, hv, run_underlying hu, goInt]⟩
 ·cases h
theorem qjk (hcfg : qA P cfg) (hs : qk P C s a w H Φ) {o : Oper} {K : St → Option R} (h : qeK cfg s o = true) (hm : s.mp = none) (ho : qbO cfg o s K = some r) : ∃ v, ∀ w', (execOp a.eval o).run P w' = .ok (.value v) w' := by
 obtain ⟨dst, op, ty, pos, after, guard⟩ := o
 unfold qeK at h
 split at h
 case h_2 => cases h
 rename_i T x y hop _ hsite
 simp only at hop hsite
 subst hop
 split at h
 case h_2 => cases h
 rename_i tid e l he
 split at h
 case h_2 => cases h
 rename_i k1 j hy
 have hT := of_decide_eq_true h
 obtain ⟨hty, hfz⟩ := hcfg.ty T _ hT
 unfold qbO at ho
 rw [hm] at ho
 simp only [qO, frzSite, hsite] at ho
 unfold qgl at ho
 have hj : qez s (some y) = some (some j) := by unfold qez; simp only [hy]; rfl
 rw [he, hj] at ho
 simp only [qez, qj8, hT, Bool.not_false, Bool.true_and, decide_true, cond_true] at ho
 obtain ⟨h0, ho⟩ := qaw ho
 obtain ⟨h1, ho⟩ := qaw ho
 obtain ⟨hf, cs, hv, hrep⟩ := qo hs qD he
 obtain ⟨_, ad, cap, rfl, hcap, _⟩ := hrep
 have hv' : a.eval x = .slice ad (List.length l) cap := by rw [hv]; rfl
 have hy' := (qo hs qD hy).int
 refine ⟨.slice (if cap = 0 then ad else ad.map (·.add (0 * e.size))) (j.toNat - 0) (cap - 0), fun w' => ?_⟩
 have := qb8 hty.list.1 hty.list.2 ad (List.length l) cap none (some j) 0 j.toNat rfl (by simp; omega) (by omega) (by omega) w' .i64 k1
 simp only [execOp, hv', hy', Option.map_none, Option.map_some] at this ⊢
 simp [this]
theorem qkJ {τ : Option Ty} {x : Operand} {id : Nat} {p : List qs} (h : jB s none x = some (.view id p)) : jB s τ x = some (.view id p) := by
 cases x with
 | tmp t => exact h
 | const v => cases v <;> simp only [jB, qe2] at h <;> (first | cases h | (split at h <;> cases h))
 | func f => cases h
 | global g => cases h
theorem qlP (hcfg : qA P cfg) (hs : qk P C s a w H Φ) {o : Oper} {K : St → Option R} (h : qiZ s o = true) (hm : s.mp = none) (ho : qbO cfg o s K = some r) : ∃ v, ∀ w', (execOp a.eval o).run P w' = .ok (.value v) w' := by
 obtain ⟨dst, op, ty, pos, after, guard⟩ := o
 unfold qiZ at h
 split at h
 case h_3 => cases h
 case h_2 =>
  rename_i x hop _
  simp only at hop
  subst hop
  unfold qbO at ho
  rw [hm] at ho
  simp only [qO] at ho
  split at h
  case h_2 => cases h
  rename_i i p he
  have he' := qkJ (τ := lk cfg.ty ty) he
  rw [he'] at ho
  obtain ⟨g, hv, _⟩ := qib hs (qo hs qD he) ho
  exact ⟨_, fun w' => by simp only [execOp, hv]; rfl⟩
 rename_i T x ix hop _
 simp only at hop
 subst hop
 unfold qbO at ho
 rw [hm] at ho
 simp only [qO] at ho
 split at ho
 case h_2 => cases ho
 rename_i av i he hi
 rw [he] at h
 have hr := qo hs qD he
 obtain ⟨iav, hi1, hi2⟩ := Option.bind_eq_some_iff.1 hi
 obtain ⟨ik, hiv⟩ := qdE hi2 (qo hs qD hi1)
 unfold qeA at ho
 split at h
 ·rename_i o1 tid e l hav
  cases hav
  simp only at ho
  cases hT : decide (lk cfg.ty T = some (.list false tid e.fz)) with
  | false => rw [hT] at ho; cases ho
  | true =>
   rw [hT, cond_true] at ho
   obtain ⟨hty, _⟩ := hcfg.ty T _ (of_decide_eq_true hT)
   obtain ⟨h0, y, hy, _⟩ := qd3 ho
   obtain ⟨hf, cs, hv, hrep⟩ := hr
   simp only [Ty.isFz, Bool.and_eq_true, Bool.not_eq_true'] at hf
   obtain ⟨rfl, hef⟩ := hf
   rw [Ty.fz_of_isFz e hef] at hty
   obtain ⟨_, ad, cap, rfl, hcap, hl⟩ := hrep
   have hlt := (List.getElem?_eq_some_iff.1 hy).1
   rcases hl with rfl | ⟨b, o, blk, rfl, hH, hch⟩
   ·simp at hlt
   ·have hv' : a.eval x = .slice (some ⟨b, o, none⟩) (List.length l) cap := by rw [hv]; rfl
    exact ⟨.pointer (some ⟨b, o + i.toNat * e.size, none⟩), fun w' => by
     simp [execOp, hv', hiv, qa9 hty.list.1 hty.list.2 h0 (show i < (List.length l : Int) by omega)]⟩
 ·rename_i n e l hav
  cases hav
  simp only at ho
  cases hT : decide (lk cfg.ty T = some (.arr n e)) with
  | false => rw [hT] at ho; cases ho
  | true =>
   rw [hT, cond_true] at ho
   obtain ⟨hty, _⟩ := hcfg.ty T _ (of_decide_eq_true hT)
   obtain ⟨u, hu, hue⟩ := hty.arr
   obtain ⟨h0, y, hy, _⟩ := qd3 ho
   have hlt := (List.getElem?_eq_some_iff.1 hy).1
   obtain ⟨hf, b, o, blk, hv, hH, hln, hch⟩ := hr
   exact ⟨.pointer (some ⟨b, o + i.toNat * e.size, none⟩), fun w' => by
    simp [execOp, hv, hiv, qb0 hu hue h0 (show i < (n : Int) by rw [← hln]; omega)]⟩
 ·rename_i id p hav
  cases hav
  simp only at ho
  split at ho
  case h_2 => cases ho
  rename_i o hob
  rw [jJ] at ho
  obtain ⟨⟨σ, y⟩, hy, ho⟩ := Option.bind_eq_some_iff.1 ho
  simp only at ho
  split at ho
  case h_2 => cases ho
  rename_i own tid e l
  cases hT : own && (decide (lk cfg.ty T = some (.list false tid e.fz))) with
  | false => rw [hT] at ho; cases ho
  | true =>
   rw [hT, cond_true] at ho
   rw [Bool.and_eq_true] at hT
   obtain ⟨rfl, hT⟩ := hT
   obtain ⟨hty, _⟩ := hcfg.ty T _ (of_decide_eq_true hT)
   have hty' := qR.unfz (τ := .list false tid e) hty
   obtain ⟨h0, hlt, _⟩ := qhf ho
   obtain ⟨cs, fp, hv, hrep, _⟩ := qa5 hr hob (hs.os id _ hob).1 hy
   obtain ⟨hdr, xs, fp', rfl, e2, how, hch⟩ := hrep
   rcases how.2 with ⟨_, hz⟩ | ⟨g, cap, cur, hv1, _⟩
   ·have hz : List.length l = 0 := hz
    omega
   ·have hv' : a.eval x = .slice (some ⟨g, 0, none⟩) (List.length l) cap := by rw [hv, hv1]; rfl
    exact ⟨.pointer (some ⟨g, 0 + i.toNat * e.size, none⟩), fun w' => by
     simp [execOp, hv', hiv, qa9 hty'.list.1 hty'.list.2 h0 (show i < (List.length l : Int) by omega)]⟩
 ·cases h
theorem qlQ (hcfg : qA P cfg) (hC : qG C cfg) {ops : Array Oper} {listed : Array Bool} {dec : List Nat} {K : Act → World → Prop} {kk : St → Option R} {i : Nat} (hK : ∀ s a w, qab P C s a w → kk s = some r → K a w)
  (hp : qfv cfg ops listed dec s i = true) (hs : qk P C s a w H Φ) (hM : qb5 P C s.mp s.obj a w H Φ) (h : qam cfg ops kk (qej ops i) s = some r) : ∃ o v, ops[i]? = some o ∧ Region.free .any ops listed i = true ∧ YieldsIf P ops (HOk H) o v a ∧ K (a.put o.dst v) w := by
 unfold qfv at hp
 split at hp
 case h_2 => cases hp
 rename_i o ho
 rw [Bool.and_eq_true, Bool.and_eq_true, Bool.and_eq_true] at hp
 obtain ⟨hmp, _, hf, hp⟩ := hp
 unfold qej at h
 rw [ho] at h
 have h0 := h
 obtain ⟨hd, hcase⟩ := qbK ⟨H, Φ, hs, hM⟩ h
 split at hp
 case h_2 => cases hp
 rename_i v hg
 have hw := qkE (o := o) hs hg
 cases v with
 | false =>
  rcases hcase with ⟨hw', _⟩ | ⟨_, s2, ⟨hs2, _⟩, h⟩
  ·rw [hw] at hw'; cases hw'
  ·exact ⟨o, undef, ho, hf, .inr ⟨hw, rfl⟩, hK _ _ _ (hs2.dead hC hd) h⟩
 | true =>
  rcases hcase with ⟨_, s2, ⟨hs2, _⟩, h⟩ | ⟨hw', _⟩
  ·obtain ⟨v, hrun⟩ : ∃ v, ∀ w', HOk H w' → (execOp a.eval o).run P w' = .ok (.value v) w' := by
    rw [cond_true, Bool.or_eq_true, Bool.or_eq_true] at hp
    rcases hp with hp | hp | hp
    ·exact qjj hcfg hs hp
    rotate_left
    ·have hg0 : o.guard = none := by
      unfold qiZ at hp
      split at hp
      ·rename_i e; exact e
      ·rename_i e; exact e
      ·cases hp
     have h3 := h0
     simp only [qam, hd, cond_true, hg0] at h3
     obtain ⟨v, hv⟩ := qlP hcfg hs hp (Option.isNone_iff_eq_none.1 hmp) h3
     exact ⟨v, fun w' _ => hv w'⟩
    ·have hg0 : o.guard = none := by
      unfold qeK at hp
      split at hp
      ·rename_i e _; exact e
      ·cases hp
     have h3 := h0
     simp only [qam, hd, cond_true, hg0] at h3
     obtain ⟨v, hv⟩ := qjk hcfg hs hp (Option.isNone_iff_eq_none.1 hmp) h3
     exact ⟨v, fun w' _ => hv w'⟩
   refine ⟨o, v, ho, hf, .inl ⟨hw, hrun⟩, ?_⟩
   obtain ⟨s', h, hgo⟩ := qdO hcfg hC hs2 hd h
   have := qdx (K := K) (Q := fun _ _ _ => True) hgo (fun a w hs => hK _ _ _ hs h)
   unfold Oper.wp Oper.upon at this
   rw [hrun w hs.hok] at this
   exact this
  ·rw [hw] at hw'; cases hw'
def RO {α : Type} (m : Sem α) : Prop := ∀ (P : Program) (w : World) (x : α) (w' : World), m.run P w = .ok x w' → w' = w
def Nvr {α : Type} (m : Sem α) : Prop := ∀ (P : Program) (w : World) (x : α) (w' : World), m.run P w = .ok x w' → False
theorem Nvr.ro {α : Type} {m : Sem α} (h : Nvr m) : RO m := fun P w x w' e => (h P w x w' e).elim
theorem RO.pure {α : Type} (x : α) : RO (Pure.pure x : Sem α) := fun P w y w' e => by
 rw [Sem.run_pure] at e
 cases e
 rfl
theorem RO.bind {α β : Type} {m : Sem α} {f : α → Sem β} (h1 : RO m) (h2 : ∀ x, RO (f x)) : RO (m >>= f) := fun P w y w' e => by
 rw [Sem.run_bind] at e
 cases h : m.run P w with
 | ok x w1 =>
  rw [h] at e
  exact (h2 x P w1 y w' e).trans (h1 P w x w1 h)
 | halt a b => rw [h] at e; cases e
theorem Nvr.bind {α β : Type} {m : Sem α} {f : α → Sem β} (h2 : ∀ x, Nvr (f x)) : Nvr (m >>= f) := fun P w y w' e => by
 rw [Sem.run_bind] at e
 cases h : m.run P w with
 | ok x w1 => rw [h] at e; exact h2 x P w1 y w' e
 | halt a b => rw [h] at e; cases e
theorem Nvr.halt {α : Type} (h : Halt) : Nvr (.halt h : Sem α) := fun P w x w' e => by cases e
theorem qgM : RO Go.program := fun P w x w' e => by cases e; rfl
theorem qk3 (a : Addr) (m : Mode) : RO (Go.load a m) := fun P w x w' e => by
 unfold Go.load Sem.run at e
 split at e
 ·cases e; rfl
 ·split at e
  ·cases e; rfl
  ·cases e
theorem qeg (t : TypeId) : RO (Go.underlying t) := by
 unfold Go.underlying
 refine RO.bind qgM fun p => ?_
 split
 ·exact RO.pure _
 ·exact (Nvr.halt _).ro
theorem qjq (t : TypeId) : RO (Go.typeInfo t) := by
 unfold Go.typeInfo
 refine RO.bind qgM fun p => ?_
 split
 ·exact RO.pure _
 ·exact (Nvr.halt _).ro
theorem qh7 (t : TypeId) : RO (Go.sizeOf t) := RO.bind (qjq t) fun _ => RO.pure _
theorem ro_isAgg (t : TypeId) : RO (Go.isAgg t) := by
 unfold Go.isAgg
 refine RO.bind (qeg t) fun d => ?_
 split <;> exact RO.pure _
theorem qcN (a : Addr) : ∀ (n i : Nat) (acc : Array Value), RO (Go.loadCellsFrom a i n acc)
 | 0, _, _ => RO.pure _
 | n + 1, i, _acc => RO.bind (qk3 _ _) fun _v => qcN a n (i + 1) _
theorem qkb (t : TypeId) (a : Addr) : RO (Go.loadVar t a) := by
 unfold Go.loadVar
 refine RO.bind (ro_isAgg t) fun b => ?_
 split
 ·exact RO.bind (qh7 t) fun n => RO.bind (qcN a _ _ _) fun _ => RO.pure _
 ·exact qk3 _ _
theorem qfU (v : Value) : RO (Instr.sureAddr v) := by
 unfold Instr.sureAddr
 split
 ·exact RO.pure _
 ·exact (Nvr.halt _).ro
theorem qkd (v : Value) : RO (Go.asIntOf v) := by
 unfold Go.asIntOf
 split
 ·exact RO.pure _
 ·exact (Nvr.halt _).ro
 ·exact (Nvr.halt _).ro
theorem qgf {α : Type} (k : IntKind) (x y : Int) (c : BoundsCode) : Nvr (Go.boundsPanic k x y c : Sem α) := by
 unfold Go.boundsPanic
 have h : ∀ e : RuntimeError, (∃ a b c d, e = .bounds a b c d) → Nvr (Go.runtimePanic e : Sem α) := by
  rintro _ ⟨a, b, c, d, rfl⟩
  unfold Go.runtimePanic
  exact Nvr.bind fun p => Nvr.halt _
 dsimp only
 split <;> exact Nvr.bind fun s => h _ ⟨_, _, _, _, rfl⟩
theorem qkc (t : TypeId) (x ix : Value) : RO (Instr.indexAt t x ix) := by
 unfold Instr.indexAt
 repeat' (first | exact RO.pure _ | exact qeg _ | exact qh7 _ | exact qfU _ | exact qkd _ | exact (qgf _ _ _ _).ro | exact (Nvr.halt _).ro | refine RO.bind ?_ (fun _ => ?_) | split | dsimp only)
theorem qjp {m : Sem Value} (h : RO m) {P : Program} {w : World} {n : Next} {w' : World} (e : (do pure (.value (← m)) : Sem Next).run P w = .ok n w') : w' = w ∧ ∃ u, n = .value u := by
 rw [Sem.run_bind] at e
 cases h' : m.run P w with
 | ok x w1 =>
  rw [h'] at e
  cases e
  exact ⟨h P w x _ h', x, rfl⟩
 | halt a b => rw [h'] at e; cases e
theorem qj9 {o : Oper} (hs : qcK o = true) {ρ : Operand → Value} {P : Program} {w : World} {n : Next} {w' : World} (e : (execOp ρ o).run P w = .ok n w') : w' = w ∧ ∃ u, n = .value u := by
 unfold qcK at hs
 unfold execOp at e
 split at hs
 ·rename_i x hop; rw [hop] at e; cases e; exact ⟨rfl, _, rfl⟩
 ·rename_i T x hop; rw [hop] at e; exact qjp (RO.bind (qfU _) fun a => qkb T a) e
 ·rename_i T x ix hop; rw [hop] at e; exact qjp (qkc _ _ _) e
 ·cases hs
theorem qjb {ops : Array Oper} {Q : Exit → Act → World → Prop} {j : Nat} {oj : Oper} (hj : ops[j]? = some oj) (hs : qcK oj = true) {K : Act → World → Prop} (h : wpOp P ops Q j K a w) : wpOp P ops Q j (fun a' w' => w' = w ∧ K a' w') a w := by
 unfold wpOp at *
 simp only [hj] at *
 split
 ·rename_i hw
  rw [if_pos hw] at h
  refine h.imp_left fun h => ?_
  unfold Oper.wp at *
  cases hr : (execOp a.eval oj).run P w with
  | ok n w' =>
   obtain ⟨rfl, u, rfl⟩ := qj9 hs hr
   rw [hr] at h
   exact ⟨rfl, h⟩
  | halt x w' =>
   rw [hr] at h
   cases x <;> exact h
 ·rename_i hw
  rw [if_neg hw] at h
  exact ⟨trivial, h⟩
theorem qhO {ops : Array Oper} {Q : Exit → Act → World → Prop} {S : World → Prop} {i : Nat} {oi : Oper} {v : Value} (hi : ops[i]? = some oi) (hsel : ∀ (j : Nat) (o : Oper) cs b, ops[j]? = some o → o.op ≠ .select cs b)
  (hQ : ∀ c a w, Q (.panic c) (a.put oi.dst v) w → Q (.panic c) a w) {D : List Nat} (hD : ∀ d ∈ D, d ≠ i → ∃ od, ops[d]? = some od ∧ ∃ e ∈ od.after, Region.binds .any e = true ∧ e.on ∈ D) :
  ∀ (qi : Nat) (listed : Array Bool) (a : Act) (w : World),
   (∀ j oj, ops[j]? = some oj → j ≠ i → listed.getD j true = false → (∀ e ∈ oj.after, Region.binds .any e = true → e.on ≠ i) → oi.apart ops oj = true) →
   (∀ d ∈ D, listed.getD d true = false) → (∀ j oj, ops[j]? = some oj → j ≠ i → listed.getD j true = false → j ∉ D → qcK oj = true) →
   i ∈ Region.ready .any ops listed → YieldsIf P ops (fun w0 => w0 = w) oi v a → S w →
   wpAnyH P .any ops Q S qi (listed.setIfInBounds i true) (a.put oi.dst v) w → wpAnyH P .any ops Q S (qi + 1) listed a w := by
 intro qi
 induction qi with
 | zero =>
  intro listed a w _ _ _ hr hy hS H
  refine ⟨fun h => (by rw [h] at hr; cases hr), fun j hj => ?_⟩
  by_cases hji : j = i
  ·subst hji; exact YieldsIf.wpOp (S := fun w0 => w0 = w) hi hy rfl ⟨hS, H⟩
  ·have := ready_mono hj hji
   rw [H.1] at this
   cases this
 | succ qi ih =>
  intro listed a w hfree hDl hst hr hy hS H
  refine ⟨fun h => (by rw [h] at hr; cases hr), fun j hj => ?_⟩
  by_cases hji : j = i
  ·subst hji; exact YieldsIf.wpOp (S := fun w0 => w0 = w) hi hy rfl ⟨hS, H⟩
  ·have h1 := H.2 j (ready_mono hj hji)
   obtain ⟨hjun, oj, hoj, hall⟩ := mem_ready.1 hj
   have hlst : ∀ d, listed.getD d true = false → listed.getD d false = true → False := fun d h0 h1 => by
    rcases Nat.lt_or_ge d listed.size with h' | h'
    ·simp [h'] at h0 h1; rw [h0] at h1; cases h1
    ·simp [Array.getElem?_eq_none h'] at h1
   have hnot : ∀ e ∈ oj.after, Region.binds .any e = true → e.on ≠ i := fun e he hb heq => hlst i (mem_ready.1 hr).1 (heq ▸ hall e he hb)
   have hjD : j ∉ D := fun hjD => by
    obtain ⟨od, ho, e, he, hb, hon⟩ := hD j hjD hji
    rw [hoj] at ho
    cases ho
    exact hlst _ (hDl _ hon) (hall e he hb)
   have h2 := qjb hoj (hst j oj hoj hji hjun hjD) (wpOp_putIf hoj (hfree j oj hoj hji hjun hnot) (fun cs b => hsel i oi cs b hi) (fun cs b => hsel j oj cs b hoj) hQ hy h1)
   have hback : ∀ k, (listed.setIfInBounds j true).getD k true = false → listed.getD k true = false := fun k hun => by
    by_cases hjk : j = k
    ·subst hjk; exact hjun
    ·rw [getD_set_ne true hjk] at hun; exact hun
   refine wpOp_mono (fun a' w' h3 => ?_) h2
   obtain ⟨e1, h3, h4, h5⟩ := h3
   subst e1
   refine ih (listed.setIfInBounds j true) a' w' (fun k ok hk hki hun hno => hfree k ok hk hki (hback k hun) hno) (fun d hd => ?_) (fun k ok hk hki hun hkD => hst k ok hk hki (hback k hun) hkD) (ready_mono hr (Ne.symm hji)) h3 h4 ?_ |> fun h => ⟨h4, h⟩
   ·rw [getD_set_ne true (fun e => hjD (by rw [e]; exact hd))]
    exact hDl d hd
   ·rw [Array.setIfInBounds_comm _ _ hji]
    exact h5
theorem qhV (hcfg : qA P cfg) (hC : qG C cfg) {ops : Array Oper} {listed : Array Bool} {K : Act → World → Prop} {kk : St → Option R} {i : Nat} (hK : ∀ s a w, qab P C s a w → kk s = some r → K a w)
  (hp : qhg ops listed s i = true) (hs : qab P C s a w) (h : qam cfg ops kk (qej ops i) s = some r) : ∃ o v, ops[i]? = some o ∧ Region.free .any ops listed i = true ∧ qc6 ops listed i = true ∧ YieldsIf P ops (fun w0 => w0 = w) o v a ∧ K (a.put o.dst v) w := by
 unfold qhg at hp
 split at hp
 case h_2 => cases hp
 rename_i o ho
 split at hp
 case h_2 => cases hp
 rename_i T x hop hg
 rw [Bool.and_eq_true, Bool.and_eq_true] at hp
 obtain ⟨hmp, hf, hsr⟩ := hp
 have hmp := Option.isNone_iff_eq_none.1 hmp
 unfold qej at h
 rw [ho] at h
 have hst : jX o = true := by unfold jX; rw [hop]
 have hwt : Region.wanted o (yielded ops a.tmps) = true := by unfold Region.wanted; rw [hg]
 obtain ⟨hd, h⟩ := qbK hs h
 rcases h with ⟨_, s2, ⟨hs2, hm2⟩, h⟩ | ⟨hw, _⟩
 ·rw [qdN (cfg := cfg) (hm2 hmp) (qcU hst)] at h
  obtain ⟨s', h, v, hv, hsim⟩ := qbX hcfg hC hs2.sim hd hst h
  exact ⟨o, v, ho, hf, hsr, .inl ⟨hwt, fun w0 e => by subst e; exact hv _ (j7.refl _ _)⟩, hK _ _ _ ((hsim.withM none).simM rfl) h⟩
 ·rw [hwt] at hw; cases hw
theorem qga {ops : Array Oper} {listed : Array Bool} {i : Nat} (h : qc6 ops listed i = true) :
  (∀ d ∈ qdQ ops listed i, d ≠ i → ∃ od, ops[d]? = some od ∧ ∃ e ∈ od.after, Region.binds .any e = true ∧ e.on ∈ qdQ ops listed i) ∧ (∀ d ∈ qdQ ops listed i, listed.getD d true = false) ∧
   ∀ j oj, ops[j]? = some oj → j ≠ i → listed.getD j true = false → j ∉ qdQ ops listed i → qcK oj = true := by
 unfold qc6 waitOK at h
 rw [Bool.and_eq_true, List.all_eq_true, List.all_eq_true] at h
 obtain ⟨h1, h2⟩ := h
 refine ⟨fun d hd hdi => ?_, fun d hd => ?_, fun j oj hj hji hun hjD => ?_⟩
 ·have := h1 d hd
  rw [Bool.and_eq_true, Bool.or_eq_true] at this
  rcases this.2 with h3 | h3
  ·exact absurd (Nat.eq_of_beq_eq_true h3) hdi
  ·split at h3
   ·rename_i o ho
    obtain ⟨e, he, hb⟩ := Array.any_eq_true'.1 h3
    rw [Bool.and_eq_true] at hb
    exact ⟨o, ho, e, he, hb.1, qaD.1 hb.2⟩
   ·cases h3
 ·have := h1 d hd
  rw [Bool.and_eq_true] at this
  simpa using this.1
 ·have := h2 j (List.mem_range.2 (Array.getElem?_eq_some_iff.1 hj).1)
  rw [hj, hun, Bool.false_or, Bool.or_eq_true, Bool.or_eq_true] at this
  rcases this with h3 | h3 | h3
  ·exact absurd (Nat.eq_of_beq_eq_true h3) hji
  ·exact absurd (qaD.1 h3) hjD
  ·exact h3
theorem qim {ops : Array Oper} {listed : Array Bool} {dec : List Nat} {i : Nat} (h : qfv cfg ops listed dec s i = true) : s.mp = none := by
 unfold qfv at h
 split at h
 ·rw [Bool.and_eq_true] at h; exact Option.isNone_iff_eq_none.1 h.1
 ·cases h
theorem qgq (hcfg : qA P cfg) {ops : Array Oper} {kk : St → Option R} {Q : Exit → Act → World → Prop} (hns : Region.noSelect ops = true) (hQp : ∀ c a w, ¬ Q (.panic c) a w) :
  ∀ (n : Nat) (listed : Array Bool) (dec : List Nat) {C : Ctx} (_ : qG C cfg) (_ : ∀ s a w, qab P C s a w → kk s = some r → Q .normal a w) {s : St} {a : Act} {w : World}, qab P C s a w → qcG cfg ops kk n listed dec s = some r → wpAnyH P .any ops Q (HOk C.H0) n listed a w
 | 0, listed, dec, C, hC, hQ, s, a, w, hs, h => by
  unfold qcG at h
  unfold wpAnyH
  split at h
  ·rename_i e; exact ⟨e, hQ _ _ _ hs h⟩
  ·cases h
 | n + 1, listed, dec, C, hC, hQ, s, a, w, hs, h => by
  unfold qcG at h
  obtain ⟨dec, s, hs, h⟩ := qcy hs h
  split at h
  ·rename_i i hfind
   have hr := List.mem_of_find?_eq_some hfind
   have hp := List.find?_some hfind
   unfold qlg at hp
   cases hp1 : qfv cfg ops listed dec s i with
   | false =>
    rw [hp1, Bool.false_or] at hp
    obtain ⟨o, v, ho, hf, hsr, hy, hK⟩ := qhV hcfg hC (fun s a w hs h => qgq hcfg hns hQp n _ dec hC hQ hs h) hp hs h
    obtain ⟨k1, k2, k3⟩ := qga hsr
    exact qhO ho (Region.noSelect_spec hns) (fun c a w h => absurd h (hQp c _ w)) k1 n listed a w (Region.free_spec ho hf) k2 k3 hr hy hs.le hK
   | true =>
   replace hp := hp1
   obtain ⟨H, Φ, hb, hM⟩ := hs
   have hb2 := hb.rebaseM (qim hp)
   obtain ⟨o, v, ho, hf, hy, hK⟩ := qlQ (C := reC C w H) hcfg (qgS hC) (fun s a w hs h => qgq hcfg hns hQp n _ dec (qgS hC) (fun s a w hs h => hQ s a w (hb.unbaseM hs) h) hs h) hp hb.rebase (by rw [qim hp]; trivial) h
   exact qec (S' := HOk H) (fun w h b c e => h b c (hb.le b c e)) _ _ _ _ (wpAnyH_take ho hns hf (by simpa using hr) (fun c a w h => absurd h (hQp c _ w)) hy hb.hok hK)
  ·unfold wpAnyH
   have hstep : ∀ (i : Nat), qam cfg ops (fun s => qcG cfg ops kk n (listed.setIfInBounds i true) dec s) (qej ops i) s = some r →
     wpOp P ops Q i (fun a' w' => HOk C.H0 w' ∧ wpAnyH P .any ops Q (HOk C.H0) n (listed.setIfInBounds i true) a' w') a w := fun i h =>
    any_step hcfg hC (fun s a w hs h => ⟨hs.le, qgq hcfg hns hQp n _ dec hC hQ hs h⟩) hs h
   split at h
   ·rename_i e; rw [e]; exact ⟨fun _ => hQ _ _ _ hs h, fun i hi => by cases hi⟩
   ·rename_i i e
    rw [e]
    refine ⟨(fun e => by cases e), fun j hj => ?_⟩
    rw [List.mem_singleton.1 hj]
    exact hstep i h
   ·rename_i i j l e
    rw [e]
    refine ⟨(fun e => by cases e), fun t ht => ?_⟩
    exact hstep t (qf7 h _ (List.mem_map.2 ⟨t, ht, rfl⟩))
theorem qi3 (hs : Sim P C s a w) (x : Operand) : Sim P C (frzT cfg s x) a w ∧ (frzT cfg s x).mp = s.mp := by
 unfold frzT
 split
 ·split
  ·exact ⟨hs, rfl⟩
  ·rename_i τ _
   cases τ.isFz with
   | false => exact ⟨hs, rfl⟩
   | true =>
   rw [cond_true]
   split
   ·rename_i id _
    obtain ⟨H, Φ, hs⟩ := hs
    obtain ⟨H', _, _, _, hs2⟩ := hs.freeze id
    refine ⟨⟨H', Φ, hs2⟩, ?_⟩
    unfold St.freeze
    split <;> rfl
   ·exact ⟨hs, rfl⟩
 ·exact ⟨hs, rfl⟩
theorem qbx : ∀ (l : List Oper) {s : St}, Sim P C s a w → Sim P C (qfx cfg l s) a w ∧ (qfx cfg l s).mp = s.mp
 | [], _, hs => ⟨hs, rfl⟩
 | o :: l, s, hs => by
  unfold qfx
  split
  ·rename_i x _ _
   obtain ⟨h1, h2⟩ := qi3 (cfg := cfg) hs x
   obtain ⟨h3, h4⟩ := qbx l h1
   exact ⟨h3, h4.trans h2⟩
  ·rename_i x _
   obtain ⟨h1, h2⟩ := qi3 (cfg := cfg) hs x
   obtain ⟨h3, h4⟩ := qbx l h1
   exact ⟨h3, h4.trans h2⟩
  ·rename_i x _ _
   obtain ⟨h1, h2⟩ := qi3 (cfg := cfg) hs x
   obtain ⟨h3, h4⟩ := qbx l h1
   exact ⟨h3, h4.trans h2⟩
  ·exact qbx l hs
theorem any_ok (hcfg : qA P cfg) (hC : qG C cfg) {ops : Array Oper} {kk : St → Option R} {Q : Exit → Act → World → Prop} (hns : Region.noSelect ops = true) (hQ : ∀ s a w, qab P C s a w → kk s = some r → Q .normal a w) (hQp : ∀ c a w, ¬ Q (.panic c) a w)
  (n : Nat) (listed : Array Bool) (dec : List Nat) {s : St} {a : Act} {w : World} (hs : qab P C s a w) (h : qcG cfg ops kk n listed dec s = some r) : wpAny P .any ops Q n listed a w :=
 wpAny_of_held _ _ _ _ (qgq hcfg hns hQp n listed dec hC hQ hs h)
end
end Go.Vi
namespace Go.Vi
def qw (cfg : jM) : Code → Bool
 | .region id ops true => (qcX id cfg.enum && Region.noSelect ops) || drawR cfg ops
 | .seq a b => qw cfg a && qw cfg b
 | .cond _ a b => qw cfg a && qw cfg b
 | .block _ c => qw cfg c
 | .loop c => qw cfg c
 | .rangeFunc _ _ _ _ => false
 | _ => true
section
variable {P : Program} {C : Ctx} {cfg : jM} {R : Type} {r : R} {s : St} {a : Act} {w : World} {H : FH} {Φ : Nat → qC}
theorem getK_ok {sh : Option MSh} {d : KDen sh} {os : Nat → Option Obj} (h : getK s sh = some d) (hM : qb5 P C s.mp os a w H Φ) : qb5 P C (fillK sh d) os a w H Φ := by
 match sh, d, h with
 | none, _, _ => trivial
 | some ⟨kt, vt, tm, none⟩, d, h =>
  simp only [getK] at h
  split at h
  case h_2 => cases h
  rename_i m hm
  cases hq : Nat.beq m.kt kt && Nat.beq m.vt vt && tm.all (fun t => qcX t m.tm) with
  | false => rw [hq] at h; cases h
  | true =>
  rw [hq] at h
  cases h
  rw [hm] at hM
  simp only [Bool.and_eq_true, List.all_eq_true] at hq
  obtain ⟨⟨q1, q2⟩, q3⟩ := hq
  obtain rfl := Nat.eq_of_beq_eq_true q1
  obtain rfl := Nat.eq_of_beq_eq_true q2
  obtain ⟨b, h1, h2, h3, h4, h5, _⟩ := hM
  exact ⟨b, h1, h2, h3, h4, fun t ht => h5 t (qcW.1 (q3 t ht)), fun ti lf e => by cases e⟩
 | some ⟨kt, vt, tm, some ti⟩, d, h =>
  simp only [getK] at h
  split at h
  case h_2 => cases h
  rename_i m hm
  split at h
  case h_2 => cases h
  rename_i ti' lf hit
  cases hq : Nat.beq m.kt kt && Nat.beq m.vt vt && tm.all (fun t => qcX t m.tm) && ti.all (fun t => qcX t ti') with
  | false => rw [hq] at h; cases h
  | true =>
  rw [hq] at h
  cases h
  rw [hm] at hM
  simp only [Bool.and_eq_true, List.all_eq_true] at hq
  obtain ⟨⟨⟨q1, q2⟩, q3⟩, q4⟩ := hq
  obtain rfl := Nat.eq_of_beq_eq_true q1
  obtain rfl := Nat.eq_of_beq_eq_true q2
  obtain ⟨b, h1, h2, h3, h4, h5, h6⟩ := hM
  refine ⟨b, h1, h2, h3, h4, fun t ht => h5 t (qcW.1 (q3 t ht)), fun ti2 lf2 e => ?_⟩
  cases e
  obtain ⟨i, k1, k2, k3, k4⟩ := h6 _ _ hit
  exact ⟨i, k1, k2, fun t ht => k3 t (qcW.1 (q4 t ht)), fun n v e => by cases e⟩
theorem qb5.weaken {mp : Option Ms} {os os' : Nat → Option Obj} (ho : ∀ id o, os' id = some o → os id = some o) (h : qb5 P C mp os a w H Φ) : qb5 P C mp os' a w H Φ := by
 have hf : ∀ b, qao C w H Φ os b → qao C w H Φ os' b := fun b hb => ⟨hb.fz, fun id o h => hb.obj id o (ho id o h), hb.may, hb.lt⟩
 cases mp with
 | none => trivial
 | some m =>
  obtain ⟨b, h1, h2, h3, h4, h5, h6⟩ := h
  refine ⟨b, h1, h2, hf b h3, h4, h5, fun ti lf e => ?_⟩
  obtain ⟨i, k1, k2⟩ := h6 ti lf e
  exact ⟨i, hf i k1, k2⟩
theorem qeL {sk : qc4} {d : sk.Den} (h : sk.get s = some d) (hs : qab P C s a w) : qab P C (sk.fill d) a w := by
 obtain ⟨H, Φ, hs, hM⟩ := hs
 obtain ⟨hsub, h3⟩ := qjl h
 exact ⟨H, Φ, qgA h hs, (getK_ok h3 hM).weaken hsub⟩
theorem X.same_eq : ∀ {x y : X}, x.same y = true → x = y
 | .norm, .norm, _ => rfl
 | .ret, .ret, _ => rfl
 | .exit i, .exit j, h => by rw [Nat.eq_of_beq_eq_true h]
 | .norm, .ret, h => by cases h
 | .norm, .exit _, h => by cases h
 | .ret, .norm, h => by cases h
 | .ret, .exit _, h => by cases h
 | .exit _, .norm, h => by cases h
 | .exit _, .ret, h => by cases h
theorem qgZ {e : X} (hs : qab P C s a w) {k : X → St → Option R} : ∀ {outs : List (X × qc4)} {o : Outs outs}, qjw e s outs = some o → ∃ s', qab P C s' a w ∧ outK k outs o = k e s'
 | [], _, h => by cases h
 | [x], o, h => by
  simp only [qjw] at h
  cases hx : x.1.same e with
  | false => rw [hx] at h; cases h
  | true =>
   rw [hx, cond_true] at h
   exact ⟨_, qeL h hs, by rw [← X.same_eq hx]; rfl⟩
 | x :: y :: l, o, h => by
  unfold qjw at h
  cases hx : x.1.same e with
  | false =>
   rw [hx, cond_false] at h
   split at h
   ·rename_i d hd
    cases h
    obtain ⟨s', h1, h2⟩ := qgZ (outs := y :: l) hs hd
    exact ⟨s', h1, h2⟩
   ·cases h
  | true =>
   rw [hx, cond_true] at h
   split at h
   ·rename_i d hd
    cases h
    exact ⟨_, qeL hd hs, by rw [← X.same_eq hx]; rfl⟩
   ·cases h
def Post (P : Program) (C : Ctx) (k : X → St → Option R) (r : R) : Exit → Act → World → Prop
 | .normal, a, w => ∃ s, qab P C s a w ∧ k .norm s = some r
 | .exit i, a, w => ∃ s, qab P C s a w ∧ k (.exit i) s = some r
 | .ret, a, w => ∃ s, qab P C s a w ∧ k .ret s = some r
 | _, _, _ => False
theorem qcC (hm : P.follows .mixedOrders = true) (hcfg : qA P cfg) (hC : qG C cfg) : ∀ (c : Code) {R : Type} {r : R} {n : Nat} {s : St} {k : X → St → Option R} {a : Act} {w : World}, qa3 cfg c → qw cfg c = true → qab P C s a w → run cfg n c s k = some r → c.wp P (Post P C k r) a w
 | .skip, R, r, n, s, k, a, w, _, _, hs, h => wp_skip ⟨s, hs, h⟩
 | .ret, R, r, n, s, k, a, w, _, _, hs, h => wp_ret ⟨s, hs, h⟩
 | .exit i, R, r, n, s, k, a, w, _, _, hs, h => wp_exit ⟨s, hs, h⟩
 | .region id ops draw, R, r, n, s, k, a, w, _, hd, hs, h => by
  simp only [run] at h
  cases hq : draw && s.mp.isSome with
  | true => rw [hq] at h; cases h
  | false =>
   rw [hq, cond_false] at h
   have hmp : draw = true → s.mp = none := by
    rintro rfl
    cases hmp : s.mp with
    | none => rfl
    | some m => rw [hmp] at hq; cases hq
   cases he : draw && qcX id cfg.enum && Region.noSelect ops with
   | true =>
    rw [he, cond_true] at h
    rw [Bool.and_eq_true, Bool.and_eq_true] at he
    obtain ⟨⟨rfl, _⟩, hns⟩ := he
    split at h
    ·rename_i sk _
     rw [ql] at h
     replace h := Option.bind_eq_some_iff.1 h
     obtain ⟨d, h, h'⟩ := h
     exact wp_region_any hm (any_ok hcfg hC hns (fun s a w hs h => ⟨sk.fill d, qeL h hs, h'⟩) (fun c a w h => h) _ _ _ (((qbx (cfg := cfg) ops.toList (hs.sim.grow (qcS w))).1).simM ((qbx (cfg := cfg) ops.toList (hs.sim.grow (qcS w))).2.trans (hmp rfl))) h)
    ·exact wp_region_any hm (any_ok hcfg hC hns (fun s a w hs h => ⟨s, hs, h⟩) (fun c a w h => h) _ _ _ (((qbx (cfg := cfg) ops.toList (hs.sim.grow (qcS w))).1).simM ((qbx (cfg := cfg) ops.toList (hs.sim.grow (qcS w))).2.trans (hmp rfl))) h)
   | false =>
    rw [he, cond_false] at h
    refine qlD hm hcfg hC ?_ (fun s a w hs h => ⟨s, hs, h⟩) hs h
    rintro rfl
    rw [Bool.true_and] at he
    simp only [qw, he, Bool.false_or] at hd
    exact ⟨hd, hmp rfl⟩
 | .seq x y, R, r, n, s, k, a, w, hl, hd, hs, h => by
  simp only [qw, Bool.and_eq_true] at hd
  refine wp_seq (wp_mono (qcC hm hcfg hC x hl.1 hd.1 hs h) ?_)
  intro e a w hp
  cases e with
  | normal =>
   obtain ⟨s', hs', h'⟩ := hp
   exact qcC hm hcfg hC y hl.2 hd.2 hs' h'
  | exit i => obtain ⟨s', hs', h'⟩ := hp; exact ⟨s', hs', h'⟩
  | ret => obtain ⟨s', hs', h'⟩ := hp; exact ⟨s', hs', h'⟩
  | _ => exact hp.elim
 | .cond c x y, R, r, n, s, k, a, w, hl, hd, hs, h => by
  simp only [qw, Bool.and_eq_true] at hd
  simp only [run] at h
  split at h
  ·rename_i b hb
   obtain ⟨H, Φ, hsb, hM⟩ := hs
   have hv := (qo hsb qD hb).bool
   refine wp_cond hv ?_
   cases b with
   | true => exact qcC hm hcfg hC x hl.1 hd.1 ⟨H, Φ, hsb, hM⟩ h
   | false => exact qcC hm hcfg hC y hl.2 hd.2 ⟨H, Φ, hsb, hM⟩ h
  ·cases h
 | .block i c, R, r, n, s, k, a, w, hl, hd, hs, h => by
  refine wp_block (wp_mono (qcC hm hcfg hC c hl hd hs h) ?_)
  intro e a w hp
  cases e with
  | normal => obtain ⟨s', hs', h'⟩ := hp; exact ⟨s', hs', h'⟩
  | exit j =>
   obtain ⟨s', hs', h'⟩ := hp
   simp only [blockK] at h'
   unfold Exit.inBlock
   cases hb : Nat.beq j i with
   | true =>
    rw [hb] at h'
    obtain rfl := Nat.eq_of_beq_eq_true hb
    simp only [if_true]
    exact ⟨s', hs', h'⟩
   | false =>
    rw [hb] at h'
    simp only [Nat.ne_of_beq_eq_false hb, if_false]
    exact ⟨s', hs', h'⟩
  | ret => obtain ⟨s', hs', h'⟩ := hp; exact ⟨s', hs', h'⟩
  | _ => exact hp.elim
 | .loop c, R, r, n, s, k, a, w, hl, hd, hs, h => by
  simp only [run] at h
  split at h
  ·cases h
  ·rename_i key hkey
   split at h
   ·cases h
   ·rename_i li hli
    split at h
    ·cases h
    ·rename_i d hd'
     rw [ql] at h
     replace h := Option.bind_eq_some_iff.1 h
     obtain ⟨o, ho, h⟩ := h
     obtain ⟨heq0, heq⟩ := hl.2 key li hkey hli
     have hs' := qeL hd' hs
     have rounds : ∀ m d a w, li.g m d = some o → qab P C (li.ins.fill d) a w → Code.rounds P c (Post P C k r) m a w := by
      intro m
      induction m with
      | zero => intro d a w hg; rw [heq0] at hg; cases hg
      | succ m ih =>
       intro d a w hg hsd
       rw [heq] at hg
       refine wp_mono (qcC hm hcfg hC c hl.1 hd hsd hg) ?_
       intro e a w hp
       cases e with
       | normal =>
        obtain ⟨s2, hs2, h2⟩ := hp
        simp only [jI] at h2
        split at h2
        ·rename_i d2 hd2
         exact ih d2 a w h2 (qeL hd2 hs2)
        ·cases h2
       | exit j =>
        obtain ⟨s2, hs2, h2⟩ := hp
        obtain ⟨s3, hs3, h3⟩ := qgZ hs2 (k := k) h2
        exact ⟨s3, hs3, by rw [← h3]; exact h⟩
       | ret =>
        obtain ⟨s2, hs2, h2⟩ := hp
        obtain ⟨s3, hs3, h3⟩ := qgZ hs2 (k := k) h2
        exact ⟨s3, hs3, by rw [← h3]; exact h⟩
       | _ => exact hp.elim
     exact wp_loop_rounds n (rounds n d a w ho hs')
 | .rangeFunc _ _ _ _, _, _, _, _, _, _, _, _, hd, _, _ => by cases hd
 | .scope _, _, _, _, _, _, _, _, _, _, _, h => by cases h
 | .label _, _, _, _, _, _, _, _, _, _, _, h => by cases h
 | .goto _, _, _, _, _, _, _, _, _, _, _, h => by cases h
 | .refuse _, _, _, _, _, _, _, _, _, _, _, h => by cases h
end
end Go.Vi
namespace Go.Vi
section
variable {P : Program} {C : Ctx} {cfg : jM} {R : Type} {r : R} {s : St} {a : Act} {w : World} {H : FH} {Φ : Nat → qC}
def nilI (id : Nat) : qC := if 4000000 ≤ id ∧ id < 7000000 then ⟨0, .slice (some ⟨0, 0, none⟩) 0 0, []⟩ else if 7000000 ≤ id ∧ id < 10000000 then ⟨0, .slice none 0 0, []⟩ else qM
theorem nilI_cls (id : Nat) : cls id (nilI id).hdr := by
 unfold nilI
 by_cases h1 : 4000000 ≤ id ∧ id < 7000000
 ·rw [if_pos h1]
  exact ⟨fun _ _ => ⟨_, _, _, rfl⟩, fun _ _ => by omega⟩
 ·rw [if_neg h1]
  by_cases h2 : 7000000 ≤ id ∧ id < 10000000
  ·rw [if_pos h2]
   exact ⟨fun _ _ => by omega, fun _ _ => rfl⟩
  ·rw [if_neg h2]
   exact ⟨fun _ _ => by omega, fun _ _ => by omega⟩
def qay : List jZ → List qC → Nat → List (Nat × qC)
 | .v _ :: ps, _ :: Φs, i => qay ps Φs (i + 1)
 | .r _ :: ps, _ :: Φs, i => qay ps Φs (i + 1)
 | .c _ :: ps, _ :: Φs, i => qay ps Φs (i + 1)
 | .m _ :: ps, φ :: Φs, i => (pid i, φ) :: qay ps Φs (i + 1)
 | .mr _ _ :: ps, φ :: Φs, i => (pid i, φ) :: qay ps Φs (i + 1)
 | .t _ _ :: ps, φ :: Φs, i => (pid i, φ) :: qay ps Φs (i + 1)
 | .gm _ :: ps, φ :: Φs, i => (pid i, φ) :: qay ps Φs (i + 1)
 | .cm _ _ :: ps, φ :: Φs, i => (pid i, φ) :: qay ps Φs (i + 1)
 | _, _, _ => []
theorem qg7 {α : Type} {n : Nat} {x : α} : ∀ {l : List (Nat × α)}, (l.map (·.1)).Nodup → (n, x) ∈ l → lk l n = some x
 | [], _, h => by cases h
 | (m, y) :: l, hnd, h => by
  simp only [List.map_cons, List.nodup_cons] at hnd
  rw [jD]
  rcases List.mem_cons.1 h with e | h
  ·cases e; simp [Nat.beq_refl]
  ·have : Nat.beq m n = false := by
    cases hb : Nat.beq m n with
    | false => rfl
    | true => obtain rfl := Nat.eq_of_beq_eq_true hb; exact absurd (List.mem_map.2 ⟨_, h, rfl⟩) hnd.1
   rw [this]
   exact qg7 hnd.2 h
theorem qaZ {i j : Nat} (h : i < j) : pid i < pid j := by unfold pid; omega
theorem qaR : ∀ {ps : List jZ} {d : PDens ps} {vs : List Value} {Φs : List qC} (i : Nat), jU P w H ps d vs Φs →
  vs.length = ps.length ∧ qd Φs = (qay ps Φs i).flatMap (·.2.fp) ∧ (∀ x ∈ qay ps Φs i, pid i ≤ x.1) ∧ ((qay ps Φs i).map (·.1)).Nodup ∧ ((qae ps i d).map (·.1)).Nodup ∧ (∀ x ∈ qae ps i d, pid i ≤ x.1) ∧
   (∀ id x, (id, x) ∈ qae ps i d → ∃ o φ, x = some o ∧ (id, φ) ∈ qay ps Φs i ∧ qP P w H o φ) ∧
   ∀ (Φ : Nat → qC) (os : Nat → Option Obj), (∀ x ∈ qay ps Φs i, Φ x.1 = x.2) → (∀ id o, (id, some o) ∈ qae ps i d → os id = some o) → ∀ t av, lk (qaS ps i d) t = some av → ∃ j v, t = i + j ∧ vs[j]? = some v ∧ qg P C w H Φ os av v
 | [], d, vs, Φs, i, h => by
  obtain ⟨rfl, rfl⟩ := h
  exact ⟨rfl, rfl, by simp [qay], by simp [qay], by simp [qae], by simp [qae], by simp [qae], fun _ _ _ _ t av ht => by cases ht⟩
 | .v τ :: ps, d, vs, Φs, i, h => by
  obtain ⟨v, vs', φ, Φs', rfl, rfl, hfz, hφ, hv, h⟩ := h
  obtain ⟨h1, h2, h3, h4, h5, h6, h7, h8⟩ := qaR (i + 1) h
  refine ⟨by simp [h1], by simpa [qd, hφ, qay] using h2, fun x hx => Nat.le_trans (Nat.le_of_lt (qaZ (Nat.lt_succ_self i))) (h3 x hx), h4, h5, fun x hx => Nat.le_trans (Nat.le_of_lt (qaZ (Nat.lt_succ_self i))) (h6 x hx), h7, ?_⟩
  intro Φ os hΦ hos t av ht
  rw [qaS, jD] at ht
  cases hb : Nat.beq i t with
  | true =>
   rw [hb] at ht
   cases ht
   obtain rfl := Nat.eq_of_beq_eq_true hb
   exact ⟨0, v, rfl, rfl, hfz, hv⟩
  | false =>
   rw [hb] at ht
   obtain ⟨j, u, e, hu, hr⟩ := h8 Φ os hΦ hos t av ht
   exact ⟨j + 1, u, by omega, by simpa using hu, hr⟩
 | .r τ :: ps, d, vs, Φs, i, h => by
  obtain ⟨v, vs', φ, Φs', rfl, rfl, hfz, hφ, hv, h⟩ := h
  obtain ⟨h1, h2, h3, h4, h5, h6, h7, h8⟩ := qaR (i + 1) h
  refine ⟨by simp [h1], by simpa [qd, hφ, qay] using h2, fun x hx => Nat.le_trans (Nat.le_of_lt (qaZ (Nat.lt_succ_self i))) (h3 x hx), h4, h5, fun x hx => Nat.le_trans (Nat.le_of_lt (qaZ (Nat.lt_succ_self i))) (h6 x hx), h7, ?_⟩
  intro Φ os hΦ hos t av ht
  rw [qaS, jD] at ht
  cases hb : Nat.beq i t with
  | true =>
   rw [hb] at ht
   cases ht
   obtain rfl := Nat.eq_of_beq_eq_true hb
   exact ⟨0, v, rfl, rfl, hfz, hv⟩
  | false =>
   rw [hb] at ht
   obtain ⟨j, u, e, hu, hr⟩ := h8 Φ os hΦ hos t av ht
   exact ⟨j + 1, u, by omega, by simpa using hu, hr⟩
 | .c f :: ps, d, vs, Φs, i, h => by
  obtain ⟨v, vs', φ, Φs', rfl, rfl, hfz, hφ, hv, h⟩ := h
  obtain ⟨h1, h2, h3, h4, h5, h6, h7, h8⟩ := qaR (i + 1) h
  refine ⟨by simp [h1], by simpa [qd, hφ, qay] using h2, fun x hx => Nat.le_trans (Nat.le_of_lt (qaZ (Nat.lt_succ_self i))) (h3 x hx), h4, h5, fun x hx => Nat.le_trans (Nat.le_of_lt (qaZ (Nat.lt_succ_self i))) (h6 x hx), h7, ?_⟩
  intro Φ os hΦ hos t av ht
  rw [qaS, jD] at ht
  cases hb : Nat.beq i t with
  | true =>
   rw [hb] at ht
   cases ht
   obtain rfl := Nat.eq_of_beq_eq_true hb
   exact ⟨0, v, rfl, rfl, #[], #[], hv, rfl, rfl⟩
  | false =>
   rw [hb] at ht
   obtain ⟨j, u, e, hu, hr⟩ := h8 Φ os hΦ hos t av ht
   exact ⟨j + 1, u, by omega, by simpa using hu, hr⟩
 | .m τ :: ps, d, vs, Φs, i, h => by
  obtain ⟨v, vs', φ, Φs', rfl, rfl, hv, hok, h⟩ := h
  obtain ⟨h1, h2, h3, h4, h5, h6, h7, h8⟩ := qaR (i + 1) h
  have hlt : pid i < pid (i + 1) := qaZ (Nat.lt_add_one i)
  refine ⟨by simp [h1], by simpa [qd, qay] using h2, ?_, ?_, ?_, ?_, ?_, ?_⟩
  ·intro x hx
   rcases List.mem_cons.1 hx with rfl | hx
   ·exact Nat.le_refl _
   ·exact Nat.le_trans (Nat.le_of_lt hlt) (h3 x hx)
  ·simp only [qay, List.map_cons, List.nodup_cons]
   refine ⟨fun hm => ?_, h4⟩
   obtain ⟨x, hx, e⟩ := List.mem_map.1 hm
   have := h3 x hx
   omega
  ·simp only [qae, List.map_cons, List.nodup_cons]
   refine ⟨fun hm => ?_, h5⟩
   obtain ⟨x, hx, e⟩ := List.mem_map.1 hm
   have := h6 x hx
   omega
  ·intro x hx
   rcases List.mem_cons.1 hx with rfl | hx
   ·exact Nat.le_refl _
   ·exact Nat.le_trans (Nat.le_of_lt hlt) (h6 x hx)
  ·intro id x hx
   rcases List.mem_cons.1 hx with e | hx
   ·cases e
    exact ⟨_, φ, rfl, List.mem_cons_self, hok⟩
   ·obtain ⟨o, φ', e, hm, hok'⟩ := h7 id x hx
    exact ⟨o, φ', e, List.mem_cons_of_mem _ hm, hok'⟩
  ·intro Φ os hΦ hos t av ht
   rw [qaS, jD] at ht
   cases hb : Nat.beq i t with
   | true =>
    rw [hb] at ht
    cases ht
    obtain rfl := Nat.eq_of_beq_eq_true hb
    have e := hΦ (pid i, φ) List.mem_cons_self
    simp only at e
    refine ⟨0, v, rfl, rfl, ⟨false, τ, d.1⟩, ⟨τ, d.1⟩, φ.b, 0, hos _ _ List.mem_cons_self, rfl, qN _ _, ?_, hv⟩
    rw [e]
    exact jV _ _ _ _
   | false =>
    rw [hb] at ht
    obtain ⟨j, u, e, hu, hr⟩ := h8 Φ os (fun x hx => hΦ x (List.mem_cons_of_mem _ hx)) (fun id o ho => hos id o (List.mem_cons_of_mem _ ho)) t av ht
    exact ⟨j + 1, u, by omega, by simpa using hu, hr⟩
 | .gm τ :: ps, d, vs, Φs, i, h => by
  obtain ⟨v, vs', φ, Φs', rfl, rfl, hv, hok, h⟩ := h
  obtain ⟨h1, h2, h3, h4, h5, h6, h7, h8⟩ := qaR (i + 1) h
  have hlt : pid i < pid (i + 1) := qaZ (Nat.lt_add_one i)
  refine ⟨by simp [h1], by simpa [qd, qay] using h2, ?_, ?_, ?_, ?_, ?_, ?_⟩
  ·intro x hx
   rcases List.mem_cons.1 hx with rfl | hx
   ·exact Nat.le_refl _
   ·exact Nat.le_trans (Nat.le_of_lt hlt) (h3 x hx)
  ·simp only [qay, List.map_cons, List.nodup_cons]
   refine ⟨fun hm => ?_, h4⟩
   obtain ⟨x, hx, e⟩ := List.mem_map.1 hm
   have := h3 x hx
   omega
  ·simp only [qae, List.map_cons, List.nodup_cons]
   refine ⟨fun hm => ?_, h5⟩
   obtain ⟨x, hx, e⟩ := List.mem_map.1 hm
   have := h6 x hx
   omega
  ·intro x hx
   rcases List.mem_cons.1 hx with rfl | hx
   ·exact Nat.le_refl _
   ·exact Nat.le_trans (Nat.le_of_lt hlt) (h6 x hx)
  ·intro id x hx
   rcases List.mem_cons.1 hx with e | hx
   ·cases e
    exact ⟨_, φ, rfl, List.mem_cons_self, hok⟩
   ·obtain ⟨o, φ', e, hm, hok'⟩ := h7 id x hx
    exact ⟨o, φ', e, List.mem_cons_of_mem _ hm, hok'⟩
  ·intro Φ os hΦ hos t av ht
   rw [qaS, jD] at ht
   cases hb : Nat.beq i t with
   | true =>
    rw [hb] at ht
    cases ht
    obtain rfl := Nat.eq_of_beq_eq_true hb
    have e := hΦ (pid i, φ) List.mem_cons_self
    simp only at e
    refine ⟨0, v, rfl, rfl, ⟨false, τ, d.1⟩, ⟨τ, d.1⟩, φ.b, 0, hos _ _ List.mem_cons_self, rfl, qN _ _, ?_, hv⟩
    rw [e]
    exact jV _ _ _ _
   | false =>
    rw [hb] at ht
    obtain ⟨j, u, e, hu, hr⟩ := h8 Φ os (fun x hx => hΦ x (List.mem_cons_of_mem _ hx)) (fun id o ho => hos id o (List.mem_cons_of_mem _ ho)) t av ht
    exact ⟨j + 1, u, by omega, by simpa using hu, hr⟩
 | .mr tid e :: ps, d, vs, Φs, i, h => by
  obtain ⟨v, vs', φ, Φs', rfl, rfl, hv, hok, h⟩ := h
  obtain ⟨h1, h2, h3, h4, h5, h6, h7, h8⟩ := qaR (i + 1) h
  have hlt : pid i < pid (i + 1) := qaZ (Nat.lt_add_one i)
  refine ⟨by simp [h1], by simpa [qd, qay] using h2, ?_, ?_, ?_, ?_, ?_, ?_⟩
  ·intro x hx
   rcases List.mem_cons.1 hx with rfl | hx
   ·exact Nat.le_refl _
   ·exact Nat.le_trans (Nat.le_of_lt hlt) (h3 x hx)
  ·simp only [qay, List.map_cons, List.nodup_cons]
   refine ⟨fun hm => ?_, h4⟩
   obtain ⟨x, hx, e⟩ := List.mem_map.1 hm
   have := h3 x hx
   omega
  ·simp only [qae, List.map_cons, List.nodup_cons]
   refine ⟨fun hm => ?_, h5⟩
   obtain ⟨x, hx, e⟩ := List.mem_map.1 hm
   have := h6 x hx
   omega
  ·intro x hx
   rcases List.mem_cons.1 hx with rfl | hx
   ·exact Nat.le_refl _
   ·exact Nat.le_trans (Nat.le_of_lt hlt) (h6 x hx)
  ·intro id x hx
   rcases List.mem_cons.1 hx with e | hx
   ·cases e
    exact ⟨_, φ, rfl, List.mem_cons_self, hok⟩
   ·obtain ⟨o, φ', e, hm, hok'⟩ := h7 id x hx
    exact ⟨o, φ', e, List.mem_cons_of_mem _ hm, hok'⟩
  ·intro Φ os hΦ hos t av ht
   rw [qaS, jD] at ht
   cases hb : Nat.beq i t with
   | true =>
    rw [hb] at ht
    cases ht
    obtain rfl := Nat.eq_of_beq_eq_true hb
    have e := hΦ (pid i, φ) List.mem_cons_self
    simp only at e
    refine ⟨0, v, rfl, rfl, ⟨true, .list true tid _, d.1⟩, ⟨.list true tid _, d.1⟩, hos _ _ List.mem_cons_self, qN _ _, ?_⟩
    simp only [List.isEmpty_nil, Bool.and_self]
    rw [e]
    exact hv
   | false =>
    rw [hb] at ht
    obtain ⟨j, u, e, hu, hr⟩ := h8 Φ os (fun x hx => hΦ x (List.mem_cons_of_mem _ hx)) (fun id o ho => hos id o (List.mem_cons_of_mem _ ho)) t av ht
    exact ⟨j + 1, u, by omega, by simpa using hu, hr⟩
 | .t tid e :: ps, d, vs, Φs, i, h => by
  obtain ⟨v, vs', φ, Φs', rfl, rfl, hv, hok, h⟩ := h
  obtain ⟨h1, h2, h3, h4, h5, h6, h7, h8⟩ := qaR (i + 1) h
  have hlt : pid i < pid (i + 1) := qaZ (Nat.lt_add_one i)
  refine ⟨by simp [h1], by simpa [qd, qay] using h2, ?_, ?_, ?_, ?_, ?_, ?_⟩
  ·intro x hx
   rcases List.mem_cons.1 hx with rfl | hx
   ·exact Nat.le_refl _
   ·exact Nat.le_trans (Nat.le_of_lt hlt) (h3 x hx)
  ·simp only [qay, List.map_cons, List.nodup_cons]
   refine ⟨fun hm => ?_, h4⟩
   obtain ⟨x, hx, e⟩ := List.mem_map.1 hm
   have := h3 x hx
   omega
  ·simp only [qae, List.map_cons, List.nodup_cons]
   refine ⟨fun hm => ?_, h5⟩
   obtain ⟨x, hx, e⟩ := List.mem_map.1 hm
   have := h6 x hx
   omega
  ·intro x hx
   rcases List.mem_cons.1 hx with rfl | hx
   ·exact Nat.le_refl _
   ·exact Nat.le_trans (Nat.le_of_lt hlt) (h6 x hx)
  ·intro id x hx
   rcases List.mem_cons.1 hx with e | hx
   ·cases e
    exact ⟨_, φ, rfl, List.mem_cons_self, hok⟩
   ·obtain ⟨o, φ', e, hm, hok'⟩ := h7 id x hx
    exact ⟨o, φ', e, List.mem_cons_of_mem _ hm, hok'⟩
  ·intro Φ os hΦ hos t av ht
   rw [qaS, jD] at ht
   cases hb : Nat.beq i t with
   | true =>
    rw [hb] at ht
    cases ht
    obtain rfl := Nat.eq_of_beq_eq_true hb
    have e := hΦ (pid i, φ) List.mem_cons_self
    simp only at e
    refine ⟨0, v, rfl, rfl, ⟨true, .list true tid _, d.1⟩, ⟨.list true tid _, d.1⟩, hos _ _ List.mem_cons_self, qN _ _, ?_⟩
    simp only [List.isEmpty_nil, Bool.and_self]
    rw [e]
    exact hv
   | false =>
    rw [hb] at ht
    obtain ⟨j, u, e, hu, hr⟩ := h8 Φ os (fun x hx => hΦ x (List.mem_cons_of_mem _ hx)) (fun id o ho => hos id o (List.mem_cons_of_mem _ ho)) t av ht
    exact ⟨j + 1, u, by omega, by simpa using hu, hr⟩
 | .cm f τ :: ps, d, vs, Φs, i, h => by
  obtain ⟨v, vs', φ, Φs', rfl, rfl, hv, hok, h⟩ := h
  obtain ⟨h1, h2, h3, h4, h5, h6, h7, h8⟩ := qaR (i + 1) h
  have hlt : pid i < pid (i + 1) := qaZ (Nat.lt_add_one i)
  refine ⟨by simp [h1], by simpa [qd, qay] using h2, ?_, ?_, ?_, ?_, ?_, ?_⟩
  ·intro x hx
   rcases List.mem_cons.1 hx with rfl | hx
   ·exact Nat.le_refl _
   ·exact Nat.le_trans (Nat.le_of_lt hlt) (h3 x hx)
  ·simp only [qay, List.map_cons, List.nodup_cons]
   refine ⟨fun hm => ?_, h4⟩
   obtain ⟨x, hx, e⟩ := List.mem_map.1 hm
   have := h3 x hx
   omega
  ·simp only [qae, List.map_cons, List.nodup_cons]
   refine ⟨fun hm => ?_, h5⟩
   obtain ⟨x, hx, e⟩ := List.mem_map.1 hm
   have := h6 x hx
   omega
  ·intro x hx
   rcases List.mem_cons.1 hx with rfl | hx
   ·exact Nat.le_refl _
   ·exact Nat.le_trans (Nat.le_of_lt hlt) (h6 x hx)
  ·intro id x hx
   rcases List.mem_cons.1 hx with e | hx
   ·cases e
    exact ⟨_, φ, rfl, List.mem_cons_self, hok⟩
   ·obtain ⟨o, φ', e, hm, hok'⟩ := h7 id x hx
    exact ⟨o, φ', e, List.mem_cons_of_mem _ hm, hok'⟩
  ·intro Φ os hΦ hos t av ht
   rw [qaS, jD] at ht
   cases hb : Nat.beq i t with
   | true =>
    rw [hb] at ht
    cases ht
    obtain rfl := Nat.eq_of_beq_eq_true hb
    have e := hΦ (pid i, φ) List.mem_cons_self
    simp only at e
    refine ⟨0, v, rfl, rfl, #[], #[.pointer (some ⟨φ.b, 0, none⟩)], hv, rfl, _, [], rfl, ⟨⟨false, τ, d.1⟩, ⟨τ, d.1⟩, φ.b, 0, hos _ _ List.mem_cons_self, rfl, qN _ _, ?_, rfl⟩, rfl⟩
    rw [e]
    exact jV _ _ _ _
   | false =>
    rw [hb] at ht
    obtain ⟨j, u, e, hu, hr⟩ := h8 Φ os (fun x hx => hΦ x (List.mem_cons_of_mem _ hx)) (fun id o ho => hos id o (List.mem_cons_of_mem _ ho)) t av ht
    exact ⟨j + 1, u, by omega, by simpa using hu, hr⟩
def qb1 (w : World) (H : FH) (nt : Nat) (ps : List jZ) (Φs : List qC) : Ctx := ⟨w, (· ∈ qd Φs), H, nt, lk (qay ps Φs 0), [], fun _ => none⟩
theorem qfB {ps : List jZ} {d : PDens ps} {vs : List Value} {Φs : List qC} (hok : HOk H w) (hargs : jU P w H ps d vs Φs) (hnd : (qd Φs).Nodup) (hfr : ∀ b ∈ qd Φs, H b = none ∧ b < w.heap.size) {nt : Nat} (hnt : ps.length ≤ nt) :
  qk P (qb1 w H nt ps Φs) (qcb ps d) { tmps := vs.toArray ++ Array.replicate (nt - vs.toArray.size) undef, defers := [] } w H (fun id => (lk (qay ps Φs 0) id).getD (nilI id)) := by
 obtain ⟨h1, h2, h3, h4, h5, h6, h7, h8⟩ := qaR (C := qb1 w H nt ps Φs) 0 hargs
 have hΦ : ∀ x ∈ qay ps Φs 0, (lk (qay ps Φs 0) x.1).getD (nilI x.1) = x.2 := fun x hx => by rw [qg7 h4 hx]; rfl
 have hobj : ∀ id o, (qcb ps d).obj id = some o → (id, some o) ∈ qae ps 0 d := by
  intro id o ho
  have ho' : (lk (qae ps 0 d) id).join = some o := ho
  cases hq : lk (qae ps 0 d) id with
  | none => rw [hq] at ho'; cases ho'
  | some x => rw [hq] at ho'; simp only [Option.join_some] at ho'; rw [← ho']; exact qbB hq
 have hpin : ∀ id o, (qcb ps d).obj id = some o → ∃ φ, (id, φ) ∈ qay ps Φs 0 ∧ qP P w H o φ := by
  intro id o ho
  obtain ⟨o', φ, e, hm, hok⟩ := h7 id _ (hobj id o ho)
  cases e
  exact ⟨φ, hm, hok⟩
 refine ⟨rfl, ?_, FH.le_refl _, hok, fun b c hb => .inl hb, j7.refl _ _, ?_, ?_, ?_, ?_⟩
 ·simp only [Array.size_append, List.size_toArray, Array.size_replicate, qb1]
  omega
 ·intro t av ht
  obtain ⟨j, v, e, hv, hr⟩ := h8 (fun id => (lk (qay ps Φs 0) id).getD (nilI id)) (qcb ps d).obj hΦ (fun id o ho => by
   show (lk (qae ps 0 d) id).join = some o
   rw [qg7 h5 ho]; rfl) t av ht
  obtain rfl : t = j := by omega
  have : (vs.toArray ++ Array.replicate (nt - vs.toArray.size) undef).getD t undef = v := by
   have hlt := (List.getElem?_eq_some_iff.1 hv).1
   rw [Array.getD_eq_getD_getElem?, Array.getElem?_append_left (by simpa using hlt)]
   simp [hv]
  simp only [this]
  exact hr
 ·intro id o ho
  obtain ⟨φ, hm, hok⟩ := hpin id o ho
  rw [hΦ _ hm]
  refine ⟨hok, fun b hb => ?_⟩
  have hb' : b ∈ qd Φs := by rw [h2]; exact List.mem_flatMap.2 ⟨_, hm, hb⟩
  exact ⟨(hfr b hb').1, .inl hb', (hfr b hb').2⟩
 ·intro i j o o' hij hi hj b hb
  obtain ⟨φ, hm, _⟩ := hpin i o hi
  obtain ⟨φ', hm', _⟩ := hpin j o' hj
  rw [hΦ _ hm] at hb
  rw [hΦ _ hm']
  rw [h2] at hnd
  exact qfy hnd _ hm _ hm' (by intro e; cases e; exact hij rfl) b hb
 ·refine ⟨fun id φ hφ => ?_, fun id => ?_⟩
  ·have : lk (qay ps Φs 0) id = some φ := hφ
   rw [this]
   exact ⟨rfl, rfl⟩
  ·cases hq : lk (qay ps Φs 0) id with
   | none => exact nilI_cls id
   | some φ =>
    have h := h3 _ (qbB hq)
    exact cls_high (Nat.le_trans (by unfold pid; omega) h)
theorem qfC {ps : List jZ} {d : PDens ps} {vs : List Value} {Φs : List qC} (hargs : jU P w H ps d vs Φs) : qG (qb1 w H cfg.nt ps Φs) cfg := by
 obtain ⟨_, _, h3, _⟩ := qaR (C := qb1 w H cfg.nt ps Φs) 0 hargs
 refine ⟨rfl, fun id hid => ?_⟩
 show lk (qay ps Φs 0) id = none
 cases hq : lk (qay ps Φs 0) id with
 | none => rfl
 | some φ =>
  have h := h3 _ (qbB hq)
  have h' : pid 0 ≤ id := h
  unfold pid at h'
  omega
end
end Go.Vi
namespace Go.Vi
section
variable {P : Program} {C : Ctx} {cfg : jM} {R : Type} {r : R} {s : St} {a : Act} {w : World} {H : FH} {Φ : Nat → qC}
theorem qdv {t : TypeId} {τ : Ty} (h : qR P t τ) {w : World} {b o : Nat} {blk : Array Value} {bt : TypeId} {f : Nat × Nat} (hb : w.heap[b]? = some (.cells blk bt f)) (hs : (seg blk o τ.size).length = τ.size) :
  (loadVar t ⟨b, o, none⟩).run P w = .ok (jY τ (seg blk o τ.size)) w := by
 obtain ⟨_, _, _, hp, _⟩ := h.info
 obtain ⟨pre, post, e1, e2⟩ := qh2 hs hp
 have := qfS h hb e1 hs
 rw [e2] at this
 exact this
theorem loadK_ok (hcfg : qA P cfg) (hs : qk P C s a w H Φ) {T : TypeId} {av : AV} {v : Value} (hr : qg P C w H Φ s.obj av v) {kk : AV → Option R} (h : qjI s (lk cfg.ty T) av kk = some r) :
  ∃ bv u, kk bv = some r ∧ qg P C w H Φ s.obj bv u ∧ ∃ ad, v = .pointer (some ad) ∧ (loadVar T ad).run P w = .ok u w := by
 unfold qjI at h
 split at h
 ·rename_i σ y
  cases hT : decide (lk cfg.ty T = some σ) with
  | false => rw [hT] at h; cases h
  | true =>
   rw [hT, cond_true] at h
   obtain ⟨hty, _⟩ := hcfg.ty T _ (of_decide_eq_true hT)
   obtain ⟨hf, b, o, blk, hv, hH, hrep⟩ := hr
   obtain ⟨t, f, hb⟩ := hs.hok b blk hH
   exact ⟨_, jY σ (seg blk o σ.size), h, ⟨hf, _, rfl, hrep⟩, _, hv, qdv hty hb (qn.length σ hrep)⟩
 ·rename_i id p
  obtain ⟨o, y, b, off, h1, h2, h3, h4, hv⟩ := hr
  rw [h1] at h
  simp only [h2, cond_false] at h
  have hyt := jQ _ h3
  rw [hyt] at h
  obtain ⟨σ, y⟩ := y
  simp only at h hyt
  cases hT : decide (lk cfg.ty T = some σ.fz) with
  | false => rw [hT] at h; cases h
  | true =>
   rw [hT, cond_true] at h
   obtain ⟨hty, _⟩ := hcfg.ty T _ (of_decide_eq_true hT)
   have hty' := qR.unfz hty
   have hok := (hs.os id o h1).1
   obtain ⟨b', o', hl, blk', t', pre', c, post', f1, f', f2, e1, e2, e3, e4, e5, e6, _⟩ := hok.desc (y := y) h3 ⟨w, _, _, h4⟩ h2
   obtain ⟨rfl, rfl⟩ := j1.det h4 (hl w (fun _ _ => rfl))
   have hseg : seg blk' off σ.size = c := by rw [← e3]; exact qV e2 (qn.length σ e6)
   have hrun : (loadVar T ⟨b, off, none⟩).run P w = .ok (jY σ c) w := by
    have := qdv hty' (o := off) e1 (by rw [hseg]; exact qn.length σ e6)
    rw [hseg] at this
    exact this
   cases hfz : σ.isFz with
   | true =>
    rw [hfz, cond_true, jJ, h3] at h
    have hf0 := qn.fz_fp σ hfz e6
    subst hf0
    exact ⟨_, jY σ c, h, ⟨hfz, c, rfl, e6⟩, _, hv, hrun⟩
   | false =>
    rw [hfz, cond_false] at h
    refine ⟨_, jY σ c, h, ⟨o, ⟨σ, y⟩, h1, h3, ?_⟩, _, hv, hrun⟩
    rw [h2]
    exact ⟨b, off, blk', t', h4, e1, by rw [hseg]⟩
 ·cases h
def qe9 (P : Program) (a : Act) (w : World) (v : ResultVar) (u : Value) : Prop :=
 (match v with
  | .tmp t => (pure (a.tmps.getD t undef) : Sem Value)
  | .cell x t => do loadVar t (← asAddr (a.tmps.getD x undef))).run P w = .ok u w
theorem qcJ (hcfg : qA P cfg) (hs : qk P C s a w H Φ) {v : ResultVar} {kk : AV → Option R} (h : qfR cfg s v kk = some r) : ∃ av u, kk av = some r ∧ qg P C w H Φ s.obj av u ∧ qe9 P a w v u := by
 unfold qfR at h
 split at h
 ·rename_i t
  split at h
  ·rename_i av hav
   exact ⟨av, _, h, hs.ts t av hav, rfl⟩
  ·cases h
 ·rename_i t T
  split at h
  ·rename_i av hav
   obtain ⟨bv, u, h, hr, ad, hv, hrun⟩ := loadK_ok hcfg hs (hs.ts t av hav) h
   refine ⟨bv, u, h, hr, ?_⟩
   unfold qe9
   simp [hv, asAddr, hrun]
  ·cases h
theorem qjo (g : ResultVar → Sem Value) : ∀ (l : List ResultVar) (us : List Value), j6 (fun v u => (g v).run P w = .ok u w) l us → (l.mapM g).run P w = .ok us w
 | [], us, h => by match us, h with | [], _ => simp
 | v :: l, us, h => by
  match us, h with
  | u :: us, h =>
   have h1 := h.1
   simp only at h1
   rw [List.mapM_cons]
   simp only [Sem.run_bind, h1, Result.andThen_ok, qjo g l us h.2]
   simp
  | [], h => exact h.elim
theorem qlB (g : ResultVar → Sem Value) (l : Array ResultVar) (us : List Value) (h : j6 (fun v u => (g v).run P w = .ok u w) l.toList us) : (l.mapM g).run P w = .ok us.toArray w := by
 rw [Array.mapM_eq_mapM_toList]
 simp only [Sem.run_map, qjo g _ _ h, Result.andThen_ok]
theorem qdz {fn : Func} {us : List Value} (h : j6 (qe9 P a w) fn.results.toList us) : (results fn a.tmps).run P w = .ok (qaa us) w := by
 unfold results
 rw [Sem.run_bind, qlB _ fn.results us (j6.imp (fun v u h => by cases v <;> exact h) h)]
 simp only [Result.andThen_ok]
 match us with
 | [] => simp [qaa]
 | [u] => simp [qaa]
 | _ :: _ :: _ => simp [qaa]
theorem qgz (s : St) (av : AV) (τ : Ty) (kk : τ.den → Option R) : qbz s av τ kk = (qbz s av τ some).bind kk := by
 unfold qbz
 split
 ·simp [ql]
 ·split
  ·simp only [jJ, ql]
   cases qT _ _ _ <;> simp
  ·rfl
 ·simp [ql]
 ·split
  ·rename_i o _
   cases o.row with
   | true => rfl
   | false =>
    simp only [cond_false]
    split
    ·simp [ql]
    ·rfl
  ·rfl
 ·rfl
theorem qix {l r : List Nat} (h : apart l r = true) {id : Nat} (hid : id ∈ l) : id ∉ r := (qbW h).2 id hid
theorem qdX (hcfg : qA P cfg) (hs : qk P C s a w H Φ) : ∀ {vs : List ResultVar} {rs : List RTy} {used : List Nat} {kk : RDens rs → Option R}, qgc cfg s used vs rs kk = some r →
  ∃ T hand : List Nat, (∀ id ∈ T, id ∉ used) ∧ hand.Nodup ∧ (∀ id ∈ hand, id ∉ used ∧ id ∉ T) ∧ ∀ Hf, H.le Hf → Fzn w Hf Φ s.obj T →
   ∃ d us Ψs, kk d = some r ∧ j6 (qe9 P a w) vs us ∧ qac P w Hf rs d us Ψs ∧ (qd Ψs).Nodup ∧ ∀ b ∈ qd Ψs, ∃ id ∈ hand, ∃ o, s.obj id = some o ∧ b ∈ (Φ id).fp
 | [], [], used, kk, h => ⟨[], [], by simp, by simp, by simp, fun Hf _ _ => ⟨(), [], [], h, trivial, ⟨rfl, rfl⟩, by simp [qd], by simp [qd]⟩⟩
 | [], .v _ :: _, _, _, h => by cases h
 | [], .own _ _ :: _, _, _, h => by cases h
 | [], .optr _ :: _, _, _, h => by cases h
 | [], .ownv _ :: _, _, _, h => by cases h
 | [], .sure _ _ _ :: _, _, _, h => by cases h
 | _ :: _, [], _, _, h => by cases h
 | v :: vs, .v τ :: rs, used, kk, h => by
  simp only [qgc] at h
  obtain ⟨av, u, h, hr, hrun⟩ := qcJ hcfg hs h
  cases hap : apart av.touches used with
  | false => rw [hap] at h; cases h
  | true =>
  rw [hap, cond_true] at h
  rw [qgz] at h
  replace h := Option.bind_eq_some_iff.1 h
  obtain ⟨x, hsn, hx⟩ := h
  obtain ⟨T, hand, t1, t2, t3, t4⟩ := qdX hcfg hs hx
  refine ⟨av.touches ++ T, hand, ?_, t2, ?_, ?_⟩
  ·intro id hid
   rcases List.mem_append.1 hid with hid | hid
   ·exact qix hap hid
   ·exact fun hu => t1 id hid (List.mem_append.2 (.inr hu))
  ·intro id hid
   obtain ⟨q1, q2⟩ := t3 id hid
   refine ⟨fun hu => q1 (List.mem_append.2 (.inr hu)), fun hu => ?_⟩
   rcases List.mem_append.1 hu with hu | hu
   ·exact q1 (List.mem_append.2 (.inl hu))
   ·exact q2 hu
  ·intro Hf hle hf
   obtain ⟨hfz, x2, hx2, hv2⟩ := qck hs hle (FH.le_refl Hf) (fun id hid => hf id (by simp [hid])) (.inl hr) hsn
   cases hx2
   obtain ⟨d, us, Ψs, g1, g2, g3, g4, g5⟩ := t4 Hf hle (fun id hid => hf id (by simp [hid]))
   exact ⟨(x, d), u :: us, qM :: Ψs, g1, ⟨hrun, g2⟩, ⟨u, us, qM, Ψs, rfl, rfl, hfz, rfl, hv2, g3⟩, by simpa [qd, qM] using g4, by simpa [qd, qM] using g5⟩
 | v :: vs, .own tid e :: rs, used, kk, h => by
  simp only [qgc] at h
  obtain ⟨av, u, h, hr, hrun⟩ := qcJ hcfg hs h
  split at h
  case h_2 => cases h
  rename_i id p
  cases hu : qap id used with
  | true => rw [hu] at h; cases h
  | false =>
  rw [hu, cond_false] at h
  have hnu : id ∉ used := fun hm => by rw [qaD.2 hm] at hu; cases hu
  split at h
  case h_2 => cases h
  rename_i o ho
  rw [jJ] at h
  replace h := Option.bind_eq_some_iff.1 h
  obtain ⟨y, hy, h⟩ := h
  rw [ql] at h
  replace h := Option.bind_eq_some_iff.1 h
  obtain ⟨x, hx, h⟩ := h
  obtain ⟨T, hand, t1, t2, t3, t4⟩ := qdX hcfg hs h
  have hok := (hs.os id o ho).1
  obtain ⟨cs, fp, hv, hrep, hsub, hndf⟩ := qa5 hr ho hok hy
  obtain ⟨σ, y⟩ := y
  obtain ⟨e1, hx⟩ := qj hx
  simp only at e1
  subst e1
  subst hx
  have hnf := qaj _ hok.1 hy
  obtain ⟨hdr, xs, fp', rfl, rfl, k3, k4⟩ := hrep
  refine ⟨T, id :: hand, fun j hj hm => t1 j hj (List.mem_cons_of_mem _ hm), ?_, ?_, ?_⟩
  ·exact List.nodup_cons.2 ⟨fun hm => (t3 id hm).1 List.mem_cons_self, t2⟩
  ·intro j hj
   rcases List.mem_cons.1 hj with rfl | hj
   ·exact ⟨hnu, fun hm => t1 j hm List.mem_cons_self⟩
   ·exact ⟨fun hm => (t3 j hj).1 (List.mem_cons_of_mem _ hm), (t3 j hj).2⟩
  ·intro Hf hle hf
   obtain ⟨d, us, Ψs, g1, g2, g3, g4, g5⟩ := t4 Hf hle hf
   have hv' : u = hdr := hv
   refine ⟨(_, d), u :: us, ⟨0, hdr, hdr.ownBlock.toList ++ fp'⟩ :: Ψs, g1, ⟨hrun, g2⟩, ⟨u, us, _, Ψs, rfl, rfl, hv', qP.of_list hnf hndf (qn.mono _ hle (fun _ _ => rfl) ⟨hdr, xs, fp', rfl, rfl, k3, k4⟩), g3⟩, ?_, ?_⟩
   ·have : qd (⟨0, hdr, hdr.ownBlock.toList ++ fp'⟩ :: Ψs) = (hdr.ownBlock.toList ++ fp') ++ qd Ψs := by simp [qd]
    rw [this, List.nodup_append]
    refine ⟨hndf, g4, ?_⟩
    rintro b hb _ hb' rfl
    obtain ⟨j, hj, o', ho', hbj⟩ := g5 b hb'
    exact hs.disj id j o o' (by rintro rfl; exact (t3 id hj).1 List.mem_cons_self) ho ho' b (hsub b hb) hbj
   ·intro b hb
    have : qd (⟨0, hdr, hdr.ownBlock.toList ++ fp'⟩ :: Ψs) = (hdr.ownBlock.toList ++ fp') ++ qd Ψs := by simp [qd]
    rw [this] at hb
    rcases List.mem_append.1 hb with hb | hb
    ·exact ⟨id, List.mem_cons_self, o, ho, hsub b hb⟩
    ·obtain ⟨j, hj, o', ho', hbj⟩ := g5 b hb
     exact ⟨j, List.mem_cons_of_mem _ hj, o', ho', hbj⟩
 | v :: vs, .ownv τ :: rs, used, kk, h => by
  simp only [qgc] at h
  obtain ⟨av, u, h, hr, hrun⟩ := qcJ hcfg hs h
  split at h
  case h_2 => cases h
  rename_i id p
  cases hu0 : qap id used || !qfT τ with
  | true => rw [hu0] at h; cases h
  | false =>
  rw [hu0, cond_false] at h
  rw [Bool.or_eq_false_iff, Bool.not_eq_false'] at hu0
  obtain ⟨hu, hrow⟩ := hu0
  have hnu : id ∉ used := fun hm => by rw [qaD.2 hm] at hu; cases hu
  split at h
  case h_2 => cases h
  rename_i o ho
  rw [jJ] at h
  replace h := Option.bind_eq_some_iff.1 h
  obtain ⟨y, hy, h⟩ := h
  rw [ql] at h
  replace h := Option.bind_eq_some_iff.1 h
  obtain ⟨x, hx, h⟩ := h
  obtain ⟨T, hand, t1, t2, t3, t4⟩ := qdX hcfg hs h
  have hok := (hs.os id o ho).1
  obtain ⟨cs, fp, hv, hrep, hsub, hndf⟩ := qa5 hr ho hok hy
  obtain ⟨σ, y⟩ := y
  obtain ⟨e1, hx⟩ := qj hx
  simp only at e1
  subst e1
  subst hx
  have hnf := qaj _ hok.1 hy
  refine ⟨T, id :: hand, fun j hj hm => t1 j hj (List.mem_cons_of_mem _ hm), ?_, ?_, ?_⟩
  ·exact List.nodup_cons.2 ⟨fun hm => (t3 id hm).1 List.mem_cons_self, t2⟩
  ·intro j hj
   rcases List.mem_cons.1 hj with rfl | hj
   ·exact ⟨hnu, fun hm => t1 j hm List.mem_cons_self⟩
   ·exact ⟨fun hm => (t3 j hj).1 (List.mem_cons_of_mem _ hm), (t3 j hj).2⟩
  ·intro Hf hle hf
   obtain ⟨d, us, Ψs, g1, g2, g3, g4, g5⟩ := t4 Hf hle hf
   refine ⟨(_, d), u :: us, ⟨0, u, fp⟩ :: Ψs, g1, ⟨hrun, g2⟩, ⟨u, us, _, Ψs, rfl, rfl, rfl, ⟨hnf, hndf, hrow, cs, hv, qn.mono _ hle (fun _ _ => rfl) hrep⟩, g3⟩, ?_, ?_⟩
   ·have : qd (⟨0, u, fp⟩ :: Ψs) = fp ++ qd Ψs := by simp [qd]
    rw [this, List.nodup_append]
    refine ⟨hndf, g4, ?_⟩
    rintro b hb _ hb' rfl
    obtain ⟨j, hj, o', ho', hbj⟩ := g5 b hb'
    exact hs.disj id j o o' (by rintro rfl; exact (t3 id hj).1 List.mem_cons_self) ho ho' b (hsub b hb) hbj
   ·intro b hb
    have : qd (⟨0, u, fp⟩ :: Ψs) = fp ++ qd Ψs := by simp [qd]
    rw [this] at hb
    rcases List.mem_append.1 hb with hb | hb
    ·exact ⟨id, List.mem_cons_self, o, ho, hsub b hb⟩
    ·obtain ⟨j, hj, o', ho', hbj⟩ := g5 b hb
     exact ⟨j, List.mem_cons_of_mem _ hj, o', ho', hbj⟩
 | v :: vs, .optr τ :: rs, used, kk, h => by
  simp only [qgc] at h
  obtain ⟨av, u, h, hr, hrun⟩ := qcJ hcfg hs h
  split at h
  case h_2 => cases h
  rename_i id
  cases hu : qap id used with
  | true => rw [hu] at h; cases h
  | false =>
  rw [hu, cond_false] at h
  have hnu : id ∉ used := fun hm => by rw [qaD.2 hm] at hu; cases hu
  split at h
  case h_2 => cases h
  rename_i o ho
  obtain ⟨row, σ, x0⟩ := o
  cases row with
  | true => cases h
  | false =>
  simp only [cond_false, ql] at h
  replace h := Option.bind_eq_some_iff.1 h
  obtain ⟨x, hx, h⟩ := h
  obtain ⟨T, hand, t1, t2, t3, t4⟩ := qdX hcfg hs h
  have hok := (hs.os id _ ho).1
  obtain ⟨e1, hx⟩ := qj hx
  subst e1
  subst hx
  obtain ⟨o2, y2, b, off, q1, _, _, q4, q5⟩ := hr
  rw [ho] at q1
  cases q1
  obtain ⟨rfl, rfl⟩ := jT.det _ q4 (jV w σ (Φ id).b 0)
  refine ⟨T, id :: hand, fun j hj hm => t1 j hj (List.mem_cons_of_mem _ hm), ?_, ?_, ?_⟩
  ·exact List.nodup_cons.2 ⟨fun hm => (t3 id hm).1 List.mem_cons_self, t2⟩
  ·intro j hj
   rcases List.mem_cons.1 hj with rfl | hj
   ·exact ⟨hnu, fun hm => t1 j hm List.mem_cons_self⟩
   ·exact ⟨fun hm => (t3 j hj).1 (List.mem_cons_of_mem _ hm), (t3 j hj).2⟩
  ·intro Hf hle hf
   obtain ⟨d, us, Ψs, g1, g2, g3, g4, g5⟩ := t4 Hf hle hf
   have hfe : qd (Φ id :: Ψs) = (Φ id).fp ++ qd Ψs := by simp [qd]
   refine ⟨(_, d), u :: us, Φ id :: Ψs, g1, ⟨hrun, g2⟩, ⟨u, us, _, Ψs, rfl, rfl, q5, hok.frame hle (fun _ _ => rfl), g3⟩, ?_, ?_⟩
   ·rw [hfe, List.nodup_append]
    refine ⟨hok.2.1, g4, ?_⟩
    rintro b hb _ hb' rfl
    obtain ⟨j, hj, o', ho', hbj⟩ := g5 b hb'
    exact hs.disj id j _ o' (by rintro rfl; exact (t3 id hj).1 List.mem_cons_self) ho ho' b hb hbj
   ·intro b hb
    rw [hfe] at hb
    rcases List.mem_append.1 hb with hb | hb
    ·exact ⟨id, List.mem_cons_self, _, ho, hb⟩
    ·obtain ⟨j, hj, o', ho', hbj⟩ := g5 b hb
     exact ⟨j, List.mem_cons_of_mem _ hj, o', ho', hbj⟩
 | v :: vs, .sure nn tid e :: rs, used, kk, h => by
  simp only [qgc] at h
  obtain ⟨av, u, h, hr, hrun⟩ := qcJ hcfg hs h
  split at h
  case h_2 => cases h
  rename_i id
  cases hu : qap id used || !qer id nn with
  | true => rw [hu] at h; cases h
  | false =>
  rw [hu, cond_false] at h
  rw [Bool.or_eq_false_iff, Bool.not_eq_false'] at hu
  have hnu : id ∉ used := fun hm => by rw [qaD.2 hm] at hu; cases hu.1
  split at h
  case h_2 => cases h
  rename_i o ho
  obtain ⟨row, σ, x0⟩ := o
  cases row with
  | false => cases h
  | true =>
  simp only [cond_true, ql] at h
  replace h := Option.bind_eq_some_iff.1 h
  obtain ⟨x, hx, h⟩ := h
  obtain ⟨T, hand, t1, t2, t3, t4⟩ := qdX hcfg hs h
  have hok := (hs.os id _ ho).1
  obtain ⟨e1, hx⟩ := qj hx
  subst e1
  subst hx
  obtain ⟨o2, y2, q1, _, q5⟩ := hr
  rw [ho] at q1
  cases q1
  simp only [List.isEmpty_nil, Bool.and_self] at q5
  have hsv := qgt hu.2 (hs.pins.2 id)
  refine ⟨T, id :: hand, fun j hj hm => t1 j hj (List.mem_cons_of_mem _ hm), ?_, ?_, ?_⟩
  ·exact List.nodup_cons.2 ⟨fun hm => (t3 id hm).1 List.mem_cons_self, t2⟩
  ·intro j hj
   rcases List.mem_cons.1 hj with rfl | hj
   ·exact ⟨hnu, fun hm => t1 j hm List.mem_cons_self⟩
   ·exact ⟨fun hm => (t3 j hj).1 (List.mem_cons_of_mem _ hm), (t3 j hj).2⟩
  ·intro Hf hle hf
   obtain ⟨d, us, Ψs, g1, g2, g3, g4, g5⟩ := t4 Hf hle hf
   have hfe : qd (Φ id :: Ψs) = (Φ id).fp ++ qd Ψs := by simp [qd]
   refine ⟨(_, d), u :: us, Φ id :: Ψs, g1, ⟨hrun, g2⟩, ⟨u, us, _, Ψs, rfl, rfl, q5, hok.frame hle (fun _ _ => rfl), hsv, g3⟩, ?_, ?_⟩
   ·rw [hfe, List.nodup_append]
    refine ⟨hok.2.1, g4, ?_⟩
    rintro b hb _ hb' rfl
    obtain ⟨j, hj, o', ho', hbj⟩ := g5 b hb'
    exact hs.disj id j _ o' (by rintro rfl; exact (t3 id hj).1 List.mem_cons_self) ho ho' b hb hbj
   ·intro b hb
    rw [hfe] at hb
    rcases List.mem_append.1 hb with hb | hb
    ·exact ⟨id, List.mem_cons_self, _, ho, hb⟩
    ·obtain ⟨j, hj, o', ho', hbj⟩ := g5 b hb
     exact ⟨j, List.mem_cons_of_mem _ hj, o', ho', hbj⟩
end
end Go.Vi
namespace Go.Vi
section
variable {P : Program} {C : Ctx} {cfg : jM} {s : St} {a : Act} {w : World} {H : FH} {Φ : Nat → qC}
theorem qaN : ∀ {ps : List jZ} {i : Nat}, (∀ id ∈ qal ps i, pid i ≤ id) ∧ (qal ps i).Nodup
 | [], _ => ⟨by simp [qal], by simp [qal]⟩
 | .v _ :: ps, i => by
  obtain ⟨h1, h2⟩ := qaN (ps := ps) (i := i + 1)
  exact ⟨fun id hid => Nat.le_trans (Nat.le_of_lt (qaZ (Nat.lt_add_one i))) (h1 id hid), h2⟩
 | .r _ :: ps, i => by
  obtain ⟨h1, h2⟩ := qaN (ps := ps) (i := i + 1)
  exact ⟨fun id hid => Nat.le_trans (Nat.le_of_lt (qaZ (Nat.lt_add_one i))) (h1 id hid), h2⟩
 | .c _ :: ps, i => by
  obtain ⟨h1, h2⟩ := qaN (ps := ps) (i := i + 1)
  exact ⟨fun id hid => Nat.le_trans (Nat.le_of_lt (qaZ (Nat.lt_add_one i))) (h1 id hid), h2⟩
 | .m _ :: ps, i => by
  obtain ⟨h1, h2⟩ := qaN (ps := ps) (i := i + 1)
  have hlt : pid i < pid (i + 1) := qaZ (Nat.lt_add_one i)
  refine ⟨fun id hid => ?_, List.nodup_cons.2 ⟨fun hm => ?_, h2⟩⟩
  ·rcases List.mem_cons.1 hid with rfl | hid
   ·exact Nat.le_refl _
   ·exact Nat.le_trans (Nat.le_of_lt hlt) (h1 id hid)
  ·have := h1 _ hm; omega
 | .mr _ _ :: ps, i => by
  obtain ⟨h1, h2⟩ := qaN (ps := ps) (i := i + 1)
  have hlt : pid i < pid (i + 1) := qaZ (Nat.lt_add_one i)
  refine ⟨fun id hid => ?_, List.nodup_cons.2 ⟨fun hm => ?_, h2⟩⟩
  ·rcases List.mem_cons.1 hid with rfl | hid
   ·exact Nat.le_refl _
   ·exact Nat.le_trans (Nat.le_of_lt hlt) (h1 id hid)
  ·have := h1 _ hm; omega
 | .t _ _ :: ps, i => by
  obtain ⟨h1, h2⟩ := qaN (ps := ps) (i := i + 1)
  exact ⟨fun id hid => Nat.le_trans (Nat.le_of_lt (qaZ (Nat.lt_add_one i))) (h1 id hid), h2⟩
 | .gm _ :: ps, i => by
  obtain ⟨h1, h2⟩ := qaN (ps := ps) (i := i + 1)
  exact ⟨fun id hid => Nat.le_trans (Nat.le_of_lt (qaZ (Nat.lt_add_one i))) (h1 id hid), h2⟩
 | .cm _ _ :: ps, i => by
  obtain ⟨h1, h2⟩ := qaN (ps := ps) (i := i + 1)
  have hlt : pid i < pid (i + 1) := qaZ (Nat.lt_add_one i)
  refine ⟨fun id hid => ?_, List.nodup_cons.2 ⟨fun hm => ?_, h2⟩⟩
  ·rcases List.mem_cons.1 hid with rfl | hid
   ·exact Nat.le_refl _
   ·exact Nat.le_trans (Nat.le_of_lt hlt) (h1 id hid)
  ·have := h1 _ hm; omega
theorem qau (hs : qk P C s a w H Φ) {Hf : FH} (hle : H.le Hf) {w0 : World} {H0 : FH} : ∀ {ps : List jZ} {i : Nat} {d : PDens ps} {vs : List Value} {Φs : List qC} {md : MDens ps}, jU P w0 H0 ps d vs Φs →
  (∀ x ∈ qay ps Φs i, (Φ x.1).b = x.2.b ∧ (Φ x.1).hdr = x.2.hdr) → qaJ s ps i = some md → ∃ Φs', jN P w Hf ps md vs Φs' ∧ qd Φs' = (qal ps i).flatMap (fun id => (Φ id).fp) ∧ ∀ id ∈ qal ps i, ∃ o, s.obj id = some o
 | [], i, d, vs, Φs, md, ha, _, h => by
  obtain ⟨rfl, rfl⟩ := ha
  exact ⟨[], ⟨rfl, rfl⟩, rfl, by simp [qal]⟩
 | .v τ :: ps, i, d, vs, Φs, md, ha, hp, h => by
  obtain ⟨v, vs', φ, Φs', rfl, rfl, _, _, _, ha⟩ := ha
  obtain ⟨Ψ, h1, h2, h3⟩ := qau hs hle (i := i + 1) ha hp h
  exact ⟨qM :: Ψ, ⟨v, vs', qM, Ψ, rfl, rfl, rfl, h1⟩, by simpa [qd, qM, qal] using h2, h3⟩
 | .r τ :: ps, i, d, vs, Φs, md, ha, hp, h => by
  obtain ⟨v, vs', φ, Φs', rfl, rfl, _, _, _, ha⟩ := ha
  obtain ⟨Ψ, h1, h2, h3⟩ := qau hs hle (i := i + 1) ha hp h
  exact ⟨qM :: Ψ, ⟨v, vs', qM, Ψ, rfl, rfl, rfl, h1⟩, by simpa [qd, qM, qal] using h2, h3⟩
 | .c _ :: ps, i, d, vs, Φs, md, ha, hp, h => by
  obtain ⟨v, vs', φ, Φs', rfl, rfl, _, _, _, ha⟩ := ha
  obtain ⟨Ψ, h1, h2, h3⟩ := qau hs hle (i := i + 1) ha hp h
  exact ⟨qM :: Ψ, ⟨v, vs', qM, Ψ, rfl, rfl, rfl, h1⟩, by simpa [qd, qM, qal] using h2, h3⟩
 | .m τ :: ps, i, d, vs, Φs, md, ha, hp, h => by
  obtain ⟨v, vs', φ, Φs', rfl, rfl, hv, _, ha⟩ := ha
  simp only [qaJ] at h
  split at h
  case h_2 => cases h
  rename_i o ho
  obtain ⟨row, σ, x0⟩ := o
  cases row with
  | true => cases h
  | false =>
  simp only [cond_false] at h
  split at h
  case h_2 => cases h
  rename_i x d' hx hd'
  cases h
  obtain ⟨e1, hx⟩ := qj hx
  subst e1
  subst hx
  obtain ⟨Ψ, h1, h2, h3⟩ := qau hs hle (i := i + 1) ha (fun x hx => hp x (List.mem_cons_of_mem _ hx)) hd'
  have hb := (hp (pid i, φ) List.mem_cons_self).1
  simp only at hb
  refine ⟨Φ (pid i) :: Ψ, ⟨v, vs', _, Ψ, rfl, rfl, by rw [hb]; exact hv, (hs.os _ _ ho).1.frame hle (fun _ _ => rfl), h1⟩, by simpa [qd, qal] using h2, ?_⟩
  intro id hid
  rcases List.mem_cons.1 hid with rfl | hid
  ·exact ⟨_, ho⟩
  ·exact h3 id hid
 | .mr tid e :: ps, i, d, vs, Φs, md, ha, hp, h => by
  obtain ⟨v, vs', φ, Φs', rfl, rfl, hv, _, ha⟩ := ha
  simp only [qaJ] at h
  split at h
  case h_2 => cases h
  rename_i o ho
  obtain ⟨row, σ, x0⟩ := o
  cases row with
  | false => cases h
  | true =>
  simp only [cond_true] at h
  split at h
  case h_2 => cases h
  rename_i x d' hx hd'
  cases h
  obtain ⟨e1, hx⟩ := qj hx
  subst e1
  subst hx
  obtain ⟨Ψ, h1, h2, h3⟩ := qau hs hle (i := i + 1) ha (fun x hx => hp x (List.mem_cons_of_mem _ hx)) hd'
  have hb := (hp (pid i, φ) List.mem_cons_self).2
  simp only at hb
  refine ⟨Φ (pid i) :: Ψ, ⟨v, vs', _, Ψ, rfl, rfl, by rw [hb]; exact hv, (hs.os _ _ ho).1.frame hle (fun _ _ => rfl), h1⟩, by simpa [qd, qal] using h2, ?_⟩
  intro id hid
  rcases List.mem_cons.1 hid with rfl | hid
  ·exact ⟨_, ho⟩
  ·exact h3 id hid
 | .t tid e :: ps, i, d, vs, Φs, md, ha, hp, h => by
  obtain ⟨v, vs', φ, Φs', rfl, rfl, _, _, ha⟩ := ha
  obtain ⟨Ψ, h1, h2, h3⟩ := qau hs hle (i := i + 1) ha (fun x hx => hp x (List.mem_cons_of_mem _ hx)) h
  exact ⟨qM :: Ψ, ⟨v, vs', qM, Ψ, rfl, rfl, rfl, h1⟩, by simpa [qd, qM, qal] using h2, h3⟩
 | .gm _ :: ps, i, d, vs, Φs, md, ha, hp, h => by
  obtain ⟨v, vs', φ, Φs', rfl, rfl, _, _, ha⟩ := ha
  obtain ⟨Ψ, h1, h2, h3⟩ := qau hs hle (i := i + 1) ha (fun x hx => hp x (List.mem_cons_of_mem _ hx)) h
  exact ⟨qM :: Ψ, ⟨v, vs', qM, Ψ, rfl, rfl, rfl, h1⟩, by simpa [qd, qM, qal] using h2, h3⟩
 | .cm f τ :: ps, i, d, vs, Φs, md, ha, hp, h => by
  obtain ⟨v, vs', φ, Φs', rfl, rfl, hv, _, ha⟩ := ha
  simp only [qaJ] at h
  split at h
  case h_2 => cases h
  rename_i o ho
  obtain ⟨row, σ, x0⟩ := o
  cases row with
  | true => cases h
  | false =>
  simp only [cond_false] at h
  split at h
  case h_2 => cases h
  rename_i x d' hx hd'
  cases h
  obtain ⟨e1, hx⟩ := qj hx
  subst e1
  subst hx
  obtain ⟨Ψ, h1, h2, h3⟩ := qau hs hle (i := i + 1) ha (fun x hx => hp x (List.mem_cons_of_mem _ hx)) hd'
  have hb := (hp (pid i, φ) List.mem_cons_self).1
  simp only at hb
  refine ⟨Φ (pid i) :: Ψ, ⟨v, vs', _, Ψ, rfl, rfl, by rw [hb]; exact hv, (hs.os _ _ ho).1.frame hle (fun _ _ => rfl), h1⟩, by simpa [qd, qal] using h2, ?_⟩
  intro id hid
  rcases List.mem_cons.1 hid with rfl | hid
  ·exact ⟨_, ho⟩
  ·exact h3 id hid
def qll (gh : Nat → Option Value) (w : World) (H : FH) (nt : Nat) (ps : List jZ) (Φs : List qC) : Ctx := ⟨w, (· ∈ qd Φs), H, nt, lk (qay ps Φs 0), [], gh⟩
theorem fin_ok (hcfg : qA P cfg) {gh : Nat → Option Value} {fn : Func} {p : jH} {d : PDens p.ps} {y : RDens p.rs × MDens p.ps} {vs : List Value} {Φs : List qC} (hargs : jU P w H p.ps d vs Φs) {a' : Act} {w' : World} {H2 : FH} {Φ2 : Nat → qC}
  (hs : qk P (qll gh w H cfg.nt p.ps Φs) s a' w' H2 Φ2) (h : qf3 cfg fn p.ps p.rs .ret s = some y) :
  a'.defers = [] ∧ ∃ v, (results fn a'.tmps).run P w' = .ok v w' ∧ ∃ us H' Φs' Ψs, Ending.returned v = .returned (qaa us) ∧ j7 (· ∈ qd Φs) w w' ∧ H.le H' ∧ HOk H' w' ∧ (∀ b c, H' b = some c → H b = some c ∨ b ∈ qd Φs ∨ w.heap.size ≤ b) ∧
    qac P w' H' p.rs y.1 us Ψs ∧ jN P w' H' p.ps y.2 vs Φs' ∧ (qd (Ψs ++ Φs')).Nodup ∧ ∀ b ∈ qd (Ψs ++ Φs'), H' b = none ∧ (b ∈ qd Φs ∨ w.heap.size ≤ b) ∧ b < w'.heap.size := by
 obtain ⟨_, _, _, h4, _⟩ := qaR (C := qb1 w H cfg.nt p.ps Φs) 0 hargs
 simp only [qf3] at h
 split at h
 case h_2 => cases h
 rename_i md hmd
 obtain ⟨T, hand, t1, t2, t3, t4⟩ := qdX hcfg hs h
 obtain ⟨Hf, m1, m2, m3, m4, m5⟩ := qk.freezeAll T hs
 obtain ⟨d', us, Ψs, g1, g2, g3, g4, g5⟩ := t4 Hf m1 m3
 cases g1
 obtain ⟨Φs', k1, k2, k3⟩ := qau hs m1 (i := 0) hargs (fun x hx => by
  obtain ⟨id, φ⟩ := x
  have hpin : (qll gh w H cfg.nt p.ps Φs).pin id = some φ := qg7 h4 hx
  exact hs.pins.1 id φ hpin) hmd
 have hids := qaN (ps := p.ps) (i := 0)
 have hfapp : qd (Ψs ++ Φs') = qd Ψs ++ qd Φs' := by simp [qd]
 have hobj : ∀ id, id ∉ T → ∀ o, s.obj id = some o → ∀ b ∈ (Φ2 id).fp, Hf b = none ∧ (b ∈ qd Φs ∨ w.heap.size ≤ b) ∧ b < w'.heap.size := by
  intro id hid o ho b hb'
  obtain ⟨q1, q2, q3⟩ := (hs.os id o ho).2 b hb'
  refine ⟨?_, q2, q3⟩
  cases hq : Hf b with
  | none => rfl
  | some c =>
   rcases m2 b c hq with h1 | ⟨j, hj, o', ho', hbj⟩
   ·rw [q1] at h1; cases h1
   ·exact absurd hbj (hs.disj id j o o' (by rintro rfl; exact hid hj) ho ho' b hb')
 refine ⟨hs.defers, _, qdz g2, us, Hf, Φs', Ψs, rfl, hs.mod, FH.le_trans hs.le m1, m4.hok, m4.hnew, g3, k1, ?_, ?_⟩
 ·rw [hfapp, List.nodup_append]
  refine ⟨g4, ?_, ?_⟩
  ·rw [k2]
   refine qbo hids.2 (fun id hid => ?_) (fun i hi j hj hij b hb' => ?_)
   ·obtain ⟨o, ho⟩ := k3 id hid
    exact (hs.os id o ho).1.2.1
   ·obtain ⟨o, ho⟩ := k3 i hi
    obtain ⟨o', ho'⟩ := k3 j hj
    exact hs.disj i j o o' hij ho ho' b hb'
  ·rintro b hb1 _ hb2 rfl
   obtain ⟨i, hi, o, ho, hbi⟩ := g5 b hb1
   rw [k2] at hb2
   obtain ⟨j, hj, hbj⟩ := List.mem_flatMap.1 hb2
   obtain ⟨o', ho'⟩ := k3 j hj
   exact hs.disj i j o o' (by rintro rfl; exact (t3 i hi).1 hj) ho ho' b hbi hbj
 ·intro b hb'
  rw [hfapp] at hb'
  rcases List.mem_append.1 hb' with hb1 | hb2
  ·obtain ⟨i, hi, o, ho, hbi⟩ := g5 b hb1
   exact hobj i (t3 i hi).2 o ho b hbi
  ·rw [k2] at hb2
   obtain ⟨j, hj, hbj⟩ := List.mem_flatMap.1 hb2
   obtain ⟨o', ho'⟩ := k3 j hj
   exact hobj j (fun hT => t1 j hT hj) o' ho' b hbj
theorem fn_sound (hm : P.follows .mixedOrders = true) (hcfg : qA P cfg) {f : FuncId} {fn : Func} {c : Code} (hf : P.funcs[f]? = some fn) (hb : fn.body = some c) (hnt : fn.ntmps = cfg.nt) (hl : qa3 cfg c) (hd : qw cfg c = true)
  {p : jH} (hps : p.ps.length ≤ cfg.nt) (hg : ∀ d y, p.g d = some y → ∃ n, jL cfg n fn c p.ps p.rs d = some y) : qj1 P f p := by
 intro d y hy w H vs Φs hok hargs hnd hfr
 obtain ⟨n, hn⟩ := hg d y hy
 refine calls_of_wp hf hb ?_
 rw [hnt]
 have hsim := qfB hok hargs hnd hfr hps
 have hC := qfC (cfg := cfg) hargs
 refine wp_mono (qcC hm hcfg hC c hl hd ⟨H, _, hsim, trivial⟩ hn) ?_
 have fin : ∀ (s : St) (a' : Act) (w' : World), Sim P (qb1 w H cfg.nt p.ps Φs) s a' w' → qf3 cfg fn p.ps p.rs .ret s = some y →
   a'.defers = [] ∧ ∃ v, (results fn a'.tmps).run P w' = .ok v w' ∧ ∃ us H' Φs' Ψs, Ending.returned v = .returned (qaa us) ∧ j7 (· ∈ qd Φs) w w' ∧ H.le H' ∧ HOk H' w' ∧ (∀ b c, H' b = some c → H b = some c ∨ b ∈ qd Φs ∨ w.heap.size ≤ b) ∧
    qac P w' H' p.rs y.1 us Ψs ∧ jN P w' H' p.ps y.2 vs Φs' ∧ (qd (Ψs ++ Φs')).Nodup ∧ ∀ b ∈ qd (Ψs ++ Φs'), H' b = none ∧ (b ∈ qd Φs ∨ w.heap.size ≤ b) ∧ b < w'.heap.size := by
  rintro s a' w' ⟨H2, Φ2, hs⟩ h
  exact fin_ok (gh := fun _ => none) hcfg hargs hs h
 intro e a' w' hp
 cases e with
 | normal => obtain ⟨s, hs, h⟩ := hp; exact fin s a' w' hs.sim h
 | ret => obtain ⟨s, hs, h⟩ := hp; exact fin s a' w' hs.sim h
 | exit i => obtain ⟨s, hs, h⟩ := hp; cases h
 | _ => exact hp.elim
theorem qbd {f : FuncId} {fn : Func} {c : Code} (hf : P.funcs[f]? = some fn) (hb : fn.body = some c) (hn : (fn.name == "runtime.NumGoroutine") = false) : jO P f := ⟨fn, hf, hn, by rw [hb]; rfl⟩
end
end Go.Vi
namespace Go.Vi
theorem nilK_of {R : Type} {n : Nat} {k : Bool → Option R} {r : R} (h1 : n = 0 → k true = some r) (h2 : k false = some r) : nilK n k = some r := by
 unfold nilK
 cases h : Nat.beq n 0 with
 | true => exact qkM true trivial (fun b _ => match b with
  | true => h1 (Nat.eq_of_beq_eq_true h)
  | false => h2)
 | false => exact h2
def qi : Nat := 18446744073709551616
def qa8 {α R : Type} (x : α) (k : α → Option R) : Option R := k x
theorem qag {R : Type} (x : Option R) : qt [x] = x := by
 cases x with
 | some r => exact ql2 (fun y hy => List.mem_singleton.1 hy)
 | none =>
  cases h : qt [(none : Option R)] with
  | none => rfl
  | some r => exact (qf7 h none (List.mem_singleton.2 rfl)).symm
theorem qaf {R : Type} (x : Option R) (l : List (Option R)) : qt (x :: x :: l) = qt (x :: l) := by
 unfold qt
 congr 1
 funext y
 simp
def qU {α R : Type} (x : α) (k : α → Option R) : Option R := k x
def body (f : Func) : Code := match f.body with | some c => c | none => .skip
def qh : Code → List Code
 | .seq a b => qh a ++ qh b
 | .cond _ a b => qh a ++ qh b
 | .block _ c => qh c
 | .loop c => c :: qh c
 | _ => []
def nth (i : Nat) (l : List Code) : Code := match l[i]? with | some c => c | none => .skip
def qdu (cfg : jM) (b : Code) : Prop := ∀ key li, qaQ b = some key → lk cfg.loops key = some li → LoopEq cfg li b
theorem qW {cfg : jM} {b : Code} {key : Nat} {li : j0} (h1 : qaQ b = some key) (h2 : lk cfg.loops key = some li) (h3 : ∀ d, li.g 0 d = none) (h4 : ∀ n d, li.g (n + 1) d = run cfg n b (li.ins.fill d) (jI li n)) : qdu cfg b := by
 intro key' li' e1 e2
 rw [h1] at e1
 cases e1
 rw [h2] at e2
 cases e2
 exact ⟨h3, h4⟩
theorem qL {cfg : jM} {c : Code} (h : qh c = []) : ∀ b ∈ qh c, qdu cfg b := by
 intro b hb
 rw [h] at hb
 cases hb
theorem qbh {cfg : jM} : ∀ {c : Code}, (∀ b ∈ qh c, qdu cfg b) → qa3 cfg c
 | .seq _a _b, h => ⟨qbh fun x hx => h x (List.mem_append.2 (.inl hx)), qbh fun x hx => h x (List.mem_append.2 (.inr hx))⟩
 | .cond _ _a _b, h => ⟨qbh fun x hx => h x (List.mem_append.2 (.inl hx)), qbh fun x hx => h x (List.mem_append.2 (.inr hx))⟩
 | .block _ c, h => qbh (c := c) h
 | .loop c, h => ⟨qbh fun x hx => h x (List.mem_cons_of_mem _ hx), h c List.mem_cons_self⟩
 | .skip, _ => trivial
 | .region _ _ _, _ => trivial
 | .rangeFunc _ _ _ _, _ => trivial
 | .exit _, _ => trivial
 | .scope _, _ => trivial
 | .label _, _ => trivial
 | .goto _, _ => trivial
 | .ret, _ => trivial
 | .refuse _, _ => trivial
def jA (P : Program) (f : Nat) (p : jH) : Prop := jO P f ∧ qj1 P f p
def qdP (P : Program) (l : List (Nat × jH)) : Prop := ∀ x ∈ l, jA P x.1 x.2
theorem qv {P : Program} : qdP P [] := by intro x hx; cases hx
theorem qm {P : Program} {f : Nat} {p : jH} {l : List (Nat × jH)} (h : jA P f p) (hl : qdP P l) : qdP P ((f, p) :: l) := by
 intro x hx
 rcases List.mem_cons.1 hx with rfl | hx
 ·exact h
 ·exact hl x hx
def mapB (P : Program) (x : Nat × Nat × Nat) : Bool :=
 (match P.underlying x.1 with | some (.map k e) => Nat.beq k x.2.1 && Nat.beq e x.2.2 | _ => false) && (tyB P (.int .i64)).1 x.2.1 && (tyB P (.int .i64)).1 x.2.2
def tysB (P : Program) (l : List (Nat × Ty)) : Bool := l.all fun x => (tyB P x.2).1 x.1 && x.2.isFz
theorem qH {P : Program} {cfg : jM} (hty : tysB P cfg.ty = true) (hp : qdP P cfg.prims) (hs : Nat.ble cfg.nt 2000 = true) (hmap : cfg.maps.all (mapB P) = true) (hmk : ∀ f m, lk cfg.makers f = some m → jO P f ∧ qeH P f m := by intro _ _ h; cases h) (hal : qdP P cfg.alts := by intro _ h; cases h) (hkp : ∀ f m, lk cfg.keeps f = some m → jO P f ∧ qhH P f m := by intro _ _ h; cases h) (hma : ∀ f m, lk cfg.mas f = some m → jO P f ∧ qkV P f m := by intro _ _ h; cases h) (hse : ∀ sp, cfg.self = some sp → jO P sp.f ∧ SoundL P sp ∧ qgo P sp.T = true := by intro _ h; cases h) (hin : ∀ d il, lk cfg.inl d = some il → qaU P d il := by intro _ _ h; cases h) : qA P cfg := by
 refine ⟨fun t τ h => ?_, fun f p h => hp (f, p) (qbB h), fun f p h => hal (f, p) (qbB h), Nat.le_of_ble_eq_true hs, hmk, fun T kt vt h => ?_, hkp, hma, hse, hin⟩
 ·have := List.all_eq_true.1 hty (t, τ) (qbB h)
  rw [Bool.and_eq_true] at this
  exact this
 ·have := List.all_eq_true.1 hmap (T, kt, vt) (qbB h)
  unfold mapB at this
  rw [Bool.and_eq_true, Bool.and_eq_true] at this
  obtain ⟨⟨h1, h2⟩, h3⟩ := this
  refine ⟨?_, h2, h3⟩
  simp only at h1
  split at h1
  ·rename_i k e hu
   rw [Bool.and_eq_true] at h1
   rw [hu, Nat.eq_of_beq_eq_true h1.1, Nat.eq_of_beq_eq_true h1.2]
  ·cases h1
theorem fn_done {P : Program} {cfg : jM} (hm : P.follows .mixedOrders = true) (hcfg : qA P cfg) {f : FuncId} {fn : Func} (hf : P.funcs[f]? = some fn) (hb : fn.body.isSome = true) (hnt : fn.ntmps = cfg.nt) (hname : (fn.name == "runtime.NumGoroutine") = false)
  {p : jH} (hps : Nat.ble p.ps.length cfg.nt = true) (hl : ∀ b ∈ qh (body fn), qdu cfg b) (hd : qw cfg (body fn) = true) (hg : ∀ d y, p.g d = some y → ∃ n, jL cfg n fn (body fn) p.ps p.rs d = some y) : jA P f p := by
 have hb2 : fn.body = some (body fn) := by
  unfold body
  cases h : fn.body with
  | none => rw [h] at hb; cases hb
  | some c => rfl
 exact ⟨qbd hf hb2 hname, fn_sound hm hcfg hf hb2 hnt (qbh hl) hd (Nat.le_of_ble_eq_true hps) hg⟩
end Go.Vi
namespace Go.Vi
open Go.Proofs Go.Shelf Go.Sort
section
variable {P : Program} {ρ : Ren}
theorem qju {α : Type} [Inhabited α] (enc : α → Value) (w : World) (g : Nat) (d : Array α) {cur : Array Value} {t : TypeId} {f : Nat × Nat} (hg : w.heap[g]? = some (.cells cur t f)) :
  (putRow enc w g 0 d).heap[g]? = some (.cells (putCells enc 0 d cur) t f) ∧ ∀ k, k ≠ g → (putRow enc w g 0 d).heap[k]? = w.heap[k]? := by
 unfold putRow mapBlock
 refine ⟨?_, fun k hk => ?_⟩
 ·simp only [Array.getElem?_modify, if_true, hg, Option.map_some]
  rfl
 ·simp only [Array.getElem?_modify]
  rw [if_neg (fun e => hk e.symm)]
end
end Go.Vi
namespace Go.Vi
open Go.ChangeShapes Go.WideShapes Go.ChangeAt Go.RowKit Go.WideElems Go.Proofs.YtncngmcojppmgaaGreat
def Ty.plain : Ty → Bool
 | .int _ => true
 | .bool => true
 | .list own _ e => !own && e.plain
 | .pair a b => a.plain && b.plain
 | .str t => t.plain
 | _ => false
def WfD : (τ : Ty) → τ.den → Prop
 | .int k, x => k.min ≤ x ∧ x ≤ k.max
 | .list _ _ e, l => ∀ y ∈ l, WfD e y
 | .pair a b, x => WfD a x.1 ∧ WfD b x.2
 | .str t, x => WfD t x
 | _, _ => True
def qdM : (τ : Ty) → τ.den → Nat
 | .list _ _ e, l => (l.map (qdM e)).sum + 1
 | .pair a b, x => qdM a x.1 + qdM b x.2
 | .str t, x => qdM t x + 1
 | _, _ => 1
def qen : (ps : List jZ) → PDens ps → Prop
 | [], _ => True
 | .v τ :: ps, d => WfD τ d.1 ∧ qen ps d.2
 | .r _ :: ps, d => qen ps d.2
 | .c _ :: ps, d => qen ps d.2
 | .m _ :: ps, d => qen ps d.2
 | .mr _ _ :: ps, d => qen ps d.2
 | .t _ _ :: ps, d => qen ps d.2
 | .gm _ :: ps, d => qen ps d.2
 | .cm _ _ :: ps, d => qen ps d.2
def qbE : (ps : List jZ) → PDens ps → Nat
 | [], _ => 0
 | .v τ :: ps, d => qdM τ d.1 + qbE ps d.2
 | .r _ :: ps, d => qbE ps d.2
 | .c _ :: ps, d => qbE ps d.2
 | .m _ :: ps, d => qbE ps d.2
 | .mr _ _ :: ps, d => qbE ps d.2
 | .t _ _ :: ps, d => qbE ps d.2
 | .gm _ :: ps, d => qbE ps d.2
 | .cm _ _ :: ps, d => qbE ps d.2
def qbs (P : Program) : List jZ → List TypeId → Bool
 | [], [] => true
 | .v τ :: ps, t :: ts => τ.plain && τ.isFz && (tyB P τ).1 t && P.readableRec t && Nat.blt t P.types.size && qbs P ps ts
 | _, _ => false
def allH (w : World) : FH := fun b => match w.heap[b]? with
 | some (.cells c _ _) => some c
 | _ => none
theorem allH_ok (w : World) : HOk (allH w) w := by
 intro b c h
 unfold allH at h
 split at h
 ·rename_i c' t f e; cases h; exact ⟨t, f, e⟩
 ·cases h
section
variable {H : Type} {enc : TypeId × Value → H} {P : Program} {W : World}
theorem qis {a : Addr} {n : Nat} {cs : List Value} (h : W.cells? 0 a n = some cs) (hn : 0 < n) : ∃ b o blk, a = ⟨b, o, none⟩ ∧ allH W b = some blk ∧ cs = seg blk o n ∧ cs.length = n := by
 unfold World.cells? at h
 rw [if_pos (Nat.zero_le _)] at h
 have hl : cs.length = n := by simpa using mapM_some_length h
 have hg := mapM_some_get h
 have h0 := hg 0 0 (by simp [hn])
 obtain ⟨b, o, sp⟩ := a
 have hc : ∃ c t f, W.heap[b]? = some (.cells c t f) ∧ sp = none := by
  simp only [Addr.add, if_true] at h0
  unfold World.cell? at h0
  simp only at h0
  have : cs[0]? ≠ none := by rw [List.getElem?_eq_getElem (by omega)]; simp
  cases hb : W.heap[b]? with
  | none => rw [hb] at h0; exact absurd h0.symm this
  | some ob =>
   rw [hb] at h0
   cases ob with
   | cells c t f =>
    cases sp with
    | none => exact ⟨c, t, f, rfl, rfl⟩
    | some u => simp only [Option.isSome_some, if_true] at h0; exact absurd h0.symm this
   | _ => exact absurd h0.symm this
 obtain ⟨c, t, f, hb, rfl⟩ := hc
 refine ⟨b, o, c, rfl, by unfold allH; rw [hb], ?_, hl⟩
 have hi : ∀ i, i < n → c[o + i]? = cs[i]? := by
  intro i hi
  have := hg i i (by simp [hi])
  have e : (⟨b, o, none⟩ : Addr).add i = ⟨b, o + i, none⟩ := by
   unfold Addr.add
   split
   ·rename_i e; subst e; rfl
   ·rfl
  rw [e] at this
  rw [← this]
  simp [World.cell?, hb]
 unfold seg
 apply List.ext_getElem?
 intro i
 rw [List.getElem?_take]
 split
 ·rename_i hlt
  rw [List.getElem?_drop, ← hi i hlt, Array.getElem?_toList]
 ·rename_i hlt
  rw [List.getElem?_eq_none (by omega)]
theorem seg_succ (blk : Array Value) (o z n : Nat) : seg blk o ((n + 1) * z) = seg blk o z ++ seg blk (o + z) (n * z) := by
 unfold seg
 rw [show (n + 1) * z = z + n * z by rw [Nat.succ_mul, Nat.add_comm], List.take_add, List.drop_drop]
theorem qir {α : Type} {R : α → List Value → List Nat → Prop} {Q : α → Prop} {g : α → Nat} {blk : Array Value} {z : Nat} : ∀ {l : List (DataW H)} {o : Nat}, (∀ (i : Nat) d, l[i]? = some d → ∃ x, R x (seg blk (o + i * z) z) [] ∧ Q x ∧ g x ≤ Rows.uptoBulk d) →
  ∃ xs : List α, xs.length = l.length ∧ qe R xs (seg blk o (xs.length * z)) [] ∧ (∀ x ∈ xs, Q x) ∧ (xs.map g).sum ≤ Rows.uptoBulkAll l
 | [], o, _ => ⟨[], rfl, ⟨by simp [seg], rfl⟩, by simp, by simp⟩
 | d :: l, o, h => by
  obtain ⟨x, h1, h2, h3⟩ := h 0 d rfl
  obtain ⟨xs, k1, k2, k3, k4⟩ := qir (R := R) (Q := Q) (g := g) (l := l) (o := o + z) (blk := blk) (z := z) (fun i d hd => by
   have := h (i + 1) d hd
   rw [show o + (i + 1) * z = o + z + i * z by rw [Nat.succ_mul]; omega] at this
   exact this)
  refine ⟨x :: xs, by simp [k1], ?_, ?_, ?_⟩
  ·rw [List.length_cons, seg_succ]
   exact ⟨_, _, [], [], rfl, rfl, by simpa using h1, k2⟩
  ·intro y hy
   rcases List.mem_cons.1 hy with rfl | hy
   ·exact h2
   ·exact k3 y hy
  ·simp only [List.map_cons, List.sum_cons, Rows.uptoBulkAll]
   omega
theorem qfO {base : Nat} {spare : Nat → Bool} {held : Bool} : ∀ {ts : List TypeId} {vs : List Value} {ds : List (DataW H)} {ps : List MemPlace}, DataW.TrodAll enc P W base spare held ts vs ds ps → ds.length = ts.length
 | [], _, _, _, h => by obtain ⟨rfl, rfl, _⟩ := trodAll_nil h; rfl
 | _ :: _, _, _, _, h => by
  obtain ⟨_, _, _, _, _, _, rfl, rfl, _, _, hr⟩ := trodAll_cons h
  rw [List.length_cons, List.length_cons, qfO hr]
theorem qdp {t : TypeId} {τ : Ty} (h : qR P t τ) : P.cellsOf t = τ.size := by
 obtain ⟨i, hi, hs, _⟩ := h.info
 unfold Program.cellsOf
 rw [hi]
 exact hs
def qcA (P : Program) (W : World) (τ : Ty) (cs : List Value) (n : Nat) : Prop := ∃ x : τ.den, qn P τ W (allH W) x cs [] ∧ WfD τ x ∧ qdM τ x ≤ n
theorem qbk {τ : Ty} (hA : ∀ ⦃t : TypeId⦄ ⦃n : Nat⦄ ⦃cs : List Value⦄ ⦃y : DataW H × List MemPlace⦄, qR P t τ → DataW.trod enc P W 0 (fun _ => true) true n t cs = some y → qcA P W τ cs (Rows.uptoBulk y.1))
  {l : List Field} {o n : Nat} {cs : List Value} {xs : List (DataW H × List MemPlace)} (hf : ∃ x, l = [x] ∧ x.offset = o ∧ qR P x.type τ) (hl : xs.length = l.length)
  (h : ∀ (i : Nat) (f : Field), l[i]? = some f → DataW.trod enc P W 0 (fun _ => true) true n f.type ((cs.drop f.offset).take (P.cellsOf f.type)) = xs[i]?) :
  qcA P W τ ((cs.drop o).take τ.size) (Rows.uptoBulkAll (xs.map (·.1))) := by
 obtain ⟨x, rfl, rfl, ht⟩ := hf
 match xs, hl with
 | [y], _ =>
  have := h 0 x rfl
  rw [qdp ht] at this
  obtain ⟨v, h1, h2, h3⟩ := hA ht this
  exact ⟨v, h1, h2, by simpa [Rows.uptoBulkAll] using h3⟩
theorem qdn {τ : Ty} (hp : ∀ a b, τ ≠ .pair a b) {l : List Field} {o : Nat} (h : j4 P τ l o) : ∃ x, l = [x] ∧ x.offset = o ∧ qR P x.type τ := by
 unfold j4 at h
 match l with
 | [x] =>
  refine ⟨x, rfl, ?_⟩
  cases τ <;> simp only [tyB, Bool.and_eq_true] at h
  case pair a b => exact absurd rfl (hp a b)
  all_goals exact ⟨Nat.eq_of_beq_eq_true h.1, by unfold qR; simp only [tyB, Bool.and_eq_true]; exact h.2⟩
 | [] => cases τ <;> simp [tyB] at h
 | x :: y :: r =>
  cases τ <;> simp [tyB] at h
  case pair a b => exact absurd rfl (hp a b)
theorem qeQ : ∀ (τ : Ty), τ.plain = true →
  (∀ ⦃t : TypeId⦄ ⦃n : Nat⦄ ⦃cs : List Value⦄ ⦃y : DataW H × List MemPlace⦄, qR P t τ → DataW.trod enc P W 0 (fun _ => true) true n t cs = some y → qcA P W τ cs (Rows.uptoBulk y.1)) ∧
  (∀ ⦃l : List Field⦄ ⦃o n : Nat⦄ ⦃cs : List Value⦄ ⦃xs : List (DataW H × List MemPlace)⦄, j4 P τ l o → xs.length = l.length →
   (∀ (i : Nat) (f : Field), l[i]? = some f → DataW.trod enc P W 0 (fun _ => true) true n f.type ((cs.drop f.offset).take (P.cellsOf f.type)) = xs[i]?) →
   qcA P W τ ((cs.drop o).take τ.size) (Rows.uptoBulkAll (xs.map (·.1))))
 | .int k, _ => by
  have hA : ∀ ⦃t : TypeId⦄ ⦃n : Nat⦄ ⦃cs : List Value⦄ ⦃y : DataW H × List MemPlace⦄, qR P t (.int k) → DataW.trod enc P W 0 (fun _ => true) true n t cs = some y → qcA P W (.int k) cs (Rows.uptoBulk y.1) := by
   intro t n cs y ht h
   obtain ⟨x, rfl, rfl, hw⟩ := DataW.trod_int ht.int h
   simp only [Lit.wf, Bool.and_eq_true, decide_eq_true_eq] at hw
   exact ⟨x, ⟨rfl, rfl⟩, hw, by simp [qdM, Rows.uptoBulk]⟩
  exact ⟨hA, fun _ _ _ _ _ hf => qbk hA (qdn (fun _ _ h => by cases h) hf)⟩
 | .bool, _ => by
  have hA : ∀ ⦃t : TypeId⦄ ⦃n : Nat⦄ ⦃cs : List Value⦄ ⦃y : DataW H × List MemPlace⦄, qR P t .bool → DataW.trod enc P W 0 (fun _ => true) true n t cs = some y → qcA P W .bool cs (Rows.uptoBulk y.1) := by
   intro t n cs y ht h
   obtain ⟨x, rfl, rfl⟩ := DataW.trod_bool ht.bool h
   exact ⟨x, ⟨rfl, rfl⟩, trivial, by simp [qdM, Rows.uptoBulk]⟩
  exact ⟨hA, fun _ _ _ _ _ hf => qbk hA (qdn (fun _ _ h => by cases h) hf)⟩
 | .list false tid e, hp => by
  have ih := (qeQ e (by simpa [Ty.plain] using hp)).1
  have hA : ∀ ⦃t : TypeId⦄ ⦃n : Nat⦄ ⦃cs : List Value⦄ ⦃y : DataW H × List MemPlace⦄, qR P t (.list false tid e) → DataW.trod enc P W 0 (fun _ => true) true n t cs = some y → qcA P W (.list false tid e) cs (Rows.uptoBulk y.1) := by
   intro t n cs y ht h
   obtain ⟨hu, he⟩ := ht.list
   have hz := qdp he
   obtain ⟨_, _, _, hpos, _⟩ := he.info
   rcases DataW.trod_slice hu h with ⟨rfl, rfl⟩ | ⟨a, len, cap, elems, rest, m, rfl, rfl, rfl, _, hlc, _, hel, hget, _, _⟩
   ·exact ⟨([] : List e.den), ⟨rfl, none, 0, rfl, Nat.le_refl _, .inl rfl⟩, (fun y hy => by cases hy), by simp [qdM, Rows.uptoBulk]⟩
   ·cases len with
    | zero =>
     refine ⟨([] : List e.den), ⟨rfl, some a, cap, rfl, Nat.zero_le _, .inl rfl⟩, (fun y hy => by cases hy), ?_⟩
     simp [qdM, Rows.uptoBulk]
    | succ len =>
     have hne : ∀ i, i < len + 1 → ∃ y, elems[i]? = some y := fun i hi => ⟨_, List.getElem?_eq_getElem (by omega)⟩
     have hc0 : ∃ cs0, W.cells? 0 a e.size = some cs0 := by
      obtain ⟨y, hy⟩ := hne 0 (by omega)
      have := hget 0 (by omega)
      rw [hy, hz] at this
      obtain ⟨cs0, h1, _⟩ := Option.bind_eq_some_iff.1 this
      exact ⟨cs0, by simpa [Addr.add] using h1⟩
     obtain ⟨cs0, hc0⟩ := hc0
     obtain ⟨b, o, blk, rfl, hb, _, _⟩ := qis hc0 hpos
     obtain ⟨xs, k1, k2, k3, k4⟩ := qir (R := qn P e W (allH W)) (Q := WfD e) (g := qdM e) (l := elems.map (·.1)) (o := o) (blk := blk) (z := e.size) (fun i d hd => by
      rw [List.getElem?_map] at hd
      obtain ⟨y, hy, rfl⟩ := Option.map_eq_some_iff.1 hd
      have hi : i < len + 1 := by
       have := (List.getElem?_eq_some_iff.1 hy).1
       omega
      have := hget i hi
      rw [hy, hz] at this
      obtain ⟨cs1, h1, h2⟩ := Option.bind_eq_some_iff.1 this
      obtain ⟨b', o', blk', e1, hb', rfl, _⟩ := qis h1 hpos
      have e2 : b' = b ∧ o' = o + i * e.size := by
       unfold Addr.add at e1
       split at e1
       ·rename_i e0
        cases e1
        exact ⟨rfl, by rw [e0]; rfl⟩
       ·cases e1; exact ⟨rfl, rfl⟩
      obtain ⟨rfl, rfl⟩ := e2
      rw [hb] at hb'
      cases hb'
      exact ih he h2)
     refine ⟨xs, ⟨rfl, some ⟨b, o, none⟩, cap, ?_, ?_, .inr ⟨b, o, blk, rfl, hb, k2⟩⟩, k3, ?_⟩
     ·rw [k1, List.length_map, hel]
     ·rw [k1, List.length_map, hel]; exact hlc
     ·simp only [qdM, Rows.uptoBulk]
      omega
  exact ⟨hA, fun _ _ _ _ _ hf => qbk hA (qdn (fun _ _ h => by cases h) hf)⟩
 | .pair a b, hp => by
  simp only [Ty.plain, Bool.and_eq_true] at hp
  have iha := (qeQ a hp.1).1
  have ihb := (qeQ b hp.2).2
  refine ⟨fun _ _ _ _ ht => ht.not_pair.elim, ?_⟩
  intro l o n cs xs hf hl h
  unfold j4 at hf
  match l with
  | [] => simp [tyB] at hf
  | [x] => simp [tyB] at hf
  | x :: y :: r =>
   simp only [tyB, Bool.and_eq_true] at hf
   obtain ⟨⟨e1, hx⟩, hr⟩ := hf
   obtain rfl := Nat.eq_of_beq_eq_true e1
   match xs, hl with
   | z :: zs, hl =>
    have h0 := h 0 x rfl
    have hx : qR P x.type a := hx
    rw [qdp hx] at h0
    obtain ⟨u, h1, h2, h3⟩ := iha hx h0
    obtain ⟨v, k1, k2, k3⟩ := ihb (l := y :: r) (o := x.offset + a.size) (n := n) (cs := cs) (xs := zs) hr (by simpa using hl) (fun i f hi => h (i + 1) f hi)
    refine ⟨(u, v), ⟨_, _, [], [], ?_, rfl, h1, k1⟩, ⟨h2, k2⟩, ?_⟩
    ·rw [show (Ty.pair a b).size = a.size + b.size from rfl, List.take_add, List.drop_drop]
    ·simp only [qdM, List.map_cons, Rows.uptoBulkAll]
     omega
 | .str s, hp => by
  have ih := (qeQ s (by simpa [Ty.plain] using hp)).2
  have hA : ∀ ⦃t : TypeId⦄ ⦃n : Nat⦄ ⦃cs : List Value⦄ ⦃y : DataW H × List MemPlace⦄, qR P t (.str s) → DataW.trod enc P W 0 (fun _ => true) true n t cs = some y → qcA P W (.str s) cs (Rows.uptoBulk y.1) := by
   intro t n cs y ht h
   obtain ⟨fs, hu, hf⟩ := ht.str
   obtain ⟨xs, m, rfl, rfl, hl, hx, hget⟩ := DataW.trod_struct hu h
   obtain ⟨v, h1, h2, h3⟩ := ih (l := fs.toList) (o := 0) (n := m) (cs := cs) (xs := xs) hf (by simpa using hx) (fun i f hi => hget i f (by simpa using hi))
   have hsz : cs.length = s.size := by rw [hl, qdp ht]; rfl
   refine ⟨v, ?_, h2, ?_⟩
   ·have e : (cs.drop 0).take s.size = cs := by rw [List.drop_zero, ← hsz, List.take_length]
    rw [e] at h1
    exact h1
   ·simp only [qdM, Rows.uptoBulk]
    omega
  exact ⟨hA, fun _ _ _ _ _ hf => qbk hA (qdn (fun _ _ h => by cases h) hf)⟩
 | .list true _ _, h => by simp [Ty.plain] at h
 | .ptr _, h => by cases h
 | .op _, h => by cases h
 | .arr _ _, h => by cases h
 | .fn _ _, h => by cases h
 | .fn2 _ _ _, h => by cases h
theorem toV_of {t : TypeId} {τ : Ty} (hp : τ.plain = true) (ht : qR P t τ) {r : Reach} {b0 : Nat} {v : Value} (h : Value.okWide P W r b0 t v) : v = jY τ v.cells.toList := by
 cases τ with
 | int k => obtain ⟨n, rfl⟩ := okWide_int ht.int h; rfl
 | bool => obtain ⟨n, rfl⟩ := okWide_bool ht.bool h; rfl
 | list own tid e => obtain ⟨a, l, c, rfl⟩ := okWide_slice ht.list.1 h; rfl
 | pair a b => exact ht.not_pair.elim
 | str s =>
  obtain ⟨fs, hu, _⟩ := ht.str
  unfold Value.okWide at h
  rw [hu] at h
  obtain ⟨cs, rfl, _⟩ := h
  simp [jY, Ty.isAgg, Value.cells]
 | _ => cases hp
theorem qiw : ∀ {ps : List jZ} {ts : List TypeId} {vs : List Value} {ds : List (DataW H)} {pl : List MemPlace}, qbs P ps ts = true →
  (∀ (j : Nat) t v, ts[j]? = some t → vs[j]? = some v → ∃ r b0, Value.okWide P W r b0 t v) → DataW.TrodAll enc P W 0 (fun _ => true) true ts vs ds pl →
  ∃ (d : PDens ps) (Φs : List qC), jU P W (allH W) ps d vs Φs ∧ qd Φs = [] ∧ qen ps d ∧ qbE ps d ≤ Rows.uptoBulkAll ds
 | [], [], vs, ds, pl, _, _, h => by
  obtain ⟨rfl, rfl, _⟩ := trodAll_nil h
  exact ⟨(), [], ⟨rfl, rfl⟩, rfl, trivial, Nat.le_refl _⟩
 | .v τ :: ps, t :: ts, vs, ds, pl, hp, hval, h => by
  simp only [qbs, Bool.and_eq_true] at hp
  obtain ⟨⟨⟨⟨⟨h1, h2⟩, h3⟩, _⟩, _⟩, h6⟩ := hp
  obtain ⟨v, vs', d, ds', p, q, rfl, rfl, _, hd, hr⟩ := trodAll_cons h
  obtain ⟨d', Φs, k1, k2, k3, k4⟩ := qiw (ps := ps) h6 (fun j t v hj hv => hval (j + 1) t v hj hv) hr
  obtain ⟨n, hn⟩ := hd
  obtain ⟨x, e1, e2, e3⟩ := (qeQ (enc := enc) (P := P) (W := W) τ h1).1 (t := t) h3 hn
  obtain ⟨r, b0, ho⟩ := hval 0 t v rfl rfl
  refine ⟨(x, d'), qM :: Φs, ⟨v, vs', qM, Φs, rfl, rfl, h2, rfl, ⟨v.cells.toList, toV_of h1 h3 ho, e1⟩, k1⟩, by simpa [qd, qM] using k2, ⟨e2, k3⟩, ?_⟩
  show qdM τ x + qbE ps d' ≤ Rows.uptoBulk d + Rows.uptoBulkAll ds'
  have e3' : qdM τ x ≤ Rows.uptoBulk d := e3
  omega
 | [], _ :: _, _, _, _, hp, _, _ => by cases hp
 | .v _ :: _, [], _, _, _, hp, _, _ => by cases hp
 | .r _ :: _, _, _, _, _, hp, _, _ => by simp [qbs] at hp
 | .c _ :: _, _, _, _, _, hp, _, _ => by simp [qbs] at hp
 | .m _ :: _, _, _, _, _, hp, _, _ => by simp [qbs] at hp
 | .mr _ _ :: _, _, _, _, _, hp, _, _ => by simp [qbs] at hp
 | .t _ _ :: _, _, _, _, _, hp, _, _ => by simp [qbs] at hp
 | .gm _ :: _, _, _, _, _, hp, _, _ => by simp [qbs] at hp
 | .cm _ _ :: _, _, _, _, _, hp, _, _ => by simp [qbs] at hp
theorem qiv {W' : World} {sp : Nat → Bool} (hl : laidOutB P = true) : ∀ {ps : List jZ} {ts : List TypeId} {vs : List Value} {ds : List (DataW H)} {pl : List MemPlace}, qbs P ps ts = true →
  DataW.TrodAll enc P W 0 (fun _ => true) true ts vs ds pl → (∀ p ∈ pl, W.sameAt W' p) → (∀ p ∈ pl, sp p.block = true) → DataW.TrodAll enc P W' 0 sp true ts vs ds pl
 | [], [], vs, ds, pl, _, h, _, _ => by
  obtain ⟨rfl, rfl, rfl⟩ := trodAll_nil h
  exact rfl
 | .v τ :: ps, t :: ts, vs, ds, pl, hp, h, hs, hb => by
  simp only [qbs, Bool.and_eq_true] at hp
  obtain ⟨⟨⟨⟨⟨_, _⟩, _⟩, h4⟩, h5⟩, h6⟩ := hp
  obtain ⟨v, vs', d, ds', p, q, rfl, rfl, rfl, hd, hr⟩ := trodAll_cons h
  exact ⟨p, q, Trod_stays hl h4 (Eq.mp Nat.blt_eq h5) hd (fun x hx => hs x (List.mem_append_left _ hx)) (fun x hx => hb x (List.mem_append_left _ hx)),
   qiv hl h6 hr (fun x hx => hs x (List.mem_append_right _ hx)) (fun x hx => hb x (List.mem_append_right _ hx)), rfl⟩
 | [], _ :: _, _, _, _, hp, _, _, _ => by cases hp
 | .v _ :: _, [], _, _, _, hp, _, _, _ => by cases hp
 | .r _ :: _, _, _, _, _, hp, _, _, _ => by simp [qbs] at hp
 | .c _ :: _, _, _, _, _, hp, _, _, _ => by simp [qbs] at hp
 | .m _ :: _, _, _, _, _, hp, _, _, _ => by simp [qbs] at hp
 | .mr _ _ :: _, _, _, _, _, hp, _, _, _ => by simp [qbs] at hp
 | .t _ _ :: _, _, _, _, _, hp, _, _, _ => by simp [qbs] at hp
 | .gm _ :: _, _, _, _, _, hp, _, _, _ => by simp [qbs] at hp
 | .cm _ _ :: _, _, _, _, _, hp, _, _, _ => by simp [qbs] at hp
theorem qhR {f : Func} {s : ChangeSpec} {apart qdH handsOn again : Bool} {W W' : World} {args : Array Value} {v : Value} {ds gs : List (DataW H)} {before pa pv : List MemPlace}
  (hW : DataW.Whole enc P f.params.toList s.vars apart W args.toList ds gs before)
  (hres : ∀ (b : Nat) (sp : Nat → Bool) (hd : Bool), DataW.TrodAll enc P W' b sp hd f.resultTypes.toList (v.resultList f.resultTypes.size) (s.fn H (ds ++ gs)).results [])
  (hargs : ∀ sp : Nat → Bool, (∀ p ∈ before, sp p.block = true) → DataW.TrodAll enc P W' 0 sp true f.params.toList args.toList (s.fn H (ds ++ gs)).args pa)
  (hvars : ∀ sp : Nat → Bool, (∀ p ∈ before, sp p.block = true) → DataW.TrodVars enc P W' sp s.vars (s.fn H (ds ++ gs)).vars pv)
  (hps : before = pa ++ pv) (hb : Below W.heap.size W W')
  (hok : ∀ (j : Nat) (t : TypeId) (r : Value), f.resultTypes[j]? = some t → (v.resultList f.resultTypes.size)[j]? = some r → Value.okWide P W' .any 0 t r) :
  s.post enc P f apart qdH handsOn again W args v W' := by
 have hlt : ∀ p ∈ before, p.block < W.heap.size := fun p hp => hW.lt p hp
 have hold : ∀ p ∈ before, (fun b => decide (b < W.heap.size)) p.block = true := fun p hp => by simpa using hlt p hp
 refine ⟨ds, gs, before, [], pa, pv, hW, hres _ _ _, hargs _ hold, hvars _ hold, World.keptBut_mono (fun p hp => ⟨hp, ?_⟩) (hb.frame (· ∈ before)), fun _ => ?_⟩
 ·rw [hps, List.mem_append] at hp
  exact Or.inr hp
 ·obtain ⟨_, _, _, _, _, hz, hn⟩ := hW
  refine ⟨hok, _, _, ([] ++ pa) ++ pv, ⟨[] ++ pa, pv, trodAll_append (hargs _ (fun _ _ => rfl)) (hres _ _ _), hvars _ (fun _ _ => rfl), rfl, ?_, ?_⟩, ?_⟩
  ·intro b off hp
   have hin : MemPlace.cell b off ∈ before := by rw [hps]; simpa using hp
   rw [hb.frozen (hlt _ hin)]
   exact hz b off hin
  ·intro ha
   have := hn ha
   rw [hps] at this
   simpa using this
  ·intro p hp _
   rw [hps]
   simpa using hp
theorem law_post {f : FuncId} {fn : Func} {ps : List jZ} {g : PDens ps → Option (RDens [.v .bool] × MDens ps)} (hp : jA P f ⟨ps, [.v .bool], g⟩) (hl : laidOutB P = true) (hps : qbs P ps fn.params.toList = true)
  {rt : TypeId} (hrt : fn.resultTypes = #[rt]) (hb : P.underlying rt = some .bool) {s : ChangeSpec} (hv : s.vars = []) (hfn : ∀ ds : List (DataW H), ds.length = fn.params.size → s.fn H ds = { results := [.lit (.bool true)], args := ds })
  (hlaw : ∀ d, qen ps d → qbE ps d ≤ 1048576 → ∃ md, g d = some ((true, ()), md))
  {r : Reach} {base : Nat} {args : Array Value} {ds gs : List (DataW H)} {before : List MemPlace} {apart qdH handsOn again : Bool}
  (hval : ∀ (j : Nat) t v, fn.params[j]? = some t → args[j]? = some v → Value.okWide P W r base t v)
  (hW : DataW.Whole enc P fn.params.toList s.vars apart W args.toList ds gs before) (hk : Rows.uptoSmall H (ds ++ gs) = true) :
  Calls P f args W fun e W' => ∃ v, e = .returned v ∧ s.post enc P fn apart qdH handsOn again W args v W' := by
 have hW' := hW
 obtain ⟨p, q, hA, hV, rfl, hfz, hnd⟩ := hW
 rw [hv] at hV
 obtain ⟨rfl, rfl⟩ := trodVars_none hV
 rw [List.append_nil] at hk
 obtain ⟨d, Φs, k1, k2, k3, k4⟩ := qiw hps (fun j t v hj hv => ⟨r, base, hval j t v (by simpa using hj) (by simpa using hv)⟩) hA
 have hsm : Rows.uptoBulkAll ds ≤ 1048576 := of_decide_eq_true hk
 obtain ⟨md, hg⟩ := hlaw d k3 (Nat.le_trans k4 hsm)
 have hc := hp.2 d _ hg W (allH W) args.toList Φs (allH_ok W) k1 (by rw [k2]; exact List.nodup_nil) (by rw [k2]; simp)
 rw [Array.toArray_toList] at hc
 refine hc.mono ?_
 rintro e W' ⟨us, H', Φs', Ψs, rfl, hmod, _, _, _, hres, _⟩
 obtain ⟨v, vs', φ, Φs2, rfl, _, _, _, ⟨cs, rfl, hrep⟩, hnil⟩ := hres
 obtain ⟨rfl, _⟩ := hnil
 obtain ⟨rfl, _⟩ := hrep
 have hdl : ds.length = fn.params.size := by rw [qfO hA]; simp
 have hbelow : Below W.heap.size W W' := ⟨hmod.os, hmod.tape, hmod.output, hmod.size, fun k hk => hmod.block k hk (by rw [k2]; simp)⟩
 have hlt : ∀ x ∈ p, x.block < W.heap.size := fun x hx => hW'.lt x (List.mem_append_left _ hx)
 have hsame : ∀ x ∈ p, W.sameAt W' x := by
  intro x hx
  have hb := hbelow.block x.block (hlt x hx)
  cases x with
  | cell b off => exact World.cell?_of_block (w := W) hb
  | map b => exact hb
 refine ⟨.bool true, rfl, qhR (pa := p) (pv := []) hW' ?_ ?_ ?_ rfl hbelow ?_⟩
 ·intro b sp hd
  rw [List.append_nil, hfn ds hdl, hrt]
  exact trodAll_mk1 (shut_bool hb true)
 ·intro sp hsp
  rw [List.append_nil, hfn ds hdl]
  exact qiv hl hps hA hsame (fun x hx => hsp x (List.mem_append_left _ hx))
 ·intro sp _
  rw [hv, List.append_nil, hfn ds hdl]
  exact rfl
 ·exact ok_one hrt rfl (okWide_bool_mk hb true)
end
end Go.Vi
namespace Go.Vi
theorem qcx : 1099511627776 < qi := by decide
theorem wI {x : Int} (h1 : -9223372036854775808 ≤ x) (h2 : x ≤ 9223372036854775807) : IntKind.wrap .i64 x = x := IntWalk.i64_in x ⟨h1, h2⟩
theorem qb {α R : Type} (x : α) (k : α → Option R) : qa (some x) k = k x := rfl
theorem qcg {α R : Type} {o : Option α} {x : α} (h : o = some x) (k : α → Option R) : qa o k = k x := by rw [h]; rfl
theorem sumK_inl {α β R : Type} (x : α) (k : α → Option R) (l : β → Option R) : qeJ (.inl x) k l = k x := rfl
theorem sumK_inr {α β R : Type} (x : β) (k : α → Option R) (l : β → Option R) : qeJ (.inr x) k l = l x := rfl
theorem qaz {R : Type} {a b : Int} (h : a ≤ b) (k : Option R) : jG a b k = k := by unfold jG; rw [if_pos h]
theorem jR {R : Type} {n : Int} (h0 : 0 ≤ n) (h : n ≤ 274877906944) (k : Option R) : qB n k = k := by rw [qlf, if_pos ⟨h0, h⟩]
theorem qE {R : Type} {i : Int} {n : Nat} (h0 : 0 ≤ i) (h : i < n) (k : Option R) : jS i n k = k := by unfold jS; rw [if_pos ⟨h0, h⟩]
theorem qY {α R : Type} (x : α) (k : α → Option R) : qU x k = k x := rfl
theorem qhq {α R : Type} (x : α) (k : α → Option R) : qa8 x k = k x := rfl
theorem qX {p : Prop} [Decidable p] (h : p) : decide p = true := decide_eq_true h
theorem jC {p : Prop} [Decidable p] (h : ¬ p) : decide p = false := decide_eq_false h
theorem qlh {α R : Type} {l : List α} {i : Int} {x : α} (h0 : 0 ≤ i) (h : l[i.toNat]? = some x) (k : α → Option R) : qc l i k = k x := by
 unfold qc
 rw [if_pos h0, h]
def gd {α : Type} [Inhabited α] (l : List α) (i : Int) : α := l.getD i.toNat default
theorem qcw {α : Type} [Inhabited α] {l : List α} {i : Int} (h0 : 0 ≤ i) (h : i < l.length) : l[i.toNat]? = some (gd l i) := by
 unfold gd
 rw [List.getD_eq_getElem?_getD, List.getElem?_eq_getElem (by omega)]
 rfl
theorem qdG {α : Type} [Inhabited α] {l : List α} {i : Nat} (h : i < l.length) : l[i]? = some (gd l (i : Int)) := by
 have := qcw (l := l) (i := (i : Int)) (by omega) (by omega)
 rwa [show ((i : Int)).toNat = i by omega] at this
theorem qco {α : Type} [Inhabited α] {l : List α} {i : Nat} {x : α} (h : l[i]? = some x) : gd l (i : Int) = x := by
 unfold gd
 rw [List.getD_eq_getElem?_getD, show ((i : Int)).toNat = i by omega, h]
 rfl
theorem qp {α R : Type} [Inhabited α] {l : List α} {i : Int} (h0 : 0 ≤ i) (h : i < l.length) (k : α → Option R) : qc l i k = k (gd l i) := qlh h0 (qcw h0 h) k
theorem jF {α : Type} [Inhabited α] {l : List α} {i : Int} (h0 : 0 ≤ i) (h : i < l.length) : gd l i ∈ l := List.mem_of_getElem? (qcw h0 h)
theorem qaW {α : Type} [Inhabited α] {l : List α} {i : Int} {c : α} (h0 : 0 ≤ i) (h : i < l.length) : gd (l.set i.toNat c) i = c := by
 unfold gd
 rw [List.getD_eq_getElem?_getD, List.getElem?_set_self (by omega)]
 rfl
theorem qaO {α : Type} [Inhabited α] {l : List α} {i j : Int} {c : α} (h0 : 0 ≤ i) (hj : 0 ≤ j) (h : j ≠ i) : gd (l.set i.toNat c) j = gd l j := by
 unfold gd
 rw [List.getD_eq_getElem?_getD, List.getElem?_set_ne (by omega), List.getD_eq_getElem?_getD]
theorem qe0 {α : Type} [Inhabited α] {l : List α} {i : Nat} (h : i < l.length) : l.drop i = gd l (i : Int) :: l.drop (i + 1) := by
 have := qdG h
 rw [List.getElem?_eq_getElem h] at this
 rw [List.drop_eq_getElem_cons h, Option.some.inj this]
theorem take_nat {α : Type} [Inhabited α] {l : List α} {i : Nat} (h : i < l.length) : l.take (i + 1) = l.take i ++ [gd l (i : Int)] := by
 rw [List.take_add_one, qdG h]
 rfl
theorem qkI {α : Type} [Inhabited α] {a b : List α} (hl : a.length = b.length) (h : ∀ i : Nat, i < a.length → gd a (i : Int) = gd b (i : Int)) : a = b := by
 refine List.ext_getElem? fun i => ?_
 by_cases hi : i < a.length
 ·rw [qdG hi, qdG (by omega), h i hi]
 ·rw [List.getElem?_eq_none (by omega), List.getElem?_eq_none (by omega)]
theorem qdl {α : Type} [Inhabited α] {n : Nat} {x : α} {i : Int} (h0 : 0 ≤ i) (h : i < n) : gd (List.replicate n x) i = x := by
 unfold gd
 rw [List.getD_eq_getElem?_getD, List.getElem?_replicate_of_lt (by omega)]
 rfl
theorem gd_app_l {α : Type} [Inhabited α] {a b : List α} {i : Int} (h0 : 0 ≤ i) (h : i < a.length) : gd (a ++ b) i = gd a i := by
 unfold gd
 rw [List.getD_eq_getElem?_getD, List.getD_eq_getElem?_getD, List.getElem?_append_left (by omega)]
theorem loopN {D R S : Type} {L : Nat → D → Option R} (mk : Nat → S → D) (P : Nat → S → Prop) (Q : R → Prop) (c n : Nat)
  (hend : ∀ N s, P n s → ∃ r, L (N + 1) (mk n s) = some r ∧ Q r)
  (hstep : ∀ N i s, c ≤ N → i < n → P i s → (∃ s', P (i + 1) s' ∧ L (N + 1) (mk i s) = L N (mk (i + 1) s')) ∨ ∃ r, L (N + 1) (mk i s) = some r ∧ Q r) :
  ∀ (d i : Nat) (N : Nat) (s : S), i + d = n → P i s → d + c < N → ∃ r, L N (mk i s) = some r ∧ Q r
 | 0, i, N, s, hi, hP, hN => by
  obtain ⟨m, rfl⟩ : ∃ m, N = m + 1 := ⟨N - 1, by omega⟩
  obtain rfl : i = n := by omega
  exact hend m s hP
 | d + 1, i, N, s, hi, hP, hN => by
  obtain ⟨m, rfl⟩ : ∃ m, N = m + 1 := ⟨N - 1, by omega⟩
  rcases hstep m i s (by omega) (by omega) hP with ⟨s', hs', e⟩ | h
  ·rw [e]
   exact loopN mk P Q c n hend hstep d (i + 1) m s' (by omega) hs' (by omega)
  ·exact h
theorem qjH {D R S : Type} {L : Nat → D → Option R} (mk : Nat → S → D) (P : Nat → S → Prop) (Q : R → Prop) (c n : Nat) {N : Nat} {s : S} (h0 : P 0 s) (hN : n + c < N)
  (hend : ∀ N s, P n s → ∃ r, L (N + 1) (mk n s) = some r ∧ Q r)
  (hstep : ∀ N i s, c ≤ N → i < n → P i s → (∃ s', P (i + 1) s' ∧ L (N + 1) (mk i s) = L N (mk (i + 1) s')) ∨ ∃ r, L (N + 1) (mk i s) = some r ∧ Q r) :
  ∃ r, L N (mk 0 s) = some r ∧ Q r := loopN mk P Q c n hend hstep n 0 N s (by omega) h0 hN
theorem loopM {D R S : Type} {L : Nat → D → Option R} (mk : S → D) (P : S → Prop) (Q : R → Prop) (c : Nat) (m : S → Nat)
  (hstep : ∀ N s, c ≤ N → P s → (∃ s', P s' ∧ m s' < m s ∧ L (N + 1) (mk s) = L N (mk s')) ∨ ∃ r, L (N + 1) (mk s) = some r ∧ Q r) :
  ∀ (d : Nat) (N : Nat) (s : S), m s ≤ d → P s → d + c < N → ∃ r, L N (mk s) = some r ∧ Q r
 | 0, N, s, hd, hP, hN => by
  obtain ⟨k, rfl⟩ : ∃ k, N = k + 1 := ⟨N - 1, by omega⟩
  rcases hstep k s (by omega) hP with ⟨s', _, hm, _⟩ | h
  ·omega
  ·exact h
 | d + 1, N, s, hd, hP, hN => by
  obtain ⟨k, rfl⟩ : ∃ k, N = k + 1 := ⟨N - 1, by omega⟩
  rcases hstep k s (by omega) hP with ⟨s', hs', hm, e⟩ | h
  ·rw [e]
   exact loopM mk P Q c m hstep d k s' (by omega) hs' (by omega)
  ·exact h
end Go.Vi
