/- The abstract interpreter 'Vi', thirty-fifth part: what a range over a function leaves behind: marks on the call's deferred calls. No condition beyond those typed in each theorem. -/
import Derived.Test.YtncngmcojppmgaaGreatVi34
namespace Go.Vi
section
variable {P : Program} {C : Ctx} {cfg : jM} {R : Type} {r : R} {s s' : St} {a a' : Act} {w w' : World} {H H' : FH} {Φ Φ' : Nat → qC}
def DsOK (B : Nat) (ds : List Deferred) (w : World) : Prop := ds.Nodup ∧ ∀ d ∈ ds, ∃ D, d = { target := .collected D, args := #[] } ∧ B ≤ D ∧ w.heap[D]? = some (.deferred (some []))
def reD (C : Ctx) (w : World) (H : FH) (ds : List Deferred) : Ctx := ⟨w, fun b => (C.M0 b ∨ C.w0.heap.size ≤ b) ∧ w.heap[b]? ≠ some (.deferred (some [])), H, C.nt, C.pin, ds ++ C.ds, C.gh⟩
theorem qfa.ne {m : Ms} {b : Nat} (h : qfa P w m b) : w.heap[b]? ≠ some (.deferred (some [])) := by
 obtain ⟨D, ⟨es, clock, h1, _⟩, _⟩ := h
 intro e
 rw [e] at h1
 cases h1
theorem qcH.ne {m : Ms} {b i : Nat} {lf : List Int} (h : qcH P w m b i lf) : w.heap[i]? ≠ some (.deferred (some [])) := by
 obtain ⟨D, left, cnt, ⟨es, clock, since, seen, c0, h1, h2, h3, h4, h5, h6⟩, h7⟩ := h
 intro e
 rw [e] at h5
 cases h5
theorem MOKb.ctx {C C' : Ctx} {m : Ms} {os : Nat → Option Obj} {b : Nat} (hf : ∀ b, qao C w H Φ os b → w.heap[b]? ≠ some (.deferred (some [])) → qao C' w H Φ os b) (ha : a'.tmps = a.tmps) (h : MOKb P C m os a w H Φ b) : MOKb P C' m os a' w H Φ b := by
 obtain ⟨h1, h2, h3, h4, h5, h6⟩ := h
 refine ⟨h1, h2, hf b h3 h4.ne, h4, by rw [ha]; exact h5, fun ti lf hi => ?_⟩
 obtain ⟨r, k1, k2, k3, k4⟩ := h6 ti lf hi
 exact ⟨r, hf r k1 k2.ne, k2, by rw [ha]; exact k3, k4⟩
theorem qb5.ctx {C C' : Ctx} {mp : Option Ms} {os : Nat → Option Obj} (hf : ∀ b, qao C w H Φ os b → w.heap[b]? ≠ some (.deferred (some [])) → qao C' w H Φ os b) (ha : a'.tmps = a.tmps) (h : qb5 P C mp os a w H Φ) : qb5 P C' mp os a' w H Φ := by
 cases mp with
 | none => trivial
 | some m => obtain ⟨b, h⟩ := h; exact ⟨b, h.ctx hf ha⟩
theorem qk.unbaseD {ds : List Deferred} (hs : qk P C s { a with defers := C.ds } w H Φ) (h : qk P (reD C w H ds) s' { a' with defers := (reD C w H ds).ds } w' H' Φ') : qk P C s' { a' with defers := C.ds } w' H' Φ' := by
 have hmay : ∀ b, (reD C w H ds).M0 b ∨ (reD C w H ds).w0.heap.size ≤ b → C.M0 b ∨ C.w0.heap.size ≤ b := by
  rintro b (hb | hb)
  ·exact hb.1
  ·exact .inr (Nat.le_trans hs.mod.size hb)
 refine ⟨rfl, h.size, FH.le_trans hs.le h.le, h.hok, ?_, hs.mod.trans_new h.mod (fun i hi => hi.1), ?_, ?_, h.disj, h.pins⟩
 ·intro b c hb
  rcases h.hnew b c hb with h1 | h1 | h1
  ·exact hs.hnew b c h1
  ·exact .inr (hmay b (.inl h1))
  ·exact .inr (hmay b (.inr h1))
 ·intro t av ht
  exact qg.ctx (C := reD C w H ds) (C' := C) rfl rfl (fun b hb _ => (⟨hb.fz, hb.obj, hmay b hb.may, hb.lt⟩ : qao C w' H' Φ' s'.obj b)) (h.ts t av ht)
 ·intro id o ho
  have h1 := h.os id o ho
  exact ⟨h1.1, fun b hb => ⟨(h1.2 b hb).1, hmay b (h1.2 b hb).2.1, (h1.2 b hb).2.2⟩⟩
theorem qab.unbaseD {ds : List Deferred} (hs : qk P C s { a with defers := C.ds } w H Φ) (h : qab P (reD C w H ds) s' { a' with defers := (reD C w H ds).ds } w') : qab P C s' { a' with defers := C.ds } w' := by
 obtain ⟨H', Φ', h, hM⟩ := h
 have hmay : ∀ b, (reD C w H ds).M0 b ∨ (reD C w H ds).w0.heap.size ≤ b → C.M0 b ∨ C.w0.heap.size ≤ b := by
  rintro b (hb | hb)
  ·exact hb.1
  ·exact .inr (Nat.le_trans hs.mod.size hb)
 exact ⟨H', Φ', hs.unbaseD h, hM.ctx (fun b hb _ => ⟨hb.fz, hb.obj, hmay b hb.may, hb.lt⟩) rfl⟩
theorem qab.modD {ds : List Deferred} (h : qab P (reD C w H ds) s' a' w') : j7 (reD C w H ds).M0 w w' := by
 obtain ⟨_, _, h, _⟩ := h; exact h.mod
theorem DsOK.later {ds : List Deferred} {B : Nat} (h : DsOK B ds w) (hm : j7 (reD C w H ds).M0 w w') : DsOK B ds w' := by
 refine ⟨h.1, fun d hd => ?_⟩
 obtain ⟨D, e, hB, hD⟩ := h.2 d hd
 exact ⟨D, e, hB, (hm.block D (Array.getElem?_eq_some_iff.1 hD).1 (fun hM => hM.2 hD)).trans hD⟩
def qhL (P : Program) (C : Ctx) (k : X → St → Option R) (r : R) (x : X) (a : Act) (w : World) : Prop :=
 ∃ s ds, a.defers = ds ++ C.ds ∧ DsOK C.w0.heap.size ds w ∧ qab P C s { a with defers := C.ds } w ∧ k x s = some r
def PostD (P : Program) (C : Ctx) (k : X → St → Option R) (r : R) : Exit → Act → World → Prop
 | .normal, a, w => qhL P C k r .norm a w
 | .exit i, a, w => qhL P C k r (.exit i) a w
 | .ret, a, w => qhL P C k r .ret a w
 | _, _, _ => False
theorem qhL.one {k : X → St → Option R} {x : X} (hs : qab P C s a w) (h : k x s = some r) : qhL P C k r x a w := by
 have hd : a.defers = C.ds := by obtain ⟨_, _, h, _⟩ := hs; exact h.defers
 refine ⟨s, [], by simpa using hd, by simp [DsOK], ?_, h⟩
 rw [← hd]
 exact hs
theorem qhL.unbase {ds : List Deferred} {k : X → St → Option R} {x : X} (hs : qk P C s { a with defers := C.ds } w H Φ) (hD : DsOK C.w0.heap.size ds w) (h : qhL P (reD C w H ds) k r x a' w') : qhL P C k r x a' w' := by
 obtain ⟨s2, ds2, e, hd2, hs2, hk⟩ := h
 refine ⟨s2, ds2 ++ ds, by rw [e, List.append_assoc]; rfl, ?_, hs2.unbaseD hs, hk⟩
 have hl := hD.later hs2.modD
 refine ⟨List.nodup_append.2 ⟨hd2.1, hD.1, ?_⟩, fun d hd => ?_⟩
 ·rintro d h1 d' h2 rfl
  obtain ⟨D, e1, hB, _⟩ := hd2.2 d h1
  obtain ⟨D', e2, _, hD'⟩ := hD.2 d h2
  rw [e1] at e2
  injection e2 with e2 _
  injection e2 with e2
  subst e2
  exact absurd (Array.getElem?_eq_some_iff.1 hD').1 (Nat.not_lt.2 hB)
 ·rcases List.mem_append.1 hd with hd | hd
  ·obtain ⟨D, e, hB, hD⟩ := hd2.2 d hd
   exact ⟨D, e, Nat.le_trans hs.mod.size hB, hD⟩
  ·exact hl.2 d hd
theorem PostD.unbase {ds : List Deferred} {k : X → St → Option R} {e : Exit} (hs : qk P C s { a with defers := C.ds } w H Φ) (hD : DsOK C.w0.heap.size ds w) (h : PostD P (reD C w H ds) k r e a' w') : PostD P C k r e a' w' := by
 cases e with
 | normal => exact qhL.unbase hs hD h
 | exit i => exact qhL.unbase hs hD h
 | ret => exact qhL.unbase hs hD h
 | _ => exact h
end
end Go.Vi
