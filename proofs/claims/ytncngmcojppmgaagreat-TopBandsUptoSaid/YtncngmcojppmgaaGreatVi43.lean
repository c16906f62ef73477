/- The abstract interpreter 'Vi', forty-third part: a variable is made that holds a function which has captured it; and the function is called. No condition beyond those typed in each theorem. -/
import Derived.Test.YtncngmcojppmgaaGreatVi42
namespace Go.Vi
section
variable {P : Program} {C : Ctx} {cfg : jM} {R : Type} {r : R} {s : St} {a : Act} {w : World} {H : FH} {Φ : Nat → qC}
theorem qk.newFixed (hs : qk P C s a w H Φ) {w2 : World} (hm : j7 jP w w2) {T : TypeId} {arr : Array Value} (hh : w2.heap[w.heap.size]? = some (.cells arr T (0, 0))) :
  ∃ H' : FH, H.le H' ∧ H' w.heap.size = some arr ∧ qk P C s a w2 H' Φ ∧ ∀ av v, qg P C w H Φ s.obj av v → qg P C w2 H' Φ s.obj av v := by
 have hnone : H w.heap.size = none := by
  cases hq : H w.heap.size with
  | none => rfl
  | some c => obtain ⟨t, f, h⟩ := hs.hok _ _ hq; exact absurd (Array.getElem?_eq_some_iff.1 h).1 (by omega)
 obtain ⟨H', hH'⟩ : ∃ H' : FH, H' = fun b => if b = w.heap.size then some arr else H b := ⟨_, rfl⟩
 have hold : ∀ b, b ≠ w.heap.size → H' b = H b := fun b hb => by rw [hH']; simp only [if_neg hb]
 have hnew : H' w.heap.size = some arr := by rw [hH']; exact if_pos rfl
 have hle : H.le H' := fun b c hb => by
  rw [hold b (by rintro rfl; rw [hnone] at hb; cases hb)]
  exact hb
 have hw : ∀ b, b < w.heap.size → w2.heap[b]? = w.heap[b]? := fun b hb => hm.block b hb (fun h => h)
 have hgrow : ∀ av v, qg P C w H Φ s.obj av v → qg P C w2 H' Φ s.obj av v := fun av v h =>
  qg.grow hle (fun id o ho => ⟨(hs.os id o ho).1, fun b hb => ((hs.os id o ho).2 b hb).2.2⟩) hw hm.size (fun b hb => by rw [hold b (by have := hb.lt; omega)]; exact hb.fz) h
 refine ⟨H', hle, hnew, ⟨hs.defers, hs.size, FH.le_trans hs.le hle, ?_, ?_, hs.mod.trans (hm.mono (fun _ hb => hb.elim)), fun t av ht => hgrow av _ (hs.ts t av ht), ?_, hs.disj, hs.pins⟩, hgrow⟩
 ·intro b c hb
  by_cases e : b = w.heap.size
  ·subst e
   rw [hnew] at hb
   cases hb
   exact ⟨T, (0, 0), hh⟩
  ·rw [hold b e] at hb
   obtain ⟨t, f, h⟩ := hs.hok b c hb
   exact ⟨t, f, (hw b (Array.getElem?_eq_some_iff.1 h).1).trans h⟩
 ·intro b c hb
  by_cases e : b = w.heap.size
  ·subst e; exact .inr (.inr hs.mod.size)
  ·rw [hold b e] at hb; exact hs.hnew b c hb
 ·intro id o ho
  obtain ⟨h1, h2⟩ := hs.os id o ho
  exact ⟨h1.frame hle (fun b hb => hw b (h2 b hb).2.2), fun b hb => ⟨by rw [hold b (by have := (h2 b hb).2.2; omega)]; exact (h2 b hb).1, (h2 b hb).2.1, Nat.lt_of_lt_of_le (h2 b hb).2.2 hm.size⟩⟩
end
end Go.Vi
