/- The abstract interpreter 'Vi', thirty-seventh part: a range over a function, by the interpreter. No condition beyond those typed in each theorem. -/
import Derived.Test.YtncngmcojppmgaaGreatVi36
namespace Go.Vi
open Go.RowKit
section
variable {P : Program} {C : Ctx} {cfg : jM} {R : Type} {r : R} {s s' s1 : St} {a a' a1 : Act} {w w' W W' W1 : World} {H H' Hf : FH} {Φ Φ' : Nat → qC} {Φs : List qC} {M O O' : Nat → Prop} {pl : List (Nat × qC)} {nt : Nat} {G : List Nat}
theorem qk.killU (h : qk P C s a w H Φ) : qk P C (s.killIf AV.isUpd) a w H Φ := by
 refine ⟨h.defers, h.size, h.le, h.hok, h.hnew, h.mod, ?_, h.os, h.disj, h.pins⟩
 intro t av ht
 rw [St.get_killIf] at ht
 obtain ⟨av0, h0, rfl⟩ := Option.map_eq_some_iff.1 ht
 exact qg.transfer AV.isUpd (FH.le_refl H) (fun _ _ _ _ hh => hh) (fun _ _ _ _ hh => hh) (fun _ _ _ _ _ _ hf _ => by cases hf) av0 _ (h.ts t av0 h0)
theorem qiX (s : St) : (s.killIf AV.isUpd).calm := by
 intro t av ht
 rw [St.get_killIf] at ht
 obtain ⟨av0, _, rfl⟩ := Option.map_eq_some_iff.1 ht
 exact qce av0
def Mid (P : Program) (w : World) (Hf : FH) (M : Nat → Prop) (pl : List (Nat × qC)) (nt : Nat) (s : St) (a : Act) (O : Nat → Prop) (W : World) : Prop :=
 ∃ H' Φ', qk P (qfi w M pl nt O W H') s a W H' Φ' ∧ s.calm ∧ Hf.le H' ∧ (∀ b c, H' b = some c → Hf b = some c ∨ M b ∨ w.heap.size ≤ b) ∧ j7 (fun b => M b) w W ∧ ∀ b, O b → b < W.heap.size ∧ H' b = none
theorem Mid.move (h : Mid P w Hf M pl nt s a O W) (hMO : ∀ b, O b → M b ∨ w.heap.size ≤ b) (hg : ItStep w.heap.size O O' W W') : Mid P w Hf M pl nt s a O' W' := by
 obtain ⟨H', Φ', hs, hc, hle, hn, hm, hO⟩ := h
 obtain ⟨row, hg, hr, hO'⟩ := hg
 refine ⟨H', Φ', hs.moveK hc ⟨hg.os, hg.tape, hg.output⟩ hg.size ?_ (fun b hb => (hO b hb).2) (fun b hb => ((hO' b).1 hb).imp id And.left), hc, hle, hn, hm.trans_new (N := fun k => some k = row) ⟨hg.os, hg.tape, hg.output, hg.size, fun k hk hne => hg.block k hk (fun e => hne e)⟩ (fun i hi => ?_), fun b hb => ?_⟩
 ·intro b c t f hb e
  refine (hg.block b (Array.getElem?_eq_some_iff.1 e).1 (fun e2 => ?_)).trans e
  rcases hr b e2.symm with h1 | ⟨_, o, ho, hoc⟩
  ·exact hb h1
  ·rw [e] at ho; cases ho; cases hoc
 ·rcases hr i hi.symm with h1 | h1
  ·exact hMO i h1
  ·exact .inr h1.1
 ·rcases (hO' b).1 hb with h1 | h1
  ·exact ⟨Nat.lt_of_lt_of_le (hO b h1).1 hg.size, (hO b h1).2⟩
  ·refine ⟨h1.2, ?_⟩
   cases hq : H' b with
   | none => rfl
   | some c =>
    obtain ⟨t, f, e⟩ := hs.hok b c hq
    have := (Array.getElem?_eq_some_iff.1 e).1
    omega
theorem Mid.run (_hs : qk P (qfi w M pl nt O W H) s a W H Φ) (hle : Hf.le H) (hn : ∀ b c, H b = some c → Hf b = some c ∨ M b ∨ w.heap.size ≤ b) (hm : j7 (fun b => M b) w W) (hO : ∀ b, O b → b < W.heap.size ∧ H b = none) (hok : HOk Hf w) (hfr : ∀ b, M b → Hf b = none)
  (h1 : qab P (qfi w M pl nt O W H) s1 a1 W1) : Mid P w Hf M pl nt (s1.killIf AV.isUpd) a1 O W1 ∧ KeepsFrom w.heap.size W W1 ∧ qkX Hf W W1 ∧ qkW O W W1 := by
 obtain ⟨H1, Φ1, h1, _⟩ := h1
 have hM : ∀ i, (qfi w M pl nt O W H).M0 i → M i ∨ w.heap.size ≤ i := fun i hi => hi.1
 refine ⟨⟨H1, Φ1, (h1.rebaseK hm.size (fun b hb => (hO b hb).1)).killU, qiX s1, FH.le_trans hle h1.le, ?_, hm.trans_new h1.mod hM, fun b hb => ⟨Nat.lt_of_lt_of_le (hO b hb).1 h1.mod.size, ?_⟩⟩, ⟨h1.mod.size, ?_⟩, ?_, ?_⟩
 ·intro b c hb
  rcases h1.hnew b c hb with h2 | h2 | h2
  ·exact hn b c h2
  ·exact .inr (hM b h2)
  ·exact .inr (.inr (Nat.le_trans hm.size h2))
 ·cases hq : H1 b with
  | none => rfl
  | some c =>
   rcases h1.hnew b c hq with h2 | h2 | h2
   ·have h2' : H b = some c := h2
    rw [(hO b hb).2] at h2'; cases h2'
   ·exact absurd hb h2.2.2
   ·exact absurd (hO b hb).1 (Nat.not_lt.2 h2)
 ·intro k o _ hk ho
  refine (h1.mod.block k (Array.getElem?_eq_some_iff.1 hk).1 ?_).trans hk
  rintro ⟨_, ⟨c, t, f, e⟩, _⟩
  have e' : W.heap[k]? = some (.cells c t f) := e
  rw [hk] at e'
  cases e'
  cases ho
 ·intro b c hb
  obtain ⟨t, f, e⟩ := hok b c hb
  have hlt := (Array.getElem?_eq_some_iff.1 e).1
  refine h1.mod.block b (Nat.lt_of_lt_of_le hlt hm.size) ?_
  rintro ⟨h2 | h2, _⟩
  ·rw [hfr b h2] at hb; cases hb
  ·exact absurd hlt (Nat.not_lt.2 h2)
 ·intro b hb
  exact h1.mod.block b (hO b hb).1 (fun h2 => h2.2.2 hb)
def After (P : Program) (w : World) (Hf : FH) (Φs : List qC) (G : List Nat) (ps : List jZ) (vs : List Value) (md : MDens ps) (W : World) : Prop :=
 ∃ H' Φs', j7 (· ∈ qd Φs ++ G) w W ∧ Hf.le H' ∧ HOk H' W ∧ (∀ b c, H' b = some c → Hf b = some c ∨ b ∈ qd Φs ++ G ∨ w.heap.size ≤ b) ∧ jN P W H' ps md vs Φs' ∧ (qd Φs').Nodup ∧ ∀ b ∈ qd Φs', H' b = none ∧ (b ∈ qd Φs ++ G ∨ w.heap.size ≤ b) ∧ b < W.heap.size
theorem Mid.after {ps : List jZ} {d : PDens ps} {vs : List Value} {md : MDens ps} (hargs : jU P w Hf ps d vs Φs) (hpn : ((qay ps Φs 0).map (·.1)).Nodup) (h : Mid P w Hf (· ∈ qd Φs ++ G) (qay ps Φs 0) nt s a O W) (hom : qaJ s ps 0 = some md) : After P w Hf Φs G ps vs md W := by
 obtain ⟨H', Φ', hs, _, hle, hn, hm, _⟩ := h
 obtain ⟨Φs', k1, k2, k3⟩ := qau hs (FH.le_refl H') (i := 0) hargs (fun x hx => hs.pins.1 x.1 x.2 (qg7 hpn hx)) hom
 have hids := qaN (ps := ps) (i := 0)
 refine ⟨H', Φs', hm, hle, hs.hok, hn, k1, ?_, ?_⟩
 ·rw [k2]
  refine qbo hids.2 (fun id hid => ?_) (fun i hi j hj hij b hb' => ?_)
  ·obtain ⟨o, ho⟩ := k3 id hid
   exact (hs.os id o ho).1.2.1
  ·obtain ⟨o, ho⟩ := k3 i hi
   obtain ⟨o', ho'⟩ := k3 j hj
   exact hs.disj i j o o' hij ho ho' b hb'
 ·intro b hb
  rw [k2] at hb
  obtain ⟨j, hj, hbj⟩ := List.mem_flatMap.1 hb
  obtain ⟨o', ho'⟩ := k3 j hj
  obtain ⟨q1, q2, q3⟩ := (hs.os j o' ho').2 b hbj
  refine ⟨q1, ?_, q3⟩
  rcases q2 with q2 | q2
  ·exact q2.1
  ·exact absurd q3 (Nat.not_lt.2 q2)
end
end Go.Vi
