/- The abstract interpreter 'Vi', forty-third part: a variable is made that holds a function which has captured it; and the function is called. No condition beyond those typed in each theorem. -/
import Derived.Test.YtpjgcimbnhhndaaVi42
namespace Go.Vi
section
variable {P : Program} {C : Ctx} {cfg : Cfg} {R : Type} {r : R} {s : St} {a : Act} {w : World} {H : FH} {Φ : Nat → Info}

/-- A new block whose content will not change. -/
theorem SimB.newFixed (hs : SimB P C s a w H Φ) {w2 : World} (hm : Mod noBlock w w2) {T : TypeId} {arr : Array Value} (hh : w2.heap[w.heap.size]? = some (.cells arr T (0, 0))) :
    ∃ H' : FH, H.le H' ∧ H' w.heap.size = some arr ∧ SimB P C s a w2 H' Φ ∧ ∀ av v, RepA P C w H Φ s.obj av v → RepA P C w2 H' Φ s.obj av v := by
  have hnone : H w.heap.size = none := by
    cases hq : H w.heap.size with
    | none => rfl
    | some c => obtain ⟨t, f, h⟩ := hs.hok _ _ hq; exact absurd (Array.getElem?_eq_some_iff.1 h).1 (by omega)
  obtain ⟨H', hH'⟩ : ∃ H' : FH, H' = fun b => if b = w.heap.size then some arr else H b := ⟨_, rfl⟩
  have hold : ∀ b, b ≠ w.heap.size → H' b = H b := fun b hb => by rw [hH']; simp only [if_neg hb]
  have hnew : H' w.heap.size = some arr := by rw [hH']; exact if_pos rfl
  have hle : H.le H' := fun b c hb => by
    rw [hold b (by rintro rfl; rw [hnone] at hb; cases hb)]
    exact hb
  have hw : ∀ b, b < w.heap.size → w2.heap[b]? = w.heap[b]? := fun b hb => hm.block b hb (fun h => h)
  have hgrow : ∀ av v, RepA P C w H Φ s.obj av v → RepA P C w2 H' Φ s.obj av v := fun av v h =>
    RepA.grow hle (fun id o ho => ⟨(hs.os id o ho).1, fun b hb => ((hs.os id o ho).2 b hb).2.2⟩) hw hm.size (fun b hb => by rw [hold b (by have := hb.lt; omega)]; exact hb.fz) h
  refine ⟨H', hle, hnew, ⟨hs.defers, hs.size, FH.le_trans hs.le hle, ?_, ?_, hs.mod.trans (hm.mono (fun _ hb => hb.elim)), fun t av ht => hgrow av _ (hs.ts t av ht), ?_, hs.disj, hs.pins⟩, hgrow⟩
  · intro b c hb
    by_cases e : b = w.heap.size
    · subst e
      rw [hnew] at hb
      cases hb
      exact ⟨T, (0, 0), hh⟩
    · rw [hold b e] at hb
      obtain ⟨t, f, h⟩ := hs.hok b c hb
      exact ⟨t, f, (hw b (Array.getElem?_eq_some_iff.1 h).1).trans h⟩
  · intro b c hb
    by_cases e : b = w.heap.size
    · subst e; exact .inr (.inr hs.mod.size)
    · rw [hold b e] at hb; exact hs.hnew b c hb
  · intro id o ho
    obtain ⟨h1, h2⟩ := hs.os id o ho
    exact ⟨h1.frame hle (fun b hb => hw b (h2 b hb).2.2), fun b hb => ⟨by rw [hold b (by have := (h2 b hb).2.2; omega)]; exact (h2 b hb).1, (h2 b hb).2.1, Nat.lt_of_lt_of_le (h2 b hb).2.2 hm.size⟩⟩

def capAVs (s : St) (ct : List Nat) : List AV := ct.map fun c => (s.get c).getD .dead
theorem capAVs_ok (hs : SimB P C s a w H Φ) : ∀ ct : List Nat, Rel2 (RepA P C w H Φ s.obj) (capAVs s ct) (ct.map fun c => a.tmps.getD c undef)
  | [] => trivial
  | c :: ct => by
    refine ⟨?_, capAVs_ok hs ct⟩
    show RepA P C w H Φ s.obj ((s.get c).getD .dead) (a.tmps.getD c undef)
    cases h : s.get c with
    | none => trivial
    | some av => exact hs.ts c av h

theorem run_storeFn {f : Fn} {xs ys : Array Value} {T : TypeId} (hS : ∀ w, (Go.sizeOf T).run P w = .ok 1 w) {b : Nat} {v0 : Value} (hb : w.heap[b]? = some (.cells #[v0] T (0, 0))) :
    (Instr.storeAt T (.pointer (some ⟨b, 0, none⟩)) (.func f xs ys)).run P w = .ok () (w.setRow b #[.func f xs ys]) := by
  have := run_storeCells_at P b 0 T [Value.func f xs ys] 0 #[v0] w hb (by simp) (by intro v hv; simp at hv; subst hv; rfl)
  simp [Instr.storeAt, Instr.sureAddr, storeVar, hS, Value.cells] at this ⊢
  simpa using this
/-- The three regions: the variable, the function that captures it, the call. -/
theorem wp_selfcall (hcfg : CfgOK P cfg) (hC : CtxOK C cfg) (hs : SimB P C s a w H Φ) {sp : SelfP} (hcal : Callable P sp.f) (hself : SoundL P sp) (hn1 : sp.n = 1)
    (hz : ∀ w, (Go.zeroValue sp.T).run P w = .ok .nilFunc w) (hA : ∀ w, (Go.isAgg sp.T).run P w = .ok false w) (hS : ∀ w, (Go.sizeOf sp.T).run P w = .ok 1 w)
    {tA : TypeId} {τA : Ty} {xA : τA.den} {vA : Value} (hfA : τA.isFz = true) (hrA : ∀ w H, ∃ cs, vA = toV τA cs ∧ Rep P τA w H xA cs [])
    {i7 i8 i9 t6 t12 t13 t14 t15 : Nat} {ct : List Nat} {ty1 ty2 ty3 ty4 ty5 ty6 : TypeId} {po1 po2 po3 po4 po5 po6 : String} {af1 af2 af3 af4 af5 af6 : Array Edge} {argT : Array TypeId}
    (hbuild : ∀ (a : Act) (w : World), (execOp a.eval ⟨some t14, .build tA #[], ty5, po5, af5, none⟩).run P w = .ok (.value vA) w)
    (h6 : t6 < cfg.nt) (h12 : t12 < cfg.nt) (h13 : t13 < cfg.nt) (h14 : t14 < cfg.nt) (h15 : t15 < cfg.nt) (hct : t6 ∉ ct) (hd1 : t12 ≠ t6) (hd2 : t13 ≠ t6) (hd3 : t14 ≠ t13)
    {E : Code} {kE : St → Option R} {Q : Exit → Act → World → Prop}
    (h : callK cfg ((((s.set t6 .dead).set t12 .dead).set t13 .dead).set t14 .dead) (some t15) sp.p (.val τA xA :: capAVs s ct) kE = some r)
    (hE : ∀ s' a' w', Sim P C s' a' w' → kE s' = some r → E.wp P Q a' w') :
    (Code.seq (.region i7 #[⟨some t6, .alloc sp.T, ty1, po1, af1, none⟩] false)
      (.seq (.region i8 #[⟨some t12, .makeFunc (.func sp.f) #[] (ct.map Operand.tmp ++ [Operand.tmp t6]).toArray, ty2, po2, af2, none⟩, ⟨none, .store sp.T (.tmp t6) (.tmp t12), ty3, po3, af3, none⟩] false)
        (.seq (.region i9 #[⟨some t13, .load sp.T (.tmp t6), ty4, po4, af4, none⟩, ⟨some t14, .build tA #[], ty5, po5, af5, none⟩, ⟨some t15, .call { callee := .value (.tmp t13), args := #[.tmp t14], argTypes := argT }, ty6, po6, af6, none⟩] false) E))).wp P Q a w := by
  have hsz : a.tmps.size = cfg.nt := by rw [hs.size, hC.nt]
  obtain ⟨ptr, hptr⟩ : ∃ ptr, ptr = Value.pointer (some ⟨w.heap.size, 0, none⟩) := ⟨_, rfl⟩
  obtain ⟨cv, hcv⟩ : ∃ cv, cv = ct.map fun c => a.tmps.getD c undef := ⟨_, rfl⟩
  obtain ⟨clo, hclo⟩ : ∃ clo, clo = Value.func (.func sp.f) #[] (cv ++ [ptr]).toArray := ⟨_, rfl⟩
  obtain ⟨w1, hw1⟩ : ∃ w1, w1 = w.alloc (.cells #[.nilFunc] sp.T) := ⟨_, rfl⟩
  obtain ⟨w2, hw2⟩ : ∃ w2, w2 = w1.setRow w.heap.size #[clo] := ⟨_, rfl⟩
  obtain ⟨a1, ha1⟩ : ∃ a1, a1 = a.put (some t6) ptr := ⟨_, rfl⟩
  obtain ⟨a2, ha2⟩ : ∃ a2, a2 = a1.put (some t12) clo := ⟨_, rfl⟩
  obtain ⟨a3, ha3⟩ : ∃ a3, a3 = a2.put (some t13) clo := ⟨_, rfl⟩
  obtain ⟨a4, ha4⟩ : ∃ a4, a4 = a3.put (some t14) vA := ⟨_, rfl⟩
  have sz1 : a1.tmps.size = cfg.nt := by rw [ha1, put_size, hsz]
  have sz2 : a2.tmps.size = cfg.nt := by rw [ha2, put_size, sz1]
  have sz3 : a3.tmps.size = cfg.nt := by rw [ha3, put_size, sz2]
  have hb1 : w1.heap[w.heap.size]? = some (.cells #[.nilFunc] sp.T (0, 0)) := by rw [hw1]; exact heap_alloc_new w _
  have hb2 : w2.heap[w.heap.size]? = some (.cells #[clo] sp.T (0, 0)) := by rw [hw2]; exact setRow_heap w1 _ _ _ _ _ hb1
  have hm1 := mod_alloc w (.cells #[Value.nilFunc] sp.T)
  have hsz2 : w2.heap.size = w1.heap.size := by rw [hw2]; simp [World.setRow]
  have hm : Mod noBlock w w2 := by
    rw [← hw1] at hm1
    refine ⟨?_, ?_, ?_, by rw [hsz2]; exact hm1.size, fun k hk _ => ?_⟩
    · rw [hw2]; exact hm1.os
    · rw [hw2]; exact hm1.tape
    · rw [hw2]; exact hm1.output
    · rw [hw2, setRow_other w1 _ k _ (by omega)]
      exact hm1.block k hk (fun h => h)
  obtain ⟨H', hle, hHb, hsim, hgrow⟩ := hs.newFixed hm hb2
  have g6 : a2.tmps.getD t6 undef = ptr := by
    rw [ha2, getD_put (by rw [sz1]; exact h12), if_neg hd1, ha1, getD_put (by rw [hsz]; exact h6), if_pos rfl]
  have g12 : a2.tmps.getD t12 undef = clo := by rw [ha2, getD_put (by rw [sz1]; exact h12), if_pos rfl]
  have g13 : a4.tmps.getD t13 undef = clo := by
    rw [ha4, getD_put (by rw [sz3]; exact h14), if_neg hd3, ha3, getD_put (by rw [sz2]; exact h13), if_pos rfl]
  have g14 : a4.tmps.getD t14 undef = vA := by rw [ha4, getD_put (by rw [sz3]; exact h14), if_pos rfl]
  have hcaps : (ct.map Operand.tmp ++ [Operand.tmp t6]).toArray.map a1.eval = (cv ++ [ptr]).toArray := by
    apply Array.toList_inj.1
    simp only [Array.toList_map, List.map_append, List.map_map, List.map_cons, List.map_nil, hcv]
    congr 1
    · apply List.map_congr_left
      intro c hc
      show a1.tmps.getD c undef = a.tmps.getD c undef
      rw [ha1, getD_put (by rw [hsz]; exact h6), if_neg (fun e => hct (by rw [e]; exact hc))]
    · show [a1.tmps.getD t6 undef] = [ptr]
      rw [ha1, getD_put (by rw [hsz]; exact h6), if_pos rfl]
  have hsim4 : SimB P C ((((s.set t6 .dead).set t12 .dead).set t13 .dead).set t14 .dead) a4 w2 H' Φ := by
    rw [ha4, ha3, ha2, ha1]
    have k1 := hsim.set (d := t6) (av := .dead) (v := ptr) (by rw [hC.nt]; exact h6) trivial
    have k2 := k1.set (d := t12) (av := .dead) (v := clo) (by rw [hC.nt]; exact h12) trivial
    have k3 := k2.set (d := t13) (av := .dead) (v := clo) (by rw [hC.nt]; exact h13) trivial
    exact k3.set (d := t14) (av := .dead) (v := vA) (by rw [hC.nt]; exact h14) trivial
  have hrel : Rel2 (RepA P C w2 H' Φ ((((s.set t6 .dead).set t12 .dead).set t13 .dead).set t14 .dead).obj) (.val τA xA :: capAVs s ct) (vA :: cv) := by
    obtain ⟨cs, e1, e2⟩ := hrA w2 H'
    refine ⟨⟨hfA, cs, e1, e2⟩, ?_⟩
    rw [hcv]
    exact Rel2.imp (fun x y h => hgrow x y h) (capAVs_ok hs ct)
  obtain ⟨s', hk, hcalls⟩ := callK_gen hcfg hC (X := fun Q => Calls P sp.f ((vA :: cv) ++ [ptr]).toArray w2 Q) (fun h hm => h.mono hm) hsim4 (dst := some t15) (by show Nat.blt t15 cfg.nt = true; exact Nat.blt_eq.mpr h15) hrel
    (fun d y hy H2 Φs hle2 hok ha hn hf => by
      rw [hptr]
      exact hself d y hy w2 H2 (vA :: cv) Φs hok ha hn hf w.heap.size (by
        rw [hn1, ← hptr]
        show H2 w.heap.size = some #[Value.func (.func sp.f) #[] (cv ++ [ptr]).toArray]
        rw [← hclo]
        exact hle2 _ _ hHb)) h
  have hcell : w2.cell? ⟨w.heap.size, 0, none⟩ = some clo := by rw [cell_of_block hb2]; rfl
  refine wp_seq (wp_region_list (wpList_plain rfl fun K hK => ?_))
  have r1 : (execOp a.eval ⟨some t6, .alloc sp.T, ty1, po1, af1, none⟩).run P w = .ok (.value ptr) w1 := by
    rw [hptr, hw1]
    simp [execOp, Instr.alloc, hz, run_newVar, Value.cells]
  unfold Oper.wp
  rw [r1, Oper.upon_value]
  refine hK _ _ (wpList_nil ?_)
  show Code.wp P (.seq _ _) Q (a.put (some t6) ptr) w1
  rw [← ha1]
  refine wp_seq (wp_region_list (wpList_plain rfl fun K hK => ?_))
  have r2 : (execOp a1.eval ⟨some t12, .makeFunc (.func sp.f) #[] (ct.map Operand.tmp ++ [Operand.tmp t6]).toArray, ty2, po2, af2, none⟩).run P w1 = .ok (.value clo) w1 := by
    rw [hclo, ← hcaps]
    simp [execOp, Instr.makeFunc]
  unfold Oper.wp
  rw [r2, Oper.upon_value]
  refine hK _ _ (wpList_plain rfl fun K hK => ?_)
  rw [show a1.put (some t12) clo = a2 from ha2.symm]
  have r3 : (execOp a2.eval ⟨none, .store sp.T (.tmp t6) (.tmp t12), ty3, po3, af3, none⟩).run P w1 = .ok .skip w2 := by
    have e6 : a2.eval (.tmp t6) = ptr := g6
    have e12 : a2.eval (.tmp t12) = clo := g12
    have := run_storeFn (P := P) (f := .func sp.f) (xs := #[]) (ys := (cv ++ [ptr]).toArray) hS hb1
    simp only [execOp, e6, e12]
    rw [hptr, hclo, hptr] at *
    simp [this, hw2, hclo, hptr]
  unfold Oper.wp
  rw [r3, Oper.upon_skip]
  refine hK _ _ (wpList_nil ?_)
  show Code.wp P (.seq _ _) Q a2 w2
  refine wp_seq (wp_region_list (wpList_plain rfl fun K hK => ?_))
  have r4 : (execOp a2.eval ⟨some t13, .load sp.T (.tmp t6), ty4, po4, af4, none⟩).run P w2 = .ok (.value clo) w2 := by
    have e6 : a2.eval (.tmp t6) = ptr := g6
    simp [execOp, e6, hptr, Instr.loadAt, Instr.sureAddr, loadVar, hA, hcell]
  unfold Oper.wp
  rw [r4, Oper.upon_value]
  refine hK _ _ (wpList_plain rfl fun K hK => ?_)
  rw [show a2.put (some t13) clo = a3 from ha3.symm]
  unfold Oper.wp
  rw [hbuild, Oper.upon_value]
  refine hK _ _ (wpList_plain rfl fun K hK => ?_)
  rw [show a3.put (some t14) vA = a4 from ha4.symm]
  have e13 : a4.eval (.tmp t13) = .func (.func sp.f) #[] (cv ++ [ptr]).toArray := g13.trans hclo
  have r6 := run_callOp (P := P) (a := a4) (dst := some t15) (ty := ty6) (pos := po6) (after := af6) (guard := none) (c := { callee := .value (.tmp t13), args := #[.tmp t14], argTypes := argT }) rfl e13 hcal w2
  unfold Oper.wp
  rw [r6, Oper.upon_enter]
  have eargs : (#[] ++ #[Operand.tmp t14].map a4.eval ++ (cv ++ [ptr]).toArray : Array Value) = ((vA :: cv) ++ [ptr]).toArray := by
    apply Array.toList_inj.1
    have e14 : a4.eval (.tmp t14) = vA := g14
    simp [e14]
  show Calls P sp.f (#[] ++ #[Operand.tmp t14].map a4.eval ++ (cv ++ [ptr]).toArray) w2 _
  rw [eargs]
  refine hcalls.mono ?_
  rintro e w'' ⟨v, rfl, hsim5⟩
  exact hK _ _ (wpList_nil (hE s' _ w'' hsim5 hk))
end
end Go.Vi
