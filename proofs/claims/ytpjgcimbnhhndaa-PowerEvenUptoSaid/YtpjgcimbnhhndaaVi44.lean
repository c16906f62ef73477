/- The abstract interpreter 'Vi', forty-fourth part: a function that makes such a variable and calls what it holds. No condition beyond those typed in each theorem. -/
import Derived.Test.YtpjgcimbnhhndaaVi43
namespace Go.Vi
def seqs : List Code → Code → Code
  | [], D => D
  | c :: l, D => .seq c (seqs l D)
noncomputable def runL {R : Type} (cfg : Cfg) (n : Nat) : List Code → St → (St → Option R) → (X → St → Option R) → Option R
  | [], s, kD, _ => kD s
  | c :: l, s, kD, k => run cfg n c s fun x s' => match x with
    | .norm => runL cfg n l s' kD k
    | .ret => k .ret s'
    | .exit i => k (.exit i) s'
/-- What goes on only where no map is held. -/
def noMap {R : Type} (s : St) (k : Option R) : Option R :=
  match s.mp with
  | none => k
  | some _ => none
noncomputable def absFnS (cfg : Cfg) (n : Nat) (fn : Func) (l : List Code) (E : Code) (sp : SelfP) (τA : Ty) (t6 t12 t13 t14 t15 : Nat) (ct : List Nat) (ps : List PTy) (rs : List RTy) (d : PDens ps) : Option (RDens rs × MDens ps) :=
  runL cfg n l (entrySt ps d) (fun s => noMap s (callK cfg ((((s.set t6 .dead).set t12 .dead).set t13 .dead).set t14 .dead) (some t15) sp.p (.val τA τA.zero :: capAVs s ct) (fun s' => noMap s' (run cfg n E s' (doneK cfg fn ps rs))))) (doneK cfg fn ps rs)
def fstC : Code → Code
  | .seq a _ => a
  | c => c
def sndC : Code → Code
  | .seq _ b => b
  | c => c
def regI : Code → Nat
  | .region i _ _ => i
  | _ => 0
def opC (c : Code) (i : Nat) : Oper :=
  match c with
  | .region _ ops _ => match ops[i]? with
    | some o => o
    | none => ⟨none, .move (.tmp 0), 0, "", #[], none⟩
  | _ => ⟨none, .move (.tmp 0), 0, "", #[], none⟩
def argTs (o : Oper) : Array TypeId :=
  match o.op with
  | .call c => c.argTypes
  | _ => #[]
section
variable {P : Program} {C : Ctx} {cfg : Cfg} {R : Type} {r : R}
theorem linesOK {l : List Code} (h : (l.all fun c => (loopsOf c).isEmpty && drawOK cfg c) = true) : ∀ c ∈ l, LoopsOK cfg c ∧ drawOK cfg c = true := by
  intro c hc
  have := List.all_eq_true.1 h c hc
  rw [Bool.and_eq_true] at this
  refine ⟨loops_ok (fun b hb => ?_), this.2⟩
  rw [List.isEmpty_iff.1 this.1] at hb
  cases hb
theorem runL_ok (hm : P.follows .mixedOrders = true) (hcfg : CfgOK P cfg) (hC : CtxOK C cfg) {n : Nat} {D : Code} {kD : St → Option R} {k : X → St → Option R} (hD : ∀ s a w, SimM P C s a w → kD s = some r → D.wp P (Post P C k r) a w) :
    ∀ (l : List Code) {s : St} {a : Act} {w : World}, (∀ c ∈ l, LoopsOK cfg c ∧ drawOK cfg c = true) → SimM P C s a w → runL cfg n l s kD k = some r → (seqs l D).wp P (Post P C k r) a w
  | [], s, a, w, _, hs, h => hD s a w hs h
  | c :: l, s, a, w, hl, hs, h => by
    have hc := hl c List.mem_cons_self
    refine wp_seq (wp_mono (run_ok hm hcfg hC c hc.1 hc.2 hs h) ?_)
    intro e a w hp
    cases e with
    | normal =>
      obtain ⟨s', hs', h'⟩ := hp
      exact runL_ok hm hcfg hC hD l (fun c hc => hl c (List.mem_cons_of_mem _ hc)) hs' h'
    | exit i => obtain ⟨s', hs', h'⟩ := hp; exact ⟨s', hs', h'⟩
    | ret => obtain ⟨s', hs', h'⟩ := hp; exact ⟨s', hs', h'⟩
    | _ => exact hp.elim
theorem noMap_some {s : St} {k : Option R} (h : noMap s k = some r) : s.mp = none ∧ k = some r := by
  unfold noMap at h
  split at h
  · rename_i e; exact ⟨e, h⟩
  · cases h
theorem fn_doneS (hm : P.follows .mixedOrders = true) (hcfg : CfgOK P cfg) {f : FuncId} {fn : Func} (hf : P.funcs[f]? = some fn) (hnt : fn.ntmps = cfg.nt) (hname : (fn.name == "runtime.NumGoroutine") = false)
    {p : Prim} (hps : Nat.ble p.ps.length cfg.nt = true) {l : List Code} {E : Code} (hl : ∀ c ∈ l, LoopsOK cfg c ∧ drawOK cfg c = true) (hlE : LoopsOK cfg E) (hdE : drawOK cfg E = true)
    {sp : SelfP} (hcal : Callable P sp.f) (hself : SoundL P sp) (hn1 : sp.n = 1)
    (hz : ∀ w, (Go.zeroValue sp.T).run P w = .ok .nilFunc w) (hA : ∀ w, (Go.isAgg sp.T).run P w = .ok false w) (hS : ∀ w, (Go.sizeOf sp.T).run P w = .ok 1 w)
    {tA : TypeId} {τA : Ty} (hfA : τA.isFz = true) (hnA : τA.noFn = true)
    {i7 i8 i9 t6 t12 t13 t14 t15 : Nat} {ct : List Nat} {ty1 ty2 ty3 ty4 ty5 ty6 : TypeId} {po1 po2 po3 po4 po5 po6 : String} {af1 af2 af3 af4 af5 af6 : Array Edge} {argT : Array TypeId}
    (hbuild : ∀ (a : Act) (w : World), (execOp a.eval ⟨some t14, .build tA #[], ty5, po5, af5, none⟩).run P w = .ok (.value (toV τA τA.zeroCells)) w)
    (hb : fn.body = some (seqs l (Code.seq (.region i7 #[⟨some t6, .alloc sp.T, ty1, po1, af1, none⟩] false)
      (.seq (.region i8 #[⟨some t12, .makeFunc (.func sp.f) #[] (ct.map Operand.tmp ++ [Operand.tmp t6]).toArray, ty2, po2, af2, none⟩, ⟨none, .store sp.T (.tmp t6) (.tmp t12), ty3, po3, af3, none⟩] false)
        (.seq (.region i9 #[⟨some t13, .load sp.T (.tmp t6), ty4, po4, af4, none⟩, ⟨some t14, .build tA #[], ty5, po5, af5, none⟩, ⟨some t15, .call { callee := .value (.tmp t13), args := #[.tmp t14], argTypes := argT }, ty6, po6, af6, none⟩] false) E)))))
    (hts : (Nat.blt t6 cfg.nt && (Nat.blt t12 cfg.nt && (Nat.blt t13 cfg.nt && (Nat.blt t14 cfg.nt && Nat.blt t15 cfg.nt)))) = true) (hct : t6 ∉ ct) (hd1 : t12 ≠ t6) (hd2 : t13 ≠ t6) (hd3 : t14 ≠ t13)
    (hg : ∀ d y, p.g d = some y → ∃ n, absFnS cfg n fn l E sp τA t6 t12 t13 t14 t15 ct p.ps p.rs d = some y) : GoodF P f p := by
  refine ⟨callable_of hf hb hname, ?_⟩
  intro d y hy w H vs Φs hok hargs hnd hfr
  obtain ⟨n, hn⟩ := hg d y hy
  refine calls_of_wp hf hb ?_
  rw [hnt]
  simp only [Bool.and_eq_true] at hts
  have hsim := entry_sim hok hargs hnd hfr (Nat.le_of_ble_eq_true hps)
  have hC := entry_ctx (cfg := cfg) hargs
  refine wp_mono (runL_ok hm hcfg hC (fun s a w hs h => ?_) l hl ⟨H, _, hsim, trivial⟩ hn) ?_
  · obtain ⟨hmp, h⟩ := noMap_some h
    obtain ⟨H1, Φ1, hs1⟩ := hs.sim
    exact wp_selfcall hcfg hC hs1 hcal hself hn1 hz hA hS hfA (fun w H => ⟨_, rfl, Rep.zero τA hnA⟩) hbuild (Eq.mp Nat.blt_eq hts.1) (Eq.mp Nat.blt_eq hts.2.1) (Eq.mp Nat.blt_eq hts.2.2.1) (Eq.mp Nat.blt_eq hts.2.2.2.1) (Eq.mp Nat.blt_eq hts.2.2.2.2) hct hd1 hd2 hd3 h
      (fun s' a' w' hs' h' => by
        obtain ⟨hmp', h'⟩ := noMap_some h'
        exact run_ok hm hcfg hC E hlE hdE (hs'.simM hmp') h')
  have fin : ∀ (s : St) (a' : Act) (w' : World), Sim P (entryC w H cfg.nt p.ps Φs) s a' w' → doneK cfg fn p.ps p.rs .ret s = some y →
      a'.defers = [] ∧ ∃ v, (results fn a'.tmps).run P w' = .ok v w' ∧ ∃ us H' Φs' Ψs, Ending.returned v = .returned (resultV us) ∧ Mod (· ∈ fpsOf Φs) w w' ∧ H.le H' ∧ HOk H' w' ∧ (∀ b c, H' b = some c → H b = some c ∨ b ∈ fpsOf Φs ∨ w.heap.size ≤ b) ∧
        ResOK P w' H' p.rs y.1 us Ψs ∧ MutsOK P w' H' p.ps y.2 vs Φs' ∧ (fpsOf (Ψs ++ Φs')).Nodup ∧ ∀ b ∈ fpsOf (Ψs ++ Φs'), H' b = none ∧ (b ∈ fpsOf Φs ∨ w.heap.size ≤ b) ∧ b < w'.heap.size := by
    rintro s a' w' ⟨H2, Φ2, hs⟩ h
    exact fin_ok (gh := fun _ => none) hcfg hargs hs h
  intro e a' w' hp
  cases e with
  | normal => obtain ⟨s, hs, h⟩ := hp; exact fin s a' w' hs.sim h
  | ret => obtain ⟨s, hs, h⟩ := hp; exact fin s a' w' hs.sim h
  | exit i => obtain ⟨s, hs, h⟩ := hp; cases h
  | _ => exact hp.elim
end
end Go.Vi
