/- The abstract interpreter 'Vi', forty-fourth part: a function that makes such a variable and calls what it holds. No condition beyond those typed in each theorem. -/
import Derived.Test.YtdecnbepmnjeiaaVi43
namespace Go.Vi
def seqs : List Code → Code → Code
 | [], D => D
 | c :: l, D => .seq c (seqs l D)
noncomputable def runL {R : Type} (cfg : jN) (n : Nat) : List Code → St → (St → Option R) → (X → St → Option R) → Option R
 | [], s, kD, _ => kD s
 | c :: l, s, kD, k => run cfg n c s fun x s' => match x with
  | .norm => runL cfg n l s' kD k
  | .ret => k .ret s'
  | .exit i => k (.exit i) s'
def qhz {R : Type} (s : St) (k : Option R) : Option R :=
 match s.mp with
 | none => k
 | some _ => none
noncomputable def absFnS (cfg : jN) (n : Nat) (fn : Func) (l : List Code) (E : Code) (sp : SelfP) (τA : Ty) (t6 t12 t13 t14 t15 : Nat) (ct : List Nat) (ps : List jR) (rs : List RTy) (d : PDens ps) : Option (RDens rs × MDens ps) :=
 runL cfg n l (qbs ps d) (fun s => qhz s (qeg cfg ((((s.set t6 .dead).set t12 .dead).set t13 .dead).set t14 .dead) (some t15) sp.p (.val τA τA.zero :: capAVs s ct) (fun s' => qhz s' (run cfg n E s' (qc5 cfg fn ps rs))))) (qc5 cfg fn ps rs)
def qcy : Code → Code
 | .seq a _ => a
 | c => c
def j8 : Code → Code
 | .seq _ b => b
 | c => c
def regI : Code → Nat
 | .region i _ _ => i
 | _ => 0
def opC (c : Code) (i : Nat) : Oper :=
 match c with
 | .region _ ops _ => match ops[i]? with
  | some o => o
  | none => ⟨none, .move (.tmp 0), 0, "", #[], none⟩
 | _ => ⟨none, .move (.tmp 0), 0, "", #[], none⟩
def argTs (o : Oper) : Array TypeId :=
 match o.op with
 | .call c => c.argTypes
 | _ => #[]
section
variable {P : Program} {C : Ctx} {cfg : jN} {R : Type} {r : R}
theorem linesOK {l : List Code} (h : (l.all fun c => (qc c).isEmpty && qr cfg c) = true) : ∀ c ∈ l, qab cfg c ∧ qr cfg c = true := by
 intro c hc
 have := List.all_eq_true.1 h c hc
 rw [Bool.and_eq_true] at this
 refine ⟨qaw (fun b hb => ?_), this.2⟩
 rw [List.isEmpty_iff.1 this.1] at hb
 cases hb
theorem qkf (hm : P.follows .mixedOrders = true) (hcfg : qy P cfg) (hC : qF C cfg) {n : Nat} {D : Code} {kD : St → Option R} {k : X → St → Option R} (hD : ∀ s a w, jW P C s a w → kD s = some r → D.wp P (Post P C k r) a w) :
  ∀ (l : List Code) {s : St} {a : Act} {w : World}, (∀ c ∈ l, qab cfg c ∧ qr cfg c = true) → jW P C s a w → runL cfg n l s kD k = some r → (seqs l D).wp P (Post P C k r) a w
 | [], s, a, w, _, hs, h => hD s a w hs h
 | c :: l, s, a, w, hl, hs, h => by
  have hc := hl c List.mem_cons_self
  refine wp_seq (wp_mono (qbX hm hcfg hC c hc.1 hc.2 hs h) ?_)
  intro e a w hp
  cases e with
  | normal =>
   obtain ⟨s', hs', h'⟩ := hp
   exact qkf hm hcfg hC hD l (fun c hc => hl c (List.mem_cons_of_mem _ hc)) hs' h'
  | exit i => obtain ⟨s', hs', h'⟩ := hp; exact ⟨s', hs', h'⟩
  | ret => obtain ⟨s', hs', h'⟩ := hp; exact ⟨s', hs', h'⟩
  | _ => exact hp.elim
theorem qgu {s : St} {k : Option R} (h : qhz s k = some r) : s.mp = none ∧ k = some r := by
 unfold qhz at h
 split at h
 ·rename_i e; exact ⟨e, h⟩
 ·cases h
end
end Go.Vi
