/- The abstract interpreter 'Vi', fortieth part: the last step for a function with ranges over functions. No condition beyond those typed in each theorem. -/
import Derived.Test.YtdecnbepmnjeiaaVi39
namespace Go.Vi
def qav : Code → List Code
 | .seq a b => qav a ++ qav b
 | .cond _ a b => qav a ++ qav b
 | .block _ c => qav c
 | .loop c => qav c
 | .rangeFunc g ps a b => [.rangeFunc g ps a b]
 | _ => []
def asR : Code → Code
 | .rangeFunc _ _ a _ => a
 | _ => .skip
def bdR : Code → Code
 | .rangeFunc _ _ _ b => b
 | _ => .skip
def psR : Code → List Nat
 | .rangeFunc _ ps _ _ => ps.toList
 | _ => []
def qg2 (cfg : jN) (b : Code) : Prop := qab cfg (asR b) ∧ qab cfg (bdR b) ∧ ∀ key li p, qaR (asR b) = some key → lk cfg.rloops key = some li → psR b = [p] → qiE cfg li p (asR b) (bdR b)
theorem qiV {cfg : jN} {b : Code} {key : Nat} {li : qdw} {p : Nat} (h1 : qaR (asR b) = some key) (h2 : lk cfg.rloops key = some li) (h3 : psR b = [p]) (ha : qc (asR b) = []) (hb : ∀ x ∈ qc (bdR b), qdx cfg x)
  (hn : ∀ n d, li.g n [] d = some (.norm, qbr li.ps d)) (hc : ∀ n x r d, li.g n (x :: r) d = run cfg n (asR b) (qfW li p d x) (qhk (qjr cfg li n (bdR b) r d) failK)) : qg2 cfg b := by
 refine ⟨qaw (qT ha), qaw hb, ?_⟩
 intro key' li' p' e1 e2 e3
 rw [h1] at e1
 cases e1
 rw [h2] at e2
 cases e2
 rw [h3] at e3
 cases e3
 exact ⟨hn, hc⟩
theorem qbY {cfg : jN} : ∀ {c : Code}, (∀ b ∈ qav c, qg2 cfg b) → qbw cfg c
 | .seq _a _b, h => ⟨qbY fun x hx => h x (List.mem_append.2 (.inl hx)), qbY fun x hx => h x (List.mem_append.2 (.inr hx))⟩
 | .cond _ _a _b, h => ⟨qbY fun x hx => h x (List.mem_append.2 (.inl hx)), qbY fun x hx => h x (List.mem_append.2 (.inr hx))⟩
 | .block _ c, h => qbY (c := c) h
 | .loop c, h => qbY (c := c) h
 | .rangeFunc _ _ _ _, h => h _ (List.mem_singleton.2 rfl)
 | .skip, _ => trivial
 | .region _ _ _, _ => trivial
 | .exit _, _ => trivial
 | .scope _, _ => trivial
 | .label _, _ => trivial
 | .goto _, _ => trivial
 | .ret, _ => trivial
 | .refuse _, _ => trivial
def qf6 (P : Program) (l : List (Nat × Iter)) : Prop := ∀ x ∈ l, qfr P x.1 x.2
theorem itNil {P : Program} : qf6 P [] := by intro x hx; cases hx
theorem itCons {P : Program} {f : Nat} {p : Iter} {l : List (Nat × Iter)} (h : qfr P f p) (hl : qf6 P l) : qf6 P ((f, p) :: l) := by
 intro x hx
 rcases List.mem_cons.1 hx with rfl | hx
 ·exact h
 ·exact hl x hx
def qiG (P : Program) (l : List (Nat × qdX)) : Prop := ∀ x ∈ l, jT P x.1 ∧ qdW P x.1 x.2
theorem mkNil {P : Program} : qiG P [] := by intro x hx; cases hx
theorem qjO {P : Program} {f : Nat} {p : qdX} {l : List (Nat × qdX)} (h : jT P f ∧ qdW P f p) (hl : qiG P l) : qiG P ((f, p) :: l) := by
 intro x hx
 rcases List.mem_cons.1 hx with rfl | hx
 ·exact h
 ·exact hl x hx
theorem mk_ok {P : Program} {l : List (Nat × qdX)} (h : qiG P l) : ∀ f m, lk l f = some m → jT P f ∧ qdW P f m := fun f m hl => h (f, m) (qbg hl)
theorem qji {P : Program} {cfg : jN} (hm : P.follows .mixedOrders = true) (hcfg : qy P cfg) (hit : qf6 P cfg.iters) {f : FuncId} {fn : Func} (hf : P.funcs[f]? = some fn) (hb : fn.body.isSome = true) (hnt : fn.ntmps = cfg.nt) (hname : (fn.name == "runtime.NumGoroutine") = false)
  {p : qY} (hps : Nat.ble p.ps.length cfg.nt = true) (hl : ∀ b ∈ qc (body fn), qdx cfg b) (hr : ∀ b ∈ qav (body fn), qg2 cfg b) (hd : qcF cfg (body fn) = true) (hg : ∀ d y, p.g d = some y → ∃ n, qX cfg n fn (body fn) p.ps p.rs d = some y) : qP P f p := by
 have hb2 : fn.body = some (body fn) := by
  unfold body
  cases h : fn.body with
  | none => rw [h] at hb; cases hb
  | some c => rfl
 exact ⟨qaS hf hb2 hname, qkR hm hcfg (fun f it h => hit (f, it) (qbg h)) hf hb2 hnt (qaw hl) (qbY hr) hd (Nat.le_of_ble_eq_true hps) hg⟩
end Go.Vi
