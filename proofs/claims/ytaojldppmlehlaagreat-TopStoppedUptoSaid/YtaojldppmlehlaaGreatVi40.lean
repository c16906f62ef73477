/- The abstract interpreter 'Vi', fortieth part: the last step for a function with ranges over functions. No condition beyond those typed in each theorem. -/
import Derived.Test.YtaojldppmlehlaaGreatVi39
namespace Go.Vi
def qae : Code → List Code
 | .seq a b => qae a ++ qae b
 | .cond _ a b => qae a ++ qae b
 | .block _ c => qae c
 | .loop c => qae c
 | .rangeFunc g ps a b => [.rangeFunc g ps a b]
 | _ => []
def asR : Code → Code
 | .rangeFunc _ _ a _ => a
 | _ => .skip
def bdR : Code → Code
 | .rangeFunc _ _ _ b => b
 | _ => .skip
def psR : Code → List Nat
 | .rangeFunc _ ps _ _ => ps.toList
 | _ => []
def qhr (cfg : qT) (b : Code) : Prop := qac cfg (asR b) ∧ qac cfg (bdR b) ∧ ∀ key li p, qaP (asR b) = some key → lk cfg.rloops key = some li → psR b = [p] → qiW cfg li p (asR b) (bdR b)
theorem qgA {cfg : qT} {b : Code} {key : Nat} {li : qcQ} {p : Nat} (h1 : qaP (asR b) = some key) (h2 : lk cfg.rloops key = some li) (h3 : psR b = [p]) (ha : qd (asR b) = []) (hb : ∀ x ∈ qd (bdR b), qdx cfg x)
  (hn : ∀ n d, li.g n [] d = some (.norm, qbq li.ps d)) (hc : ∀ n x r d, li.g n (x :: r) d = run cfg n (asR b) (qeW li p d x) (qgm (qic cfg li n (bdR b) r d) qjB)) : qhr cfg b := by
 refine ⟨qak (qr ha), qak hb, ?_⟩
 intro key' li' p' e1 e2 e3
 rw [h1] at e1
 cases e1
 rw [h2] at e2
 cases e2
 rw [h3] at e3
 cases e3
 exact ⟨hn, hc⟩
theorem qbY {cfg : qT} : ∀ {c : Code}, (∀ b ∈ qae c, qhr cfg b) → qbx cfg c
 | .seq _a _b, h => ⟨qbY fun x hx => h x (List.mem_append.2 (.inl hx)), qbY fun x hx => h x (List.mem_append.2 (.inr hx))⟩
 | .cond _ _a _b, h => ⟨qbY fun x hx => h x (List.mem_append.2 (.inl hx)), qbY fun x hx => h x (List.mem_append.2 (.inr hx))⟩
 | .block _ c, h => qbY (c := c) h
 | .loop c, h => qbY (c := c) h
 | .rangeFunc _ _ _ _, h => h _ (List.mem_singleton.2 rfl)
 | .skip, _ => trivial
 | .region _ _ _, _ => trivial
 | .exit _, _ => trivial
 | .scope _, _ => trivial
 | .label _, _ => trivial
 | .goto _, _ => trivial
 | .ret, _ => trivial
 | .refuse _, _ => trivial
def qgj (P : Program) (l : List (Nat × Iter)) : Prop := ∀ x ∈ l, qeC P x.1 x.2
theorem itNil {P : Program} : qgj P [] := by intro x hx; cases hx
theorem qj7 {P : Program} {f : Nat} {p : Iter} {l : List (Nat × Iter)} (h : qeC P f p) (hl : qgj P l) : qgj P ((f, p) :: l) := by
 intro x hx
 rcases List.mem_cons.1 hx with rfl | hx
 ·exact h
 ·exact hl x hx
def qiY (P : Program) (l : List (Nat × qc9)) : Prop := ∀ x ∈ l, jR P x.1 ∧ qcP P x.1 x.2
theorem qjl {P : Program} : qiY P [] := by intro x hx; cases hx
theorem qgP {P : Program} {f : Nat} {p : qc9} {l : List (Nat × qc9)} (h : jR P f ∧ qcP P f p) (hl : qiY P l) : qiY P ((f, p) :: l) := by
 intro x hx
 rcases List.mem_cons.1 hx with rfl | hx
 ·exact h
 ·exact hl x hx
theorem qjj {P : Program} {l : List (Nat × qc9)} (h : qiY P l) : ∀ f m, lk l f = some m → jR P f ∧ qcP P f m := fun f m hl => h (f, m) (qbe hl)
theorem qg8 {P : Program} {cfg : qT} (hm : P.follows .mixedOrders = true) (hcfg : qF P cfg) (hit : qgj P cfg.iters) {f : FuncId} {fn : Func} (hf : P.funcs[f]? = some fn) (hb : fn.body.isSome = true) (hnt : fn.ntmps = cfg.nt) (hname : (fn.name == "runtime.NumGoroutine") = false)
  {p : qD} (hps : Nat.ble p.ps.length cfg.nt = true) (hl : ∀ b ∈ qd (body fn), qdx cfg b) (hr : ∀ b ∈ qae (body fn), qhr cfg b) (hd : qcx cfg (body fn) = true) (hg : ∀ d y, p.g d = some y → ∃ n, qx cfg n fn (body fn) p.ps p.rs d = some y) : qu P f p := by
 have hb2 : fn.body = some (body fn) := by
  unfold body
  cases h : fn.body with
  | none => rw [h] at hb; cases hb
  | some c => rfl
 exact ⟨qaq hf hb2 hname, qld hm hcfg (fun f it h => hit (f, it) (qbe h)) hf hb2 hnt (qak hl) (qbY hr) hd (Nat.le_of_ble_eq_true hps) hg⟩
end Go.Vi
