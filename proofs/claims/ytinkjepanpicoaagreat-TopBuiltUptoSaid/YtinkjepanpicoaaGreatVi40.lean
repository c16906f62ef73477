/- The abstract interpreter 'Vi', fortieth part: the last step for a function with ranges over functions. No condition beyond those typed in each theorem. -/
import Derived.Test.YtinkjepanpicoaaGreatVi39
namespace Go.Vi
def j3 : Code → List Code
  | .seq a b => j3 a ++ j3 b
  | .cond _ a b => j3 a ++ j3 b
  | .block _ c => j3 c
  | .loop c => j3 c
  | .rangeFunc g ps a b => [.rangeFunc g ps a b]
  | _ => []
def asR : Code → Code
  | .rangeFunc _ _ a _ => a
  | _ => .skip
def bdR : Code → Code
  | .rangeFunc _ _ _ b => b
  | _ => .skip
def psR : Code → List Nat
  | .rangeFunc _ ps _ _ => ps.toList
  | _ => []
def qhH (cfg : qW) (b : Code) : Prop := qar cfg (asR b) ∧ qar cfg (bdR b) ∧ ∀ key li p, qaK (asR b) = some key → lk cfg.rloops key = some li → psR b = [p] → qjh cfg li p (asR b) (bdR b)
theorem qgV {cfg : qW} {b : Code} {key : Nat} {li : qcX} {p : Nat} (h1 : qaK (asR b) = some key) (h2 : lk cfg.rloops key = some li) (h3 : psR b = [p]) (ha : qe (asR b) = []) (hb : ∀ x ∈ qe (bdR b), qdC cfg x)
    (hn : ∀ n d, li.g n [] d = some (.norm, qbn li.ps d)) (hc : ∀ n x r d, li.g n (x :: r) d = run cfg n (asR b) (qfa li p d x) (qgF (qiv cfg li n (bdR b) r d) qj2)) : qhH cfg b := by
  refine ⟨qaI (qr ha), qaI hb, ?_⟩
  intro key' li' p' e1 e2 e3
  rw [h1] at e1
  cases e1
  rw [h2] at e2
  cases e2
  rw [h3] at e3
  cases e3
  exact ⟨hn, hc⟩
theorem qbW {cfg : qW} : ∀ {c : Code}, (∀ b ∈ j3 c, qhH cfg b) → qbw cfg c
  | .seq _a _b, h => ⟨qbW fun x hx => h x (List.mem_append.2 (.inl hx)), qbW fun x hx => h x (List.mem_append.2 (.inr hx))⟩
  | .cond _ _a _b, h => ⟨qbW fun x hx => h x (List.mem_append.2 (.inl hx)), qbW fun x hx => h x (List.mem_append.2 (.inr hx))⟩
  | .block _ c, h => qbW (c := c) h
  | .loop c, h => qbW (c := c) h
  | .rangeFunc _ _ _ _, h => h _ (List.mem_singleton.2 rfl)
  | .skip, _ => trivial
  | .region _ _ _, _ => trivial
  | .exit _, _ => trivial
  | .scope _, _ => trivial
  | .label _, _ => trivial
  | .goto _, _ => trivial
  | .ret, _ => trivial
  | .refuse _, _ => trivial
def qgC (P : Program) (l : List (Nat × Iter)) : Prop := ∀ x ∈ l, qeO P x.1 x.2
theorem itNil {P : Program} : qgC P [] := by intro x hx; cases hx
theorem qkC {P : Program} {f : Nat} {p : Iter} {l : List (Nat × Iter)} (h : qeO P f p) (hl : qgC P l) : qgC P ((f, p) :: l) := by
  intro x hx
  rcases List.mem_cons.1 hx with rfl | hx
  · exact h
  · exact hl x hx
def qjj (P : Program) (l : List (Nat × qcP)) : Prop := ∀ x ∈ l, jH P x.1 ∧ qcW P x.1 x.2
theorem qjK {P : Program} : qjj P [] := by intro x hx; cases hx
theorem qg5 {P : Program} {f : Nat} {p : qcP} {l : List (Nat × qcP)} (h : jH P f ∧ qcW P f p) (hl : qjj P l) : qjj P ((f, p) :: l) := by
  intro x hx
  rcases List.mem_cons.1 hx with rfl | hx
  · exact h
  · exact hl x hx
theorem qjI {P : Program} {l : List (Nat × qcP)} (h : qjj P l) : ∀ f m, lk l f = some m → jH P f ∧ qcW P f m := fun f m hl => h (f, m) (qba hl)
theorem qhm {P : Program} {cfg : qW} (hm : P.follows .mixedOrders = true) (hcfg : qC P cfg) (hit : qgC P cfg.iters) {f : FuncId} {fn : Func} (hf : P.funcs[f]? = some fn) (hb : fn.body.isSome = true) (hnt : fn.ntmps = cfg.nt) (hname : (fn.name == "runtime.NumGoroutine") = false)
    {p : qH} (hps : Nat.ble p.ps.length cfg.nt = true) (hl : ∀ b ∈ qe (body fn), qdC cfg b) (hr : ∀ b ∈ j3 (body fn), qhH cfg b) (hd : qcD cfg (body fn) = true) (hg : ∀ d y, p.g d = some y → ∃ n, qz cfg n fn (body fn) p.ps p.rs d = some y) : qx P f p := by
  have hb2 : fn.body = some (body fn) := by
    unfold body
    cases h : fn.body with
    | none => rw [h] at hb; cases hb
    | some c => rfl
  exact ⟨qat hf hb2 hname, qlH hm hcfg (fun f it h => hit (f, it) (qba h)) hf hb2 hnt (qaI hl) (qbW hr) hd (Nat.le_of_ble_eq_true hps) hg⟩
end Go.Vi
