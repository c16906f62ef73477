/- The abstract interpreter 'Vi', fortieth part: the last step for a function with ranges over functions. No condition beyond those typed in each theorem. -/
import Derived.Test.YtinkjepanpicoaaGreatVi39
namespace Go.Vi
def j3 : Code → List Code
  | .seq a b => j3 a ++ j3 b
  | .cond _ a b => j3 a ++ j3 b
  | .block _ c => j3 c
  | .loop c => j3 c
  | .rangeFunc g ps a b => [.rangeFunc g ps a b]
  | _ => []
def asR : Code → Code
  | .rangeFunc _ _ a _ => a
  | _ => .skip
def bdR : Code → Code
  | .rangeFunc _ _ _ b => b
  | _ => .skip
def psR : Code → List Nat
  | .rangeFunc _ ps _ _ => ps.toList
  | _ => []
def qha (cfg : qX) (b : Code) : Prop := qan cfg (asR b) ∧ qan cfg (bdR b) ∧ ∀ key li p, qaG (asR b) = some key → lk cfg.rloops key = some li → psR b = [p] → qiG cfg li p (asR b) (bdR b)
theorem qgq {cfg : qX} {b : Code} {key : Nat} {li : qcF} {p : Nat} (h1 : qaG (asR b) = some key) (h2 : lk cfg.rloops key = some li) (h3 : psR b = [p]) (ha : qe (asR b) = []) (hb : ∀ x ∈ qe (bdR b), qdm cfg x)
    (hn : ∀ n d, li.g n [] d = some (.norm, qbg li.ps d)) (hc : ∀ n x r d, li.g n (x :: r) d = run cfg n (asR b) (qeL li p d x) (qgb (qhX cfg li n (bdR b) r d) qjl)) : qha cfg b := by
  refine ⟨qav (qr ha), qav hb, ?_⟩
  intro key' li' p' e1 e2 e3
  rw [h1] at e1
  cases e1
  rw [h2] at e2
  cases e2
  rw [h3] at e3
  cases e3
  exact ⟨hn, hc⟩
theorem qbL {cfg : qX} : ∀ {c : Code}, (∀ b ∈ j3 c, qha cfg b) → qbn cfg c
  | .seq _a _b, h => ⟨qbL fun x hx => h x (List.mem_append.2 (.inl hx)), qbL fun x hx => h x (List.mem_append.2 (.inr hx))⟩
  | .cond _ _a _b, h => ⟨qbL fun x hx => h x (List.mem_append.2 (.inl hx)), qbL fun x hx => h x (List.mem_append.2 (.inr hx))⟩
  | .block _ c, h => qbL (c := c) h
  | .loop c, h => qbL (c := c) h
  | .rangeFunc _ _ _ _, h => h _ (List.mem_singleton.2 rfl)
  | .skip, _ => trivial
  | .region _ _ _, _ => trivial
  | .exit _, _ => trivial
  | .scope _, _ => trivial
  | .label _, _ => trivial
  | .goto _, _ => trivial
  | .ret, _ => trivial
  | .refuse _, _ => trivial
def qf8 (P : Program) (l : List (Nat × Iter)) : Prop := ∀ x ∈ l, qer P x.1 x.2
theorem itNil {P : Program} : qf8 P [] := by intro x hx; cases hx
theorem qjS {P : Program} {f : Nat} {p : Iter} {l : List (Nat × Iter)} (h : qer P f p) (hl : qf8 P l) : qf8 P ((f, p) :: l) := by
  intro x hx
  rcases List.mem_cons.1 hx with rfl | hx
  · exact h
  · exact hl x hx
def qiI (P : Program) (l : List (Nat × qcA)) : Prop := ∀ x ∈ l, jI P x.1 ∧ qcp P x.1 x.2
theorem qhH {P : Program} : qiI P [] := by intro x hx; cases hx
theorem qfb {P : Program} {f : Nat} {p : qcA} {l : List (Nat × qcA)} (h : jI P f ∧ qcp P f p) (hl : qiI P l) : qiI P ((f, p) :: l) := by
  intro x hx
  rcases List.mem_cons.1 hx with rfl | hx
  · exact h
  · exact hl x hx
theorem qhF {P : Program} {l : List (Nat × qcA)} (h : qiI P l) : ∀ f m, lk l f = some m → jI P f ∧ qcp P f m := fun f m hl => h (f, m) (qa5 hl)
theorem qgQ {P : Program} {cfg : qX} (hm : P.follows .mixedOrders = true) (hcfg : qC P cfg) (hit : qf8 P cfg.iters) {f : FuncId} {fn : Func} (hf : P.funcs[f]? = some fn) (hb : fn.body.isSome = true) (hnt : fn.ntmps = cfg.nt) (hname : (fn.name == "runtime.NumGoroutine") = false)
    {p : qI} (hps : Nat.ble p.ps.length cfg.nt = true) (hl : ∀ b ∈ qe (body fn), qdm cfg b) (hr : ∀ b ∈ j3 (body fn), qha cfg b) (hd : qco cfg (body fn) = true) (hg : ∀ d y, p.g d = some y → ∃ n, qA cfg n fn (body fn) p.ps p.rs d = some y) : qz P f p := by
  have hb2 : fn.body = some (body fn) := by
    unfold body
    cases h : fn.body with
    | none => rw [h] at hb; cases hb
    | some c => rfl
  exact ⟨qaq hf hb2 hname, qkZ hm hcfg (fun f it h => hit (f, it) (qa5 h)) hf hb2 hnt (qav hl) (qbL hr) hd (Nat.le_of_ble_eq_true hps) hg⟩
end Go.Vi
