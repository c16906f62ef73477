/- The abstract interpreter 'Vi', fortieth part: the last step for a function with ranges over functions. No condition beyond those typed in each theorem. -/
import Derived.Test.YtealdoeaafoemaaGreatVi36
namespace Go.Vi
def jI : Code → List Code
 | .seq a b => jI a ++ jI b
 | .cond _ a b => jI a ++ jI b
 | .block _ c => jI c
 | .loop c => jI c
 | .rangeFunc g ps a b => [.rangeFunc g ps a b]
 | _ => []
def asR : Code → Code
 | .rangeFunc _ _ a _ => a
 | _ => .skip
def bdR : Code → Code
 | .rangeFunc _ _ _ b => b
 | _ => .skip
def psR : Code → List Nat
 | .rangeFunc _ ps _ _ => ps.toList
 | _ => []
def qhC (cfg : qS) (b : Code) : Prop := qac cfg (asR b) ∧ qac cfg (bdR b) ∧ ∀ key li, qaO (asR b) = some key → lk cfg.rloops key = some li → qi7 cfg li (psR b) (asR b) (bdR b)
theorem qdZ {cfg : qS} {b : Code} {key : Nat} {li : qcj} {pl : List Nat} (h1 : qaO (asR b) = some key) (h2 : lk cfg.rloops key = some li) (h3 : psR b = pl) (ha : qe (asR b) = []) (hb : ∀ x ∈ qe (bdR b), qc2 cfg x)
  (hn : ∀ n d, li.g n [] d = some (.norm, qbt li.ps d)) (hc : ∀ n x r d, li.g n (x :: r) d = run cfg n (asR b) (qdB li pl d x) (qeW (qga cfg li n (bdR b) r d) qhk)) : qhC cfg b := by
 refine ⟨qam (qr ha), qam hb, ?_⟩
 intro key' li' e1 e2
 rw [h1] at e1
 cases e1
 rw [h2] at e2
 cases e2
 rw [h3]
 exact ⟨hn, hc⟩
theorem qbY {cfg : qS} : ∀ {c : Code}, (∀ b ∈ jI c, qhC cfg b) → qby cfg c
 | .seq _a _b, h => ⟨qbY fun x hx => h x (List.mem_append.2 (.inl hx)), qbY fun x hx => h x (List.mem_append.2 (.inr hx))⟩
 | .cond _ _a _b, h => ⟨qbY fun x hx => h x (List.mem_append.2 (.inl hx)), qbY fun x hx => h x (List.mem_append.2 (.inr hx))⟩
 | .block _ c, h => qbY (c := c) h
 | .loop c, h => qbY (c := c) h
 | .rangeFunc _ _ _ _, h => h _ (List.mem_singleton.2 rfl)
 | .skip, _ => trivial
 | .region _ _ _, _ => trivial
 | .exit _, _ => trivial
 | .scope _, _ => trivial
 | .label _, _ => trivial
 | .goto _, _ => trivial
 | .ret, _ => trivial
 | .refuse _, _ => trivial
def qgv (P : Program) (l : List (Nat × Iter)) : Prop := ∀ x ∈ l, qeg P x.1 x.2
theorem qjO {P : Program} : qgv P [] := by intro x hx; cases hx
theorem qg5 {P : Program} {f : Nat} {p : Iter} {l : List (Nat × Iter)} (h : qeg P f p) (hl : qgv P l) : qgv P ((f, p) :: l) := by
 intro x hx
 rcases List.mem_cons.1 hx with rfl | hx
 ·exact h
 ·exact hl x hx
def qi9 (P : Program) (l : List (Nat × qdn)) : Prop := ∀ x ∈ l, jJ P x.1 ∧ qc6 P x.1 x.2
theorem qjE {P : Program} : qi9 P [] := by intro x hx; cases hx
theorem qgY {P : Program} {f : Nat} {p : qdn} {l : List (Nat × qdn)} (h : jJ P f ∧ qc6 P f p) (hl : qi9 P l) : qi9 P ((f, p) :: l) := by
 intro x hx
 rcases List.mem_cons.1 hx with rfl | hx
 ·exact h
 ·exact hl x hx
theorem qjC {P : Program} {l : List (Nat × qdn)} (h : qi9 P l) : ∀ f m, lk l f = some m → jJ P f ∧ qc6 P f m := fun f m hl => h (f, m) (qbh hl)
theorem qd5 {P : Program} {cfg : qS} (hm : P.follows .mixedOrders = true) (hcfg : qB P cfg) (hit : qgv P cfg.iters) {f : FuncId} {fn : Func} (hf : P.funcs[f]? = some fn) (hb : fn.body.isSome = true) (hnt : fn.ntmps = cfg.nt) (hname : (fn.name == "runtime.NumGoroutine") = false)
  {p : qE} (hps : Nat.ble p.ps.length cfg.nt = true) (hl : ∀ b ∈ qe (body fn), qc2 cfg b) (hr : ∀ b ∈ jI (body fn), qhC cfg b) (hd : qcb cfg (body fn) = true) (hg : ∀ d y, p.g d = some y → ∃ n, qy cfg n fn (body fn) p.ps p.rs d = some y) : qw P f p := by
 have hb2 : fn.body = some (body fn) := by
  unfold body
  cases h : fn.body with
  | none => rw [h] at hb; cases hb
  | some c => rfl
 exact ⟨qab hf hb2 hname, qlD hm hcfg (fun f it h => hit (f, it) (qbh h)) hf hb2 hnt (qam hl) (qbY hr) hd (Nat.le_of_ble_eq_true hps) hg⟩
end Go.Vi
