/- The abstract interpreter 'Vi', fortieth part: the last step for a function with ranges over functions. No condition beyond those typed in each theorem. -/
import Derived.Test.YtinkjepanpicoaaVi39
namespace Go.Vi

def rangesOf : Code → List Code
  | .seq a b => rangesOf a ++ rangesOf b
  | .cond _ a b => rangesOf a ++ rangesOf b
  | .block _ c => rangesOf c
  | .loop c => rangesOf c
  | .rangeFunc g ps a b => [.rangeFunc g ps a b]
  | _ => []
def asR : Code → Code
  | .rangeFunc _ _ a _ => a
  | _ => .skip
def bdR : Code → Code
  | .rangeFunc _ _ _ b => b
  | _ => .skip
def psR : Code → List Nat
  | .rangeFunc _ ps _ _ => ps.toList
  | _ => []
def RangeHas (cfg : Cfg) (b : Code) : Prop := LoopsOK cfg (asR b) ∧ LoopsOK cfg (bdR b) ∧ ∀ key li p, firstReg (asR b) = some key → lk cfg.rloops key = some li → psR b = [p] → RLoopEq cfg li p (asR b) (bdR b)
theorem rangeHas {cfg : Cfg} {b : Code} {key : Nat} {li : RLoopI} {p : Nat} (h1 : firstReg (asR b) = some key) (h2 : lk cfg.rloops key = some li) (h3 : psR b = [p]) (ha : loopsOf (asR b) = []) (hb : ∀ x ∈ loopsOf (bdR b), LoopHas cfg x)
    (hn : ∀ n d, li.g n [] d = some (.norm, getM li.ps d)) (hc : ∀ n x r d, li.g n (x :: r) d = run cfg n (asR b) (innerSt li p d x) (thenK (bodyK cfg li n (bdR b) r d) failK)) : RangeHas cfg b := by
  refine ⟨loops_ok (noLoops ha), loops_ok hb, ?_⟩
  intro key' li' p' e1 e2 e3
  rw [h1] at e1
  cases e1
  rw [h2] at e2
  cases e2
  rw [h3] at e3
  cases e3
  exact ⟨hn, hc⟩
theorem noRanges {cfg : Cfg} {c : Code} (h : rangesOf c = []) : ∀ b ∈ rangesOf c, RangeHas cfg b := by
  intro b hb
  rw [h] at hb
  cases hb
theorem ranges_ok {cfg : Cfg} : ∀ {c : Code}, (∀ b ∈ rangesOf c, RangeHas cfg b) → RangesOK cfg c
  | .seq _a _b, h => ⟨ranges_ok fun x hx => h x (List.mem_append.2 (.inl hx)), ranges_ok fun x hx => h x (List.mem_append.2 (.inr hx))⟩
  | .cond _ _a _b, h => ⟨ranges_ok fun x hx => h x (List.mem_append.2 (.inl hx)), ranges_ok fun x hx => h x (List.mem_append.2 (.inr hx))⟩
  | .block _ c, h => ranges_ok (c := c) h
  | .loop c, h => ranges_ok (c := c) h
  | .rangeFunc _ _ _ _, h => h _ (List.mem_singleton.2 rfl)
  | .skip, _ => trivial
  | .region _ _ _, _ => trivial
  | .exit _, _ => trivial
  | .scope _, _ => trivial
  | .label _, _ => trivial
  | .goto _, _ => trivial
  | .ret, _ => trivial
  | .refuse _, _ => trivial

def GoodIts (P : Program) (l : List (Nat × Iter)) : Prop := ∀ x ∈ l, IterOK P x.1 x.2
theorem itNil {P : Program} : GoodIts P [] := by intro x hx; cases hx
theorem itCons {P : Program} {f : Nat} {p : Iter} {l : List (Nat × Iter)} (h : IterOK P f p) (hl : GoodIts P l) : GoodIts P ((f, p) :: l) := by
  intro x hx
  rcases List.mem_cons.1 hx with rfl | hx
  · exact h
  · exact hl x hx
def GoodMk (P : Program) (l : List (Nat × Maker)) : Prop := ∀ x ∈ l, Callable P x.1 ∧ SoundC P x.1 x.2
theorem mkNil {P : Program} : GoodMk P [] := by intro x hx; cases hx
theorem mkCons {P : Program} {f : Nat} {p : Maker} {l : List (Nat × Maker)} (h : Callable P f ∧ SoundC P f p) (hl : GoodMk P l) : GoodMk P ((f, p) :: l) := by
  intro x hx
  rcases List.mem_cons.1 hx with rfl | hx
  · exact h
  · exact hl x hx
theorem mk_ok {P : Program} {l : List (Nat × Maker)} (h : GoodMk P l) : ∀ f m, lk l f = some m → Callable P f ∧ SoundC P f m := fun f m hl => h (f, m) (lk_mem hl)

theorem fn_doneR {P : Program} {cfg : Cfg} (hm : P.follows .mixedOrders = true) (hcfg : CfgOK P cfg) (hit : GoodIts P cfg.iters) {f : FuncId} {fn : Func} (hf : P.funcs[f]? = some fn) (hb : fn.body.isSome = true) (hnt : fn.ntmps = cfg.nt) (hname : (fn.name == "runtime.NumGoroutine") = false)
    {p : Prim} (hps : Nat.ble p.ps.length cfg.nt = true) (hl : ∀ b ∈ loopsOf (body fn), LoopHas cfg b) (hr : ∀ b ∈ rangesOf (body fn), RangeHas cfg b) (hd : drawD cfg (body fn) = true) (hg : ∀ d y, p.g d = some y → ∃ n, absFn cfg n fn (body fn) p.ps p.rs d = some y) : GoodF P f p := by
  have hb2 : fn.body = some (body fn) := by
    unfold body
    cases h : fn.body with
    | none => rw [h] at hb; cases hb
    | some c => rfl
  exact ⟨callable_of hf hb2 hname, fn_soundD hm hcfg (fun f it h => hit (f, it) (lk_mem h)) hf hb2 hnt (loops_ok hl) (ranges_ok hr) hd (Nat.le_of_ble_eq_true hps) hg⟩
end Go.Vi
