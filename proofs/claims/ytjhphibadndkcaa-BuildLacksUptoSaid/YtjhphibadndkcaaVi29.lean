/- The abstract interpreter 'Vi', twenty-ninth part: what the printed texts use. No condition beyond those typed in each theorem. -/
import Derived.Test.YtjhphibadndkcaaVi28
import Derived.KernelRfl
namespace Go.Vi
theorem nilK_of {R : Type} {n : Nat} {k : Bool → Option R} {r : R} (h1 : n = 0 → k true = some r) (h2 : k false = some r) : nilK n k = some r := by
  unfold nilK
  cases h : Nat.beq n 0 with
  | true => exact dem_of true trivial (fun b _ => match b with
    | true => h1 (Nat.eq_of_beq_eq_true h)
    | false => h2)
  | false => exact h2
def fuel : Nat := 18446744073709551616
def enumK {α R : Type} (x : α) (k : α → Option R) : Option R := k x
theorem agreeK_one {R : Type} (x : Option R) : agreeK [x] = x := by
  cases x with
  | some r => exact agreeK_of (fun y hy => List.mem_singleton.1 hy)
  | none =>
    cases h : agreeK [(none : Option R)] with
    | none => rfl
    | some r => exact (agreeK_some h none (List.mem_singleton.2 rfl)).symm
theorem agreeK_two {R : Type} (x : Option R) (l : List (Option R)) : agreeK (x :: x :: l) = agreeK (x :: l) := by
  unfold agreeK
  congr 1
  funext y
  simp
def bindV {α R : Type} (x : α) (k : α → Option R) : Option R := k x
def body (f : Func) : Code := match f.body with | some c => c | none => .skip
def loopsOf : Code → List Code
  | .seq a b => loopsOf a ++ loopsOf b
  | .cond _ a b => loopsOf a ++ loopsOf b
  | .block _ c => loopsOf c
  | .loop c => c :: loopsOf c
  | _ => []
def nth (i : Nat) (l : List Code) : Code := match l[i]? with | some c => c | none => .skip

def LoopHas (cfg : Cfg) (b : Code) : Prop := ∀ key li, firstReg b = some key → lk cfg.loops key = some li → LoopEq cfg li b
theorem loopHas {cfg : Cfg} {b : Code} {key : Nat} {li : LoopI} (h1 : firstReg b = some key) (h2 : lk cfg.loops key = some li) (h3 : ∀ d, li.g 0 d = none) (h4 : ∀ n d, li.g (n + 1) d = run cfg n b (li.ins.fill d) (roundK li n)) : LoopHas cfg b := by
  intro key' li' e1 e2
  rw [h1] at e1
  cases e1
  rw [h2] at e2
  cases e2
  exact ⟨h3, h4⟩
theorem loopHas_none {cfg : Cfg} {b : Code} {key : Nat} (h1 : firstReg b = some key) (h2 : lk cfg.loops key = none) : LoopHas cfg b := by
  intro key' li' e1 e2
  rw [h1] at e1
  cases e1
  rw [h2] at e2
  cases e2

theorem noLoops {cfg : Cfg} {c : Code} (h : loopsOf c = []) : ∀ b ∈ loopsOf c, LoopHas cfg b := by
  intro b hb
  rw [h] at hb
  cases hb
theorem loops_ok {cfg : Cfg} : ∀ {c : Code}, (∀ b ∈ loopsOf c, LoopHas cfg b) → LoopsOK cfg c
  | .seq a b, h => ⟨loops_ok fun x hx => h x (List.mem_append.2 (.inl hx)), loops_ok fun x hx => h x (List.mem_append.2 (.inr hx))⟩
  | .cond _ a b, h => ⟨loops_ok fun x hx => h x (List.mem_append.2 (.inl hx)), loops_ok fun x hx => h x (List.mem_append.2 (.inr hx))⟩
  | .block _ c, h => loops_ok (c := c) h
  | .loop c, h => ⟨loops_ok fun x hx => h x (List.mem_cons_of_mem _ hx), h c List.mem_cons_self⟩
  | .skip, _ => trivial
  | .region _ _ _, _ => trivial
  | .rangeFunc _ _ _ _, _ => trivial
  | .exit _, _ => trivial
  | .scope _, _ => trivial
  | .label _, _ => trivial
  | .goto _, _ => trivial
  | .ret, _ => trivial
  | .refuse _, _ => trivial

def GoodF (P : Program) (f : Nat) (p : Prim) : Prop := Callable P f ∧ Sound P f p
def GoodAllF (P : Program) (l : List (Nat × Prim)) : Prop := ∀ x ∈ l, GoodF P x.1 x.2
theorem goodNil {P : Program} : GoodAllF P [] := by intro x hx; cases hx
theorem goodCons {P : Program} {f : Nat} {p : Prim} {l : List (Nat × Prim)} (h : GoodF P f p) (hl : GoodAllF P l) : GoodAllF P ((f, p) :: l) := by
  intro x hx
  rcases List.mem_cons.1 hx with rfl | hx
  · exact h
  · exact hl x hx

def mapB (P : Program) (x : Nat × Nat × Nat) : Bool :=
  (match P.underlying x.1 with | some (.map k e) => Nat.beq k x.2.1 && Nat.beq e x.2.2 | _ => false) && (tyB P (.int .i64)).1 x.2.1 && (tyB P (.int .i64)).1 x.2.2
def tysB (P : Program) (l : List (Nat × Ty)) : Bool := l.all fun x => (tyB P x.2).1 x.1 && x.2.isFz

theorem cfg_ok {P : Program} {cfg : Cfg} (hty : tysB P cfg.ty = true) (hp : GoodAllF P cfg.prims) (hs : Nat.ble cfg.nt 5000 = true) (hmap : cfg.maps.all (mapB P) = true) : CfgOK P cfg := by
  refine ⟨fun t τ h => ?_, fun f p h => hp (f, p) (lk_mem h), Nat.le_of_ble_eq_true hs, fun T kt vt h => ?_⟩
  · have := List.all_eq_true.1 hty (t, τ) (lk_mem h)
    rw [Bool.and_eq_true] at this
    exact this
  · have := List.all_eq_true.1 hmap (T, kt, vt) (lk_mem h)
    unfold mapB at this
    rw [Bool.and_eq_true, Bool.and_eq_true] at this
    obtain ⟨⟨h1, h2⟩, h3⟩ := this
    refine ⟨?_, h2, h3⟩
    simp only at h1
    split at h1
    · rename_i k e hu
      rw [Bool.and_eq_true] at h1
      rw [hu, Nat.eq_of_beq_eq_true h1.1, Nat.eq_of_beq_eq_true h1.2]
    · cases h1

theorem fn_done {P : Program} {cfg : Cfg} (hm : P.follows .mixedOrders = true) (hcfg : CfgOK P cfg) {f : FuncId} {fn : Func} (hf : P.funcs[f]? = some fn) (hb : fn.body.isSome = true) (hnt : fn.ntmps = cfg.nt) (hname : (fn.name == "runtime.NumGoroutine") = false)
    {p : Prim} (hps : Nat.ble p.ps.length cfg.nt = true) (hl : ∀ b ∈ loopsOf (body fn), LoopHas cfg b) (hd : drawOK cfg (body fn) = true) (hg : ∀ d y, p.g d = some y → ∃ n, absFn cfg n fn (body fn) p.ps p.rs d = some y) : GoodF P f p := by
  have hb2 : fn.body = some (body fn) := by
    unfold body
    cases h : fn.body with
    | none => rw [h] at hb; cases hb
    | some c => rfl
  exact ⟨callable_of hf hb2 hname, fn_sound hm hcfg hf hb2 hnt (loops_ok hl) hd (Nat.le_of_ble_eq_true hps) hg⟩
end Go.Vi
