/- The contracts of functions of the program, printed by program from the interpreter: each says what a call returns. No condition beyond those typed in each theorem. -/
import Derived.Test.YtdecnbepmnjeiaaMk
import Derived.Test.YtdecnbepmnjeiaaVi45
import Derived.Test.YtdecnbepmnjeiaaProg
namespace Go.Proofs.Try.V
noncomputable section
open Go.Vi
set_option maxRecDepth 100000
abbrev zI : Ty := .int .i64
abbrev qC : Ty := .pair zI (.pair zI zI)
abbrev zTd : Ty := .pair (.list false 49 (.str (.pair zI (.pair .bool (.pair zI .bool))))) (.list false 3 zI)
abbrev zTg : Ty := .str (.pair zI (.pair zI .bool))
abbrev zTe : Ty := .pair (.list true 92 (.str (.pair zTg zI))) (.pair (.list true 4 .bool) (.pair zI (.pair zI (.pair .bool (.pair zI zI)))))
abbrev zTh : Ty := .str (.pair zI zI)
abbrev zTj : Type := Int × (Bool × (Int × Bool))
abbrev zTf : Type := (List zTj) × (List Int)
abbrev zTl : Type := List (Int × (Int × (Int × Int)))
abbrev zTc : Type := zTl × (zTl × (Int × (Int × Int)))
abbrev zTk : Type := zTc × (Int × ((List Bool) × (List Int)))
abbrev zTm : Ty := .list false 97 (.arr 2 zI)
abbrev zTn : Type := List (List (Int × (Int × Bool)))
abbrev zTo : Type := (Int × Unit) × (Unit) × Unit
abbrev zTp : Ty := .pair zI (.pair zI (.list false 3 zI))
abbrev zTq : Ty := .pair (.list false 4 .bool) (.pair zI (.pair zI (.pair .bool (.pair zI zI))))
abbrev zTr : Type := (((List (Int × Int)) × Int × Int × Unit) × ((List (List Int)) × Unit) × Unit)
abbrev zTs : Ty := .pair zI (.pair (.list true 4 .bool) (.list true 3 zI))
abbrev zTt : Type := Int × (Int × (Int × (Int × Int)))
abbrev zTi : Type := (List zTt) × ((List ((Int × (Int × Bool)) × Int)) × ((List Bool) × (Int × (Int × (Bool × (Int × Int))))))
abbrev zTb : Type := zTf × zTi
abbrev zTu : Type := zTc × (List Int) × (List (Int × (Int × Int))) × Unit
abbrev zTv : Type := (((List (Int × (Int × Int))) × zTc × Int × Int × Int × Int × Unit) × ((List Int) × (List (Int × Int)) × (List Int) × zTk × Unit) × Unit)
def tyT : List (Nat × Ty) := [(2, .int .i64), (3, .int .i64), (4, .bool), (5, .int .u8), (6, .int .u8), (7, .str (.pair zI (.pair zI (.pair .bool (.int .u8))))), (8, .str (.pair zI (.pair zI (.pair .bool (.int .u8))))), (22, .list false 49 (.str (.pair zI (.pair .bool (.pair zI .bool))))), (23, .list false 3 zI), (25, .str zTd), (26, .list false 78 (.str qC)), (28, .str zTp), (31, .list false 45 (.list false 47 zTg)), (32, .int .i64), (36, .str (.pair zI qC)), (37, .list false 36 (.str (.pair zI qC))), (38, .list false 42 (.str (.pair zI qC))), (40, .str (.pair (.list false 36 (.str (.pair zI qC))) (.pair (.list false 42 (.str (.pair zI qC))) qC))), (42, .str (.pair zI qC)), (44, .list false 52 (.str qC)), (45, .list false 47 zTg), (47, .str (.pair zI (.pair zI .bool))), (49, .str (.pair zI (.pair .bool (.pair zI .bool)))), (50, .int .u64), (52, .str qC), (55, .list false 125 zTh), (61, .str (.pair zI zI)), (62, .list false 61 zTh), (64, .str (.pair zI (.pair zI (.pair (.list false 3 zI) (.pair (.list false 3 zI) (.pair (.list false 61 zTh) qC)))))), (67, .list false 82 (.str (.pair zI (.pair zI qC)))), (69, .ptr (.str (.pair (.str zTd) (.pair (.list false 82 (.str (.pair zI (.pair zI qC)))) (.pair (.list false 92 (.str (.pair zTg zI))) zTq))))), (78, .str qC), (80, .fn (.str qC) .bool), (82, .str (.pair zI (.pair zI qC))), (83, .fn (.str (.pair zI (.pair zI qC))) .bool), (87, .list false 4 .bool), (88, .list false 92 (.str (.pair zTg zI))), (90, .str (.pair (.str zTd) (.pair (.list false 82 (.str (.pair zI (.pair zI qC)))) (.pair (.list false 92 (.str (.pair zTg zI))) zTq)))), (92, .str (.pair zTg zI)), (93, .list false 97 (.arr 2 zI)), (94, .arr 4 zTm), (97, .arr 2 zI), (98, .fn (.arr 2 zI) .bool), (100, .list false 93 zTm), (102, .fn zTm .bool), (109, .fn (.str qC) .bool), (110, .ptr (.str (.pair (.str (.pair (.list false 36 (.str (.pair zI qC))) (.pair (.list false 42 (.str (.pair zI qC))) qC))) (.pair zI (.pair (.list false 4 .bool) (.list false 3 zI)))))), (113, .str (.pair (.str (.pair (.list false 36 (.str (.pair zI qC))) (.pair (.list false 42 (.str (.pair zI qC))) qC))) (.pair zI (.pair (.list false 4 .bool) (.list false 3 zI))))), (116, .list false 119 (.arr 3 zI)), (119, .arr 3 zI), (125, .str (.pair zI zI)), (126, .fn zI .bool), (130, .fn zTh .bool), (140, .ptr (.str (.pair zTg zI))), (141, .list false 23 (.list false 3 zI)), (152, .int .u32), (155, .int .u64)]
theorem qK : tysB Try.prog tyT = true := by kernel_rfl
theorem mixed : Try.prog.follows .mixedOrders = true := by kernel_rfl
theorem hQ {cfg : jN} {f : FuncId} {fn : Func} {p : qY} (hc : qy Try.prog cfg) (hf : Try.prog.funcs[f]? = some fn) (ha : (fn.body.isSome && (Nat.beq fn.ntmps cfg.nt && (!(fn.name == "runtime.NumGoroutine") && Nat.ble p.ps.length cfg.nt))) = true) (hl : ∀ b ∈ qc (body fn), qdx cfg b) (hd : qr cfg (body fn) = true) (he : ∀ d, qX cfg qj fn (body fn) p.ps p.rs d = p.g d) : qP Try.prog f p := by
  simp only [Bool.and_eq_true, Bool.not_eq_true'] at ha
  exact fn_done mixed hc hf ha.1 (Nat.eq_of_beq_eq_true ha.2.1) ha.2.2.1 ha.2.2.2 hl hd (fun d y h => ⟨qj, (he d).trans h⟩)
def F4 (_n : Nat) (c_0 : zTf) : Option ((Bool × Unit) × (Unit)) :=
  cond (decide ((c_0.1.length : Int) > 15)) (some ((true, ()), ())) (some (((decide ((c_0.2.length : Int) > 12)), ()), ()))
def g4 (d : zTf × Unit) : Option ((Bool × Unit) × (Unit)) := F4 qj d.1
def p4 : qY := ⟨[.v (.str zTd)], [.v .bool], g4⟩
def c4 : jN := ⟨13, tyT, [], [], [], [], [], [], [], [], [], [], [], [], none⟩
theorem F4_eq (n : Nat) (d) : qX c4 n Try.f4 (body Try.f4) p4.ps p4.rs d = F4 n d.1 := by kernel_rfl
theorem d4 : qr c4 (body Try.f4) = true := by kernel_rfl
theorem h4 : qP Try.prog 4 p4 := hQ (cfg := c4) (qH qK (qu) rfl (by kernel_rfl)) Try.func4 (by kernel_rfl) (qT (by kernel_rfl)) d4 (F4_eq qj)
def B10_4 (_n : Nat) (L : ((List Int) × (List Int) × Int × Unit) × (Unit) × Unit → Option (((Bool × Unit) × (Unit) × Unit) ⊕ ((Unit) × (Unit) × Unit))) (a_0 : List Int) (b_1 : List Int) (i_5 : Int) : Option (((Bool × Unit) × (Unit) × Unit) ⊕ ((Unit) × (Unit) × Unit)) :=
  cond (decide (i_5 < (a_0.length : Int))) (qe a_0 i_5 fun e1 => qe b_1 i_5 fun e2 => cond (e1 != e2) (some (.inl ((false, ()), (), ()))) (L ((a_0, b_1, (IntKind.wrap .i64 (i_5 + 1)), ()), (), ()))) (some (.inr ((), (), ())))
def L10_4 : Nat → ((List Int) × (List Int) × Int × Unit) × (Unit) × Unit → Option (((Bool × Unit) × (Unit) × Unit) ⊕ ((Unit) × (Unit) × Unit))
  | 0, _ => none
  | n + 1, d => B10_4 n (L10_4 n) d.1.1 d.1.2.1 d.1.2.2.1
def l10_4 : jH := ⟨⟨[(0, .v (.list false 3 zI)), (1, .v (.list false 3 zI)), (5, .v zI)], [], none⟩, [(.ret, ⟨[(4, .v .bool)], [], none⟩), (.exit 0, ⟨[], [], none⟩)], L10_4⟩
def F10 (n : Nat) (a_0 : (List Int)) (b_1 : (List Int)) : Option ((Bool × Unit) × (Unit)) :=
  cond ((a_0.length : Int) != (b_1.length : Int)) (some ((false, ()), ())) (qa (L10_4 n ((a_0, b_1, 0, ()), (), ())) fun o3 => qcR o3 (fun d4 => some ((d4.1.1, ()), ())) (fun _ => some ((true, ()), ())))
def g10 (d : (List Int) × (List Int) × Unit) : Option ((Bool × Unit) × (Unit)) := F10 qj d.1 d.2.1
def p10 : qY := ⟨[.v (.list false 3 zI), .v (.list false 3 zI)], [.v .bool], g10⟩
def c10 : jN := ⟨26, tyT, [], [], [(4, l10_4)], [], [], [], [], [], [], [], [], [], none⟩
theorem F10_eq (n : Nat) (d) : qX c10 n Try.f10 (body Try.f10) p10.ps p10.rs d = F10 n d.1 d.2.1 := by kernel_rfl
theorem L10_4_eq (n : Nat) (d) : (l10_4).g (n + 1) d = run c10 n (nth 0 (qc (body Try.f10))) ((l10_4).ins.fill d) (qO (l10_4) n) := by kernel_rfl
theorem ls10 : qc (body Try.f10) = [nth 0 (qc (body Try.f10))] := by kernel_rfl
theorem h10 : qP Try.prog 10 p10 := hQ (cfg := c10) (qH qK (qu) rfl (by kernel_rfl)) Try.func10 (by kernel_rfl) (by rw [ls10]; simp only [List.forall_mem_cons]; exact ⟨qI (key := 4) (li := l10_4) (by kernel_rfl) rfl (fun _ => rfl) (L10_4_eq), fun _ h => by cases h⟩) (by kernel_rfl) (F10_eq qj)
def F19 (_n : Nat) (n_0 : Int) (low_1 : Int) (high_2 : Int) : Option ((Bool × Unit) × (Unit)) :=
  cond (decide (n_0 ≥ low_1)) (some (((decide (n_0 ≤ high_2)), ()), ())) (some ((false, ()), ()))
def g19 (d : Int × Int × Int × Unit) : Option ((Bool × Unit) × (Unit)) := F19 qj d.1 d.2.1 d.2.2.1
def p19 : qY := ⟨[.v zI, .v zI, .v zI], [.v .bool], g19⟩
def c19 : jN := ⟨15, tyT, [], [], [], [], [], [], [], [], [], [], [], [], none⟩
theorem F19_eq (n : Nat) (d) : qX c19 n Try.f19 (body Try.f19) p19.ps p19.rs d = F19 n d.1 d.2.1 d.2.2.1 := by kernel_rfl
theorem h19 : qP Try.prog 19 p19 := hQ (cfg := c19) (qH qK (qu) rfl (by kernel_rfl)) Try.func19 (by kernel_rfl) (qT (by kernel_rfl)) (by kernel_rfl) (F19_eq qj)
def F51 (_n : Nat) (n_0 : Int) (t_1 : Int) (t_2 : Int) : Option ((Bool × Unit) × (Unit)) :=
  qa (g19 (n_0, t_1, t_2, ())) fun y1 => some (((!y1.1.1), ()), ())
def g51 (d : Int × Int × Int × Unit) : Option ((Bool × Unit) × (Unit)) := F51 qj d.1 d.2.1 d.2.2.1
def p51 : qY := ⟨[.v zI, .r zI, .r zI], [.v .bool], g51⟩
def c51 : jN := ⟨10, tyT, [], [(19, p19)], [], [], [], [], [], [], [], [], [], [], none⟩
theorem F51_eq (n : Nat) (d) : qX c51 n Try.f51 (body Try.f51) p51.ps p51.rs d = F51 n d.1 d.2.1 d.2.2.1 := by kernel_rfl
theorem h51 : qP Try.prog 51 p51 := hQ (cfg := c51) (qH qK (qk h19 qu) rfl (by kernel_rfl)) Try.func51 (by kernel_rfl) (qT (by kernel_rfl)) (by kernel_rfl) (F51_eq qj)
def B69_2 (_n : Nat) (L : ((List Int) × (Int → Option Bool) × Int × Int × Unit) × (Unit) × Unit → Option (zTo ⊕ ((Unit) × (Unit) × Unit))) (s_0 : List Int) (f_1 : Int → Option Bool) (t_7 : Int) (t_8 : Int) : Option (zTo ⊕ ((Unit) × (Unit) × Unit)) :=
  cond (decide (t_8 < t_7)) (qe s_0 t_8 fun e1 => qa (f_1 e1) fun y2 => cond y2 (some (.inl ((t_8, ()), (), ()))) (L ((s_0, f_1, t_7, (IntKind.wrap .i64 (t_8 + 1)), ()), (), ()))) (some (.inr ((), (), ())))
def L69_2 : Nat → ((List Int) × (Int → Option Bool) × Int × Int × Unit) × (Unit) × Unit → Option (zTo ⊕ ((Unit) × (Unit) × Unit))
  | 0, _ => none
  | n + 1, d => B69_2 n (L69_2 n) d.1.1 d.1.2.1 d.1.2.2.1 d.1.2.2.2.1
def l69_2 : jH := ⟨⟨[(0, .v (.list false 3 zI)), (1, .v (.fn zI .bool)), (7, .v zI), (8, .v zI)], [], none⟩, [(.ret, ⟨[(4, .v zI)], [], none⟩), (.exit 0, ⟨[], [], none⟩)], L69_2⟩
def F69 (n : Nat) (s_0 : (List Int)) (f_1 : (Int → Option Bool)) : Option ((Int × Unit) × (Unit)) :=
  qa (L69_2 n ((s_0, f_1, (s_0.length : Int), 0, ()), (), ())) fun o3 => qcR o3 (fun d4 => some ((d4.1.1, ()), ())) (fun _ => some (((-1), ()), ()))
def g69 (d : (List Int) × (Int → Option Bool) × Unit) : Option ((Int × Unit) × (Unit)) := F69 qj d.1 d.2.1
def p69 : qY := ⟨[.v (.list false 3 zI), .v (.fn zI .bool)], [.v zI], g69⟩
def c69 : jN := ⟨19, tyT, [], [], [(2, l69_2)], [], [], [], [], [], [], [], [], [], none⟩
theorem F69_eq (n : Nat) (d) : qX c69 n Try.f69 (body Try.f69) p69.ps p69.rs d = F69 n d.1 d.2.1 := by kernel_rfl
theorem L69_2_eq (n : Nat) (d) : (l69_2).g (n + 1) d = run c69 n (nth 0 (qc (body Try.f69))) ((l69_2).ins.fill d) (qO (l69_2) n) := by kernel_rfl
theorem ls69 : qc (body Try.f69) = [nth 0 (qc (body Try.f69))] := by kernel_rfl
theorem h69 : qP Try.prog 69 p69 := hQ (cfg := c69) (qH qK (qu) rfl (by kernel_rfl)) Try.func69 (by kernel_rfl) (by rw [ls69]; simp only [List.forall_mem_cons]; exact ⟨qI (key := 2) (li := l69_2) (by kernel_rfl) rfl (fun _ => rfl) (L69_2_eq), fun _ h => by cases h⟩) (by kernel_rfl) (F69_eq qj)
def F52 (_n : Nat) (s_0 : (List Int)) (f_1 : (Int → Option Bool)) : Option ((Bool × Unit) × (Unit)) :=
  qa (g69 (s_0, f_1, ())) fun y1 => some (((decide (y1.1.1 ≥ 0)), ()), ())
def g52 (d : (List Int) × (Int → Option Bool) × Unit) : Option ((Bool × Unit) × (Unit)) := F52 qj d.1 d.2.1
def p52 : qY := ⟨[.v (.list false 3 zI), .v (.fn zI .bool)], [.v .bool], g52⟩
def c52 : jN := ⟨9, tyT, [], [(69, p69)], [], [], [], [], [], [], [], [], [], [], none⟩
theorem F52_eq (n : Nat) (d) : qX c52 n Try.f52 (body Try.f52) p52.ps p52.rs d = F52 n d.1 d.2.1 := by kernel_rfl
theorem h52 : qP Try.prog 52 p52 := hQ (cfg := c52) (qH qK (qk h69 qu) rfl (by kernel_rfl)) Try.func52 (by kernel_rfl) (qT (by kernel_rfl)) (by kernel_rfl) (F52_eq qj)
def B70_2 (_n : Nat) (L : ((List (Int × Int)) × ((Int × Int) → Option Bool) × Int × Int × Unit) × (Unit) × Unit → Option (zTo ⊕ ((Unit) × (Unit) × Unit))) (s_0 : List (Int × Int)) (f_1 : (Int × Int) → Option Bool) (t_7 : Int) (t_8 : Int) : Option (zTo ⊕ ((Unit) × (Unit) × Unit)) :=
  cond (decide (t_8 < t_7)) (qe s_0 t_8 fun e1 => qa (f_1 e1) fun y2 => cond y2 (some (.inl ((t_8, ()), (), ()))) (L ((s_0, f_1, t_7, (IntKind.wrap .i64 (t_8 + 1)), ()), (), ()))) (some (.inr ((), (), ())))
def L70_2 : Nat → ((List (Int × Int)) × ((Int × Int) → Option Bool) × Int × Int × Unit) × (Unit) × Unit → Option (zTo ⊕ ((Unit) × (Unit) × Unit))
  | 0, _ => none
  | n + 1, d => B70_2 n (L70_2 n) d.1.1 d.1.2.1 d.1.2.2.1 d.1.2.2.2.1
def l70_2 : jH := ⟨⟨[(0, .v (.list false 61 zTh)), (1, .v (.fn zTh .bool)), (7, .v zI), (8, .v zI)], [], none⟩, [(.ret, ⟨[(4, .v zI)], [], none⟩), (.exit 0, ⟨[], [], none⟩)], L70_2⟩
def F70 (n : Nat) (s_0 : (List (Int × Int))) (f_1 : ((Int × Int) → Option Bool)) : Option ((Int × Unit) × (Unit)) :=
  qa (L70_2 n ((s_0, f_1, (s_0.length : Int), 0, ()), (), ())) fun o3 => qcR o3 (fun d4 => some ((d4.1.1, ()), ())) (fun _ => some (((-1), ()), ()))
def g70 (d : (List (Int × Int)) × ((Int × Int) → Option Bool) × Unit) : Option ((Int × Unit) × (Unit)) := F70 qj d.1 d.2.1
def p70 : qY := ⟨[.v (.list false 61 zTh), .v (.fn zTh .bool)], [.v zI], g70⟩
def c70 : jN := ⟨19, tyT, [], [], [(2, l70_2)], [], [], [], [], [], [], [], [], [], none⟩
theorem F70_eq (n : Nat) (d) : qX c70 n Try.f70 (body Try.f70) p70.ps p70.rs d = F70 n d.1 d.2.1 := by kernel_rfl
theorem L70_2_eq (n : Nat) (d) : (l70_2).g (n + 1) d = run c70 n (nth 0 (qc (body Try.f70))) ((l70_2).ins.fill d) (qO (l70_2) n) := by kernel_rfl
theorem ls70 : qc (body Try.f70) = [nth 0 (qc (body Try.f70))] := by kernel_rfl
theorem h70 : qP Try.prog 70 p70 := hQ (cfg := c70) (qH qK (qu) rfl (by kernel_rfl)) Try.func70 (by kernel_rfl) (by rw [ls70]; simp only [List.forall_mem_cons]; exact ⟨qI (key := 2) (li := l70_2) (by kernel_rfl) rfl (fun _ => rfl) (L70_2_eq), fun _ h => by cases h⟩) (by kernel_rfl) (F70_eq qj)
def F53 (_n : Nat) (s_0 : (List (Int × Int))) (f_1 : ((Int × Int) → Option Bool)) : Option ((Bool × Unit) × (Unit)) :=
  qa (g70 (s_0, f_1, ())) fun y1 => some (((decide (y1.1.1 ≥ 0)), ()), ())
def g53 (d : (List (Int × Int)) × ((Int × Int) → Option Bool) × Unit) : Option ((Bool × Unit) × (Unit)) := F53 qj d.1 d.2.1
def p53 : qY := ⟨[.v (.list false 61 zTh), .v (.fn zTh .bool)], [.v .bool], g53⟩
def c53 : jN := ⟨9, tyT, [], [(70, p70)], [], [], [], [], [], [], [], [], [], [], none⟩
theorem F53_eq (n : Nat) (d) : qX c53 n Try.f53 (body Try.f53) p53.ps p53.rs d = F53 n d.1 d.2.1 := by kernel_rfl
theorem h53 : qP Try.prog 53 p53 := hQ (cfg := c53) (qH qK (qk h70 qu) rfl (by kernel_rfl)) Try.func53 (by kernel_rfl) (qT (by kernel_rfl)) (by kernel_rfl) (F53_eq qj)
def F54 (_n : Nat) (b_0 : (Int × Int)) (t_1 : (Int × (Int × ((List Int) × ((List Int) × ((List (Int × Int)) × (Int × (Int × Int)))))))) : Option ((Bool × Unit) × (Unit)) :=
  qa (g19 (b_0.1, 1, 1000, ())) fun y1 => cond (!y1.1.1) (some ((true, ()), ())) (qa (g19 (b_0.2, 1, 1000000, ())) fun y2 => cond (!y2.1.1) (some ((true, ()), ())) (some (((decide ((IntKind.wrap .i64 (t_1.2.2.2.2.2.1 * b_0.1)) > b_0.2)), ()), ())))
def g54 (d : (Int × Int) × (Int × (Int × ((List Int) × ((List Int) × ((List (Int × Int)) × (Int × (Int × Int))))))) × Unit) : Option ((Bool × Unit) × (Unit)) := F54 qj d.1 d.2.1
def p54 : qY := ⟨[.v zTh, .r (.str (.pair zI (.pair zI (.pair (.list false 3 zI) (.pair (.list false 3 zI) (.pair (.list false 61 zTh) qC))))))], [.v .bool], g54⟩
def c54 : jN := ⟨24, tyT, [], [(19, p19)], [], [], [], [], [], [], [], [], [], [], none⟩
theorem F54_eq (n : Nat) (d) : qX c54 n Try.f54 (body Try.f54) p54.ps p54.rs d = F54 n d.1 d.2.1 := by kernel_rfl
theorem h54 : qP Try.prog 54 p54 := hQ (cfg := c54) (qH qK (qk h19 qu) rfl (by kernel_rfl)) Try.func54 (by kernel_rfl) (qT (by kernel_rfl)) (by kernel_rfl) (F54_eq qj)
def F18 (_n : Nat) (f_0 : (Int × (Int × ((List Int) × ((List Int) × ((List (Int × Int)) × (Int × (Int × Int)))))))) : Option ((Int × Unit) × (Unit)) :=
  qa (g19 ((f_0.2.2.1.length : Int), 1, 8, ())) fun y1 => cond (!y1.1.1) (some ((10, ()), ())) (cond ((f_0.2.2.2.1.length : Int) != (f_0.2.2.1.length : Int)) (some ((10, ()), ())) (qa (g19 (f_0.1, 0, 20, ())) fun y2 => cond (!y2.1.1) (some ((10, ()), ())) (qa (g19 (f_0.2.1, 0, 12, ())) fun y3 => cond (!y3.1.1) (some ((10, ()), ())) (cond (decide ((f_0.2.2.2.2.1.length : Int) > 6)) (some ((10, ()), ())) (qa (Mk.m50.p.g (0, 100000, ())) fun y4 => qa (g52 (f_0.2.2.1, (fun v5 => qa y4.1.1 fun q7 => qa y4.1.2.1 fun q8 => qa (g51 (v5, q7, q8, ())) fun y6 => some y6.1.1), ())) fun y9 => cond y9.1.1 (some ((10, ()), ())) (qa (Mk.m50.p.g (0, 1000000, ())) fun y10 => qa (g52 (f_0.2.2.2.1, (fun v11 => qa y10.1.1 fun q13 => qa y10.1.2.1 fun q14 => qa (g51 (v11, q13, q14, ())) fun y12 => some y12.1.1), ())) fun y15 => cond y15.1.1 (some ((10, ()), ())) (qa (g19 (f_0.2.2.2.2.2.1, 0, 1000, ())) fun y16 => cond (!y16.1.1) (some ((10, ()), ())) (qa (g19 (f_0.2.2.2.2.2.2.1, 0, 1000000, ())) fun y17 => cond (!y17.1.1) (some ((10, ()), ())) (qa (g19 (f_0.2.2.2.2.2.2.2, 1, 1440, ())) fun y18 => cond (!y18.1.1) (some ((10, ()), ())) (qa (g53 (f_0.2.2.2.2.1, (fun v19 => qa (g54 (v19, f_0, ())) fun y20 => some y20.1.1), ())) fun y21 => cond y21.1.1 (some ((10, ()), ())) (some ((0, ()), ()))))))))))))
def g18 (d : (Int × (Int × ((List Int) × ((List Int) × ((List (Int × Int)) × (Int × (Int × Int))))))) × Unit) : Option ((Int × Unit) × (Unit)) := F18 qj d.1
def p18 : qY := ⟨[.v (.str (.pair zI (.pair zI (.pair (.list false 3 zI) (.pair (.list false 3 zI) (.pair (.list false 61 zTh) qC))))))], [.v zI], g18⟩
def c18 : jN := ⟨78, tyT, [(1, .str (.pair zI (.pair zI (.pair (.list false 3 zI) (.pair (.list false 3 zI) (.pair (.list false 61 zTh) qC))))))], [(19, p19), (51, p51), (52, p52), (53, p53), (54, p54)], [], [], [3], [], [], [(50, Mk.m50)], [], [], [], [], none⟩
theorem F18_eq (n : Nat) (d) : qX c18 n Try.f18 (body Try.f18) p18.ps p18.rs d = F18 n d.1 := by kernel_rfl
theorem h18 : qP Try.prog 18 p18 := hQ (cfg := c18) (qH qK (qk h19 (qk h51 (qk h52 (qk h53 (qk h54 qu))))) rfl (by kernel_rfl) (mk_ok (qjO Mk.k50 mkNil))) Try.func18 (by kernel_rfl) (qT (by kernel_rfl)) (by kernel_rfl) (F18_eq qj)
def F74 (_n : Nat) (x_0 : Int) (y_1 : Int) : Option ((Int × Int × Unit) × (Unit)) :=
  qbL 32 (qbL 32 (jK (IntKind.wrap .u64 ((qai .and .u64 x_0 4294967295) * (qai .and .u64 y_1 4294967295))) fun z1 => qbL 32 (jK (IntKind.wrap .u64 ((IntKind.wrap .u64 ((qbu .u64 x_0 32) * (qai .and .u64 y_1 4294967295))) + (qbu .u64 z1 32))) fun z2 => qbL 32 (jK (IntKind.wrap .u64 ((qai .and .u64 z2 4294967295) + (IntKind.wrap .u64 ((qai .and .u64 x_0 4294967295) * (qbu .u64 y_1 32))))) fun z3 => qbL 32 (jK (IntKind.wrap .u64 ((IntKind.wrap .u64 ((IntKind.wrap .u64 ((qbu .u64 x_0 32) * (qbu .u64 y_1 32))) + (qbu .u64 z2 32))) + (qbu .u64 z3 32))) fun z4 => some ((z4, (IntKind.wrap .u64 (x_0 * y_1)), ()), ()))))))
def g74 (d : Int × Int × Unit) : Option ((Int × Int × Unit) × (Unit)) := F74 qj d.1 d.2.1
def p74 : qY := ⟨[.v (.int .u64), .v (.int .u64)], [.v (.int .u64), .v (.int .u64)], g74⟩
def c74 : jN := ⟨51, tyT, [], [], [], [], [], [], [], [], [], [], [], [], none⟩
theorem F74_eq (n : Nat) (d) : qX c74 n Try.f74 (body Try.f74) p74.ps p74.rs d = F74 n d.1 d.2.1 := by kernel_rfl
theorem h74 : qP Try.prog 74 p74 := hQ (cfg := c74) (qH qK (qu) rfl (by kernel_rfl)) Try.func74 (by kernel_rfl) (qT (by kernel_rfl)) (by kernel_rfl) (F74_eq qj)
def F65 (_n : Nat) (x_0 : Int) (y_1 : Int) : Option ((Int × Int × Unit) × (Unit)) :=
  qa (g74 (x_0, y_1, ())) fun y1 => some ((y1.1.1, y1.1.2.1, ()), ())
def g65 (d : Int × Int × Unit) : Option ((Int × Int × Unit) × (Unit)) := F65 qj d.1 d.2.1
def p65 : qY := ⟨[.v (.int .u64), .v (.int .u64)], [.v (.int .u64), .v (.int .u64)], g65⟩
def c65 : jN := ⟨30, tyT, [], [(74, p74)], [], [], [], [], [], [], [], [], [], [], none⟩
theorem F65_eq (n : Nat) (d) : qX c65 n Try.f65 (body Try.f65) p65.ps p65.rs d = F65 n d.1 d.2.1 := by kernel_rfl
theorem h65 : qP Try.prog 65 p65 := hQ (cfg := c65) (qH qK (qk h74 qu) rfl (by kernel_rfl)) Try.func65 (by kernel_rfl) (qT (by kernel_rfl)) (by kernel_rfl) (F65_eq qj)
def B71_8 (_n : Nat) (L : (Int × Unit) × ((List Int) × Unit) × Unit → Option (((Unit) × ((List Int) × Unit) × Unit))) (n_8 : Int) (o_30 : List Int) : Option (((Unit) × ((List Int) × Unit) × Unit)) :=
  cond (decide (n_8 < (o_30.length : Int))) (qbV (L (((IntKind.wrap .i64 (n_8 + ((min (o_30.take n_8.toNat).length (o_30.length - n_8.toNat) : Nat) : Int))), ()), ((qbc o_30 (o_30.take n_8.toNat) n_8.toNat), ()), ())) fun E => qs [leK 0 n_8 (leK n_8 (o_30.length : Int) (leK 0 n_8 (leK n_8 (o_30.length : Int) (E)))), leK 0 n_8 (leK n_8 (o_30.length : Int) (leK 0 n_8 (leK n_8 (o_30.length : Int) (E))))]) (some ((), (o_30, ()), ()))
def L71_8 : Nat → (Int × Unit) × ((List Int) × Unit) × Unit → Option (((Unit) × ((List Int) × Unit) × Unit))
  | 0, _ => none
  | n + 1, d => B71_8 n (L71_8 n) d.1.1 d.2.1.1
def l71_8 : jH := ⟨⟨[(7, .c (.view 30 [])), (8, .v zI)], [(30, true, .list true 3 zI)], none⟩, [(.exit 0, ⟨[(7, .c (.view 30 []))], [(30, true, .list true 3 zI)], none⟩)], L71_8⟩
def F71 (n : Nat) (x_0 : (List Int)) (count_1 : Int) : Option (((List Int) × Unit) × (Unit)) :=
  cond (decide (count_1 < 0)) (none) (qa (g65 ((IntKind.wrap .u64 (x_0.length : Int)), (IntKind.wrap .u64 count_1), ())) fun y1 => cond (decide (y1.1.1 > 0)) (none) (cond (decide (y1.1.2.1 > 9223372036854775807)) (none) (leK 0 (IntKind.wrap .i64 y1.1.2.1) (leK (IntKind.wrap .i64 y1.1.2.1) (IntKind.wrap .i64 y1.1.2.1) (qN (IntKind.wrap .i64 y1.1.2.1) (jK ((min x_0.length ((List.replicate (IntKind.wrap .i64 y1.1.2.1).toNat (0 : Int)).length - (0 : Int).toNat) : Nat) : Int) fun z2 => qa (L71_8 n ((z2, ()), ((qbc (List.replicate (IntKind.wrap .i64 y1.1.2.1).toNat (0 : Int)) x_0 (0 : Int).toNat), ()), ())) fun o3 => some ((o3.2.1.1, ()), ())))))))
def g71 (d : (List Int) × Int × Unit) : Option (((List Int) × Unit) × (Unit)) := F71 qj d.1 d.2.1
def p71 : qY := ⟨[.v (.list false 3 zI), .v zI], [.own 3 zI], g71⟩
def c71 : jN := ⟨48, tyT, [], [(65, p65)], [(8, l71_8)], [], [9], [], [], [], [], [], [], [], none⟩
theorem F71_eq (n : Nat) (d) : qX c71 n Try.f71 (body Try.f71) p71.ps p71.rs d = F71 n d.1 d.2.1 := by kernel_rfl
theorem L71_8_eq (n : Nat) (d) : (l71_8).g (n + 1) d = run c71 n (nth 0 (qc (body Try.f71))) ((l71_8).ins.fill d) (qO (l71_8) n) := by kernel_rfl
theorem ls71 : qc (body Try.f71) = [nth 0 (qc (body Try.f71))] := by kernel_rfl
theorem h71 : qP Try.prog 71 p71 := hQ (cfg := c71) (qH qK (qk h65 qu) rfl (by kernel_rfl)) Try.func71 (by kernel_rfl) (by rw [ls71]; simp only [List.forall_mem_cons]; exact ⟨qI (key := 8) (li := l71_8) (by kernel_rfl) rfl (fun _ => rfl) (L71_8_eq), fun _ h => by cases h⟩) (by kernel_rfl) (F71_eq qj)
def B55_4 (_n : Nat) (L : ((List (Int × Int)) × Int × Int × Int × Int × Unit) × ((List (List Int)) × Unit) × Unit → Option zTr) (l_0 : List (Int × Int)) (n_1 : Int) (most_6 : Int) (t_24 : Int) (t_25 : Int) (o_22 : List (List Int)) : Option zTr :=
  cond (decide (t_25 < t_24)) (qa (g71 ([1152921504606846976], (IntKind.wrap .i64 (most_6 + 1)), ())) fun y1 => qZ t_25 o_22.length (qe o_22 t_25 fun _ => L ((l_0, n_1, most_6, t_24, (IntKind.wrap .i64 (t_25 + 1)), ()), ((o_22.set t_25.toNat y1.1.1), ()), ()))) (some ((l_0, n_1, most_6, ()), (o_22, ()), ()))
def L55_4 : Nat → ((List (Int × Int)) × Int × Int × Int × Int × Unit) × ((List (List Int)) × Unit) × Unit → Option zTr
  | 0, _ => none
  | n + 1, d => B55_4 n (L55_4 n) d.1.1 d.1.2.1 d.1.2.2.1 d.1.2.2.2.1 d.1.2.2.2.2.1 d.2.1.1
def l55_4 : jH := ⟨⟨[(0, .v (.list false 61 zTh)), (1, .v zI), (6, .v zI), (7, .c (.view 22 [])), (24, .v zI), (25, .v zI)], [(22, true, .list true 23 (.list true 3 zI))], none⟩, [(.exit 0, ⟨[(0, .v (.list false 61 zTh)), (1, .v zI), (6, .v zI), (7, .c (.view 22 []))], [(22, true, .list true 23 (.list true 3 zI))], none⟩)], L55_4⟩
def B55_13 (_n : Nat) (L : ((List (Int × Int)) × Int × Int × Int × Int × Int × Unit) × ((List (List Int)) × Unit) × Unit → Option ((((List (Int × Int)) × Int × Int × Int × Unit) × ((List (List Int)) × Unit) × Unit))) (l_0 : List (Int × Int)) (n_1 : Int) (most_6 : Int) (i_9 : Int) (t_53 : Int) (t_54 : Int) (o_22 : List (List Int)) : Option ((((List (Int × Int)) × Int × Int × Int × Unit) × ((List (List Int)) × Unit) × Unit)) :=
  cond (decide (t_54 < t_53)) (qZ i_9 o_22.length (qZ (IntKind.wrap .i64 (i_9 + 1)) o_22.length (qe o_22 (IntKind.wrap .i64 (i_9 + 1)) fun e8 => qZ t_54 e8.length (qe o_22 (IntKind.wrap .i64 (i_9 + 1)) fun e9 => qe e9 t_54 fun e10 => qe o_22 i_9 fun e11 => qZ t_54 e11.length (qe o_22 i_9 fun e12 => qe e12 t_54 fun _ => qe l_0 i_9 fun e14 => cond (decide ((IntKind.wrap .i64 (t_54 - e14.1)) ≥ 0)) (qZ i_9 (o_22.set i_9.toNat (e12.set t_54.toNat e10)).length (qe (o_22.set i_9.toNat (e12.set t_54.toNat e10)) i_9 fun e15 => qZ (IntKind.wrap .i64 (t_54 - e14.1)) e15.length (qe (o_22.set i_9.toNat (e12.set t_54.toNat e10)) i_9 fun e16 => qe e16 (IntKind.wrap .i64 (t_54 - e14.1)) fun e17 => cond (decide (e17 < 1152921504606846976)) (qZ i_9 (o_22.set i_9.toNat (e12.set t_54.toNat e10)).length (qZ i_9 (o_22.set i_9.toNat (e12.set t_54.toNat e10)).length (qe (o_22.set i_9.toNat (e12.set t_54.toNat e10)) i_9 fun e18 => qZ t_54 e18.length (qe (o_22.set i_9.toNat (e12.set t_54.toNat e10)) i_9 fun e19 => qe e19 t_54 fun e20 => qZ i_9 (o_22.set i_9.toNat (e12.set t_54.toNat e10)).length (qe (o_22.set i_9.toNat (e12.set t_54.toNat e10)) i_9 fun e21 => qZ (IntKind.wrap .i64 (t_54 - e14.1)) e21.length (qe (o_22.set i_9.toNat (e12.set t_54.toNat e10)) i_9 fun e22 => qe e22 (IntKind.wrap .i64 (t_54 - e14.1)) fun e23 => qe l_0 i_9 fun e24 => qe (o_22.set i_9.toNat (e12.set t_54.toNat e10)) i_9 fun e25 => qZ t_54 e25.length (qe (o_22.set i_9.toNat (e12.set t_54.toNat e10)) i_9 fun e26 => qe e26 t_54 fun _ => jK ((o_22.set i_9.toNat (e12.set t_54.toNat e10)).set i_9.toNat (e26.set t_54.toNat (min e20 (IntKind.wrap .i64 (e23 + e24.2))))) fun z28 => L ((l_0, n_1, most_6, i_9, t_53, (IntKind.wrap .i64 (t_54 + 1)), ()), (z28, ()), ())))))))) (L ((l_0, n_1, most_6, i_9, t_53, (IntKind.wrap .i64 (t_54 + 1)), ()), ((o_22.set i_9.toNat (e12.set t_54.toNat e10)), ()), ()))))) (L ((l_0, n_1, most_6, i_9, t_53, (IntKind.wrap .i64 (t_54 + 1)), ()), ((o_22.set i_9.toNat (e12.set t_54.toNat e10)), ()), ()))))))) (some ((l_0, n_1, most_6, i_9, ()), (o_22, ()), ()))
def L55_13 : Nat → ((List (Int × Int)) × Int × Int × Int × Int × Int × Unit) × ((List (List Int)) × Unit) × Unit → Option ((((List (Int × Int)) × Int × Int × Int × Unit) × ((List (List Int)) × Unit) × Unit))
  | 0, _ => none
  | n + 1, d => B55_13 n (L55_13 n) d.1.1 d.1.2.1 d.1.2.2.1 d.1.2.2.2.1 d.1.2.2.2.2.1 d.1.2.2.2.2.2.1 d.2.1.1
def l55_13 : jH := ⟨⟨[(0, .v (.list false 61 zTh)), (1, .v zI), (6, .v zI), (7, .c (.view 22 [])), (9, .v zI), (53, .v zI), (54, .v zI)], [(22, true, .list true 23 (.list true 3 zI))], none⟩, [(.exit 4, ⟨[(0, .v (.list false 61 zTh)), (1, .v zI), (6, .v zI), (7, .c (.view 22 [])), (9, .v zI)], [(22, true, .list true 23 (.list true 3 zI))], none⟩)], L55_13⟩
def B55_10 (n : Nat) (L : ((List (Int × Int)) × Int × Int × Int × Unit) × ((List (List Int)) × Unit) × Unit → Option zTr) (l_0 : List (Int × Int)) (n_1 : Int) (most_6 : Int) (i_9 : Int) (o_22 : List (List Int)) : Option zTr :=
  cond (decide (i_9 ≥ 0)) (qZ i_9 o_22.length (qe o_22 i_9 fun e7 => qa (L55_13 n ((l_0, n_1, most_6, i_9, (e7.length : Int), 0, ()), (o_22, ()), ())) fun o29 => L ((o29.1.1, o29.1.2.1, o29.1.2.2.1, (IntKind.wrap .i64 (o29.1.2.2.2.1 - 1)), ()), (o29.2.1.1, ()), ()))) (some ((l_0, n_1, most_6, ()), (o_22, ()), ()))
def L55_10 : Nat → ((List (Int × Int)) × Int × Int × Int × Unit) × ((List (List Int)) × Unit) × Unit → Option zTr
  | 0, _ => none
  | n + 1, d => B55_10 n (L55_10 n) d.1.1 d.1.2.1 d.1.2.2.1 d.1.2.2.2.1 d.2.1.1
def l55_10 : jH := ⟨⟨[(0, .v (.list false 61 zTh)), (1, .v zI), (6, .v zI), (7, .c (.view 22 [])), (9, .v zI)], [(22, true, .list true 23 (.list true 3 zI))], none⟩, [(.exit 2, ⟨[(0, .v (.list false 61 zTh)), (1, .v zI), (6, .v zI), (7, .c (.view 22 []))], [(22, true, .list true 23 (.list true 3 zI))], none⟩)], L55_10⟩
def B55_22 (_n : Nat) (L : ((List (Int × Int)) × Int × Int × Int × Unit) × ((List (List Int)) × Unit) × Unit → Option ((((List (Int × Int)) × Int × Unit) × ((List (List Int)) × Unit) × Unit))) (l_0 : List (Int × Int)) (most_6 : Int) (tokens_12 : Int) (t_13 : Int) (o_22 : List (List Int)) : Option ((((List (Int × Int)) × Int × Unit) × ((List (List Int)) × Unit) × Unit)) :=
  cond (decide (t_13 ≤ most_6)) (qZ 0 o_22.length (qe o_22 0 fun e31 => qZ t_13 e31.length (qe o_22 0 fun e32 => qe e32 t_13 fun e33 => qZ 0 o_22.length (qe o_22 0 fun e34 => qZ tokens_12 e34.length (qe o_22 0 fun e35 => qe e35 tokens_12 fun e36 => cond (decide (e33 < e36)) (L ((l_0, most_6, t_13, (IntKind.wrap .i64 (t_13 + 1)), ()), (o_22, ()), ())) (L ((l_0, most_6, tokens_12, (IntKind.wrap .i64 (t_13 + 1)), ()), (o_22, ()), ()))))))) (some ((l_0, tokens_12, ()), (o_22, ()), ()))
def L55_22 : Nat → ((List (Int × Int)) × Int × Int × Int × Unit) × ((List (List Int)) × Unit) × Unit → Option ((((List (Int × Int)) × Int × Unit) × ((List (List Int)) × Unit) × Unit))
  | 0, _ => none
  | n + 1, d => B55_22 n (L55_22 n) d.1.1 d.1.2.1 d.1.2.2.1 d.1.2.2.2.1 d.2.1.1
def l55_22 : jH := ⟨⟨[(0, .v (.list false 61 zTh)), (6, .v zI), (7, .c (.view 22 [])), (12, .v zI), (13, .v zI)], [(22, true, .list true 23 (.list true 3 zI))], none⟩, [(.exit 6, ⟨[(0, .v (.list false 61 zTh)), (7, .c (.view 22 [])), (12, .v zI)], [(22, true, .list true 23 (.list true 3 zI))], none⟩)], L55_22⟩
def B55_34 (_n : Nat) (L : (Int × Int × Int × Int × (List (Int × Int)) × Int × Int × Unit) × ((Int × Int) × (List (List Int)) × (List Int) × Unit) × Unit → Option (((Int × Int × (List (Int × Int)) × Int × Int × Unit) × ((List (List Int)) × (List Int) × Unit) × Unit))) (price_5 : Int) (tokens_12 : Int) (i_14 : Int) (left_16 : Int) (t_150 : List (Int × Int)) (t_151 : Int) (t_152 : Int) (o_15 : Int × Int) (o_22 : List (List Int)) (o_4000149 : List Int) : Option (((Int × Int × (List (Int × Int)) × Int × Int × Unit) × ((List (List Int)) × (List Int) × Unit) × Unit)) :=
  cond (decide (tokens_12 ≥ o_15.1)) (qZ i_14 o_22.length (qe o_22 i_14 fun e45 => qZ (IntKind.wrap .i64 (tokens_12 - o_15.1)) e45.length (qe o_22 i_14 fun e46 => qe e46 (IntKind.wrap .i64 (tokens_12 - o_15.1)) fun e47 => cond (decide (e47 < 1152921504606846976)) (qZ i_14 o_22.length (qe o_22 i_14 fun e48 => qZ (IntKind.wrap .i64 (tokens_12 - o_15.1)) e48.length (qe o_22 i_14 fun e49 => qe e49 (IntKind.wrap .i64 (tokens_12 - o_15.1)) fun e50 => cond ((IntKind.wrap .i64 (e50 + o_15.2)) == left_16) (qZ i_14 o_4000149.length (qe o_4000149 i_14 fun e51 => qZ i_14 o_4000149.length (qe o_4000149 i_14 fun _ => qZ i_14 o_22.length (qe o_22 i_14 fun e53 => qZ (IntKind.wrap .i64 (tokens_12 - o_15.1)) e53.length (qe o_22 i_14 fun e54 => qe e54 (IntKind.wrap .i64 (tokens_12 - o_15.1)) fun e55 => L ((price_5, (IntKind.wrap .i64 (tokens_12 - o_15.1)), i_14, e55, t_150, t_151, t_152, ()), (o_15, o_22, (o_4000149.set i_14.toNat (IntKind.wrap .i64 (e51 + 1))), ()), ())))))) (some ((price_5, tokens_12, t_150, t_151, t_152, ()), (o_22, o_4000149, ()), ()))))) (some ((price_5, tokens_12, t_150, t_151, t_152, ()), (o_22, o_4000149, ()), ()))))) (some ((price_5, tokens_12, t_150, t_151, t_152, ()), (o_22, o_4000149, ()), ()))
def L55_34 : Nat → (Int × Int × Int × Int × (List (Int × Int)) × Int × Int × Unit) × ((Int × Int) × (List (List Int)) × (List Int) × Unit) × Unit → Option (((Int × Int × (List (Int × Int)) × Int × Int × Unit) × ((List (List Int)) × (List Int) × Unit) × Unit))
  | 0, _ => none
  | n + 1, d => B55_34 n (L55_34 n) d.1.1 d.1.2.1 d.1.2.2.1 d.1.2.2.2.1 d.1.2.2.2.2.1 d.1.2.2.2.2.2.1 d.1.2.2.2.2.2.2.1 d.2.1.1 d.2.1.2.1 d.2.1.2.2.1
def l55_34 : jH := ⟨⟨[(4, .c (.view 4000149 [])), (5, .v zI), (7, .c (.view 22 [])), (12, .v zI), (14, .v zI), (15, .c (.ptr 15 [])), (16, .v zI), (150, .v (.list false 61 zTh)), (151, .v zI), (152, .v zI)], [(15, false, .str (.pair zI zI)), (22, true, .list true 23 (.list true 3 zI)), (4000149, true, .list true 3 zI)], none⟩, [(.exit 10, ⟨[(4, .c (.view 4000149 [])), (5, .v zI), (7, .c (.view 22 [])), (12, .v zI), (150, .v (.list false 61 zTh)), (151, .v zI), (152, .v zI)], [(22, true, .list true 23 (.list true 3 zI)), (4000149, true, .list true 3 zI)], none⟩)], L55_34⟩
def B55_31 (n : Nat) (L : (Int × Int × (List (Int × Int)) × Int × Int × Unit) × ((List (List Int)) × (List Int) × Unit) × Unit → Option (((Int × Unit) × ((List Int) × Unit) × Unit))) (price_5 : Int) (tokens_12 : Int) (t_150 : List (Int × Int)) (t_151 : Int) (t_152 : Int) (o_22 : List (List Int)) (o_4000149 : List Int) : Option (((Int × Unit) × ((List Int) × Unit) × Unit)) :=
  cond (decide (t_152 < t_151)) (qe t_150 t_152 fun e41 => qZ t_152 o_22.length (qe o_22 t_152 fun e42 => qZ tokens_12 e42.length (qe o_22 t_152 fun e43 => qe e43 tokens_12 fun e44 => qa (L55_34 n ((price_5, tokens_12, t_152, e44, t_150, t_151, t_152, ()), (e41, o_22, o_4000149, ()), ())) fun o56 => L ((o56.1.1, o56.1.2.1, o56.1.2.2.1, o56.1.2.2.2.1, (IntKind.wrap .i64 (o56.1.2.2.2.2.1 + 1)), ()), (o56.2.1.1, o56.2.1.2.1, ()), ())))) (some ((price_5, ()), (o_4000149, ()), ()))
def L55_31 : Nat → (Int × Int × (List (Int × Int)) × Int × Int × Unit) × ((List (List Int)) × (List Int) × Unit) × Unit → Option (((Int × Unit) × ((List Int) × Unit) × Unit))
  | 0, _ => none
  | n + 1, d => B55_31 n (L55_31 n) d.1.1 d.1.2.1 d.1.2.2.1 d.1.2.2.2.1 d.1.2.2.2.2.1 d.2.1.1 d.2.1.2.1
def l55_31 : jH := ⟨⟨[(4, .c (.view 4000149 [])), (5, .v zI), (7, .c (.view 22 [])), (12, .v zI), (150, .v (.list false 61 zTh)), (151, .v zI), (152, .v zI)], [(22, true, .list true 23 (.list true 3 zI)), (4000149, true, .list true 3 zI)], none⟩, [(.exit 8, ⟨[(4, .c (.view 4000149 [])), (5, .v zI)], [(4000149, true, .list true 3 zI)], none⟩)], L55_31⟩
def F55 (n : Nat) (l_0 : (List (Int × Int))) (n_1 : Int) : Option (((List Int) × Int × Unit) × (Unit)) :=
  leK 0 (IntKind.wrap .i64 ((l_0.length : Int) + 1)) (leK (IntKind.wrap .i64 ((l_0.length : Int) + 1)) (IntKind.wrap .i64 ((l_0.length : Int) + 1)) (qN (IntKind.wrap .i64 ((l_0.length : Int) + 1)) (qa (L55_4 n ((l_0, n_1, (IntKind.wrap .i64 (n_1 + 1000)), ((List.replicate (IntKind.wrap .i64 ((l_0.length : Int) + 1)).toNat ([] : List Int)).length : Int), 0, ()), ((List.replicate (IntKind.wrap .i64 ((l_0.length : Int) + 1)).toNat ([] : List Int)), ()), ())) fun o3 => qZ (o3.1.1.length : Int) o3.2.1.1.length (qe o3.2.1.1 (o3.1.1.length : Int) fun e4 => qZ 0 e4.length (qe o3.2.1.1 (o3.1.1.length : Int) fun e5 => qe e5 0 fun _ => qa (L55_10 n ((o3.1.1, o3.1.2.1, o3.1.2.2.1, (IntKind.wrap .i64 ((o3.1.1.length : Int) - 1)), ()), ((o3.2.1.1.set (o3.1.1.length : Int).toNat (e5.set (0 : Int).toNat 0)), ()), ())) fun o30 => qa (L55_22 n ((o30.1.1, o30.1.2.2.1, o30.1.2.1, o30.1.2.1, ()), (o30.2.1.1, ()), ())) fun o37 => qZ 0 o37.2.1.1.length (qe o37.2.1.1 0 fun e38 => qZ o37.1.2.1 e38.length (qe o37.2.1.1 0 fun e39 => qe e39 o37.1.2.1 fun e40 => cond (e40 == 1152921504606846976) (none) (leK 0 (o37.1.1.length : Int) (leK (o37.1.1.length : Int) (o37.1.1.length : Int) (qN (o37.1.1.length : Int) (qa (L55_31 n ((e40, o37.1.2.1, o37.1.1, (o37.1.1.length : Int), 0, ()), (o37.2.1.1, (List.replicate (o37.1.1.length : Int).toNat (0 : Int)), ()), ())) fun o57 => some ((o57.2.1.1, o57.1.1, ()), ()))))))))))))
def g55 (d : (List (Int × Int)) × Int × Unit) : Option (((List Int) × Int × Unit) × (Unit)) := F55 qj d.1 d.2.1
def p55 : qY := ⟨[.v (.list false 61 zTh), .v zI], [.sure true 3 zI, .v zI], g55⟩
def c55 : jN := ⟨218, tyT, [(22, .list true 23 (.list true 3 zI)), (4, .bool)], [(71, p71)], [(4, l55_4), (13, l55_13), (10, l55_10), (22, l55_22), (34, l55_34), (31, l55_31)], [], [1000149], [], [], [], [], [], [], [], none⟩
theorem F55_eq (n : Nat) (d) : qX c55 n Try.f55 (body Try.f55) p55.ps p55.rs d = F55 n d.1 d.2.1 := by kernel_rfl
theorem L55_4_eq (n : Nat) (d) : (l55_4).g (n + 1) d = run c55 n (nth 0 (qc (body Try.f55))) ((l55_4).ins.fill d) (qO (l55_4) n) := by kernel_rfl
theorem L55_10_eq (n : Nat) (d) : (l55_10).g (n + 1) d = run c55 n (nth 1 (qc (body Try.f55))) ((l55_10).ins.fill d) (qO (l55_10) n) := by kernel_rfl
theorem L55_13_eq (n : Nat) (d) : (l55_13).g (n + 1) d = run c55 n (nth 2 (qc (body Try.f55))) ((l55_13).ins.fill d) (qO (l55_13) n) := by kernel_rfl
theorem L55_22_eq (n : Nat) (d) : (l55_22).g (n + 1) d = run c55 n (nth 3 (qc (body Try.f55))) ((l55_22).ins.fill d) (qO (l55_22) n) := by kernel_rfl
theorem L55_31_eq (n : Nat) (d) : (l55_31).g (n + 1) d = run c55 n (nth 4 (qc (body Try.f55))) ((l55_31).ins.fill d) (qO (l55_31) n) := by kernel_rfl
theorem L55_34_eq (n : Nat) (d) : (l55_34).g (n + 1) d = run c55 n (nth 5 (qc (body Try.f55))) ((l55_34).ins.fill d) (qO (l55_34) n) := by kernel_rfl
theorem ls55 : qc (body Try.f55) = [nth 0 (qc (body Try.f55)), nth 1 (qc (body Try.f55)), nth 2 (qc (body Try.f55)), nth 3 (qc (body Try.f55)), nth 4 (qc (body Try.f55)), nth 5 (qc (body Try.f55))] := by kernel_rfl
theorem h55 : qP Try.prog 55 p55 := hQ (cfg := c55) (qH qK (qk h71 qu) rfl (by kernel_rfl)) Try.func55 (by kernel_rfl) (by rw [ls55]; simp only [List.forall_mem_cons]; exact ⟨qI (key := 4) (li := l55_4) (by kernel_rfl) rfl (fun _ => rfl) (L55_4_eq), qI (key := 10) (li := l55_10) (by kernel_rfl) rfl (fun _ => rfl) (L55_10_eq), qI (key := 13) (li := l55_13) (by kernel_rfl) rfl (fun _ => rfl) (L55_13_eq), qI (key := 22) (li := l55_22) (by kernel_rfl) rfl (fun _ => rfl) (L55_22_eq), qI (key := 31) (li := l55_31) (by kernel_rfl) rfl (fun _ => rfl) (L55_31_eq), qI (key := 34) (li := l55_34) (by kernel_rfl) rfl (fun _ => rfl) (L55_34_eq), fun _ h => by cases h⟩) (by kernel_rfl) (F55_eq qj)
def B10055_4 (_n : Nat) (L : ((List (Int × Int)) × Int × Int × Int × Int × Unit) × ((List (List Int)) × Unit) × Unit → Option zTr) (l_0 : List (Int × Int)) (n_1 : Int) (most_6 : Int) (t_24 : Int) (t_25 : Int) (o_22 : List (List Int)) : Option zTr :=
  cond (decide (t_25 < t_24)) (qa (g71 ([1152921504606846976], (IntKind.wrap .i64 (most_6 + 1)), ())) fun y1 => qZ t_25 o_22.length (qe o_22 t_25 fun _ => L ((l_0, n_1, most_6, t_24, (IntKind.wrap .i64 (t_25 + 1)), ()), ((o_22.set t_25.toNat y1.1.1), ()), ()))) (some ((l_0, n_1, most_6, ()), (o_22, ()), ()))
def L10055_4 : Nat → ((List (Int × Int)) × Int × Int × Int × Int × Unit) × ((List (List Int)) × Unit) × Unit → Option zTr
  | 0, _ => none
  | n + 1, d => B10055_4 n (L10055_4 n) d.1.1 d.1.2.1 d.1.2.2.1 d.1.2.2.2.1 d.1.2.2.2.2.1 d.2.1.1
def l10055_4 : jH := ⟨⟨[(0, .v (.list false 61 zTh)), (1, .v zI), (6, .v zI), (7, .c (.view 22 [])), (24, .v zI), (25, .v zI)], [(22, true, .list true 23 (.list true 3 zI))], none⟩, [(.exit 0, ⟨[(0, .v (.list false 61 zTh)), (1, .v zI), (6, .v zI), (7, .c (.view 22 []))], [(22, true, .list true 23 (.list true 3 zI))], none⟩)], L10055_4⟩
def B10055_13 (_n : Nat) (L : ((List (Int × Int)) × Int × Int × Int × Int × Int × Unit) × ((List (List Int)) × Unit) × Unit → Option ((((List (Int × Int)) × Int × Int × Int × Unit) × ((List (List Int)) × Unit) × Unit))) (l_0 : List (Int × Int)) (n_1 : Int) (most_6 : Int) (i_9 : Int) (t_53 : Int) (t_54 : Int) (o_22 : List (List Int)) : Option ((((List (Int × Int)) × Int × Int × Int × Unit) × ((List (List Int)) × Unit) × Unit)) :=
  cond (decide (t_54 < t_53)) (qZ i_9 o_22.length (qZ (IntKind.wrap .i64 (i_9 + 1)) o_22.length (qe o_22 (IntKind.wrap .i64 (i_9 + 1)) fun e8 => qZ t_54 e8.length (qe o_22 (IntKind.wrap .i64 (i_9 + 1)) fun e9 => qe e9 t_54 fun e10 => qe o_22 i_9 fun e11 => qZ t_54 e11.length (qe o_22 i_9 fun e12 => qe e12 t_54 fun _ => qe l_0 i_9 fun e14 => cond (decide ((IntKind.wrap .i64 (t_54 - e14.1)) ≥ 0)) (qZ i_9 (o_22.set i_9.toNat (e12.set t_54.toNat e10)).length (qe (o_22.set i_9.toNat (e12.set t_54.toNat e10)) i_9 fun e15 => qZ (IntKind.wrap .i64 (t_54 - e14.1)) e15.length (qe (o_22.set i_9.toNat (e12.set t_54.toNat e10)) i_9 fun e16 => qe e16 (IntKind.wrap .i64 (t_54 - e14.1)) fun e17 => cond (decide (e17 < 1152921504606846976)) (qZ i_9 (o_22.set i_9.toNat (e12.set t_54.toNat e10)).length (qZ i_9 (o_22.set i_9.toNat (e12.set t_54.toNat e10)).length (qe (o_22.set i_9.toNat (e12.set t_54.toNat e10)) i_9 fun e18 => qZ t_54 e18.length (qe (o_22.set i_9.toNat (e12.set t_54.toNat e10)) i_9 fun e19 => qe e19 t_54 fun e20 => qZ i_9 (o_22.set i_9.toNat (e12.set t_54.toNat e10)).length (qe (o_22.set i_9.toNat (e12.set t_54.toNat e10)) i_9 fun e21 => qZ (IntKind.wrap .i64 (t_54 - e14.1)) e21.length (qe (o_22.set i_9.toNat (e12.set t_54.toNat e10)) i_9 fun e22 => qe e22 (IntKind.wrap .i64 (t_54 - e14.1)) fun e23 => qe l_0 i_9 fun e24 => qe (o_22.set i_9.toNat (e12.set t_54.toNat e10)) i_9 fun e25 => qZ t_54 e25.length (qe (o_22.set i_9.toNat (e12.set t_54.toNat e10)) i_9 fun e26 => qe e26 t_54 fun _ => jK ((o_22.set i_9.toNat (e12.set t_54.toNat e10)).set i_9.toNat (e26.set t_54.toNat (min e20 (IntKind.wrap .i64 (e23 + e24.2))))) fun z28 => L ((l_0, n_1, most_6, i_9, t_53, (IntKind.wrap .i64 (t_54 + 1)), ()), (z28, ()), ())))))))) (L ((l_0, n_1, most_6, i_9, t_53, (IntKind.wrap .i64 (t_54 + 1)), ()), ((o_22.set i_9.toNat (e12.set t_54.toNat e10)), ()), ()))))) (L ((l_0, n_1, most_6, i_9, t_53, (IntKind.wrap .i64 (t_54 + 1)), ()), ((o_22.set i_9.toNat (e12.set t_54.toNat e10)), ()), ()))))))) (some ((l_0, n_1, most_6, i_9, ()), (o_22, ()), ()))
def L10055_13 : Nat → ((List (Int × Int)) × Int × Int × Int × Int × Int × Unit) × ((List (List Int)) × Unit) × Unit → Option ((((List (Int × Int)) × Int × Int × Int × Unit) × ((List (List Int)) × Unit) × Unit))
  | 0, _ => none
  | n + 1, d => B10055_13 n (L10055_13 n) d.1.1 d.1.2.1 d.1.2.2.1 d.1.2.2.2.1 d.1.2.2.2.2.1 d.1.2.2.2.2.2.1 d.2.1.1
def l10055_13 : jH := ⟨⟨[(0, .v (.list false 61 zTh)), (1, .v zI), (6, .v zI), (7, .c (.view 22 [])), (9, .v zI), (53, .v zI), (54, .v zI)], [(22, true, .list true 23 (.list true 3 zI))], none⟩, [(.exit 4, ⟨[(0, .v (.list false 61 zTh)), (1, .v zI), (6, .v zI), (7, .c (.view 22 [])), (9, .v zI)], [(22, true, .list true 23 (.list true 3 zI))], none⟩)], L10055_13⟩
def B10055_10 (n : Nat) (L : ((List (Int × Int)) × Int × Int × Int × Unit) × ((List (List Int)) × Unit) × Unit → Option zTr) (l_0 : List (Int × Int)) (n_1 : Int) (most_6 : Int) (i_9 : Int) (o_22 : List (List Int)) : Option zTr :=
  cond (decide (i_9 ≥ 0)) (qZ i_9 o_22.length (qe o_22 i_9 fun e7 => qa (L10055_13 n ((l_0, n_1, most_6, i_9, (e7.length : Int), 0, ()), (o_22, ()), ())) fun o29 => L ((o29.1.1, o29.1.2.1, o29.1.2.2.1, (IntKind.wrap .i64 (o29.1.2.2.2.1 - 1)), ()), (o29.2.1.1, ()), ()))) (some ((l_0, n_1, most_6, ()), (o_22, ()), ()))
def L10055_10 : Nat → ((List (Int × Int)) × Int × Int × Int × Unit) × ((List (List Int)) × Unit) × Unit → Option zTr
  | 0, _ => none
  | n + 1, d => B10055_10 n (L10055_10 n) d.1.1 d.1.2.1 d.1.2.2.1 d.1.2.2.2.1 d.2.1.1
def l10055_10 : jH := ⟨⟨[(0, .v (.list false 61 zTh)), (1, .v zI), (6, .v zI), (7, .c (.view 22 [])), (9, .v zI)], [(22, true, .list true 23 (.list true 3 zI))], none⟩, [(.exit 2, ⟨[(0, .v (.list false 61 zTh)), (1, .v zI), (6, .v zI), (7, .c (.view 22 []))], [(22, true, .list true 23 (.list true 3 zI))], none⟩)], L10055_10⟩
def B10055_22 (_n : Nat) (L : ((List (Int × Int)) × Int × Int × Int × Unit) × ((List (List Int)) × Unit) × Unit → Option ((((List (Int × Int)) × Int × Unit) × ((List (List Int)) × Unit) × Unit))) (l_0 : List (Int × Int)) (most_6 : Int) (tokens_12 : Int) (t_13 : Int) (o_22 : List (List Int)) : Option ((((List (Int × Int)) × Int × Unit) × ((List (List Int)) × Unit) × Unit)) :=
  cond (decide (t_13 ≤ most_6)) (qZ 0 o_22.length (qe o_22 0 fun e31 => qZ t_13 e31.length (qe o_22 0 fun e32 => qe e32 t_13 fun e33 => qZ 0 o_22.length (qe o_22 0 fun e34 => qZ tokens_12 e34.length (qe o_22 0 fun e35 => qe e35 tokens_12 fun e36 => cond (decide (e33 < e36)) (L ((l_0, most_6, t_13, (IntKind.wrap .i64 (t_13 + 1)), ()), (o_22, ()), ())) (L ((l_0, most_6, tokens_12, (IntKind.wrap .i64 (t_13 + 1)), ()), (o_22, ()), ()))))))) (some ((l_0, tokens_12, ()), (o_22, ()), ()))
def L10055_22 : Nat → ((List (Int × Int)) × Int × Int × Int × Unit) × ((List (List Int)) × Unit) × Unit → Option ((((List (Int × Int)) × Int × Unit) × ((List (List Int)) × Unit) × Unit))
  | 0, _ => none
  | n + 1, d => B10055_22 n (L10055_22 n) d.1.1 d.1.2.1 d.1.2.2.1 d.1.2.2.2.1 d.2.1.1
def l10055_22 : jH := ⟨⟨[(0, .v (.list false 61 zTh)), (6, .v zI), (7, .c (.view 22 [])), (12, .v zI), (13, .v zI)], [(22, true, .list true 23 (.list true 3 zI))], none⟩, [(.exit 6, ⟨[(0, .v (.list false 61 zTh)), (7, .c (.view 22 [])), (12, .v zI)], [(22, true, .list true 23 (.list true 3 zI))], none⟩)], L10055_22⟩
def B10055_34 (_n : Nat) (L : (Int × Int × Int × Int × (List (Int × Int)) × Int × Int × Unit) × ((Int × Int) × (List (List Int)) × (List Int) × Unit) × Unit → Option (((Int × Int × (List (Int × Int)) × Int × Int × Unit) × ((List (List Int)) × (List Int) × Unit) × Unit))) (price_5 : Int) (tokens_12 : Int) (i_14 : Int) (left_16 : Int) (t_150 : List (Int × Int)) (t_151 : Int) (t_152 : Int) (o_15 : Int × Int) (o_22 : List (List Int)) (o_4000149 : List Int) : Option (((Int × Int × (List (Int × Int)) × Int × Int × Unit) × ((List (List Int)) × (List Int) × Unit) × Unit)) :=
  cond (decide (tokens_12 ≥ o_15.1)) (qZ i_14 o_22.length (qe o_22 i_14 fun e45 => qZ (IntKind.wrap .i64 (tokens_12 - o_15.1)) e45.length (qe o_22 i_14 fun e46 => qe e46 (IntKind.wrap .i64 (tokens_12 - o_15.1)) fun e47 => cond (decide (e47 < 1152921504606846976)) (qZ i_14 o_22.length (qe o_22 i_14 fun e48 => qZ (IntKind.wrap .i64 (tokens_12 - o_15.1)) e48.length (qe o_22 i_14 fun e49 => qe e49 (IntKind.wrap .i64 (tokens_12 - o_15.1)) fun e50 => cond ((IntKind.wrap .i64 (e50 + o_15.2)) == left_16) (qZ i_14 o_4000149.length (qe o_4000149 i_14 fun e51 => qZ i_14 o_4000149.length (qe o_4000149 i_14 fun _ => qZ i_14 o_22.length (qe o_22 i_14 fun e53 => qZ (IntKind.wrap .i64 (tokens_12 - o_15.1)) e53.length (qe o_22 i_14 fun e54 => qe e54 (IntKind.wrap .i64 (tokens_12 - o_15.1)) fun e55 => L ((price_5, (IntKind.wrap .i64 (tokens_12 - o_15.1)), i_14, e55, t_150, t_151, t_152, ()), (o_15, o_22, (o_4000149.set i_14.toNat (IntKind.wrap .i64 (e51 + 1))), ()), ())))))) (some ((price_5, tokens_12, t_150, t_151, t_152, ()), (o_22, o_4000149, ()), ()))))) (some ((price_5, tokens_12, t_150, t_151, t_152, ()), (o_22, o_4000149, ()), ()))))) (some ((price_5, tokens_12, t_150, t_151, t_152, ()), (o_22, o_4000149, ()), ()))
def L10055_34 : Nat → (Int × Int × Int × Int × (List (Int × Int)) × Int × Int × Unit) × ((Int × Int) × (List (List Int)) × (List Int) × Unit) × Unit → Option (((Int × Int × (List (Int × Int)) × Int × Int × Unit) × ((List (List Int)) × (List Int) × Unit) × Unit))
  | 0, _ => none
  | n + 1, d => B10055_34 n (L10055_34 n) d.1.1 d.1.2.1 d.1.2.2.1 d.1.2.2.2.1 d.1.2.2.2.2.1 d.1.2.2.2.2.2.1 d.1.2.2.2.2.2.2.1 d.2.1.1 d.2.1.2.1 d.2.1.2.2.1
def l10055_34 : jH := ⟨⟨[(4, .c (.view 4000149 [])), (5, .v zI), (7, .c (.view 22 [])), (12, .v zI), (14, .v zI), (15, .c (.ptr 15 [])), (16, .v zI), (150, .v (.list false 61 zTh)), (151, .v zI), (152, .v zI)], [(15, false, .str (.pair zI zI)), (22, true, .list true 23 (.list true 3 zI)), (4000149, true, .list true 3 zI)], none⟩, [(.exit 10, ⟨[(4, .c (.view 4000149 [])), (5, .v zI), (7, .c (.view 22 [])), (12, .v zI), (150, .v (.list false 61 zTh)), (151, .v zI), (152, .v zI)], [(22, true, .list true 23 (.list true 3 zI)), (4000149, true, .list true 3 zI)], none⟩)], L10055_34⟩
def B10055_31 (n : Nat) (L : (Int × Int × (List (Int × Int)) × Int × Int × Unit) × ((List (List Int)) × (List Int) × Unit) × Unit → Option (((Int × Unit) × ((List Int) × Unit) × Unit))) (price_5 : Int) (tokens_12 : Int) (t_150 : List (Int × Int)) (t_151 : Int) (t_152 : Int) (o_22 : List (List Int)) (o_4000149 : List Int) : Option (((Int × Unit) × ((List Int) × Unit) × Unit)) :=
  cond (decide (t_152 < t_151)) (qe t_150 t_152 fun e41 => qZ t_152 o_22.length (qe o_22 t_152 fun e42 => qZ tokens_12 e42.length (qe o_22 t_152 fun e43 => qe e43 tokens_12 fun e44 => qa (L10055_34 n ((price_5, tokens_12, t_152, e44, t_150, t_151, t_152, ()), (e41, o_22, o_4000149, ()), ())) fun o56 => L ((o56.1.1, o56.1.2.1, o56.1.2.2.1, o56.1.2.2.2.1, (IntKind.wrap .i64 (o56.1.2.2.2.2.1 + 1)), ()), (o56.2.1.1, o56.2.1.2.1, ()), ())))) (some ((price_5, ()), (o_4000149, ()), ()))
def L10055_31 : Nat → (Int × Int × (List (Int × Int)) × Int × Int × Unit) × ((List (List Int)) × (List Int) × Unit) × Unit → Option (((Int × Unit) × ((List Int) × Unit) × Unit))
  | 0, _ => none
  | n + 1, d => B10055_31 n (L10055_31 n) d.1.1 d.1.2.1 d.1.2.2.1 d.1.2.2.2.1 d.1.2.2.2.2.1 d.2.1.1 d.2.1.2.1
def l10055_31 : jH := ⟨⟨[(4, .c (.view 4000149 [])), (5, .v zI), (7, .c (.view 22 [])), (12, .v zI), (150, .v (.list false 61 zTh)), (151, .v zI), (152, .v zI)], [(22, true, .list true 23 (.list true 3 zI)), (4000149, true, .list true 3 zI)], none⟩, [(.exit 8, ⟨[(4, .c (.view 4000149 [])), (5, .v zI)], [(4000149, true, .list true 3 zI)], none⟩)], L10055_31⟩
def F10055 (n : Nat) (l_0 : (List (Int × Int))) (n_1 : Int) : Option (((List Int) × Int × Unit) × (Unit)) :=
  leK 0 (IntKind.wrap .i64 ((l_0.length : Int) + 1)) (leK (IntKind.wrap .i64 ((l_0.length : Int) + 1)) (IntKind.wrap .i64 ((l_0.length : Int) + 1)) (qN (IntKind.wrap .i64 ((l_0.length : Int) + 1)) (qa (L10055_4 n ((l_0, n_1, (IntKind.wrap .i64 (n_1 + 1000)), ((List.replicate (IntKind.wrap .i64 ((l_0.length : Int) + 1)).toNat ([] : List Int)).length : Int), 0, ()), ((List.replicate (IntKind.wrap .i64 ((l_0.length : Int) + 1)).toNat ([] : List Int)), ()), ())) fun o3 => qZ (o3.1.1.length : Int) o3.2.1.1.length (qe o3.2.1.1 (o3.1.1.length : Int) fun e4 => qZ 0 e4.length (qe o3.2.1.1 (o3.1.1.length : Int) fun e5 => qe e5 0 fun _ => qa (L10055_10 n ((o3.1.1, o3.1.2.1, o3.1.2.2.1, (IntKind.wrap .i64 ((o3.1.1.length : Int) - 1)), ()), ((o3.2.1.1.set (o3.1.1.length : Int).toNat (e5.set (0 : Int).toNat 0)), ()), ())) fun o30 => qa (L10055_22 n ((o30.1.1, o30.1.2.2.1, o30.1.2.1, o30.1.2.1, ()), (o30.2.1.1, ()), ())) fun o37 => qZ 0 o37.2.1.1.length (qe o37.2.1.1 0 fun e38 => qZ o37.1.2.1 e38.length (qe o37.2.1.1 0 fun e39 => qe e39 o37.1.2.1 fun e40 => cond (e40 == 1152921504606846976) (some ((([] : List Int), 0, ()), ())) (leK 0 (o37.1.1.length : Int) (leK (o37.1.1.length : Int) (o37.1.1.length : Int) (qN (o37.1.1.length : Int) (qa (L10055_31 n ((e40, o37.1.2.1, o37.1.1, (o37.1.1.length : Int), 0, ()), (o37.2.1.1, (List.replicate (o37.1.1.length : Int).toNat (0 : Int)), ()), ())) fun _ => none)))))))))))
def g10055 (d : (List (Int × Int)) × Int × Unit) : Option (((List Int) × Int × Unit) × (Unit)) := F10055 qj d.1 d.2.1
def p10055 : qY := ⟨[.v (.list false 61 zTh), .v zI], [.sure false 3 zI, .v zI], g10055⟩
def c10055 : jN := ⟨218, tyT, [(22, .list true 23 (.list true 3 zI)), (4, .bool)], [(71, p71)], [(4, l10055_4), (13, l10055_13), (10, l10055_10), (22, l10055_22), (34, l10055_34), (31, l10055_31)], [], [1000149], [], [], [], [], [], [], [], none⟩
theorem F10055_eq (n : Nat) (d) : qX c10055 n Try.f55 (body Try.f55) p10055.ps p10055.rs d = F10055 n d.1 d.2.1 := by kernel_rfl
theorem L10055_4_eq (n : Nat) (d) : (l10055_4).g (n + 1) d = run c10055 n (nth 0 (qc (body Try.f55))) ((l10055_4).ins.fill d) (qO (l10055_4) n) := by kernel_rfl
theorem L10055_10_eq (n : Nat) (d) : (l10055_10).g (n + 1) d = run c10055 n (nth 1 (qc (body Try.f55))) ((l10055_10).ins.fill d) (qO (l10055_10) n) := by kernel_rfl
theorem L10055_13_eq (n : Nat) (d) : (l10055_13).g (n + 1) d = run c10055 n (nth 2 (qc (body Try.f55))) ((l10055_13).ins.fill d) (qO (l10055_13) n) := by kernel_rfl
theorem L10055_22_eq (n : Nat) (d) : (l10055_22).g (n + 1) d = run c10055 n (nth 3 (qc (body Try.f55))) ((l10055_22).ins.fill d) (qO (l10055_22) n) := by kernel_rfl
theorem L10055_31_eq (n : Nat) (d) : (l10055_31).g (n + 1) d = run c10055 n (nth 4 (qc (body Try.f55))) ((l10055_31).ins.fill d) (qO (l10055_31) n) := by kernel_rfl
theorem L10055_34_eq (n : Nat) (d) : (l10055_34).g (n + 1) d = run c10055 n (nth 5 (qc (body Try.f55))) ((l10055_34).ins.fill d) (qO (l10055_34) n) := by kernel_rfl
theorem ls10055 : qc (body Try.f55) = [nth 0 (qc (body Try.f55)), nth 1 (qc (body Try.f55)), nth 2 (qc (body Try.f55)), nth 3 (qc (body Try.f55)), nth 4 (qc (body Try.f55)), nth 5 (qc (body Try.f55))] := by kernel_rfl
theorem h10055 : qP Try.prog 55 p10055 := hQ (cfg := c10055) (qH qK (qk h71 qu) rfl (by kernel_rfl)) Try.func55 (by kernel_rfl) (by rw [ls10055]; simp only [List.forall_mem_cons]; exact ⟨qI (key := 4) (li := l10055_4) (by kernel_rfl) rfl (fun _ => rfl) (L10055_4_eq), qI (key := 10) (li := l10055_10) (by kernel_rfl) rfl (fun _ => rfl) (L10055_10_eq), qI (key := 13) (li := l10055_13) (by kernel_rfl) rfl (fun _ => rfl) (L10055_13_eq), qI (key := 22) (li := l10055_22) (by kernel_rfl) rfl (fun _ => rfl) (L10055_22_eq), qI (key := 31) (li := l10055_31) (by kernel_rfl) rfl (fun _ => rfl) (L10055_31_eq), qI (key := 34) (li := l10055_34) (by kernel_rfl) rfl (fun _ => rfl) (L10055_34_eq), fun _ h => by cases h⟩) (by kernel_rfl) (F10055_eq qj)
def F20 (_n : Nat) (f_0 : (Int × (Int × ((List Int) × ((List Int) × ((List (Int × Int)) × (Int × (Int × Int)))))))) (n_1 : Int) : Option (((List Int) × Int × Int × Unit) × (Unit)) :=
  altK (g10055 (f_0.2.2.2.2.1, n_1, ())) (fun _ => some ((([] : List Int), 0, 3, ()), ())) (qa (g55 (f_0.2.2.2.2.1, n_1, ())) fun y2 => some ((y2.1.1, y2.1.2.1, 0, ()), ()))
def g20 (d : (Int × (Int × ((List Int) × ((List Int) × ((List (Int × Int)) × (Int × (Int × Int))))))) × Int × Unit) : Option (((List Int) × Int × Int × Unit) × (Unit)) := F20 qj d.1 d.2.1
def p20 : qY := ⟨[.v (.str (.pair zI (.pair zI (.pair (.list false 3 zI) (.pair (.list false 3 zI) (.pair (.list false 61 zTh) qC)))))), .v zI], [.own 3 zI, .v zI, .v zI], g20⟩
def c20 : jN := ⟨20, tyT, [], [(55, p55)], [], [], [], [], [], [], [(55, p10055)], [], [], [], none⟩
theorem F20_eq (n : Nat) (d) : qX c20 n Try.f20 (body Try.f20) p20.ps p20.rs d = F20 n d.1 d.2.1 := by kernel_rfl
theorem h20 : qP Try.prog 20 p20 := hQ (cfg := c20) (qH qK (qk h55 qu) rfl (by kernel_rfl) (hal := qk h10055 qu)) Try.func20 (by kernel_rfl) (qT (by kernel_rfl)) (by kernel_rfl) (F20_eq qj)
def F11 (_n : Nat) (f_0 : (Int × (Int × ((List Int) × ((List Int) × ((List (Int × Int)) × (Int × (Int × Int)))))))) (n_1 : Int) : Option (((List Int) × Int × Int × Unit) × (Unit)) :=
  qa (g18 (f_0, ())) fun y1 => cond (y1.1.1 != 0) (some ((([] : List Int), 0, y1.1.1, ()), ())) (qa (g19 (n_1, 0, 1000, ())) fun y2 => cond (!y2.1.1) (some ((([] : List Int), 0, 1, ()), ())) (qa (g20 (f_0, n_1, ())) fun y3 => some ((y3.1.1, y3.1.2.1, y3.1.2.2.1, ()), ())))
def g11 (d : (Int × (Int × ((List Int) × ((List Int) × ((List (Int × Int)) × (Int × (Int × Int))))))) × Int × Unit) : Option (((List Int) × Int × Int × Unit) × (Unit)) := F11 qj d.1 d.2.1
def p11 : qY := ⟨[.v (.str (.pair zI (.pair zI (.pair (.list false 3 zI) (.pair (.list false 3 zI) (.pair (.list false 61 zTh) qC)))))), .v zI], [.own 3 zI, .v zI, .v zI], g11⟩
def c11 : jN := ⟨22, tyT, [], [(18, p18), (19, p19), (20, p20)], [], [], [], [], [], [], [], [], [], [], none⟩
theorem F11_eq (n : Nat) (d) : qX c11 n Try.f11 (body Try.f11) p11.ps p11.rs d = F11 n d.1 d.2.1 := by kernel_rfl
theorem h11 : qP Try.prog 11 p11 := hQ (cfg := c11) (qH qK (qk h18 (qk h19 (qk h20 qu))) rfl (by kernel_rfl)) Try.func11 (by kernel_rfl) (qT (by kernel_rfl)) (by kernel_rfl) (F11_eq qj)
def F5 (_n : Nat)  : Option ((Bool × Unit) × (Unit)) :=
  jK ((0 : Int), (0 : Int), [5], [0], [(1, 200), (6, 1000)], (0 : Int), (0 : Int), 1) fun z1 => qa (g11 (z1, 7, ())) fun y2 => cond (y2.1.2.2.1 == 0) (cond (y2.1.2.1 == 1200) (qa (g10 (y2.1.1, [1, 1], ())) fun y3 => some ((y3.1.1, ()), ())) (some ((false, ()), ()))) (some ((false, ()), ()))
def g5 (_d : Unit) : Option ((Bool × Unit) × (Unit)) := F5 qj 
def p5 : qY := ⟨[], [.v .bool], g5⟩
def c5 : jN := ⟨28, tyT, [], [(10, p10), (11, p11)], [], [], [], [], [], [], [], [], [], [], none⟩
theorem F5_eq (n : Nat) (d) : qX c5 n Try.f5 (body Try.f5) p5.ps p5.rs d = F5 n  := by kernel_rfl
theorem h5 : qP Try.prog 5 p5 := hQ (cfg := c5) (qH qK (qk h10 (qk h11 qu)) rfl (by kernel_rfl)) Try.func5 (by kernel_rfl) (qT (by kernel_rfl)) (by kernel_rfl) (F5_eq qj)
def F22 (_n : Nat) (n_0 : Int) (low_1 : Int) (high_2 : Int) : Option ((Bool × Unit) × (Unit)) :=
  cond (decide (n_0 ≥ low_1)) (some (((decide (n_0 ≤ high_2)), ()), ())) (some ((false, ()), ()))
def g22 (d : Int × Int × Int × Unit) : Option ((Bool × Unit) × (Unit)) := F22 qj d.1 d.2.1 d.2.2.1
def p22 : qY := ⟨[.v zI, .v zI, .v zI], [.v .bool], g22⟩
def c22 : jN := ⟨15, tyT, [], [], [], [], [], [], [], [], [], [], [], [], none⟩
theorem F22_eq (n : Nat) (d) : qX c22 n Try.f22 (body Try.f22) p22.ps p22.rs d = F22 n d.1 d.2.1 d.2.2.1 := by kernel_rfl
theorem h22 : qP Try.prog 22 p22 := hQ (cfg := c22) (qH qK (qu) rfl (by kernel_rfl)) Try.func22 (by kernel_rfl) (qT (by kernel_rfl)) (by kernel_rfl) (F22_eq qj)
def F23 (_n : Nat) (c_0 : zTf) (n_1 : Int) : Option ((Bool × Unit) × (Unit)) :=
  qa (g22 (n_1, 0, (IntKind.wrap .i64 ((c_0.1.length : Int) - 1)), ())) fun y1 => some ((y1.1.1, ()), ())
def g23 (d : zTf × Int × Unit) : Option ((Bool × Unit) × (Unit)) := F23 qj d.1 d.2.1
def p23 : qY := ⟨[.v (.str zTd), .v zI], [.v .bool], g23⟩
def c23 : jN := ⟨11, tyT, [], [(22, p22)], [], [], [], [], [], [], [], [], [], [], none⟩
theorem F23_eq (n : Nat) (d) : qX c23 n Try.f23 (body Try.f23) p23.ps p23.rs d = F23 n d.1 d.2.1 := by kernel_rfl
theorem h23 : qP Try.prog 23 p23 := hQ (cfg := c23) (qH qK (qk h22 qu) rfl (by kernel_rfl)) Try.func23 (by kernel_rfl) (qT (by kernel_rfl)) (by kernel_rfl) (F23_eq qj)
def F21 (_n : Nat) (p_0 : (Int × (Int × Int))) (t_1 : Int) (t_2 : zTf) : Option ((Bool × Unit) × (Unit)) :=
  qa (g22 (p_0.1, 0, (IntKind.wrap .i64 (t_1 - 1)), ())) fun y1 => cond (!y1.1.1) (some ((true, ()), ())) (qa (g22 (p_0.2.1, 1, 3, ())) fun y2 => cond (!y2.1.1) (some ((true, ()), ())) (qa (g23 (t_2, p_0.2.2, ())) fun y3 => some (((!y3.1.1), ()), ())))
def g21 (d : (Int × (Int × Int)) × Int × zTf × Unit) : Option ((Bool × Unit) × (Unit)) := F21 qj d.1 d.2.1 d.2.2.1
def p21 : qY := ⟨[.v (.str qC), .r zI, .r (.str zTd)], [.v .bool], g21⟩
def c21 : jN := ⟨24, tyT, [], [(22, p22), (23, p23)], [], [], [], [], [], [], [], [], [], [], none⟩
theorem F21_eq (n : Nat) (d) : qX c21 n Try.f21 (body Try.f21) p21.ps p21.rs d = F21 n d.1 d.2.1 d.2.2.1 := by kernel_rfl
theorem h21 : qP Try.prog 21 p21 := hQ (cfg := c21) (qH qK (qk h22 (qk h23 qu)) rfl (by kernel_rfl)) Try.func21 (by kernel_rfl) (qT (by kernel_rfl)) (by kernel_rfl) (F21_eq qj)
def F24 (_n : Nat) (x_0 : zTt) (t_1 : zTf) : Option ((Bool × Unit) × (Unit)) :=
  qa (g22 (x_0.1, 0, 500, ())) fun y1 => cond (!y1.1.1) (some ((true, ()), ())) (qa (g22 (x_0.2.1, 1, 3, ())) fun y2 => cond (!y2.1.1) (some ((true, ()), ())) (qa (g22 (x_0.2.2.1, 0, 1, ())) fun y3 => cond (!y3.1.1) (some ((true, ()), ())) (qa (g23 (t_1, x_0.2.2.2.1, ())) fun y4 => cond (!y4.1.1) (some ((true, ()), ())) (qa (g22 (x_0.2.2.2.2, 0, 1, ())) fun y5 => some (((!y5.1.1), ()), ())))))
def g24 (d : zTt × zTf × Unit) : Option ((Bool × Unit) × (Unit)) := F24 qj d.1 d.2.1
def p24 : qY := ⟨[.v (.str (.pair zI (.pair zI qC))), .r (.str zTd)], [.v .bool], g24⟩
def c24 : jN := ⟨33, tyT, [], [(22, p22), (23, p23)], [], [], [], [], [], [], [], [], [], [], none⟩
theorem F24_eq (n : Nat) (d) : qX c24 n Try.f24 (body Try.f24) p24.ps p24.rs d = F24 n d.1 d.2.1 := by kernel_rfl
theorem h24 : qP Try.prog 24 p24 := hQ (cfg := c24) (qH qK (qk h22 (qk h23 qu)) rfl (by kernel_rfl)) Try.func24 (by kernel_rfl) (qT (by kernel_rfl)) (by kernel_rfl) (F24_eq qj)
def B72_2 (_n : Nat) (L : ((List Int) × Int × Int × Int × Unit) × (Unit) × Unit → Option (zTo ⊕ ((Unit) × (Unit) × Unit))) (s_0 : List Int) (v_1 : Int) (t_7 : Int) (t_8 : Int) : Option (zTo ⊕ ((Unit) × (Unit) × Unit)) :=
  cond (decide (t_8 < t_7)) (qe s_0 t_8 fun e1 => cond (v_1 == e1) (some (.inl ((t_8, ()), (), ()))) (L ((s_0, v_1, t_7, (IntKind.wrap .i64 (t_8 + 1)), ()), (), ()))) (some (.inr ((), (), ())))
def L72_2 : Nat → ((List Int) × Int × Int × Int × Unit) × (Unit) × Unit → Option (zTo ⊕ ((Unit) × (Unit) × Unit))
  | 0, _ => none
  | n + 1, d => B72_2 n (L72_2 n) d.1.1 d.1.2.1 d.1.2.2.1 d.1.2.2.2.1
def l72_2 : jH := ⟨⟨[(0, .v (.list false 3 zI)), (1, .v zI), (7, .v zI), (8, .v zI)], [], none⟩, [(.ret, ⟨[(4, .v zI)], [], none⟩), (.exit 0, ⟨[], [], none⟩)], L72_2⟩
def F72 (n : Nat) (s_0 : (List Int)) (v_1 : Int) : Option ((Int × Unit) × (Unit)) :=
  qa (L72_2 n ((s_0, v_1, (s_0.length : Int), 0, ()), (), ())) fun o2 => qcR o2 (fun d3 => some ((d3.1.1, ()), ())) (fun _ => some (((-1), ()), ()))
def g72 (d : (List Int) × Int × Unit) : Option ((Int × Unit) × (Unit)) := F72 qj d.1 d.2.1
def p72 : qY := ⟨[.v (.list false 3 zI), .v zI], [.v zI], g72⟩
def c72 : jN := ⟨19, tyT, [], [], [(2, l72_2)], [], [], [], [], [], [], [], [], [], none⟩
theorem F72_eq (n : Nat) (d) : qX c72 n Try.f72 (body Try.f72) p72.ps p72.rs d = F72 n d.1 d.2.1 := by kernel_rfl
theorem L72_2_eq (n : Nat) (d) : (l72_2).g (n + 1) d = run c72 n (nth 0 (qc (body Try.f72))) ((l72_2).ins.fill d) (qO (l72_2) n) := by kernel_rfl
theorem ls72 : qc (body Try.f72) = [nth 0 (qc (body Try.f72))] := by kernel_rfl
theorem h72 : qP Try.prog 72 p72 := hQ (cfg := c72) (qH qK (qu) rfl (by kernel_rfl)) Try.func72 (by kernel_rfl) (by rw [ls72]; simp only [List.forall_mem_cons]; exact ⟨qI (key := 2) (li := l72_2) (by kernel_rfl) rfl (fun _ => rfl) (L72_2_eq), fun _ h => by cases h⟩) (by kernel_rfl) (F72_eq qj)
def F56 (_n : Nat) (s_0 : (List Int)) (v_1 : Int) : Option ((Bool × Unit) × (Unit)) :=
  qa (g72 (s_0, v_1, ())) fun y1 => some (((decide (y1.1.1 ≥ 0)), ()), ())
def g56 (d : (List Int) × Int × Unit) : Option ((Bool × Unit) × (Unit)) := F56 qj d.1 d.2.1
def p56 : qY := ⟨[.v (.list false 3 zI), .v zI], [.v .bool], g56⟩
def c56 : jN := ⟨9, tyT, [], [(72, p72)], [], [], [], [], [], [], [], [], [], [], none⟩
theorem F56_eq (n : Nat) (d) : qX c56 n Try.f56 (body Try.f56) p56.ps p56.rs d = F56 n d.1 d.2.1 := by kernel_rfl
theorem h56 : qP Try.prog 56 p56 := hQ (cfg := c56) (qH qK (qk h72 qu) rfl (by kernel_rfl)) Try.func56 (by kernel_rfl) (qT (by kernel_rfl)) (by kernel_rfl) (F56_eq qj)
def B25_4 (_n : Nat) (L : ((List zTj) × Int × Int × Unit) × (zTf × Unit) × Unit → Option (zTo ⊕ ((Unit) × (zTf × Unit) × Unit))) (t_19 : List zTj) (t_20 : Int) (t_21 : Int) (o_1 : (List zTj) × (List Int)) : Option (zTo ⊕ ((Unit) × (zTf × Unit) × Unit)) :=
  cond (decide (t_21 < t_20)) (qe t_19 t_21 fun e2 => qa (g22 (e2.1, 1, 30, ())) fun y3 => cond (!y3.1.1) (some (.inl ((20, ()), (), ()))) (qa (g22 (e2.2.2.1, 0, 30, ())) fun y4 => cond (!y4.1.1) (some (.inl ((20, ()), (), ()))) (cond (!e2.2.1) (cond (e2.2.2.1 != 0) (some (.inl ((20, ()), (), ()))) (L ((t_19, t_20, (IntKind.wrap .i64 (t_21 + 1)), ()), (o_1, ()), ()))) (L ((t_19, t_20, (IntKind.wrap .i64 (t_21 + 1)), ()), (o_1, ()), ()))))) (some (.inr ((), (o_1, ()), ())))
def L25_4 : Nat → ((List zTj) × Int × Int × Unit) × (zTf × Unit) × Unit → Option (zTo ⊕ ((Unit) × (zTf × Unit) × Unit))
  | 0, _ => none
  | n + 1, d => B25_4 n (L25_4 n) d.1.1 d.1.2.1 d.1.2.2.1 d.2.1.1
def l25_4 : jH := ⟨⟨[(1, .c (.ptr 1 [])), (19, .v (.list false 49 (.str (.pair zI (.pair .bool (.pair zI .bool)))))), (20, .v zI), (21, .v zI)], [(1, false, .str zTd)], none⟩, [(.ret, ⟨[(2, .v zI)], [], none⟩), (.exit 0, ⟨[(1, .c (.ptr 1 []))], [(1, false, .str zTd)], none⟩)], L25_4⟩
def B25_10 (_n : Nat) (L : ((List Int) × Int × Int × Unit) × (zTf × Unit) × Unit → Option (zTo ⊕ ((Unit) × (Unit) × Unit))) (t_47 : List Int) (t_48 : Int) (t_49 : Int) (o_1 : (List zTj) × (List Int)) : Option (zTo ⊕ ((Unit) × (Unit) × Unit)) :=
  cond (decide (t_49 < t_48)) (qe t_47 t_49 fun e8 => qa (g23 (o_1, e8, ())) fun y9 => cond (!y9.1.1) (some (.inl ((20, ()), (), ()))) (leK 0 t_49 (leK t_49 (o_1.2.length : Int) (qa (g56 ((o_1.2.take t_49.toNat), e8, ())) fun y10 => cond y10.1.1 (some (.inl ((20, ()), (), ()))) (L ((t_47, t_48, (IntKind.wrap .i64 (t_49 + 1)), ()), (o_1, ()), ())))))) (some (.inr ((), (), ())))
def L25_10 : Nat → ((List Int) × Int × Int × Unit) × (zTf × Unit) × Unit → Option (zTo ⊕ ((Unit) × (Unit) × Unit))
  | 0, _ => none
  | n + 1, d => B25_10 n (L25_10 n) d.1.1 d.1.2.1 d.1.2.2.1 d.2.1.1
def l25_10 : jH := ⟨⟨[(1, .c (.ptr 1 [])), (47, .v (.list false 3 zI)), (48, .v zI), (49, .v zI)], [(1, false, .str zTd)], none⟩, [(.ret, ⟨[(2, .v zI)], [], none⟩), (.exit 2, ⟨[], [], none⟩)], L25_10⟩
def F25 (n : Nat) (c_0 : zTf) : Option ((Int × Unit) × (Unit)) :=
  qa (g22 ((c_0.1.length : Int), 2, 12, ())) fun y1 => cond (!y1.1.1) (some ((20, ()), ())) (cond (decide ((c_0.2.length : Int) > 10)) (some ((20, ()), ())) (qa (L25_4 n ((c_0.1, (c_0.1.length : Int), 0, ()), (c_0, ()), ())) fun o5 => qcR o5 (fun d6 => some ((d6.1.1, ()), ())) (fun d7 => qa (L25_10 n ((d7.2.1.1.2, (d7.2.1.1.2.length : Int), 0, ()), (d7.2.1.1, ()), ())) fun o11 => qcR o11 (fun d12 => some ((d12.1.1, ()), ())) (fun _ => some ((0, ()), ())))))
def g25 (d : zTf × Unit) : Option ((Int × Unit) × (Unit)) := F25 qj d.1
def p25 : qY := ⟨[.v (.str zTd)], [.v zI], g25⟩
def c25 : jN := ⟨67, tyT, [], [(22, p22), (23, p23), (56, p56)], [(4, l25_4), (10, l25_10)], [], [], [], [], [], [], [], [], [], none⟩
theorem F25_eq (n : Nat) (d) : qX c25 n Try.f25 (body Try.f25) p25.ps p25.rs d = F25 n d.1 := by kernel_rfl
theorem L25_4_eq (n : Nat) (d) : (l25_4).g (n + 1) d = run c25 n (nth 0 (qc (body Try.f25))) ((l25_4).ins.fill d) (qO (l25_4) n) := by kernel_rfl
theorem L25_10_eq (n : Nat) (d) : (l25_10).g (n + 1) d = run c25 n (nth 1 (qc (body Try.f25))) ((l25_10).ins.fill d) (qO (l25_10) n) := by kernel_rfl
theorem ls25 : qc (body Try.f25) = [nth 0 (qc (body Try.f25)), nth 1 (qc (body Try.f25))] := by kernel_rfl
theorem h25 : qP Try.prog 25 p25 := hQ (cfg := c25) (qH qK (qk h22 (qk h23 (qk h56 qu))) rfl (by kernel_rfl)) Try.func25 (by kernel_rfl) (by rw [ls25]; simp only [List.forall_mem_cons]; exact ⟨qI (key := 4) (li := l25_4) (by kernel_rfl) rfl (fun _ => rfl) (L25_4_eq), qI (key := 10) (li := l25_10) (by kernel_rfl) rfl (fun _ => rfl) (L25_10_eq), fun _ h => by cases h⟩) (by kernel_rfl) (F25_eq qj)
def B57_2 (_n : Nat) (L : ((List (Int × (Int × Int))) × ((Int × (Int × Int)) → Option Bool) × Int × Int × Unit) × (Unit) × Unit → Option (zTo ⊕ ((Unit) × (Unit) × Unit))) (s_0 : List (Int × (Int × Int))) (f_1 : (Int × (Int × Int)) → Option Bool) (t_7 : Int) (t_8 : Int) : Option (zTo ⊕ ((Unit) × (Unit) × Unit)) :=
  cond (decide (t_8 < t_7)) (qe s_0 t_8 fun e1 => qa (f_1 e1) fun y2 => cond y2 (some (.inl ((t_8, ()), (), ()))) (L ((s_0, f_1, t_7, (IntKind.wrap .i64 (t_8 + 1)), ()), (), ()))) (some (.inr ((), (), ())))
def L57_2 : Nat → ((List (Int × (Int × Int))) × ((Int × (Int × Int)) → Option Bool) × Int × Int × Unit) × (Unit) × Unit → Option (zTo ⊕ ((Unit) × (Unit) × Unit))
  | 0, _ => none
  | n + 1, d => B57_2 n (L57_2 n) d.1.1 d.1.2.1 d.1.2.2.1 d.1.2.2.2.1
def l57_2 : jH := ⟨⟨[(0, .v (.list false 78 (.str qC))), (1, .v (.fn (.str qC) .bool)), (7, .v zI), (8, .v zI)], [], none⟩, [(.ret, ⟨[(4, .v zI)], [], none⟩), (.exit 0, ⟨[], [], none⟩)], L57_2⟩
def F57 (n : Nat) (s_0 : (List (Int × (Int × Int)))) (f_1 : ((Int × (Int × Int)) → Option Bool)) : Option ((Int × Unit) × (Unit)) :=
  qa (L57_2 n ((s_0, f_1, (s_0.length : Int), 0, ()), (), ())) fun o3 => qcR o3 (fun d4 => some ((d4.1.1, ()), ())) (fun _ => some (((-1), ()), ()))
def g57 (d : (List (Int × (Int × Int))) × ((Int × (Int × Int)) → Option Bool) × Unit) : Option ((Int × Unit) × (Unit)) := F57 qj d.1 d.2.1
def p57 : qY := ⟨[.v (.list false 78 (.str qC)), .v (.fn (.str qC) .bool)], [.v zI], g57⟩
def c57 : jN := ⟨19, tyT, [], [], [(2, l57_2)], [], [], [], [], [], [], [], [], [], none⟩
theorem F57_eq (n : Nat) (d) : qX c57 n Try.f57 (body Try.f57) p57.ps p57.rs d = F57 n d.1 d.2.1 := by kernel_rfl
theorem L57_2_eq (n : Nat) (d) : (l57_2).g (n + 1) d = run c57 n (nth 0 (qc (body Try.f57))) ((l57_2).ins.fill d) (qO (l57_2) n) := by kernel_rfl
theorem ls57 : qc (body Try.f57) = [nth 0 (qc (body Try.f57))] := by kernel_rfl
theorem h57 : qP Try.prog 57 p57 := hQ (cfg := c57) (qH qK (qu) rfl (by kernel_rfl)) Try.func57 (by kernel_rfl) (by rw [ls57]; simp only [List.forall_mem_cons]; exact ⟨qI (key := 2) (li := l57_2) (by kernel_rfl) rfl (fun _ => rfl) (L57_2_eq), fun _ h => by cases h⟩) (by kernel_rfl) (F57_eq qj)
def F26 (_n : Nat) (s_0 : (List (Int × (Int × Int)))) (f_1 : ((Int × (Int × Int)) → Option Bool)) : Option ((Bool × Unit) × (Unit)) :=
  qa (g57 (s_0, f_1, ())) fun y1 => some (((decide (y1.1.1 ≥ 0)), ()), ())
def g26 (d : (List (Int × (Int × Int))) × ((Int × (Int × Int)) → Option Bool) × Unit) : Option ((Bool × Unit) × (Unit)) := F26 qj d.1 d.2.1
def p26 : qY := ⟨[.v (.list false 78 (.str qC)), .v (.fn (.str qC) .bool)], [.v .bool], g26⟩
def c26 : jN := ⟨9, tyT, [], [(57, p57)], [], [], [], [], [], [], [], [], [], [], none⟩
theorem F26_eq (n : Nat) (d) : qX c26 n Try.f26 (body Try.f26) p26.ps p26.rs d = F26 n d.1 d.2.1 := by kernel_rfl
theorem h26 : qP Try.prog 26 p26 := hQ (cfg := c26) (qH qK (qk h57 qu) rfl (by kernel_rfl)) Try.func26 (by kernel_rfl) (qT (by kernel_rfl)) (by kernel_rfl) (F26_eq qj)
def B58_2 (_n : Nat) (L : ((List zTt) × (zTt → Option Bool) × Int × Int × Unit) × (Unit) × Unit → Option (zTo ⊕ ((Unit) × (Unit) × Unit))) (s_0 : List zTt) (f_1 : zTt → Option Bool) (t_7 : Int) (t_8 : Int) : Option (zTo ⊕ ((Unit) × (Unit) × Unit)) :=
  cond (decide (t_8 < t_7)) (qe s_0 t_8 fun e1 => qa (f_1 e1) fun y2 => cond y2 (some (.inl ((t_8, ()), (), ()))) (L ((s_0, f_1, t_7, (IntKind.wrap .i64 (t_8 + 1)), ()), (), ()))) (some (.inr ((), (), ())))
def L58_2 : Nat → ((List zTt) × (zTt → Option Bool) × Int × Int × Unit) × (Unit) × Unit → Option (zTo ⊕ ((Unit) × (Unit) × Unit))
  | 0, _ => none
  | n + 1, d => B58_2 n (L58_2 n) d.1.1 d.1.2.1 d.1.2.2.1 d.1.2.2.2.1
def l58_2 : jH := ⟨⟨[(0, .v (.list false 82 (.str (.pair zI (.pair zI qC))))), (1, .v (.fn (.str (.pair zI (.pair zI qC))) .bool)), (7, .v zI), (8, .v zI)], [], none⟩, [(.ret, ⟨[(4, .v zI)], [], none⟩), (.exit 0, ⟨[], [], none⟩)], L58_2⟩
def F58 (n : Nat) (s_0 : (List zTt)) (f_1 : (zTt → Option Bool)) : Option ((Int × Unit) × (Unit)) :=
  qa (L58_2 n ((s_0, f_1, (s_0.length : Int), 0, ()), (), ())) fun o3 => qcR o3 (fun d4 => some ((d4.1.1, ()), ())) (fun _ => some (((-1), ()), ()))
def g58 (d : (List zTt) × (zTt → Option Bool) × Unit) : Option ((Int × Unit) × (Unit)) := F58 qj d.1 d.2.1
def p58 : qY := ⟨[.v (.list false 82 (.str (.pair zI (.pair zI qC)))), .v (.fn (.str (.pair zI (.pair zI qC))) .bool)], [.v zI], g58⟩
def c58 : jN := ⟨19, tyT, [], [], [(2, l58_2)], [], [], [], [], [], [], [], [], [], none⟩
theorem F58_eq (n : Nat) (d) : qX c58 n Try.f58 (body Try.f58) p58.ps p58.rs d = F58 n d.1 d.2.1 := by kernel_rfl
theorem L58_2_eq (n : Nat) (d) : (l58_2).g (n + 1) d = run c58 n (nth 0 (qc (body Try.f58))) ((l58_2).ins.fill d) (qO (l58_2) n) := by kernel_rfl
theorem ls58 : qc (body Try.f58) = [nth 0 (qc (body Try.f58))] := by kernel_rfl
theorem h58 : qP Try.prog 58 p58 := hQ (cfg := c58) (qH qK (qu) rfl (by kernel_rfl)) Try.func58 (by kernel_rfl) (by rw [ls58]; simp only [List.forall_mem_cons]; exact ⟨qI (key := 2) (li := l58_2) (by kernel_rfl) rfl (fun _ => rfl) (L58_2_eq), fun _ h => by cases h⟩) (by kernel_rfl) (F58_eq qj)
def F27 (_n : Nat) (s_0 : (List zTt)) (f_1 : (zTt → Option Bool)) : Option ((Bool × Unit) × (Unit)) :=
  qa (g58 (s_0, f_1, ())) fun y1 => some (((decide (y1.1.1 ≥ 0)), ()), ())
def g27 (d : (List zTt) × (zTt → Option Bool) × Unit) : Option ((Bool × Unit) × (Unit)) := F27 qj d.1 d.2.1
def p27 : qY := ⟨[.v (.list false 82 (.str (.pair zI (.pair zI qC)))), .v (.fn (.str (.pair zI (.pair zI qC))) .bool)], [.v .bool], g27⟩
def c27 : jN := ⟨9, tyT, [], [(58, p58)], [], [], [], [], [], [], [], [], [], [], none⟩
theorem F27_eq (n : Nat) (d) : qX c27 n Try.f27 (body Try.f27) p27.ps p27.rs d = F27 n d.1 d.2.1 := by kernel_rfl
theorem h27 : qP Try.prog 27 p27 := hQ (cfg := c27) (qH qK (qk h58 qu) rfl (by kernel_rfl)) Try.func27 (by kernel_rfl) (qT (by kernel_rfl)) (by kernel_rfl) (F27_eq qj)
def F12 (_n : Nat) (c_0 : zTf) (ticks_1 : Int) (l_2 : (List (Int × (Int × Int)))) (f_3 : (List zTt)) : Option ((Int × Unit) × (Unit)) :=
  qa (g25 (c_0, ())) fun y1 => cond (y1.1.1 != 0) (some ((y1.1.1, ()), ())) (qa (g22 (ticks_1, 0, 500, ())) fun y2 => cond (!y2.1.1) (some ((1, ()), ())) (cond (decide ((l_2.length : Int) > 200)) (some ((2, ()), ())) (qa (g26 (l_2, (fun v3 => qa (g21 (v3, ticks_1, c_0, ())) fun y4 => some y4.1.1), ())) fun y5 => cond y5.1.1 (some ((21, ()), ())) (cond (decide ((f_3.length : Int) > 5)) (some ((2, ()), ())) (qa (g27 (f_3, (fun v6 => qa (g24 (v6, c_0, ())) fun y7 => some y7.1.1), ())) fun y8 => cond y8.1.1 (some ((22, ()), ())) (some ((0, ()), ())))))))
def g12 (d : zTf × Int × (List (Int × (Int × Int))) × (List zTt) × Unit) : Option ((Int × Unit) × (Unit)) := F12 qj d.1 d.2.1 d.2.2.1 d.2.2.2.1
def p12 : qY := ⟨[.v (.str zTd), .v zI, .v (.list false 78 (.str qC)), .v (.list false 82 (.str (.pair zI (.pair zI qC))))], [.v zI], g12⟩
def c12 : jN := ⟨40, tyT, [], [(21, p21), (22, p22), (24, p24), (25, p25), (26, p26), (27, p27)], [], [], [], [], [], [], [], [], [], [], none⟩
theorem F12_eq (n : Nat) (d) : qX c12 n Try.f12 (body Try.f12) p12.ps p12.rs d = F12 n d.1 d.2.1 d.2.2.1 d.2.2.2.1 := by kernel_rfl
theorem d12 : qr c12 (body Try.f12) = true := by kernel_rfl
theorem h12 : qP Try.prog 12 p12 := hQ (cfg := c12) (qH qK (qk h21 (qk h22 (qk h24 (qk h25 (qk h26 (qk h27 qu)))))) rfl (by kernel_rfl)) Try.func12 (by kernel_rfl) (qT (by kernel_rfl)) d12 (F12_eq qj)
def B13_3 (_n : Nat) (L : (zTf × (List Int) × Int × Int × Unit) × (zTb × Unit) × Unit → Option (((Unit) × (zTb × Unit) × Unit))) (c_2 : (List zTj) × (List Int)) (t_17 : List Int) (t_18 : Int) (t_19 : Int) (o_15 : zTf × zTi) : Option (((Unit) × (zTb × Unit) × Unit)) :=
  cond (decide (t_19 < t_18)) (qe t_17 t_19 fun e2 => qbV (fun (e3 : Int × (Bool × (Int × Bool))) => L ((c_2, t_17, t_18, (IntKind.wrap .i64 (t_19 + 1)), ()), ((o_15.1, (o_15.2.1, ((o_15.2.2.1 ++ [((e2, e3.1, false), 0)]), o_15.2.2.2))), ()), ())) fun E => qs [qe c_2.1 e2 fun e3 => qN ((o_15.2.2.1.length : Int) + [((e2, e3.1, false), 0)].length) (E e3), qe c_2.1 e2 fun e4 => qs [qN ((o_15.2.2.1.length : Int) + [((e2, e4.1, false), 0)].length) (E e4), qs [qN ((o_15.2.2.1.length : Int) + [((e2, e4.1, false), 0)].length) (E e4), qs [qN ((o_15.2.2.1.length : Int) + [((e2, e4.1, false), 0)].length) (E e4), qN ((o_15.2.2.1.length : Int) + [((e2, e4.1, false), 0)].length) (E e4)]]]]) (some ((), (o_15, ()), ()))
def L13_3 : Nat → (zTf × (List Int) × Int × Int × Unit) × (zTb × Unit) × Unit → Option (((Unit) × (zTb × Unit) × Unit))
  | 0, _ => none
  | n + 1, d => B13_3 n (L13_3 n) d.1.1 d.1.2.1 d.1.2.2.1 d.1.2.2.2.1 d.2.1.1
def l13_3 : jH := ⟨⟨[(2, .r (.str zTd)), (5, .c (.ptr 15 [])), (17, .v (.list false 3 zI)), (18, .v zI), (19, .v zI)], [(15, false, .str (.pair (.str zTd) (.pair (.list false 82 (.str (.pair zI (.pair zI qC)))) zTe)))], none⟩, [(.exit 0, ⟨[(5, .c (.ptr 15 []))], [(15, false, .str (.pair (.str zTd) (.pair (.list false 82 (.str (.pair zI (.pair zI qC)))) zTe)))], none⟩)], L13_3⟩
def F13 (n : Nat) (c_0 : zTf) (f_1 : (List zTt)) : Option ((zTb × Unit) × (Unit)) :=
  leK 0 (c_0.1.length : Int) (leK (c_0.1.length : Int) (c_0.1.length : Int) (qN (c_0.1.length : Int) (jK (c_0, f_1, ([] : List ((Int × (Int × Bool)) × Int)), (List.replicate (c_0.1.length : Int).toNat false), (0 : Int), (-1), false, (0 : Int), (0 : Int)) fun z1 => qa (L13_3 n ((c_0, c_0.2, (c_0.2.length : Int), 0, ()), (z1, ()), ())) fun o5 => some ((o5.2.1.1, ()), ()))))
def g13 (d : zTf × (List zTt) × Unit) : Option ((zTb × Unit) × (Unit)) := F13 qj d.1 d.2.1
def p13 : qY := ⟨[.v (.str zTd), .v (.list false 82 (.str (.pair zI (.pair zI qC))))], [.optr (.str (.pair (.str zTd) (.pair (.list false 82 (.str (.pair zI (.pair zI qC)))) zTe)))], g13⟩
def c13 : jN := ⟨43, tyT, [(14, .str (.pair (.str zTd) (.pair (.list false 82 (.str (.pair zI (.pair zI qC)))) zTe))), (13, .list true 4 .bool), (2, .str zTd)], [], [(3, l13_3)], [], [1, 5], [], [], [], [], [], [], [], none⟩
theorem F13_eq (n : Nat) (d) : qX c13 n Try.f13 (body Try.f13) p13.ps p13.rs d = F13 n d.1 d.2.1 := by kernel_rfl
theorem L13_3_eq (n : Nat) (d) : (l13_3).g (n + 1) d = run c13 n (nth 0 (qc (body Try.f13))) ((l13_3).ins.fill d) (qO (l13_3) n) := by kernel_rfl
theorem ls13 : qc (body Try.f13) = [nth 0 (qc (body Try.f13))] := by kernel_rfl
theorem h13 : qP Try.prog 13 p13 := hQ (cfg := c13) (qH qK (qu) rfl (by kernel_rfl)) Try.func13 (by kernel_rfl) (by rw [ls13]; simp only [List.forall_mem_cons]; exact ⟨qI (key := 3) (li := l13_3) (by kernel_rfl) rfl (fun _ => rfl) (L13_3_eq), fun _ h => by cases h⟩) (by kernel_rfl) (F13_eq qj)
def B15_2 (_n : Nat) (L : ((List ((Int × (Int × Bool)) × Int)) × Int × Int × Unit) × ((List (Int × (Int × Bool))) × Unit) × Unit → Option (((Unit) × ((List (Int × (Int × Bool))) × Unit) × Unit))) (t_8 : List ((Int × (Int × Bool)) × Int)) (t_9 : Int) (t_10 : Int) (o_2 : List (Int × (Int × Bool))) : Option (((Unit) × ((List (Int × (Int × Bool))) × Unit) × Unit)) :=
  cond (decide (t_10 < t_9)) (qe t_8 t_10 fun e1 => qN ((o_2.length : Int) + [e1.1].length) (L ((t_8, t_9, (IntKind.wrap .i64 (t_10 + 1)), ()), ((o_2 ++ [e1.1]), ()), ()))) (some ((), (o_2, ()), ()))
def L15_2 : Nat → ((List ((Int × (Int × Bool)) × Int)) × Int × Int × Unit) × ((List (Int × (Int × Bool))) × Unit) × Unit → Option (((Unit) × ((List (Int × (Int × Bool))) × Unit) × Unit))
  | 0, _ => none
  | n + 1, d => B15_2 n (L15_2 n) d.1.1 d.1.2.1 d.1.2.2.1 d.2.1.1
def l15_2 : jH := ⟨⟨[(2, .c (.view 2 [])), (8, .v (.list false 92 (.str (.pair zTg zI)))), (9, .v zI), (10, .v zI)], [(2, true, .list true 47 zTg)], none⟩, [(.exit 0, ⟨[(2, .c (.view 2 []))], [(2, true, .list true 47 zTg)], none⟩)], L15_2⟩
def F15 (n : Nat) (t_0 : zTb) : Option (((List (Int × (Int × Bool))) × Unit) × (Unit)) :=
  qa (L15_2 n ((t_0.2.2.1, (t_0.2.2.1.length : Int), 0, ()), (([] : List (Int × (Int × Bool))), ()), ())) fun o2 => some ((o2.2.1.1, ()), ())
def g15 (d : zTb × Unit) : Option (((List (Int × (Int × Bool))) × Unit) × (Unit)) := F15 qj d.1
def p15 : qY := ⟨[.r (.str (.pair (.str zTd) (.pair (.list false 82 (.str (.pair zI (.pair zI qC)))) (.pair (.list false 92 (.str (.pair zTg zI))) zTq))))], [.own 47 zTg], g15⟩
def c15 : jN := ⟨21, tyT, [], [], [(2, l15_2)], [], [], [], [], [], [], [], [], [], none⟩
theorem F15_eq (n : Nat) (d) : qX c15 n Try.f15 (body Try.f15) p15.ps p15.rs d = F15 n d.1 := by kernel_rfl
theorem L15_2_eq (n : Nat) (d) : (l15_2).g (n + 1) d = run c15 n (nth 0 (qc (body Try.f15))) ((l15_2).ins.fill d) (qO (l15_2) n) := by kernel_rfl
theorem ls15 : qc (body Try.f15) = [nth 0 (qc (body Try.f15))] := by kernel_rfl
theorem h15 : qP Try.prog 15 p15 := hQ (cfg := c15) (qH qK (qu) rfl (by kernel_rfl)) Try.func15 (by kernel_rfl) (by rw [ls15]; simp only [List.forall_mem_cons]; exact ⟨qI (key := 2) (li := l15_2) (by kernel_rfl) rfl (fun _ => rfl) (L15_2_eq), fun _ h => by cases h⟩) (by kernel_rfl) (F15_eq qj)
def F59 (_n : Nat) (t_0 : zTb) (x_1 : ((Int × (Int × Bool)) × Int)) : Option ((Bool × Unit) × (Unit)) :=
  qe t_0.1.1 x_1.1.1 fun e1 => some (((x_1.1.2.1 == e1.1), ()), ())
def g59 (d : zTb × ((Int × (Int × Bool)) × Int) × Unit) : Option ((Bool × Unit) × (Unit)) := F59 qj d.1 d.2.1
def p59 : qY := ⟨[.r (.str (.pair (.str zTd) (.pair (.list false 82 (.str (.pair zI (.pair zI qC)))) (.pair (.list false 92 (.str (.pair zTg zI))) zTq)))), .v (.str (.pair zTg zI))], [.v .bool], g59⟩
def c59 : jN := ⟨20, tyT, [], [], [], [], [], [], [], [], [], [], [], [], none⟩
theorem F59_eq (n : Nat) (d) : qX c59 n Try.f59 (body Try.f59) p59.ps p59.rs d = F59 n d.1 d.2.1 := by kernel_rfl
theorem h59 : qP Try.prog 59 p59 := hQ (cfg := c59) (qH qK (qu) rfl (by kernel_rfl)) Try.func59 (by kernel_rfl) (qT (by kernel_rfl)) (by kernel_rfl) (F59_eq qj)
end
end Go.Proofs.Try.V
