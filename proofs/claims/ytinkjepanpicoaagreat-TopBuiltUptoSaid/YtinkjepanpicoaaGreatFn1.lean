/- The contracts of functions of the program, printed by program from the interpreter: each says what a call returns. No condition beyond those typed in each theorem. -/
import Derived.Test.YtinkjepanpicoaaGreatMk
import Derived.Test.YtinkjepanpicoaaGreatProg
namespace Go.Proofs.Tryz.V
open Go.Vi
set_option maxRecDepth 100000
abbrev zI : Ty := .int .i64
abbrev zTg : Type := Int × (Int × (Int × Int))
abbrev jE : Ty := .list false 3 zI
abbrev zTc : Ty := .pair (.list false 100 (.str (.pair zI (.pair zI (.pair zI jE))))) (.pair zI (.list false 26 jE))
abbrev j6 : Ty := .pair zI zI
abbrev qR : Ty := .pair zI (.pair zI j6)
abbrev zTk : Ty := .pair zI (.pair zI (.pair zI .bool))
abbrev zTb : Ty := .pair (.list false 150 (.str zTk)) (.pair jE jE)
abbrev zTe : Ty := .pair (.list false 145 (.str (.pair zI zTk))) zI
abbrev zTl : Type := Int × (Int × (Int × Bool))
abbrev zTm : Type := (Bool × Unit) × (Unit)
abbrev zTn : Type := (Int × Unit) × (Unit) × Unit
abbrev zTq : Type := Int × (Int × (Int × ((List Int) × Int)))
abbrev zTr : Type := (Unit) × (Unit) × Unit
abbrev zTs : Type := (List (List Int)) × Unit
abbrev zTu : Type := (Int × Unit) × (Unit)
abbrev zTv : Ty := .list true 3 zI
abbrev zTw : Type := (List (Int × zTl)) × Int
abbrev zTx : Type := (List Int) × Unit
abbrev zTy : Type := Int × (Int × (Int × (List Int)))
abbrev zTz : Type := Int × (Int × ((List Int) × ((List Int) × ((List (Int × Int)) × (Int × (Int × Int))))))
abbrev zUa : Type := (((List (Int × Int)) × Int × Int × Unit) × zTs × Unit)
abbrev zUb : Type := (List (Int × Int)) × Int × Int × Int × Unit
abbrev zUe : Type := (Bool × Unit) × (Unit) × Unit
abbrev zUf : Type := (Unit) × zTx × Unit
abbrev zUh : Type := (List Int) × (List Bool) × Unit
abbrev zUi : Type := (((List (Int × Int)) × Int × Unit) × zTs × Unit)
abbrev zUj : Type := ((List Int) × Int × Unit) × (Unit)
abbrev zUk : Ty := .list false 4 .bool
abbrev zUl : Type := Int × Int × (List (Int × Int)) × Int × Int × Unit
abbrev zUm : Type := Int × Int × (List (List Int)) × Int × Int × Unit
abbrev zUn : Type := (List zTg) × (Int × (Int × Int))
abbrev zTo : Type := (List zTg) × zUn
abbrev zUo : Type := Int × Int × Int × Int × (List (Int × Int)) × Int × Int × Unit
abbrev zUp : Type := (Int × Int × Unit) × (Unit)
abbrev zUq : Type := (List (Int × zTg)) × Int × Int × Unit
abbrev zUr : Ty := .arr 3 zI
abbrev zUs : Type := (List (Int × Int)) × Int × Int × Int × Int × Int × Unit
abbrev zUt : Type := (Int × Int) × (List (List Int)) × (List Int) × Unit
abbrev zUu : Type := (List (Int × Int)) × Int × Int × Int × Int × Unit
abbrev zUv : Type := (List (List Int)) × (List Int) × Unit
abbrev zUc : Type := (zUl × zUv × Unit)
abbrev zUw : Type := (List Int) × Int × Int × Unit
abbrev zUx : Type := Int × (List zTy) × Int × Int × Unit
abbrev zUz : Type := (Unit) × (zTo × Unit) × Unit
abbrev zVb : Type := Int × (List (List Int))
abbrev zTh : Type := (List zTy) × zVb
abbrev zTp : Type := zTh × ((List (List Int)) × (List (List Int)))
abbrev zUd : Type := ((Option zTp) × Bool × Unit) × (Unit) × Unit
abbrev zVa : Type := (Unit) × (zTh × Unit) × Unit
abbrev zVc : Type := zTh × (List Int) × Unit
abbrev zVd : Type := zTp × (List Int) × Unit
abbrev zVe : Type := ((Int × Unit) × zTx × Unit)
abbrev zVf : Type := (Int × Int × Unit) × ((List Bool) × (List Int) × Unit) × Unit
abbrev zVg : Type := (((List (Int × Int)) × (Option zTp) × Unit) × zUh × Unit)
abbrev zVh : Type := (List Int) × (List Int)
abbrev zTf : Type := (List zTl) × zVh
abbrev zTt : Type := zTf × (List (Int × zTg))
abbrev zUg : Type := zTf × ((List (Int × zTg)) × (Int × (zTo × zVh)))
abbrev zTd : Type := zTw × zUg
abbrev zUy : Type := (Unit) × (zTf × Unit) × Unit
abbrev zVi : Type := ((Option zTp) × Bool × Unit) × (Unit)
abbrev zVj : Type := Int × Int × Int × Unit
abbrev zVk : Type := ((List zTq) × Int × Unit) × (zTw × Unit) × Unit
def tyT : List (Nat × Ty) := [(2, .int .i64), (3, .int .i64), (4, .bool), (5, .int .u8), (6, .int .u8), (7, .str (.pair zI (.pair zI (.pair .bool (.int .u8))))), (8, .str (.pair zI (.pair zI (.pair .bool (.int .u8))))), (12, .int .u64), (21, .int .i32), (22, .list false 145 (.str (.pair zI zTk))), (23, .str zTe), (24, .str zTe), (25, .list false 150 (.str zTk)), (26, .list false 3 zI), (27, .str zTb), (28, .str zTb), (29, .list false 68 (.str (.pair zI qR))), (30, .list false 51 (.str qR)), (31, .list false 116 (.str qR)), (32, .str (.pair (.list false 51 (.str qR)) (.pair (.list false 116 (.str qR)) (.pair zI j6)))), (33, .str (.pair (.list false 51 (.str qR)) (.pair (.list false 116 (.str qR)) (.pair zI j6)))), (34, .str (.pair (.str zTe) (.pair (.str zTb) (.pair (.list false 68 (.str (.pair zI qR))) (.pair zI (.pair (.str (.pair (.list false 51 (.str qR)) (.pair (.list false 116 (.str qR)) (.pair zI j6)))) (.pair jE jE))))))), (35, .str (.pair (.str zTe) (.pair (.str zTb) (.pair (.list false 68 (.str (.pair zI qR))) (.pair zI (.pair (.str (.pair (.list false 51 (.str qR)) (.pair (.list false 116 (.str qR)) (.pair zI j6)))) (.pair jE jE))))))), (36, .str (.pair jE jE)), (37, .str (.pair jE jE)), (38, .fn (.str (.pair (.str zTe) (.pair (.str zTb) (.pair (.list false 68 (.str (.pair zI qR))) (.pair zI (.pair (.str (.pair (.list false 51 (.str qR)) (.pair (.list false 116 (.str qR)) (.pair zI j6)))) (.pair jE jE))))))) .bool), (41, .int .i64), (42, .fn (.str (.pair (.str zTe) (.pair (.str zTb) (.pair (.list false 68 (.str (.pair zI qR))) (.pair zI (.pair (.str (.pair (.list false 51 (.str qR)) (.pair (.list false 116 (.str qR)) (.pair zI j6)))) (.pair jE jE))))))) zI), (43, .list false 47 zUr), (46, .int .u64), (47, .arr 3 zI), (50, .str qR), (51, .str qR), (55, .fn2 jE jE .bool), (56, .fn2 (.str (.pair (.str zTe) (.pair (.str zTb) (.pair (.list false 68 (.str (.pair zI qR))) (.pair zI (.pair (.str (.pair (.list false 51 (.str qR)) (.pair (.list false 116 (.str qR)) (.pair zI j6)))) (.pair jE jE))))))) (.str (.pair jE jE)) .bool), (57, .list false 100 (.str (.pair zI (.pair zI (.pair zI jE))))), (58, .list false 26 jE), (59, .str zTc), (60, .str zTc), (61, .list false 135 (.str j6)), (62, .str (.pair (.str zTc) (.list false 135 (.str j6)))), (63, .str (.pair (.str zTc) (.list false 135 (.str j6)))), (64, .fn (.str zTc) zI), (67, .str (.pair zI qR)), (68, .str (.pair zI qR)), (69, .fn2 jE zI .bool), (71, .str j6), (72, .str j6), (73, .list false 72 (.str j6)), (74, .str (.pair zI (.pair zI (.pair jE (.pair jE (.pair (.list false 72 (.str j6)) (.pair zI j6))))))), (75, .str (.pair zI (.pair zI (.pair jE (.pair jE (.pair (.list false 72 (.str j6)) (.pair zI j6))))))), (78, .fn2 (.str zTe) (.list false 110 (.str (.pair zI (.pair zI (.pair zI (.pair jE zI)))))) zI), (81, .fn (.str (.pair (.list false 51 (.str qR)) (.pair (.list false 116 (.str qR)) (.pair zI j6)))) zI), (82, .fn zI .bool), (85, .fn2 jE (.fn zI .bool) .bool), (86, .fn2 (.str (.pair (.list false 51 (.str qR)) (.pair (.list false 116 (.str qR)) (.pair zI j6)))) zI zI), (87, .list false 89 zUr), (89, .arr 3 zI), (92, .fn2 jE jE zI), (94, .str (.pair (.str zTb) (.list false 68 (.str (.pair zI qR))))), (95, .str (.pair (.str zTb) (.list false 68 (.str (.pair zI qR))))), (99, .str (.pair zI (.pair zI (.pair zI jE)))), (100, .str (.pair zI (.pair zI (.pair zI jE)))), (101, .list false 4 .bool), (102, .list false 4 .bool), (105, .fn2 zUk .bool .bool), (106, .fn (.str (.pair zI (.pair zI (.pair jE (.pair jE (.pair (.list false 72 (.str j6)) (.pair zI j6))))))) zI), (107, .list false 110 (.str (.pair zI (.pair zI (.pair zI (.pair jE zI)))))), (108, .fn (.str zTe) zI), (109, .str (.pair zI (.pair zI (.pair zI (.pair jE zI))))), (110, .str (.pair zI (.pair zI (.pair zI (.pair jE zI))))), (111, .fn (.str (.pair zI (.pair zI (.pair zI (.pair jE zI))))) .bool), (112, .fn2 (.list false 110 (.str (.pair zI (.pair zI (.pair zI (.pair jE zI)))))) (.fn (.str (.pair zI (.pair zI (.pair zI (.pair jE zI))))) .bool) .bool), (115, .str qR), (116, .str qR), (117, .fn2 jE (.fn zI .bool) zI), (118, .fn (.str zTb) zI), (120, .fn2 (.str (.pair (.list false 51 (.str qR)) (.pair (.list false 116 (.str qR)) (.pair zI j6)))) zI .bool), (123, .fn2 zI zI zI), (128, .fn zI zI), (129, .fn2 zI (.fn (.str (.pair zI qR)) .bool) zI), (130, .fn (.str (.pair zI qR)) .bool), (131, .ptr (.str (.pair (.str zTc) (.pair (.list false 26 jE) (.list false 26 jE))))), (134, .str j6), (135, .str j6), (136, .fn2 zUk zI .bool), (137, .str (.pair (.str zTc) (.pair (.list false 26 jE) (.list false 26 jE)))), (138, .str (.pair (.str zTc) (.pair (.list false 26 jE) (.list false 26 jE)))), (139, .fn2 zUk .bool zI), (140, .fn2 (.list false 72 (.str j6)) (.fn (.str j6) .bool) .bool), (141, .fn (.str j6) .bool), (144, .str (.pair zI zTk)), (145, .str (.pair zI zTk)), (146, .fn (.str (.pair zI zTk)) .bool), (147, .fn2 (.list false 145 (.str (.pair zI zTk))) (.fn (.str (.pair zI zTk)) .bool) .bool), (148, .fn2 (.list false 110 (.str (.pair zI (.pair zI (.pair zI (.pair jE zI)))))) (.fn (.str (.pair zI (.pair zI (.pair zI (.pair jE zI))))) .bool) zI), (149, .str zTk), (150, .str zTk), (152, .fn2 (.list false 68 (.str (.pair zI qR))) zI .bool), (155, .fn2 (.list false 68 (.str (.pair zI qR))) (.fn (.str (.pair zI qR)) .bool) zI), (156, .arr 4 zI), (162, .fn jE .bool), (163, .fn2 (.list false 72 (.str j6)) (.fn (.str j6) .bool) zI), (165, .fn2 (.list false 145 (.str (.pair zI zTk))) (.fn (.str (.pair zI zTk)) .bool) zI), (166, .fn2 (.list false 150 (.str zTk)) (.fn (.str zTk) .bool) .bool), (167, .fn (.str zTk) .bool), (169, .fn2 (.str (.pair (.list false 51 (.str qR)) (.pair (.list false 116 (.str qR)) (.pair zI j6)))) zI zI), (177, .fn2 (.list false 150 (.str zTk)) (.fn (.str zTk) .bool) zI), (178, .fn2 zI zI .bool), (179, .fn2 (.list false 68 (.str (.pair zI qR))) (.fn (.str (.pair zI qR)) .bool) .bool), (180, .fn2 zI (.str (.pair zI qR)) .bool), (181, .int .u32), (184, .int .u64), (193, .int .u8), (194, .int .u8), (196, .ptr (.int .u8)), (197, .int .i32), (198, .int .i32)]
theorem qq : tysB Tryz.prog tyT = true := by kernel_rfl
theorem mixed : Tryz.prog.follows .mixedOrders = true := by kernel_rfl
theorem hQ {cfg : qW} {f : FuncId} {fn : Func} {p : qH} (hc : qC Tryz.prog cfg) (hf : Tryz.prog.funcs[f]? = some fn) (ha : (fn.body.isSome && (Nat.beq fn.ntmps cfg.nt && (!(fn.name == "runtime.NumGoroutine") && Nat.ble p.ps.length cfg.nt))) = true) (hl : ∀ b ∈ qe (body fn), qdC cfg b) (hd : ql cfg (body fn) = true) (he : ∀ d, qz cfg fuel fn (body fn) p.ps p.rs d = p.g d) : qx Tryz.prog f p := by
  simp only [Bool.and_eq_true, Bool.not_eq_true'] at ha
  exact qlc mixed hc hf ha.1 (Nat.eq_of_beq_eq_true ha.2.1) ha.2.2.1 ha.2.2.2 hl hd (fun d y h => ⟨fuel, (he d).trans h⟩)
noncomputable def F5 (_n : Nat) (g_0 : zTd) : Option zTm :=
  cond (decide ((g_0.1.1.length : Int) > 10)) (some ((true, ()), ())) (cond (decide ((g_0.2.1.1.length : Int) > 25)) (some ((true, ()), ())) (cond (decide ((g_0.2.1.2.1.length : Int) > 12)) (some ((true, ()), ())) (cond (decide ((g_0.2.1.2.2.length : Int) > 15)) (some ((true, ()), ())) (cond (decide ((g_0.2.2.1.length : Int) > 60)) (some ((true, ()), ())) (cond (decide ((g_0.2.2.2.2.1.1.length : Int) > 15)) (some ((true, ()), ())) (cond (decide ((g_0.2.2.2.2.1.2.1.length : Int) > 20)) (some ((true, ()), ())) (cond (decide ((g_0.2.2.2.2.2.1.length : Int) > 15)) (some ((true, ()), ())) (some (((decide ((g_0.2.2.2.2.2.2.length : Int) > 15)), ()), ())))))))))
noncomputable def g5 (d : zTd × Unit) : Option zTm := F5 fuel d.1
noncomputable def p5 : qH := ⟨[.v (.str (.pair (.str zTe) (.pair (.str zTb) (.pair (.list false 68 (.str (.pair zI qR))) (.pair zI (.pair (.str (.pair (.list false 51 (.str qR)) (.pair (.list false 116 (.str qR)) (.pair zI j6)))) (.pair jE jE)))))))], [.v .bool], g5⟩
noncomputable def c5 : qW := ⟨61, tyT, [], [], [], [], [], [], [], [], [], [], [], [], none⟩
theorem F5_eq (n : Nat) (d) : qz c5 n Tryz.f5 (body Tryz.f5) p5.ps p5.rs d = F5 n d.1 := by kernel_rfl
theorem d5 : ql c5 (body Tryz.f5) = true := by kernel_rfl
theorem h5 : qx Tryz.prog 5 p5 := hQ (cfg := c5) (qn qq (qh) rfl (by kernel_rfl)) Tryz.func5 (by kernel_rfl) (qr (by kernel_rfl)) d5 (F5_eq fuel)
noncomputable def B14_4 (_n : Nat) (L : ((List Int) × (List Int) × Int × Unit) × (Unit) × Unit → Option (zUe ⊕ zTr)) (a_0 : List Int) (b_1 : List Int) (i_5 : Int) : Option (zUe ⊕ zTr) :=
  cond (decide (i_5 < (a_0.length : Int))) (qg a_0 i_5 fun e1 => qg b_1 i_5 fun e2 => cond (e1 != e2) (some (.inl ((false, ()), (), ()))) (L ((a_0, b_1, (IntKind.wrap .i64 (i_5 + 1)), ()), (), ()))) (some (.inr ((), (), ())))
noncomputable def L14_4 : Nat → ((List Int) × (List Int) × Int × Unit) × (Unit) × Unit → Option (zUe ⊕ zTr)
  | 0, _ => none
  | n + 1, d => B14_4 n (L14_4 n) d.1.1 d.1.2.1 d.1.2.2.1
noncomputable def l14_4 : jC := ⟨⟨[(0, .v jE), (1, .v jE), (5, .v zI)], [], none⟩, [(.ret, ⟨[(4, .v .bool)], [], none⟩), (.exit 0, ⟨[], [], none⟩)], L14_4⟩
noncomputable def F14 (n : Nat) (a_0 : (List Int)) (b_1 : (List Int)) : Option zTm :=
  cond ((a_0.length : Int) != (b_1.length : Int)) (some ((false, ()), ())) (qa (L14_4 n ((a_0, b_1, 0, ()), (), ())) fun o3 => qaP o3 (fun d4 => some ((d4.1.1, ()), ())) (fun _ => some ((true, ()), ())))
noncomputable def g14 (d : (List Int) × (List Int) × Unit) : Option zTm := F14 fuel d.1 d.2.1
noncomputable def p14 : qH := ⟨[.v jE, .v jE], [.v .bool], g14⟩
noncomputable def c14 : qW := ⟨26, tyT, [], [], [(4, l14_4)], [], [], [], [], [], [], [], [], [], none⟩
theorem F14_eq (n : Nat) (d) : qz c14 n Tryz.f14 (body Tryz.f14) p14.ps p14.rs d = F14 n d.1 d.2.1 := by kernel_rfl
theorem L14_4_eq (n : Nat) (d) : (l14_4).g (n + 1) d = run c14 n (j7 0 (qe (body Tryz.f14))) ((l14_4).ins.fill d) (qJ (l14_4) n) := by kernel_rfl
theorem ls14 : qe (body Tryz.f14) = [j7 0 (qe (body Tryz.f14))] := by kernel_rfl
theorem d14 : ql c14 (body Tryz.f14) = true := by kernel_rfl
theorem h14 : qx Tryz.prog 14 p14 := hQ (cfg := c14) (qn qq (qh) rfl (by kernel_rfl)) Tryz.func14 (by kernel_rfl) (by rw [ls14]; simp only [List.forall_mem_cons]; exact ⟨qF (key := 4) (li := l14_4) (by kernel_rfl) rfl (fun _ => rfl) (L14_4_eq), fun _ h => by cases h⟩) d14 (F14_eq fuel)
noncomputable def B54_2 (_n : Nat) (L : ((List Int) × (Int → Option Bool) × Int × Int × Unit) × (Unit) × Unit → Option (zTn ⊕ zTr)) (s_0 : List Int) (f_1 : Int → Option Bool) (t_7 : Int) (t_8 : Int) : Option (zTn ⊕ zTr) :=
  cond (decide (t_8 < t_7)) (qg s_0 t_8 fun e1 => qa (f_1 e1) fun y2 => cond y2 (some (.inl ((t_8, ()), (), ()))) (L ((s_0, f_1, t_7, (IntKind.wrap .i64 (t_8 + 1)), ()), (), ()))) (some (.inr ((), (), ())))
noncomputable def L54_2 : Nat → ((List Int) × (Int → Option Bool) × Int × Int × Unit) × (Unit) × Unit → Option (zTn ⊕ zTr)
  | 0, _ => none
  | n + 1, d => B54_2 n (L54_2 n) d.1.1 d.1.2.1 d.1.2.2.1 d.1.2.2.2.1
noncomputable def l54_2 : jC := ⟨⟨[(0, .v jE), (1, .v (.fn zI .bool)), (7, .v zI), (8, .v zI)], [], none⟩, [(.ret, ⟨[(4, .v zI)], [], none⟩), (.exit 0, ⟨[], [], none⟩)], L54_2⟩
noncomputable def F54 (n : Nat) (s_0 : (List Int)) (f_1 : (Int → Option Bool)) : Option zTu :=
  qa (L54_2 n ((s_0, f_1, (s_0.length : Int), 0, ()), (), ())) fun o3 => qaP o3 (fun d4 => some ((d4.1.1, ()), ())) (fun _ => some (((-1), ()), ()))
noncomputable def g54 (d : (List Int) × (Int → Option Bool) × Unit) : Option zTu := F54 fuel d.1 d.2.1
noncomputable def p54 : qH := ⟨[.v jE, .v (.fn zI .bool)], [.v zI], g54⟩
noncomputable def c54 : qW := ⟨19, tyT, [], [], [(2, l54_2)], [], [], [], [], [], [], [], [], [], none⟩
theorem F54_eq (n : Nat) (d) : qz c54 n Tryz.f54 (body Tryz.f54) p54.ps p54.rs d = F54 n d.1 d.2.1 := by kernel_rfl
theorem L54_2_eq (n : Nat) (d) : (l54_2).g (n + 1) d = run c54 n (j7 0 (qe (body Tryz.f54))) ((l54_2).ins.fill d) (qJ (l54_2) n) := by kernel_rfl
theorem ls54 : qe (body Tryz.f54) = [j7 0 (qe (body Tryz.f54))] := by kernel_rfl
theorem d54 : ql c54 (body Tryz.f54) = true := by kernel_rfl
theorem h54 : qx Tryz.prog 54 p54 := hQ (cfg := c54) (qn qq (qh) rfl (by kernel_rfl)) Tryz.func54 (by kernel_rfl) (by rw [ls54]; simp only [List.forall_mem_cons]; exact ⟨qF (key := 2) (li := l54_2) (by kernel_rfl) rfl (fun _ => rfl) (L54_2_eq), fun _ h => by cases h⟩) d54 (F54_eq fuel)
noncomputable def F26 (_n : Nat) (s_0 : (List Int)) (f_1 : (Int → Option Bool)) : Option zTm :=
  qa (g54 (s_0, f_1, ())) fun y1 => some (((decide (y1.1.1 ≥ 0)), ()), ())
noncomputable def g26 (d : (List Int) × (Int → Option Bool) × Unit) : Option zTm := F26 fuel d.1 d.2.1
noncomputable def p26 : qH := ⟨[.v jE, .v (.fn zI .bool)], [.v .bool], g26⟩
noncomputable def c26 : qW := ⟨9, tyT, [], [(54, p54)], [], [], [], [], [], [], [], [], [], [], none⟩
theorem F26_eq (n : Nat) (d) : qz c26 n Tryz.f26 (body Tryz.f26) p26.ps p26.rs d = F26 n d.1 d.2.1 := by kernel_rfl
theorem d26 : ql c26 (body Tryz.f26) = true := by kernel_rfl
theorem h26 : qx Tryz.prog 26 p26 := hQ (cfg := c26) (qn qq (qd h54 qh) rfl (by kernel_rfl)) Tryz.func26 (by kernel_rfl) (qr (by kernel_rfl)) d26 (F26_eq fuel)
noncomputable def F46 (_n : Nat) (n_0 : Int) (low_1 : Int) (high_2 : Int) : Option zTm :=
  cond (decide (n_0 ≥ low_1)) (some (((decide (n_0 ≤ high_2)), ()), ())) (some ((false, ()), ()))
noncomputable def g46 (d : Int × Int × Int × Unit) : Option zTm := F46 fuel d.1 d.2.1 d.2.2.1
noncomputable def p46 : qH := ⟨[.v zI, .v zI, .v zI], [.v .bool], g46⟩
noncomputable def c46 : qW := ⟨15, tyT, [], [], [], [], [], [], [], [], [], [], [], [], none⟩
theorem F46_eq (n : Nat) (d) : qz c46 n Tryz.f46 (body Tryz.f46) p46.ps p46.rs d = F46 n d.1 d.2.1 d.2.2.1 := by kernel_rfl
theorem d46 : ql c46 (body Tryz.f46) = true := by kernel_rfl
theorem h46 : qx Tryz.prog 46 p46 := hQ (cfg := c46) (qn qq (qh) rfl (by kernel_rfl)) Tryz.func46 (by kernel_rfl) (qr (by kernel_rfl)) d46 (F46_eq fuel)
noncomputable def F78 (_n : Nat) (n_0 : Int) (t_1 : Int) (t_2 : Int) : Option zTm :=
  qa (g46 (n_0, t_1, t_2, ())) fun y1 => some (((!y1.1.1), ()), ())
noncomputable def g78 (d : Int × Int × Int × Unit) : Option zTm := F78 fuel d.1 d.2.1 d.2.2.1
noncomputable def p78 : qH := ⟨[.v zI, .r zI, .r zI], [.v .bool], g78⟩
noncomputable def c78 : qW := ⟨10, tyT, [], [(46, p46)], [], [], [], [], [], [], [], [], [], [], none⟩
theorem F78_eq (n : Nat) (d) : qz c78 n Tryz.f78 (body Tryz.f78) p78.ps p78.rs d = F78 n d.1 d.2.1 d.2.2.1 := by kernel_rfl
theorem d78 : ql c78 (body Tryz.f78) = true := by kernel_rfl
theorem h78 : qx Tryz.prog 78 p78 := hQ (cfg := c78) (qn qq (qd h46 qh) rfl (by kernel_rfl)) Tryz.func78 (by kernel_rfl) (qr (by kernel_rfl)) d78 (F78_eq fuel)
noncomputable def B100_2 (_n : Nat) (L : ((List (Int × Int)) × ((Int × Int) → Option Bool) × Int × Int × Unit) × (Unit) × Unit → Option (zTn ⊕ zTr)) (s_0 : List (Int × Int)) (f_1 : (Int × Int) → Option Bool) (t_7 : Int) (t_8 : Int) : Option (zTn ⊕ zTr) :=
  cond (decide (t_8 < t_7)) (qg s_0 t_8 fun e1 => qa (f_1 e1) fun y2 => cond y2 (some (.inl ((t_8, ()), (), ()))) (L ((s_0, f_1, t_7, (IntKind.wrap .i64 (t_8 + 1)), ()), (), ()))) (some (.inr ((), (), ())))
noncomputable def L100_2 : Nat → ((List (Int × Int)) × ((Int × Int) → Option Bool) × Int × Int × Unit) × (Unit) × Unit → Option (zTn ⊕ zTr)
  | 0, _ => none
  | n + 1, d => B100_2 n (L100_2 n) d.1.1 d.1.2.1 d.1.2.2.1 d.1.2.2.2.1
noncomputable def l100_2 : jC := ⟨⟨[(0, .v (.list false 72 (.str j6))), (1, .v (.fn (.str j6) .bool)), (7, .v zI), (8, .v zI)], [], none⟩, [(.ret, ⟨[(4, .v zI)], [], none⟩), (.exit 0, ⟨[], [], none⟩)], L100_2⟩
noncomputable def F100 (n : Nat) (s_0 : (List (Int × Int))) (f_1 : ((Int × Int) → Option Bool)) : Option zTu :=
  qa (L100_2 n ((s_0, f_1, (s_0.length : Int), 0, ()), (), ())) fun o3 => qaP o3 (fun d4 => some ((d4.1.1, ()), ())) (fun _ => some (((-1), ()), ()))
noncomputable def g100 (d : (List (Int × Int)) × ((Int × Int) → Option Bool) × Unit) : Option zTu := F100 fuel d.1 d.2.1
noncomputable def p100 : qH := ⟨[.v (.list false 72 (.str j6)), .v (.fn (.str j6) .bool)], [.v zI], g100⟩
noncomputable def c100 : qW := ⟨19, tyT, [], [], [(2, l100_2)], [], [], [], [], [], [], [], [], [], none⟩
theorem F100_eq (n : Nat) (d) : qz c100 n Tryz.f100 (body Tryz.f100) p100.ps p100.rs d = F100 n d.1 d.2.1 := by kernel_rfl
theorem L100_2_eq (n : Nat) (d) : (l100_2).g (n + 1) d = run c100 n (j7 0 (qe (body Tryz.f100))) ((l100_2).ins.fill d) (qJ (l100_2) n) := by kernel_rfl
theorem ls100 : qe (body Tryz.f100) = [j7 0 (qe (body Tryz.f100))] := by kernel_rfl
theorem d100 : ql c100 (body Tryz.f100) = true := by kernel_rfl
theorem h100 : qx Tryz.prog 100 p100 := hQ (cfg := c100) (qn qq (qh) rfl (by kernel_rfl)) Tryz.func100 (by kernel_rfl) (by rw [ls100]; simp only [List.forall_mem_cons]; exact ⟨qF (key := 2) (li := l100_2) (by kernel_rfl) rfl (fun _ => rfl) (L100_2_eq), fun _ h => by cases h⟩) d100 (F100_eq fuel)
noncomputable def F79 (_n : Nat) (s_0 : (List (Int × Int))) (f_1 : ((Int × Int) → Option Bool)) : Option zTm :=
  qa (g100 (s_0, f_1, ())) fun y1 => some (((decide (y1.1.1 ≥ 0)), ()), ())
noncomputable def g79 (d : (List (Int × Int)) × ((Int × Int) → Option Bool) × Unit) : Option zTm := F79 fuel d.1 d.2.1
noncomputable def p79 : qH := ⟨[.v (.list false 72 (.str j6)), .v (.fn (.str j6) .bool)], [.v .bool], g79⟩
noncomputable def c79 : qW := ⟨9, tyT, [], [(100, p100)], [], [], [], [], [], [], [], [], [], [], none⟩
theorem F79_eq (n : Nat) (d) : qz c79 n Tryz.f79 (body Tryz.f79) p79.ps p79.rs d = F79 n d.1 d.2.1 := by kernel_rfl
theorem d79 : ql c79 (body Tryz.f79) = true := by kernel_rfl
theorem h79 : qx Tryz.prog 79 p79 := hQ (cfg := c79) (qn qq (qd h100 qh) rfl (by kernel_rfl)) Tryz.func79 (by kernel_rfl) (qr (by kernel_rfl)) d79 (F79_eq fuel)
noncomputable def F80 (_n : Nat) (b_0 : (Int × Int)) (t_1 : zTz) : Option zTm :=
  qa (g46 (b_0.1, 1, 1000, ())) fun y1 => cond (!y1.1.1) (some ((true, ()), ())) (qa (g46 (b_0.2, 1, 1000000, ())) fun y2 => cond (!y2.1.1) (some ((true, ()), ())) (some (((decide ((IntKind.wrap .i64 (t_1.2.2.2.2.2.1 * b_0.1)) > b_0.2)), ()), ())))
noncomputable def g80 (d : (Int × Int) × zTz × Unit) : Option zTm := F80 fuel d.1 d.2.1
noncomputable def p80 : qH := ⟨[.v (.str j6), .r (.str (.pair zI (.pair zI (.pair jE (.pair jE (.pair (.list false 72 (.str j6)) (.pair zI j6)))))))], [.v .bool], g80⟩
noncomputable def c80 : qW := ⟨24, tyT, [], [(46, p46)], [], [], [], [], [], [], [], [], [], [], none⟩
theorem F80_eq (n : Nat) (d) : qz c80 n Tryz.f80 (body Tryz.f80) p80.ps p80.rs d = F80 n d.1 d.2.1 := by kernel_rfl
theorem d80 : ql c80 (body Tryz.f80) = true := by kernel_rfl
theorem h80 : qx Tryz.prog 80 p80 := hQ (cfg := c80) (qn qq (qd h46 qh) rfl (by kernel_rfl)) Tryz.func80 (by kernel_rfl) (qr (by kernel_rfl)) d80 (F80_eq fuel)
noncomputable def F45 (_n : Nat) (f_0 : zTz) : Option zTu :=
  qa (g46 ((f_0.2.2.1.length : Int), 1, 8, ())) fun y1 => cond (!y1.1.1) (some ((10, ()), ())) (cond ((f_0.2.2.2.1.length : Int) != (f_0.2.2.1.length : Int)) (some ((10, ()), ())) (qa (g46 (f_0.1, 0, 20, ())) fun y2 => cond (!y2.1.1) (some ((10, ()), ())) (qa (g46 (f_0.2.1, 0, 12, ())) fun y3 => cond (!y3.1.1) (some ((10, ()), ())) (cond (decide ((f_0.2.2.2.2.1.length : Int) > 6)) (some ((10, ()), ())) (qa (Mk.m77.p.g (0, 100000, ())) fun y4 => qa (g26 (f_0.2.2.1, (fun v5 => qa y4.1.1 fun q7 => qa y4.1.2.1 fun q8 => qa (g78 (v5, q7, q8, ())) fun y6 => some y6.1.1), ())) fun y9 => cond y9.1.1 (some ((10, ()), ())) (qa (Mk.m77.p.g (0, 1000000, ())) fun y10 => qa (g26 (f_0.2.2.2.1, (fun v11 => qa y10.1.1 fun q13 => qa y10.1.2.1 fun q14 => qa (g78 (v11, q13, q14, ())) fun y12 => some y12.1.1), ())) fun y15 => cond y15.1.1 (some ((10, ()), ())) (qa (g46 (f_0.2.2.2.2.2.1, 0, 1000, ())) fun y16 => cond (!y16.1.1) (some ((10, ()), ())) (qa (g46 (f_0.2.2.2.2.2.2.1, 0, 1000000, ())) fun y17 => cond (!y17.1.1) (some ((10, ()), ())) (qa (g46 (f_0.2.2.2.2.2.2.2, 1, 1440, ())) fun y18 => cond (!y18.1.1) (some ((10, ()), ())) (qa (g79 (f_0.2.2.2.2.1, (fun v19 => qa (g80 (v19, f_0, ())) fun y20 => some y20.1.1), ())) fun y21 => cond y21.1.1 (some ((10, ()), ())) (some ((0, ()), ()))))))))))))
noncomputable def g45 (d : zTz × Unit) : Option zTu := F45 fuel d.1
noncomputable def p45 : qH := ⟨[.v (.str (.pair zI (.pair zI (.pair jE (.pair jE (.pair (.list false 72 (.str j6)) (.pair zI j6)))))))], [.v zI], g45⟩
noncomputable def c45 : qW := ⟨78, tyT, [(1, .str (.pair zI (.pair zI (.pair jE (.pair jE (.pair (.list false 72 (.str j6)) (.pair zI j6)))))))], [(26, p26), (46, p46), (78, p78), (79, p79), (80, p80)], [], [], [3], [], [], [(77, Mk.m77)], [], [], [], [], none⟩
theorem F45_eq (n : Nat) (d) : qz c45 n Tryz.f45 (body Tryz.f45) p45.ps p45.rs d = F45 n d.1 := by kernel_rfl
theorem d45 : ql c45 (body Tryz.f45) = true := by kernel_rfl
theorem h45 : qx Tryz.prog 45 p45 := hQ (cfg := c45) (qn qq (qd h26 (qd h46 (qd h78 (qd h79 (qd h80 qh))))) rfl (by kernel_rfl) (qjI (qg5 Mk.k77 qjK))) Tryz.func45 (by kernel_rfl) (qr (by kernel_rfl)) d45 (F45_eq fuel)
noncomputable def F126 (_n : Nat) (x_0 : Int) (y_1 : Int) : Option zUp :=
  qdV 32 (qdV 32 (qbu (IntKind.wrap .u64 ((qbG .and .u64 x_0 4294967295) * (qbG .and .u64 y_1 4294967295))) fun z1 => qdV 32 (qbu (IntKind.wrap .u64 ((IntKind.wrap .u64 ((qen .u64 x_0 32) * (qbG .and .u64 y_1 4294967295))) + (qen .u64 z1 32))) fun z2 => qdV 32 (qbu (IntKind.wrap .u64 ((qbG .and .u64 z2 4294967295) + (IntKind.wrap .u64 ((qbG .and .u64 x_0 4294967295) * (qen .u64 y_1 32))))) fun z3 => qdV 32 (qbu (IntKind.wrap .u64 ((IntKind.wrap .u64 ((IntKind.wrap .u64 ((qen .u64 x_0 32) * (qen .u64 y_1 32))) + (qen .u64 z2 32))) + (qen .u64 z3 32))) fun z4 => some ((z4, (IntKind.wrap .u64 (x_0 * y_1)), ()), ()))))))
noncomputable def g126 (d : Int × Int × Unit) : Option zUp := F126 fuel d.1 d.2.1
noncomputable def p126 : qH := ⟨[.v (.int .u64), .v (.int .u64)], [.v (.int .u64), .v (.int .u64)], g126⟩
noncomputable def c126 : qW := ⟨51, tyT, [], [], [], [], [], [], [], [], [], [], [], [], none⟩
theorem F126_eq (n : Nat) (d) : qz c126 n Tryz.f126 (body Tryz.f126) p126.ps p126.rs d = F126 n d.1 d.2.1 := by kernel_rfl
theorem d126 : ql c126 (body Tryz.f126) = true := by kernel_rfl
theorem h126 : qx Tryz.prog 126 p126 := hQ (cfg := c126) (qn qq (qh) rfl (by kernel_rfl)) Tryz.func126 (by kernel_rfl) (qr (by kernel_rfl)) d126 (F126_eq fuel)
noncomputable def F119 (_n : Nat) (x_0 : Int) (y_1 : Int) : Option zUp :=
  qa (g126 (x_0, y_1, ())) fun y1 => some ((y1.1.1, y1.1.2.1, ()), ())
noncomputable def g119 (d : Int × Int × Unit) : Option zUp := F119 fuel d.1 d.2.1
noncomputable def p119 : qH := ⟨[.v (.int .u64), .v (.int .u64)], [.v (.int .u64), .v (.int .u64)], g119⟩
noncomputable def c119 : qW := ⟨30, tyT, [], [(126, p126)], [], [], [], [], [], [], [], [], [], [], none⟩
theorem F119_eq (n : Nat) (d) : qz c119 n Tryz.f119 (body Tryz.f119) p119.ps p119.rs d = F119 n d.1 d.2.1 := by kernel_rfl
theorem d119 : ql c119 (body Tryz.f119) = true := by kernel_rfl
theorem h119 : qx Tryz.prog 119 p119 := hQ (cfg := c119) (qn qq (qd h126 qh) rfl (by kernel_rfl)) Tryz.func119 (by kernel_rfl) (qr (by kernel_rfl)) d119 (F119_eq fuel)
noncomputable def B101_8 (_n : Nat) (L : (Int × Unit) × zTx × Unit → Option (zUf)) (n_8 : Int) (o_30 : List Int) : Option (zUf) :=
  cond (decide (n_8 < (o_30.length : Int))) (qgc (L (((IntKind.wrap .i64 (n_8 + ((min (o_30.take n_8.toNat).length (o_30.length - n_8.toNat) : Nat) : Int))), ()), ((qbL o_30 (o_30.take n_8.toNat) n_8.toNat), ()), ())) fun E => qP [leK 0 n_8 (leK n_8 (o_30.length : Int) (leK 0 n_8 (leK n_8 (o_30.length : Int) (E)))), leK 0 n_8 (leK n_8 (o_30.length : Int) (leK 0 n_8 (leK n_8 (o_30.length : Int) (E))))]) (some ((), (o_30, ()), ()))
noncomputable def L101_8 : Nat → (Int × Unit) × zTx × Unit → Option (zUf)
  | 0, _ => none
  | n + 1, d => B101_8 n (L101_8 n) d.1.1 d.2.1.1
noncomputable def l101_8 : jC := ⟨⟨[(7, .c (.view 30 [])), (8, .v zI)], [(30, true, .list true 3 zI)], none⟩, [(.exit 0, ⟨[(7, .c (.view 30 []))], [(30, true, .list true 3 zI)], none⟩)], L101_8⟩
noncomputable def F101 (n : Nat) (x_0 : (List Int)) (count_1 : Int) : Option (zTx × (Unit)) :=
  cond (decide (count_1 < 0)) (none) (qa (g119 ((IntKind.wrap .u64 (x_0.length : Int)), (IntKind.wrap .u64 count_1), ())) fun y1 => cond (decide (y1.1.1 > 0)) (none) (cond (decide (y1.1.2.1 > 9223372036854775807)) (none) (leK 0 (IntKind.wrap .i64 y1.1.2.1) (leK (IntKind.wrap .i64 y1.1.2.1) (IntKind.wrap .i64 y1.1.2.1) (qX (IntKind.wrap .i64 y1.1.2.1) (qbu ((min x_0.length ((List.replicate (IntKind.wrap .i64 y1.1.2.1).toNat (0 : Int)).length - (0 : Int).toNat) : Nat) : Int) fun z2 => qa (L101_8 n ((z2, ()), ((qbL (List.replicate (IntKind.wrap .i64 y1.1.2.1).toNat (0 : Int)) x_0 (0 : Int).toNat), ()), ())) fun o3 => some ((o3.2.1.1, ()), ())))))))
noncomputable def g101 (d : (List Int) × Int × Unit) : Option (zTx × (Unit)) := F101 fuel d.1 d.2.1
noncomputable def p101 : qH := ⟨[.v jE, .v zI], [.own 3 zI], g101⟩
noncomputable def c101 : qW := ⟨48, tyT, [], [(119, p119)], [(8, l101_8)], [], [9], [], [], [], [], [], [], [], none⟩
theorem F101_eq (n : Nat) (d) : qz c101 n Tryz.f101 (body Tryz.f101) p101.ps p101.rs d = F101 n d.1 d.2.1 := by kernel_rfl
theorem L101_8_eq (n : Nat) (d) : (l101_8).g (n + 1) d = run c101 n (j7 0 (qe (body Tryz.f101))) ((l101_8).ins.fill d) (qJ (l101_8) n) := by kernel_rfl
theorem ls101 : qe (body Tryz.f101) = [j7 0 (qe (body Tryz.f101))] := by kernel_rfl
theorem d101 : ql c101 (body Tryz.f101) = true := by kernel_rfl
theorem h101 : qx Tryz.prog 101 p101 := hQ (cfg := c101) (qn qq (qd h119 qh) rfl (by kernel_rfl)) Tryz.func101 (by kernel_rfl) (by rw [ls101]; simp only [List.forall_mem_cons]; exact ⟨qF (key := 8) (li := l101_8) (by kernel_rfl) rfl (fun _ => rfl) (L101_8_eq), fun _ h => by cases h⟩) d101 (F101_eq fuel)
noncomputable def B81_4 (_n : Nat) (L : zUu × zTs × Unit → Option zUa) (l_0 : List (Int × Int)) (n_1 : Int) (most_6 : Int) (t_24 : Int) (t_25 : Int) (o_22 : List (List Int)) : Option zUa :=
  cond (decide (t_25 < t_24)) (qa (g101 ([1152921504606846976], (IntKind.wrap .i64 (most_6 + 1)), ())) fun y1 => jL t_25 o_22.length (qg o_22 t_25 fun _ => L ((l_0, n_1, most_6, t_24, (IntKind.wrap .i64 (t_25 + 1)), ()), ((o_22.set t_25.toNat y1.1.1), ()), ()))) (some ((l_0, n_1, most_6, ()), (o_22, ()), ()))
noncomputable def L81_4 : Nat → zUu × zTs × Unit → Option zUa
  | 0, _ => none
  | n + 1, d => B81_4 n (L81_4 n) d.1.1 d.1.2.1 d.1.2.2.1 d.1.2.2.2.1 d.1.2.2.2.2.1 d.2.1.1
noncomputable def l81_4 : jC := ⟨⟨[(0, .v (.list false 72 (.str j6))), (1, .v zI), (6, .v zI), (7, .c (.view 22 [])), (24, .v zI), (25, .v zI)], [(22, true, .list true 26 zTv)], none⟩, [(.exit 0, ⟨[(0, .v (.list false 72 (.str j6))), (1, .v zI), (6, .v zI), (7, .c (.view 22 []))], [(22, true, .list true 26 zTv)], none⟩)], L81_4⟩
noncomputable def B81_13 (_n : Nat) (L : zUs × zTs × Unit → Option ((zUb × zTs × Unit))) (l_0 : List (Int × Int)) (n_1 : Int) (most_6 : Int) (i_9 : Int) (t_53 : Int) (t_54 : Int) (o_22 : List (List Int)) : Option ((zUb × zTs × Unit)) :=
  cond (decide (t_54 < t_53)) (jL i_9 o_22.length (jL (IntKind.wrap .i64 (i_9 + 1)) o_22.length (qg o_22 (IntKind.wrap .i64 (i_9 + 1)) fun e8 => jL t_54 e8.length (qg o_22 (IntKind.wrap .i64 (i_9 + 1)) fun e9 => qg e9 t_54 fun e10 => qg o_22 i_9 fun e11 => jL t_54 e11.length (qg o_22 i_9 fun e12 => qg e12 t_54 fun _ => qg l_0 i_9 fun e14 => cond (decide ((IntKind.wrap .i64 (t_54 - e14.1)) ≥ 0)) (jL i_9 (o_22.set i_9.toNat (e12.set t_54.toNat e10)).length (qg (o_22.set i_9.toNat (e12.set t_54.toNat e10)) i_9 fun e15 => jL (IntKind.wrap .i64 (t_54 - e14.1)) e15.length (qg (o_22.set i_9.toNat (e12.set t_54.toNat e10)) i_9 fun e16 => qg e16 (IntKind.wrap .i64 (t_54 - e14.1)) fun e17 => cond (decide (e17 < 1152921504606846976)) (jL i_9 (o_22.set i_9.toNat (e12.set t_54.toNat e10)).length (jL i_9 (o_22.set i_9.toNat (e12.set t_54.toNat e10)).length (qg (o_22.set i_9.toNat (e12.set t_54.toNat e10)) i_9 fun e18 => jL t_54 e18.length (qg (o_22.set i_9.toNat (e12.set t_54.toNat e10)) i_9 fun e19 => qg e19 t_54 fun e20 => jL i_9 (o_22.set i_9.toNat (e12.set t_54.toNat e10)).length (qg (o_22.set i_9.toNat (e12.set t_54.toNat e10)) i_9 fun e21 => jL (IntKind.wrap .i64 (t_54 - e14.1)) e21.length (qg (o_22.set i_9.toNat (e12.set t_54.toNat e10)) i_9 fun e22 => qg e22 (IntKind.wrap .i64 (t_54 - e14.1)) fun e23 => qg l_0 i_9 fun e24 => qg (o_22.set i_9.toNat (e12.set t_54.toNat e10)) i_9 fun e25 => jL t_54 e25.length (qg (o_22.set i_9.toNat (e12.set t_54.toNat e10)) i_9 fun e26 => qg e26 t_54 fun _ => qbu ((o_22.set i_9.toNat (e12.set t_54.toNat e10)).set i_9.toNat (e26.set t_54.toNat (min e20 (IntKind.wrap .i64 (e23 + e24.2))))) fun z28 => L ((l_0, n_1, most_6, i_9, t_53, (IntKind.wrap .i64 (t_54 + 1)), ()), (z28, ()), ())))))))) (L ((l_0, n_1, most_6, i_9, t_53, (IntKind.wrap .i64 (t_54 + 1)), ()), ((o_22.set i_9.toNat (e12.set t_54.toNat e10)), ()), ()))))) (L ((l_0, n_1, most_6, i_9, t_53, (IntKind.wrap .i64 (t_54 + 1)), ()), ((o_22.set i_9.toNat (e12.set t_54.toNat e10)), ()), ()))))))) (some ((l_0, n_1, most_6, i_9, ()), (o_22, ()), ()))
noncomputable def L81_13 : Nat → zUs × zTs × Unit → Option ((zUb × zTs × Unit))
  | 0, _ => none
  | n + 1, d => B81_13 n (L81_13 n) d.1.1 d.1.2.1 d.1.2.2.1 d.1.2.2.2.1 d.1.2.2.2.2.1 d.1.2.2.2.2.2.1 d.2.1.1
noncomputable def l81_13 : jC := ⟨⟨[(0, .v (.list false 72 (.str j6))), (1, .v zI), (6, .v zI), (7, .c (.view 22 [])), (9, .v zI), (53, .v zI), (54, .v zI)], [(22, true, .list true 26 zTv)], none⟩, [(.exit 4, ⟨[(0, .v (.list false 72 (.str j6))), (1, .v zI), (6, .v zI), (7, .c (.view 22 [])), (9, .v zI)], [(22, true, .list true 26 zTv)], none⟩)], L81_13⟩
noncomputable def B81_10 (n : Nat) (L : zUb × zTs × Unit → Option zUa) (l_0 : List (Int × Int)) (n_1 : Int) (most_6 : Int) (i_9 : Int) (o_22 : List (List Int)) : Option zUa :=
  cond (decide (i_9 ≥ 0)) (jL i_9 o_22.length (qg o_22 i_9 fun e7 => qa (L81_13 n ((l_0, n_1, most_6, i_9, (e7.length : Int), 0, ()), (o_22, ()), ())) fun o29 => L ((o29.1.1, o29.1.2.1, o29.1.2.2.1, (IntKind.wrap .i64 (o29.1.2.2.2.1 - 1)), ()), (o29.2.1.1, ()), ()))) (some ((l_0, n_1, most_6, ()), (o_22, ()), ()))
noncomputable def L81_10 : Nat → zUb × zTs × Unit → Option zUa
  | 0, _ => none
  | n + 1, d => B81_10 n (L81_10 n) d.1.1 d.1.2.1 d.1.2.2.1 d.1.2.2.2.1 d.2.1.1
noncomputable def l81_10 : jC := ⟨⟨[(0, .v (.list false 72 (.str j6))), (1, .v zI), (6, .v zI), (7, .c (.view 22 [])), (9, .v zI)], [(22, true, .list true 26 zTv)], none⟩, [(.exit 2, ⟨[(0, .v (.list false 72 (.str j6))), (1, .v zI), (6, .v zI), (7, .c (.view 22 []))], [(22, true, .list true 26 zTv)], none⟩)], L81_10⟩
noncomputable def B81_22 (_n : Nat) (L : zUb × zTs × Unit → Option zUi) (l_0 : List (Int × Int)) (most_6 : Int) (tokens_12 : Int) (t_13 : Int) (o_22 : List (List Int)) : Option zUi :=
  cond (decide (t_13 ≤ most_6)) (jL 0 o_22.length (qg o_22 0 fun e31 => jL t_13 e31.length (qg o_22 0 fun e32 => qg e32 t_13 fun e33 => jL 0 o_22.length (qg o_22 0 fun e34 => jL tokens_12 e34.length (qg o_22 0 fun e35 => qg e35 tokens_12 fun e36 => cond (decide (e33 < e36)) (L ((l_0, most_6, t_13, (IntKind.wrap .i64 (t_13 + 1)), ()), (o_22, ()), ())) (L ((l_0, most_6, tokens_12, (IntKind.wrap .i64 (t_13 + 1)), ()), (o_22, ()), ()))))))) (some ((l_0, tokens_12, ()), (o_22, ()), ()))
noncomputable def L81_22 : Nat → zUb × zTs × Unit → Option zUi
  | 0, _ => none
  | n + 1, d => B81_22 n (L81_22 n) d.1.1 d.1.2.1 d.1.2.2.1 d.1.2.2.2.1 d.2.1.1
noncomputable def l81_22 : jC := ⟨⟨[(0, .v (.list false 72 (.str j6))), (6, .v zI), (7, .c (.view 22 [])), (12, .v zI), (13, .v zI)], [(22, true, .list true 26 zTv)], none⟩, [(.exit 6, ⟨[(0, .v (.list false 72 (.str j6))), (7, .c (.view 22 [])), (12, .v zI)], [(22, true, .list true 26 zTv)], none⟩)], L81_22⟩
noncomputable def B81_34 (_n : Nat) (L : zUo × zUt × Unit → Option zUc) (price_5 : Int) (tokens_12 : Int) (i_14 : Int) (left_16 : Int) (t_150 : List (Int × Int)) (t_151 : Int) (t_152 : Int) (o_15 : Int × Int) (o_22 : List (List Int)) (o_4000149 : List Int) : Option zUc :=
  cond (decide (tokens_12 ≥ o_15.1)) (jL i_14 o_22.length (qg o_22 i_14 fun e45 => jL (IntKind.wrap .i64 (tokens_12 - o_15.1)) e45.length (qg o_22 i_14 fun e46 => qg e46 (IntKind.wrap .i64 (tokens_12 - o_15.1)) fun e47 => cond (decide (e47 < 1152921504606846976)) (jL i_14 o_22.length (qg o_22 i_14 fun e48 => jL (IntKind.wrap .i64 (tokens_12 - o_15.1)) e48.length (qg o_22 i_14 fun e49 => qg e49 (IntKind.wrap .i64 (tokens_12 - o_15.1)) fun e50 => cond ((IntKind.wrap .i64 (e50 + o_15.2)) == left_16) (jL i_14 o_4000149.length (qg o_4000149 i_14 fun e51 => jL i_14 o_4000149.length (qg o_4000149 i_14 fun _ => jL i_14 o_22.length (qg o_22 i_14 fun e53 => jL (IntKind.wrap .i64 (tokens_12 - o_15.1)) e53.length (qg o_22 i_14 fun e54 => qg e54 (IntKind.wrap .i64 (tokens_12 - o_15.1)) fun e55 => L ((price_5, (IntKind.wrap .i64 (tokens_12 - o_15.1)), i_14, e55, t_150, t_151, t_152, ()), (o_15, o_22, (o_4000149.set i_14.toNat (IntKind.wrap .i64 (e51 + 1))), ()), ())))))) (some ((price_5, tokens_12, t_150, t_151, t_152, ()), (o_22, o_4000149, ()), ()))))) (some ((price_5, tokens_12, t_150, t_151, t_152, ()), (o_22, o_4000149, ()), ()))))) (some ((price_5, tokens_12, t_150, t_151, t_152, ()), (o_22, o_4000149, ()), ()))
noncomputable def L81_34 : Nat → zUo × zUt × Unit → Option zUc
  | 0, _ => none
  | n + 1, d => B81_34 n (L81_34 n) d.1.1 d.1.2.1 d.1.2.2.1 d.1.2.2.2.1 d.1.2.2.2.2.1 d.1.2.2.2.2.2.1 d.1.2.2.2.2.2.2.1 d.2.1.1 d.2.1.2.1 d.2.1.2.2.1
noncomputable def l81_34 : jC := ⟨⟨[(4, .c (.view 4000149 [])), (5, .v zI), (7, .c (.view 22 [])), (12, .v zI), (14, .v zI), (15, .c (.ptr 15 [])), (16, .v zI), (150, .v (.list false 72 (.str j6))), (151, .v zI), (152, .v zI)], [(15, false, .str j6), (22, true, .list true 26 zTv), (4000149, true, .list true 3 zI)], none⟩, [(.exit 10, ⟨[(4, .c (.view 4000149 [])), (5, .v zI), (7, .c (.view 22 [])), (12, .v zI), (150, .v (.list false 72 (.str j6))), (151, .v zI), (152, .v zI)], [(22, true, .list true 26 zTv), (4000149, true, .list true 3 zI)], none⟩)], L81_34⟩
noncomputable def B81_31 (n : Nat) (L : zUl × zUv × Unit → Option zVe) (price_5 : Int) (tokens_12 : Int) (t_150 : List (Int × Int)) (t_151 : Int) (t_152 : Int) (o_22 : List (List Int)) (o_4000149 : List Int) : Option zVe :=
  cond (decide (t_152 < t_151)) (qg t_150 t_152 fun e41 => jL t_152 o_22.length (qg o_22 t_152 fun e42 => jL tokens_12 e42.length (qg o_22 t_152 fun e43 => qg e43 tokens_12 fun e44 => qa (L81_34 n ((price_5, tokens_12, t_152, e44, t_150, t_151, t_152, ()), (e41, o_22, o_4000149, ()), ())) fun o56 => L ((o56.1.1, o56.1.2.1, o56.1.2.2.1, o56.1.2.2.2.1, (IntKind.wrap .i64 (o56.1.2.2.2.2.1 + 1)), ()), (o56.2.1.1, o56.2.1.2.1, ()), ())))) (some ((price_5, ()), (o_4000149, ()), ()))
noncomputable def L81_31 : Nat → zUl × zUv × Unit → Option zVe
  | 0, _ => none
  | n + 1, d => B81_31 n (L81_31 n) d.1.1 d.1.2.1 d.1.2.2.1 d.1.2.2.2.1 d.1.2.2.2.2.1 d.2.1.1 d.2.1.2.1
noncomputable def l81_31 : jC := ⟨⟨[(4, .c (.view 4000149 [])), (5, .v zI), (7, .c (.view 22 [])), (12, .v zI), (150, .v (.list false 72 (.str j6))), (151, .v zI), (152, .v zI)], [(22, true, .list true 26 zTv), (4000149, true, .list true 3 zI)], none⟩, [(.exit 8, ⟨[(4, .c (.view 4000149 [])), (5, .v zI)], [(4000149, true, .list true 3 zI)], none⟩)], L81_31⟩
noncomputable def F81 (n : Nat) (l_0 : (List (Int × Int))) (n_1 : Int) : Option zUj :=
  leK 0 (IntKind.wrap .i64 ((l_0.length : Int) + 1)) (leK (IntKind.wrap .i64 ((l_0.length : Int) + 1)) (IntKind.wrap .i64 ((l_0.length : Int) + 1)) (qX (IntKind.wrap .i64 ((l_0.length : Int) + 1)) (qa (L81_4 n ((l_0, n_1, (IntKind.wrap .i64 (n_1 + 1000)), ((List.replicate (IntKind.wrap .i64 ((l_0.length : Int) + 1)).toNat ([] : List Int)).length : Int), 0, ()), ((List.replicate (IntKind.wrap .i64 ((l_0.length : Int) + 1)).toNat ([] : List Int)), ()), ())) fun o3 => jL (o3.1.1.length : Int) o3.2.1.1.length (qg o3.2.1.1 (o3.1.1.length : Int) fun e4 => jL 0 e4.length (qg o3.2.1.1 (o3.1.1.length : Int) fun e5 => qg e5 0 fun _ => qa (L81_10 n ((o3.1.1, o3.1.2.1, o3.1.2.2.1, (IntKind.wrap .i64 ((o3.1.1.length : Int) - 1)), ()), ((o3.2.1.1.set (o3.1.1.length : Int).toNat (e5.set (0 : Int).toNat 0)), ()), ())) fun o30 => qa (L81_22 n ((o30.1.1, o30.1.2.2.1, o30.1.2.1, o30.1.2.1, ()), (o30.2.1.1, ()), ())) fun o37 => jL 0 o37.2.1.1.length (qg o37.2.1.1 0 fun e38 => jL o37.1.2.1 e38.length (qg o37.2.1.1 0 fun e39 => qg e39 o37.1.2.1 fun e40 => cond (e40 == 1152921504606846976) (none) (leK 0 (o37.1.1.length : Int) (leK (o37.1.1.length : Int) (o37.1.1.length : Int) (qX (o37.1.1.length : Int) (qa (L81_31 n ((e40, o37.1.2.1, o37.1.1, (o37.1.1.length : Int), 0, ()), (o37.2.1.1, (List.replicate (o37.1.1.length : Int).toNat (0 : Int)), ()), ())) fun o57 => some ((o57.2.1.1, o57.1.1, ()), ()))))))))))))
noncomputable def g81 (d : (List (Int × Int)) × Int × Unit) : Option zUj := F81 fuel d.1 d.2.1
noncomputable def p81 : qH := ⟨[.v (.list false 72 (.str j6)), .v zI], [.sure true 3 zI, .v zI], g81⟩
noncomputable def c81 : qW := ⟨218, tyT, [(22, .list true 26 zTv), (4, .bool)], [(101, p101)], [(4, l81_4), (13, l81_13), (10, l81_10), (22, l81_22), (34, l81_34), (31, l81_31)], [], [1000149], [], [], [], [], [], [], [], none⟩
theorem F81_eq (n : Nat) (d) : qz c81 n Tryz.f81 (body Tryz.f81) p81.ps p81.rs d = F81 n d.1 d.2.1 := by kernel_rfl
theorem L81_4_eq (n : Nat) (d) : (l81_4).g (n + 1) d = run c81 n (j7 0 (qe (body Tryz.f81))) ((l81_4).ins.fill d) (qJ (l81_4) n) := by kernel_rfl
theorem L81_10_eq (n : Nat) (d) : (l81_10).g (n + 1) d = run c81 n (j7 1 (qe (body Tryz.f81))) ((l81_10).ins.fill d) (qJ (l81_10) n) := by kernel_rfl
theorem L81_13_eq (n : Nat) (d) : (l81_13).g (n + 1) d = run c81 n (j7 2 (qe (body Tryz.f81))) ((l81_13).ins.fill d) (qJ (l81_13) n) := by kernel_rfl
theorem L81_22_eq (n : Nat) (d) : (l81_22).g (n + 1) d = run c81 n (j7 3 (qe (body Tryz.f81))) ((l81_22).ins.fill d) (qJ (l81_22) n) := by kernel_rfl
theorem L81_31_eq (n : Nat) (d) : (l81_31).g (n + 1) d = run c81 n (j7 4 (qe (body Tryz.f81))) ((l81_31).ins.fill d) (qJ (l81_31) n) := by kernel_rfl
theorem L81_34_eq (n : Nat) (d) : (l81_34).g (n + 1) d = run c81 n (j7 5 (qe (body Tryz.f81))) ((l81_34).ins.fill d) (qJ (l81_34) n) := by kernel_rfl
theorem ls81 : qe (body Tryz.f81) = [j7 0 (qe (body Tryz.f81)), j7 1 (qe (body Tryz.f81)), j7 2 (qe (body Tryz.f81)), j7 3 (qe (body Tryz.f81)), j7 4 (qe (body Tryz.f81)), j7 5 (qe (body Tryz.f81))] := by kernel_rfl
theorem d81 : ql c81 (body Tryz.f81) = true := by kernel_rfl
theorem h81 : qx Tryz.prog 81 p81 := hQ (cfg := c81) (qn qq (qd h101 qh) rfl (by kernel_rfl)) Tryz.func81 (by kernel_rfl) (by rw [ls81]; simp only [List.forall_mem_cons]; exact ⟨qF (key := 4) (li := l81_4) (by kernel_rfl) rfl (fun _ => rfl) (L81_4_eq), qF (key := 10) (li := l81_10) (by kernel_rfl) rfl (fun _ => rfl) (L81_10_eq), qF (key := 13) (li := l81_13) (by kernel_rfl) rfl (fun _ => rfl) (L81_13_eq), qF (key := 22) (li := l81_22) (by kernel_rfl) rfl (fun _ => rfl) (L81_22_eq), qF (key := 31) (li := l81_31) (by kernel_rfl) rfl (fun _ => rfl) (L81_31_eq), qF (key := 34) (li := l81_34) (by kernel_rfl) rfl (fun _ => rfl) (L81_34_eq), fun _ h => by cases h⟩) d81 (F81_eq fuel)
noncomputable def B10081_4 (_n : Nat) (L : zUu × zTs × Unit → Option zUa) (l_0 : List (Int × Int)) (n_1 : Int) (most_6 : Int) (t_24 : Int) (t_25 : Int) (o_22 : List (List Int)) : Option zUa :=
  cond (decide (t_25 < t_24)) (qa (g101 ([1152921504606846976], (IntKind.wrap .i64 (most_6 + 1)), ())) fun y1 => jL t_25 o_22.length (qg o_22 t_25 fun _ => L ((l_0, n_1, most_6, t_24, (IntKind.wrap .i64 (t_25 + 1)), ()), ((o_22.set t_25.toNat y1.1.1), ()), ()))) (some ((l_0, n_1, most_6, ()), (o_22, ()), ()))
noncomputable def L10081_4 : Nat → zUu × zTs × Unit → Option zUa
  | 0, _ => none
  | n + 1, d => B10081_4 n (L10081_4 n) d.1.1 d.1.2.1 d.1.2.2.1 d.1.2.2.2.1 d.1.2.2.2.2.1 d.2.1.1
noncomputable def l10081_4 : jC := ⟨⟨[(0, .v (.list false 72 (.str j6))), (1, .v zI), (6, .v zI), (7, .c (.view 22 [])), (24, .v zI), (25, .v zI)], [(22, true, .list true 26 zTv)], none⟩, [(.exit 0, ⟨[(0, .v (.list false 72 (.str j6))), (1, .v zI), (6, .v zI), (7, .c (.view 22 []))], [(22, true, .list true 26 zTv)], none⟩)], L10081_4⟩
noncomputable def B10081_13 (_n : Nat) (L : zUs × zTs × Unit → Option ((zUb × zTs × Unit))) (l_0 : List (Int × Int)) (n_1 : Int) (most_6 : Int) (i_9 : Int) (t_53 : Int) (t_54 : Int) (o_22 : List (List Int)) : Option ((zUb × zTs × Unit)) :=
  cond (decide (t_54 < t_53)) (jL i_9 o_22.length (jL (IntKind.wrap .i64 (i_9 + 1)) o_22.length (qg o_22 (IntKind.wrap .i64 (i_9 + 1)) fun e8 => jL t_54 e8.length (qg o_22 (IntKind.wrap .i64 (i_9 + 1)) fun e9 => qg e9 t_54 fun e10 => qg o_22 i_9 fun e11 => jL t_54 e11.length (qg o_22 i_9 fun e12 => qg e12 t_54 fun _ => qg l_0 i_9 fun e14 => cond (decide ((IntKind.wrap .i64 (t_54 - e14.1)) ≥ 0)) (jL i_9 (o_22.set i_9.toNat (e12.set t_54.toNat e10)).length (qg (o_22.set i_9.toNat (e12.set t_54.toNat e10)) i_9 fun e15 => jL (IntKind.wrap .i64 (t_54 - e14.1)) e15.length (qg (o_22.set i_9.toNat (e12.set t_54.toNat e10)) i_9 fun e16 => qg e16 (IntKind.wrap .i64 (t_54 - e14.1)) fun e17 => cond (decide (e17 < 1152921504606846976)) (jL i_9 (o_22.set i_9.toNat (e12.set t_54.toNat e10)).length (jL i_9 (o_22.set i_9.toNat (e12.set t_54.toNat e10)).length (qg (o_22.set i_9.toNat (e12.set t_54.toNat e10)) i_9 fun e18 => jL t_54 e18.length (qg (o_22.set i_9.toNat (e12.set t_54.toNat e10)) i_9 fun e19 => qg e19 t_54 fun e20 => jL i_9 (o_22.set i_9.toNat (e12.set t_54.toNat e10)).length (qg (o_22.set i_9.toNat (e12.set t_54.toNat e10)) i_9 fun e21 => jL (IntKind.wrap .i64 (t_54 - e14.1)) e21.length (qg (o_22.set i_9.toNat (e12.set t_54.toNat e10)) i_9 fun e22 => qg e22 (IntKind.wrap .i64 (t_54 - e14.1)) fun e23 => qg l_0 i_9 fun e24 => qg (o_22.set i_9.toNat (e12.set t_54.toNat e10)) i_9 fun e25 => jL t_54 e25.length (qg (o_22.set i_9.toNat (e12.set t_54.toNat e10)) i_9 fun e26 => qg e26 t_54 fun _ => qbu ((o_22.set i_9.toNat (e12.set t_54.toNat e10)).set i_9.toNat (e26.set t_54.toNat (min e20 (IntKind.wrap .i64 (e23 + e24.2))))) fun z28 => L ((l_0, n_1, most_6, i_9, t_53, (IntKind.wrap .i64 (t_54 + 1)), ()), (z28, ()), ())))))))) (L ((l_0, n_1, most_6, i_9, t_53, (IntKind.wrap .i64 (t_54 + 1)), ()), ((o_22.set i_9.toNat (e12.set t_54.toNat e10)), ()), ()))))) (L ((l_0, n_1, most_6, i_9, t_53, (IntKind.wrap .i64 (t_54 + 1)), ()), ((o_22.set i_9.toNat (e12.set t_54.toNat e10)), ()), ()))))))) (some ((l_0, n_1, most_6, i_9, ()), (o_22, ()), ()))
noncomputable def L10081_13 : Nat → zUs × zTs × Unit → Option ((zUb × zTs × Unit))
  | 0, _ => none
  | n + 1, d => B10081_13 n (L10081_13 n) d.1.1 d.1.2.1 d.1.2.2.1 d.1.2.2.2.1 d.1.2.2.2.2.1 d.1.2.2.2.2.2.1 d.2.1.1
noncomputable def l10081_13 : jC := ⟨⟨[(0, .v (.list false 72 (.str j6))), (1, .v zI), (6, .v zI), (7, .c (.view 22 [])), (9, .v zI), (53, .v zI), (54, .v zI)], [(22, true, .list true 26 zTv)], none⟩, [(.exit 4, ⟨[(0, .v (.list false 72 (.str j6))), (1, .v zI), (6, .v zI), (7, .c (.view 22 [])), (9, .v zI)], [(22, true, .list true 26 zTv)], none⟩)], L10081_13⟩
noncomputable def B10081_10 (n : Nat) (L : zUb × zTs × Unit → Option zUa) (l_0 : List (Int × Int)) (n_1 : Int) (most_6 : Int) (i_9 : Int) (o_22 : List (List Int)) : Option zUa :=
  cond (decide (i_9 ≥ 0)) (jL i_9 o_22.length (qg o_22 i_9 fun e7 => qa (L10081_13 n ((l_0, n_1, most_6, i_9, (e7.length : Int), 0, ()), (o_22, ()), ())) fun o29 => L ((o29.1.1, o29.1.2.1, o29.1.2.2.1, (IntKind.wrap .i64 (o29.1.2.2.2.1 - 1)), ()), (o29.2.1.1, ()), ()))) (some ((l_0, n_1, most_6, ()), (o_22, ()), ()))
noncomputable def L10081_10 : Nat → zUb × zTs × Unit → Option zUa
  | 0, _ => none
  | n + 1, d => B10081_10 n (L10081_10 n) d.1.1 d.1.2.1 d.1.2.2.1 d.1.2.2.2.1 d.2.1.1
noncomputable def l10081_10 : jC := ⟨⟨[(0, .v (.list false 72 (.str j6))), (1, .v zI), (6, .v zI), (7, .c (.view 22 [])), (9, .v zI)], [(22, true, .list true 26 zTv)], none⟩, [(.exit 2, ⟨[(0, .v (.list false 72 (.str j6))), (1, .v zI), (6, .v zI), (7, .c (.view 22 []))], [(22, true, .list true 26 zTv)], none⟩)], L10081_10⟩
noncomputable def B10081_22 (_n : Nat) (L : zUb × zTs × Unit → Option zUi) (l_0 : List (Int × Int)) (most_6 : Int) (tokens_12 : Int) (t_13 : Int) (o_22 : List (List Int)) : Option zUi :=
  cond (decide (t_13 ≤ most_6)) (jL 0 o_22.length (qg o_22 0 fun e31 => jL t_13 e31.length (qg o_22 0 fun e32 => qg e32 t_13 fun e33 => jL 0 o_22.length (qg o_22 0 fun e34 => jL tokens_12 e34.length (qg o_22 0 fun e35 => qg e35 tokens_12 fun e36 => cond (decide (e33 < e36)) (L ((l_0, most_6, t_13, (IntKind.wrap .i64 (t_13 + 1)), ()), (o_22, ()), ())) (L ((l_0, most_6, tokens_12, (IntKind.wrap .i64 (t_13 + 1)), ()), (o_22, ()), ()))))))) (some ((l_0, tokens_12, ()), (o_22, ()), ()))
noncomputable def L10081_22 : Nat → zUb × zTs × Unit → Option zUi
  | 0, _ => none
  | n + 1, d => B10081_22 n (L10081_22 n) d.1.1 d.1.2.1 d.1.2.2.1 d.1.2.2.2.1 d.2.1.1
noncomputable def l10081_22 : jC := ⟨⟨[(0, .v (.list false 72 (.str j6))), (6, .v zI), (7, .c (.view 22 [])), (12, .v zI), (13, .v zI)], [(22, true, .list true 26 zTv)], none⟩, [(.exit 6, ⟨[(0, .v (.list false 72 (.str j6))), (7, .c (.view 22 [])), (12, .v zI)], [(22, true, .list true 26 zTv)], none⟩)], L10081_22⟩
noncomputable def B10081_34 (_n : Nat) (L : zUo × zUt × Unit → Option zUc) (price_5 : Int) (tokens_12 : Int) (i_14 : Int) (left_16 : Int) (t_150 : List (Int × Int)) (t_151 : Int) (t_152 : Int) (o_15 : Int × Int) (o_22 : List (List Int)) (o_4000149 : List Int) : Option zUc :=
  cond (decide (tokens_12 ≥ o_15.1)) (jL i_14 o_22.length (qg o_22 i_14 fun e45 => jL (IntKind.wrap .i64 (tokens_12 - o_15.1)) e45.length (qg o_22 i_14 fun e46 => qg e46 (IntKind.wrap .i64 (tokens_12 - o_15.1)) fun e47 => cond (decide (e47 < 1152921504606846976)) (jL i_14 o_22.length (qg o_22 i_14 fun e48 => jL (IntKind.wrap .i64 (tokens_12 - o_15.1)) e48.length (qg o_22 i_14 fun e49 => qg e49 (IntKind.wrap .i64 (tokens_12 - o_15.1)) fun e50 => cond ((IntKind.wrap .i64 (e50 + o_15.2)) == left_16) (jL i_14 o_4000149.length (qg o_4000149 i_14 fun e51 => jL i_14 o_4000149.length (qg o_4000149 i_14 fun _ => jL i_14 o_22.length (qg o_22 i_14 fun e53 => jL (IntKind.wrap .i64 (tokens_12 - o_15.1)) e53.length (qg o_22 i_14 fun e54 => qg e54 (IntKind.wrap .i64 (tokens_12 - o_15.1)) fun e55 => L ((price_5, (IntKind.wrap .i64 (tokens_12 - o_15.1)), i_14, e55, t_150, t_151, t_152, ()), (o_15, o_22, (o_4000149.set i_14.toNat (IntKind.wrap .i64 (e51 + 1))), ()), ())))))) (some ((price_5, tokens_12, t_150, t_151, t_152, ()), (o_22, o_4000149, ()), ()))))) (some ((price_5, tokens_12, t_150, t_151, t_152, ()), (o_22, o_4000149, ()), ()))))) (some ((price_5, tokens_12, t_150, t_151, t_152, ()), (o_22, o_4000149, ()), ()))
noncomputable def L10081_34 : Nat → zUo × zUt × Unit → Option zUc
  | 0, _ => none
  | n + 1, d => B10081_34 n (L10081_34 n) d.1.1 d.1.2.1 d.1.2.2.1 d.1.2.2.2.1 d.1.2.2.2.2.1 d.1.2.2.2.2.2.1 d.1.2.2.2.2.2.2.1 d.2.1.1 d.2.1.2.1 d.2.1.2.2.1
noncomputable def l10081_34 : jC := ⟨⟨[(4, .c (.view 4000149 [])), (5, .v zI), (7, .c (.view 22 [])), (12, .v zI), (14, .v zI), (15, .c (.ptr 15 [])), (16, .v zI), (150, .v (.list false 72 (.str j6))), (151, .v zI), (152, .v zI)], [(15, false, .str j6), (22, true, .list true 26 zTv), (4000149, true, .list true 3 zI)], none⟩, [(.exit 10, ⟨[(4, .c (.view 4000149 [])), (5, .v zI), (7, .c (.view 22 [])), (12, .v zI), (150, .v (.list false 72 (.str j6))), (151, .v zI), (152, .v zI)], [(22, true, .list true 26 zTv), (4000149, true, .list true 3 zI)], none⟩)], L10081_34⟩
noncomputable def B10081_31 (n : Nat) (L : zUl × zUv × Unit → Option zVe) (price_5 : Int) (tokens_12 : Int) (t_150 : List (Int × Int)) (t_151 : Int) (t_152 : Int) (o_22 : List (List Int)) (o_4000149 : List Int) : Option zVe :=
  cond (decide (t_152 < t_151)) (qg t_150 t_152 fun e41 => jL t_152 o_22.length (qg o_22 t_152 fun e42 => jL tokens_12 e42.length (qg o_22 t_152 fun e43 => qg e43 tokens_12 fun e44 => qa (L10081_34 n ((price_5, tokens_12, t_152, e44, t_150, t_151, t_152, ()), (e41, o_22, o_4000149, ()), ())) fun o56 => L ((o56.1.1, o56.1.2.1, o56.1.2.2.1, o56.1.2.2.2.1, (IntKind.wrap .i64 (o56.1.2.2.2.2.1 + 1)), ()), (o56.2.1.1, o56.2.1.2.1, ()), ())))) (some ((price_5, ()), (o_4000149, ()), ()))
noncomputable def L10081_31 : Nat → zUl × zUv × Unit → Option zVe
  | 0, _ => none
  | n + 1, d => B10081_31 n (L10081_31 n) d.1.1 d.1.2.1 d.1.2.2.1 d.1.2.2.2.1 d.1.2.2.2.2.1 d.2.1.1 d.2.1.2.1
noncomputable def l10081_31 : jC := ⟨⟨[(4, .c (.view 4000149 [])), (5, .v zI), (7, .c (.view 22 [])), (12, .v zI), (150, .v (.list false 72 (.str j6))), (151, .v zI), (152, .v zI)], [(22, true, .list true 26 zTv), (4000149, true, .list true 3 zI)], none⟩, [(.exit 8, ⟨[(4, .c (.view 4000149 [])), (5, .v zI)], [(4000149, true, .list true 3 zI)], none⟩)], L10081_31⟩
noncomputable def F10081 (n : Nat) (l_0 : (List (Int × Int))) (n_1 : Int) : Option zUj :=
  leK 0 (IntKind.wrap .i64 ((l_0.length : Int) + 1)) (leK (IntKind.wrap .i64 ((l_0.length : Int) + 1)) (IntKind.wrap .i64 ((l_0.length : Int) + 1)) (qX (IntKind.wrap .i64 ((l_0.length : Int) + 1)) (qa (L10081_4 n ((l_0, n_1, (IntKind.wrap .i64 (n_1 + 1000)), ((List.replicate (IntKind.wrap .i64 ((l_0.length : Int) + 1)).toNat ([] : List Int)).length : Int), 0, ()), ((List.replicate (IntKind.wrap .i64 ((l_0.length : Int) + 1)).toNat ([] : List Int)), ()), ())) fun o3 => jL (o3.1.1.length : Int) o3.2.1.1.length (qg o3.2.1.1 (o3.1.1.length : Int) fun e4 => jL 0 e4.length (qg o3.2.1.1 (o3.1.1.length : Int) fun e5 => qg e5 0 fun _ => qa (L10081_10 n ((o3.1.1, o3.1.2.1, o3.1.2.2.1, (IntKind.wrap .i64 ((o3.1.1.length : Int) - 1)), ()), ((o3.2.1.1.set (o3.1.1.length : Int).toNat (e5.set (0 : Int).toNat 0)), ()), ())) fun o30 => qa (L10081_22 n ((o30.1.1, o30.1.2.2.1, o30.1.2.1, o30.1.2.1, ()), (o30.2.1.1, ()), ())) fun o37 => jL 0 o37.2.1.1.length (qg o37.2.1.1 0 fun e38 => jL o37.1.2.1 e38.length (qg o37.2.1.1 0 fun e39 => qg e39 o37.1.2.1 fun e40 => cond (e40 == 1152921504606846976) (some ((([] : List Int), 0, ()), ())) (leK 0 (o37.1.1.length : Int) (leK (o37.1.1.length : Int) (o37.1.1.length : Int) (qX (o37.1.1.length : Int) (qa (L10081_31 n ((e40, o37.1.2.1, o37.1.1, (o37.1.1.length : Int), 0, ()), (o37.2.1.1, (List.replicate (o37.1.1.length : Int).toNat (0 : Int)), ()), ())) fun _ => none)))))))))))
noncomputable def g10081 (d : (List (Int × Int)) × Int × Unit) : Option zUj := F10081 fuel d.1 d.2.1
noncomputable def p10081 : qH := ⟨[.v (.list false 72 (.str j6)), .v zI], [.sure false 3 zI, .v zI], g10081⟩
noncomputable def c10081 : qW := ⟨218, tyT, [(22, .list true 26 zTv), (4, .bool)], [(101, p101)], [(4, l10081_4), (13, l10081_13), (10, l10081_10), (22, l10081_22), (34, l10081_34), (31, l10081_31)], [], [1000149], [], [], [], [], [], [], [], none⟩
theorem F10081_eq (n : Nat) (d) : qz c10081 n Tryz.f81 (body Tryz.f81) p10081.ps p10081.rs d = F10081 n d.1 d.2.1 := by kernel_rfl
theorem L10081_4_eq (n : Nat) (d) : (l10081_4).g (n + 1) d = run c10081 n (j7 0 (qe (body Tryz.f81))) ((l10081_4).ins.fill d) (qJ (l10081_4) n) := by kernel_rfl
theorem L10081_10_eq (n : Nat) (d) : (l10081_10).g (n + 1) d = run c10081 n (j7 1 (qe (body Tryz.f81))) ((l10081_10).ins.fill d) (qJ (l10081_10) n) := by kernel_rfl
theorem L10081_13_eq (n : Nat) (d) : (l10081_13).g (n + 1) d = run c10081 n (j7 2 (qe (body Tryz.f81))) ((l10081_13).ins.fill d) (qJ (l10081_13) n) := by kernel_rfl
theorem L10081_22_eq (n : Nat) (d) : (l10081_22).g (n + 1) d = run c10081 n (j7 3 (qe (body Tryz.f81))) ((l10081_22).ins.fill d) (qJ (l10081_22) n) := by kernel_rfl
theorem L10081_31_eq (n : Nat) (d) : (l10081_31).g (n + 1) d = run c10081 n (j7 4 (qe (body Tryz.f81))) ((l10081_31).ins.fill d) (qJ (l10081_31) n) := by kernel_rfl
theorem L10081_34_eq (n : Nat) (d) : (l10081_34).g (n + 1) d = run c10081 n (j7 5 (qe (body Tryz.f81))) ((l10081_34).ins.fill d) (qJ (l10081_34) n) := by kernel_rfl
theorem ls10081 : qe (body Tryz.f81) = [j7 0 (qe (body Tryz.f81)), j7 1 (qe (body Tryz.f81)), j7 2 (qe (body Tryz.f81)), j7 3 (qe (body Tryz.f81)), j7 4 (qe (body Tryz.f81)), j7 5 (qe (body Tryz.f81))] := by kernel_rfl
theorem d10081 : ql c10081 (body Tryz.f81) = true := by kernel_rfl
theorem h10081 : qx Tryz.prog 81 p10081 := hQ (cfg := c10081) (qn qq (qd h101 qh) rfl (by kernel_rfl)) Tryz.func81 (by kernel_rfl) (by rw [ls10081]; simp only [List.forall_mem_cons]; exact ⟨qF (key := 4) (li := l10081_4) (by kernel_rfl) rfl (fun _ => rfl) (L10081_4_eq), qF (key := 10) (li := l10081_10) (by kernel_rfl) rfl (fun _ => rfl) (L10081_10_eq), qF (key := 13) (li := l10081_13) (by kernel_rfl) rfl (fun _ => rfl) (L10081_13_eq), qF (key := 22) (li := l10081_22) (by kernel_rfl) rfl (fun _ => rfl) (L10081_22_eq), qF (key := 31) (li := l10081_31) (by kernel_rfl) rfl (fun _ => rfl) (L10081_31_eq), qF (key := 34) (li := l10081_34) (by kernel_rfl) rfl (fun _ => rfl) (L10081_34_eq), fun _ h => by cases h⟩) d10081 (F10081_eq fuel)
noncomputable def F47 (_n : Nat) (f_0 : zTz) (n_1 : Int) : Option (zUw × (Unit)) :=
  altK (g10081 (f_0.2.2.2.2.1, n_1, ())) (fun _ => some ((([] : List Int), 0, 3, ()), ())) (qa (g81 (f_0.2.2.2.2.1, n_1, ())) fun y2 => some ((y2.1.1, y2.1.2.1, 0, ()), ()))
noncomputable def g47 (d : zTz × Int × Unit) : Option (zUw × (Unit)) := F47 fuel d.1 d.2.1
noncomputable def p47 : qH := ⟨[.v (.str (.pair zI (.pair zI (.pair jE (.pair jE (.pair (.list false 72 (.str j6)) (.pair zI j6))))))), .v zI], [.own 3 zI, .v zI, .v zI], g47⟩
noncomputable def c47 : qW := ⟨20, tyT, [], [(81, p81)], [], [], [], [], [], [], [(81, p10081)], [], [], [], none⟩
theorem F47_eq (n : Nat) (d) : qz c47 n Tryz.f47 (body Tryz.f47) p47.ps p47.rs d = F47 n d.1 d.2.1 := by kernel_rfl
theorem d47 : ql c47 (body Tryz.f47) = true := by kernel_rfl
theorem h47 : qx Tryz.prog 47 p47 := hQ (cfg := c47) (qn qq (qd h81 qh) rfl (by kernel_rfl) (hal := qd h10081 qh)) Tryz.func47 (by kernel_rfl) (qr (by kernel_rfl)) d47 (F47_eq fuel)
noncomputable def F18 (_n : Nat) (f_0 : zTz) (n_1 : Int) : Option (zUw × (Unit)) :=
  qa (g45 (f_0, ())) fun y1 => cond (y1.1.1 != 0) (some ((([] : List Int), 0, y1.1.1, ()), ())) (qa (g46 (n_1, 0, 1000, ())) fun y2 => cond (!y2.1.1) (some ((([] : List Int), 0, 1, ()), ())) (qa (g47 (f_0, n_1, ())) fun y3 => some ((y3.1.1, y3.1.2.1, y3.1.2.2.1, ()), ())))
noncomputable def g18 (d : zTz × Int × Unit) : Option (zUw × (Unit)) := F18 fuel d.1 d.2.1
noncomputable def p18 : qH := ⟨[.v (.str (.pair zI (.pair zI (.pair jE (.pair jE (.pair (.list false 72 (.str j6)) (.pair zI j6))))))), .v zI], [.own 3 zI, .v zI, .v zI], g18⟩
noncomputable def c18 : qW := ⟨22, tyT, [], [(45, p45), (46, p46), (47, p47)], [], [], [], [], [], [], [], [], [], [], none⟩
theorem F18_eq (n : Nat) (d) : qz c18 n Tryz.f18 (body Tryz.f18) p18.ps p18.rs d = F18 n d.1 d.2.1 := by kernel_rfl
theorem d18 : ql c18 (body Tryz.f18) = true := by kernel_rfl
theorem h18 : qx Tryz.prog 18 p18 := hQ (cfg := c18) (qn qq (qd h45 (qd h46 (qd h47 qh))) rfl (by kernel_rfl)) Tryz.func18 (by kernel_rfl) (qr (by kernel_rfl)) d18 (F18_eq fuel)
noncomputable def F6 (_n : Nat)  : Option zTm :=
  qbu ((0 : Int), (0 : Int), [5], [0], [(1, 200), (6, 1000)], (0 : Int), (0 : Int), 1) fun z1 => qa (g18 (z1, 7, ())) fun y2 => cond (y2.1.2.2.1 == 0) (cond (y2.1.2.1 == 1200) (qa (g14 (y2.1.1, [1, 1], ())) fun y3 => some ((y3.1.1, ()), ())) (some ((false, ()), ()))) (some ((false, ()), ()))
noncomputable def g6 (_d : Unit) : Option zTm := F6 fuel 
noncomputable def p6 : qH := ⟨[], [.v .bool], g6⟩
noncomputable def c6 : qW := ⟨28, tyT, [], [(14, p14), (18, p18)], [], [], [], [], [], [], [], [], [], [], none⟩
theorem F6_eq (n : Nat) (d) : qz c6 n Tryz.f6 (body Tryz.f6) p6.ps p6.rs d = F6 n  := by kernel_rfl
theorem d6 : ql c6 (body Tryz.f6) = true := by kernel_rfl
theorem h6 : qx Tryz.prog 6 p6 := hQ (cfg := c6) (qn qq (qd h14 (qd h18 qh)) rfl (by kernel_rfl)) Tryz.func6 (by kernel_rfl) (qr (by kernel_rfl)) d6 (F6_eq fuel)
noncomputable def F19 (_n : Nat) (f_0 : zTw) : Option ((zTw × Unit) × (Unit)) :=
  qX ((([] : List (Int × zTl)).length : Int) + f_0.1.length) (some ((((([] : List (Int × zTl)) ++ f_0.1), f_0.2), ()), ()))
noncomputable def g19 (d : zTw × Unit) : Option ((zTw × Unit) × (Unit)) := F19 fuel d.1
noncomputable def p19 : qH := ⟨[.v (.str zTe)], [.v (.str zTe)], g19⟩
noncomputable def c19 : qW := ⟨10, tyT, [(1, .str zTe), (6, .list true 145 (.str (.pair zI zTk)))], [], [], [], [1], [], [], [], [], [], [], [], none⟩
theorem F19_eq (n : Nat) (d) : qz c19 n Tryz.f19 (body Tryz.f19) p19.ps p19.rs d = F19 n d.1 := by kernel_rfl
theorem d19 : ql c19 (body Tryz.f19) = true := by kernel_rfl
theorem h19 : qx Tryz.prog 19 p19 := hQ (cfg := c19) (qn qq (qh) rfl (by kernel_rfl)) Tryz.func19 (by kernel_rfl) (qr (by kernel_rfl)) d19 (F19_eq fuel)
noncomputable def F7 (_n : Nat) (g_0 : zTd) : Option ((zTd × Unit) × (Unit)) :=
  qa (g19 (g_0.1, ())) fun y1 => qgc (qX ((([] : List (Int × zTg)).length : Int) + g_0.2.2.1.length) (qbu (((y1.1.1, g_0.2).1, (((([] : List zTl) ++ g_0.2.1.1), (([] : List Int) ++ g_0.2.1.2.1), (([] : List Int) ++ g_0.2.1.2.2)), ((y1.1.1, g_0.2).2).2)).1, ((((y1.1.1, g_0.2).1, (((([] : List zTl) ++ g_0.2.1.1), (([] : List Int) ++ g_0.2.1.2.1), (([] : List Int) ++ g_0.2.1.2.2)), ((y1.1.1, g_0.2).2).2)).2).1, ((([] : List (Int × zTg)) ++ g_0.2.2.1), ((((y1.1.1, g_0.2).1, (((([] : List zTl) ++ g_0.2.1.1), (([] : List Int) ++ g_0.2.1.2.1), (([] : List Int) ++ g_0.2.1.2.2)), ((y1.1.1, g_0.2).2).2)).2).2).2))) fun z2 => qX ((([] : List zTg).length : Int) + g_0.2.2.2.2.1.1.length) (qbu (z2.1, (z2.2.1, (z2.2.2.1, (z2.2.2.2.1, (((([] : List zTg) ++ g_0.2.2.2.2.1.1), z2.2.2.2.2.1.2), z2.2.2.2.2.2))))) fun z3 => qX ((([] : List zTg).length : Int) + g_0.2.2.2.2.1.2.1.length) (qbu (z3.1, (z3.2.1, (z3.2.2.1, (z3.2.2.2.1, ((z3.2.2.2.2.1.1, ((([] : List zTg) ++ g_0.2.2.2.2.1.2.1), z3.2.2.2.2.1.2.2)), z3.2.2.2.2.2))))) fun z4 => qX ((([] : List Int).length : Int) + g_0.2.2.2.2.2.1.length) (qbu (z4.1, (z4.2.1, (z4.2.2.1, (z4.2.2.2.1, (z4.2.2.2.2.1, ((([] : List Int) ++ g_0.2.2.2.2.2.1), z4.2.2.2.2.2.2)))))) fun z5 => qX ((([] : List Int).length : Int) + g_0.2.2.2.2.2.2.length) (qbu (z5.1, (z5.2.1, (z5.2.2.1, (z5.2.2.2.1, (z5.2.2.2.2.1, (z5.2.2.2.2.2.1, (([] : List Int) ++ g_0.2.2.2.2.2.2))))))) fun z6 => some ((z6, ()), ()))))))) fun E => qP [qP [qX ((([] : List zTl).length : Int) + g_0.2.1.1.length) (qP [qP [qX ((([] : List Int).length : Int) + g_0.2.1.2.1.length) (qX ((([] : List Int).length : Int) + g_0.2.1.2.2.length) (E)), qX ((([] : List Int).length : Int) + g_0.2.1.2.1.length) (qX ((([] : List Int).length : Int) + g_0.2.1.2.2.length) (E))], qX ((([] : List Int).length : Int) + g_0.2.1.2.1.length) (qX ((([] : List Int).length : Int) + g_0.2.1.2.2.length) (E))]), qP [qX ((([] : List zTl).length : Int) + g_0.2.1.1.length) (qP [qX ((([] : List Int).length : Int) + g_0.2.1.2.1.length) (qX ((([] : List Int).length : Int) + g_0.2.1.2.2.length) (E)), qX ((([] : List Int).length : Int) + g_0.2.1.2.1.length) (qX ((([] : List Int).length : Int) + g_0.2.1.2.2.length) (E))]), qX ((([] : List zTl).length : Int) + g_0.2.1.1.length) (qX ((([] : List Int).length : Int) + g_0.2.1.2.1.length) (qX ((([] : List Int).length : Int) + g_0.2.1.2.2.length) (E)))], qP [qX ((([] : List zTl).length : Int) + g_0.2.1.1.length) (qX ((([] : List Int).length : Int) + g_0.2.1.2.1.length) (qX ((([] : List Int).length : Int) + g_0.2.1.2.2.length) (E))), qX ((([] : List zTl).length : Int) + g_0.2.1.1.length) (qX ((([] : List Int).length : Int) + g_0.2.1.2.1.length) (qX ((([] : List Int).length : Int) + g_0.2.1.2.2.length) (E)))]], qP [qP [qX ((([] : List zTl).length : Int) + g_0.2.1.1.length) (qP [qX ((([] : List Int).length : Int) + g_0.2.1.2.1.length) (qX ((([] : List Int).length : Int) + g_0.2.1.2.2.length) (E)), qX ((([] : List Int).length : Int) + g_0.2.1.2.1.length) (qX ((([] : List Int).length : Int) + g_0.2.1.2.2.length) (E))]), qX ((([] : List zTl).length : Int) + g_0.2.1.1.length) (qX ((([] : List Int).length : Int) + g_0.2.1.2.1.length) (qX ((([] : List Int).length : Int) + g_0.2.1.2.2.length) (E)))], qX ((([] : List zTl).length : Int) + g_0.2.1.1.length) (qX ((([] : List Int).length : Int) + g_0.2.1.2.1.length) (qX ((([] : List Int).length : Int) + g_0.2.1.2.2.length) (E)))], qP [qP [qX ((([] : List zTl).length : Int) + g_0.2.1.1.length) (qX ((([] : List Int).length : Int) + g_0.2.1.2.1.length) (qX ((([] : List Int).length : Int) + g_0.2.1.2.2.length) (E))), qX ((([] : List zTl).length : Int) + g_0.2.1.1.length) (qX ((([] : List Int).length : Int) + g_0.2.1.2.1.length) (qX ((([] : List Int).length : Int) + g_0.2.1.2.2.length) (E)))], qX ((([] : List zTl).length : Int) + g_0.2.1.1.length) (qX ((([] : List Int).length : Int) + g_0.2.1.2.1.length) (qX ((([] : List Int).length : Int) + g_0.2.1.2.2.length) (E)))]]
noncomputable def g7 (d : zTd × Unit) : Option ((zTd × Unit) × (Unit)) := F7 fuel d.1
noncomputable def p7 : qH := ⟨[.v (.str (.pair (.str zTe) (.pair (.str zTb) (.pair (.list false 68 (.str (.pair zI qR))) (.pair zI (.pair (.str (.pair (.list false 51 (.str qR)) (.pair (.list false 116 (.str qR)) (.pair zI j6)))) (.pair jE jE)))))))], [.ownv (.str (.pair (.str zTe) (.pair (.str zTb) (.pair (.list true 68 (.str (.pair zI qR))) (.pair zI (.pair (.str (.pair (.list true 51 (.str qR)) (.pair (.list true 116 (.str qR)) (.pair zI j6)))) (.pair jE jE)))))))], g7⟩
noncomputable def c7 : qW := ⟨56, tyT, [(1, .str (.pair (.str zTe) (.pair (.str zTb) (.pair (.list false 68 (.str (.pair zI qR))) (.pair zI (.pair (.str (.pair (.list false 51 (.str qR)) (.pair (.list false 116 (.str qR)) (.pair zI j6)))) (.pair jE jE))))))), (13, .list true 150 (.str zTk)), (18, .list true 3 zI), (23, .list true 3 zI), (29, .list true 68 (.str (.pair zI qR))), (35, .list true 51 (.str qR)), (42, .list true 116 (.str qR)), (48, .list true 3 zI), (53, .list true 3 zI), (55, .str (.pair (.str zTe) (.pair (.str zTb) (.pair (.list true 68 (.str (.pair zI qR))) (.pair zI (.pair (.str (.pair (.list true 51 (.str qR)) (.pair (.list true 116 (.str qR)) (.pair zI j6)))) (.pair jE jE))))))), (2, .str (.pair (.str zTe) (.pair (.str zTb) (.pair (.list true 68 (.str (.pair zI qR))) (.pair zI (.pair (.str (.pair (.list true 51 (.str qR)) (.pair (.list true 116 (.str qR)) (.pair zI j6)))) (.pair jE jE)))))))], [(19, p19)], [], [], [3, 6000030, 6000037, 6000044], [], [], [], [], [], [], [], none⟩
theorem F7_eq (n : Nat) (d) : qz c7 n Tryz.f7 (body Tryz.f7) p7.ps p7.rs d = F7 n d.1 := by kernel_rfl
theorem d7 : ql c7 (body Tryz.f7) = true := by kernel_rfl
theorem h7 : qx Tryz.prog 7 p7 := hQ (cfg := c7) (qn qq (qd h19 qh) rfl (by kernel_rfl)) Tryz.func7 (by kernel_rfl) (qr (by kernel_rfl)) d7 (F7_eq fuel)
noncomputable def F56 (_n : Nat) (n_0 : Int) (low_1 : Int) (high_2 : Int) : Option zTm :=
  cond (decide (n_0 ≥ low_1)) (some (((decide (n_0 ≤ high_2)), ()), ())) (some ((false, ()), ()))
noncomputable def g56 (d : Int × Int × Int × Unit) : Option zTm := F56 fuel d.1 d.2.1 d.2.2.1
noncomputable def p56 : qH := ⟨[.v zI, .v zI, .v zI], [.v .bool], g56⟩
noncomputable def c56 : qW := ⟨15, tyT, [], [], [], [], [], [], [], [], [], [], [], [], none⟩
theorem F56_eq (n : Nat) (d) : qz c56 n Tryz.f56 (body Tryz.f56) p56.ps p56.rs d = F56 n d.1 d.2.1 d.2.2.1 := by kernel_rfl
theorem d56 : ql c56 (body Tryz.f56) = true := by kernel_rfl
theorem h56 : qx Tryz.prog 56 p56 := hQ (cfg := c56) (qn qq (qh) rfl (by kernel_rfl)) Tryz.func56 (by kernel_rfl) (qr (by kernel_rfl)) d56 (F56_eq fuel)
noncomputable def B55_4 (_n : Nat) (L : (Int × Unit) × (zTw × Unit) × Unit → Option (zTn ⊕ zTr)) (i_3 : Int) (o_1 : (List (Int × zTl)) × Int) : Option (zTn ⊕ zTr) :=
  cond (decide (i_3 < (o_1.1.length : Int))) (qg o_1.1 i_3 fun e2 => qa (g56 (e2.1, 1, 40, ())) fun y3 => cond (!y3.1.1) (some (.inl ((70, ()), (), ()))) (qa (g56 (e2.2.1, 0, 100, ())) fun y4 => cond (!y4.1.1) (some (.inl ((70, ()), (), ()))) (qa (g56 (e2.2.2.1, 1, 100, ())) fun y5 => cond (!y5.1.1) (some (.inl ((70, ()), (), ()))) (qa (g56 (e2.2.2.2.1, 0, 100, ())) fun y6 => cond (!y6.1.1) (some (.inl ((70, ()), (), ()))) (L (((IntKind.wrap .i64 (i_3 + 1)), ()), (o_1, ()), ())))))) (some (.inr ((), (), ())))
noncomputable def L55_4 : Nat → (Int × Unit) × (zTw × Unit) × Unit → Option (zTn ⊕ zTr)
  | 0, _ => none
  | n + 1, d => B55_4 n (L55_4 n) d.1.1 d.2.1.1
noncomputable def l55_4 : jC := ⟨⟨[(1, .c (.ptr 1 [])), (3, .v zI)], [(1, false, .str zTe)], none⟩, [(.ret, ⟨[(2, .v zI)], [], none⟩), (.exit 0, ⟨[], [], none⟩)], L55_4⟩
noncomputable def F55 (n : Nat) (f_0 : zTw) : Option zTu :=
  cond (decide ((f_0.1.length : Int) > 8)) (some ((70, ()), ())) (qa (g56 (f_0.2, 0, 100, ())) fun y1 => cond (!y1.1.1) (some ((70, ()), ())) (qa (L55_4 n ((0, ()), (f_0, ()), ())) fun o7 => qaP o7 (fun d8 => some ((d8.1.1, ()), ())) (fun _ => some ((0, ()), ()))))
noncomputable def g55 (d : zTw × Unit) : Option zTu := F55 fuel d.1
noncomputable def p55 : qH := ⟨[.v (.str zTe)], [.v zI], g55⟩
noncomputable def c55 : qW := ⟨49, tyT, [], [(56, p56)], [(4, l55_4)], [], [], [], [], [], [], [], [], [], none⟩
theorem F55_eq (n : Nat) (d) : qz c55 n Tryz.f55 (body Tryz.f55) p55.ps p55.rs d = F55 n d.1 := by kernel_rfl
theorem L55_4_eq (n : Nat) (d) : (l55_4).g (n + 1) d = run c55 n (j7 0 (qe (body Tryz.f55))) ((l55_4).ins.fill d) (qJ (l55_4) n) := by kernel_rfl
theorem ls55 : qe (body Tryz.f55) = [j7 0 (qe (body Tryz.f55))] := by kernel_rfl
theorem d55 : ql c55 (body Tryz.f55) = true := by kernel_rfl
theorem h55 : qx Tryz.prog 55 p55 := hQ (cfg := c55) (qn qq (qd h56 qh) rfl (by kernel_rfl)) Tryz.func55 (by kernel_rfl) (by rw [ls55]; simp only [List.forall_mem_cons]; exact ⟨qF (key := 4) (li := l55_4) (by kernel_rfl) rfl (fun _ => rfl) (L55_4_eq), fun _ h => by cases h⟩) d55 (F55_eq fuel)
noncomputable def B27_13 (_n : Nat) (L : ((List zTq) × Int × Int × Unit) × (zTw × zTq × Unit) × Unit → Option (zTn ⊕ zVk)) (l_1 : List zTq) (i_6 : Int) (k_8 : Int) (o_2 : (List (Int × zTl)) × Int) (o_7 : Int × (Int × (Int × ((List Int) × Int)))) : Option (zTn ⊕ zVk) :=
  cond (decide (k_8 < (o_7.2.2.2.1.length : Int))) (qg o_7.2.2.2.1 k_8 fun e7 => qa (g56 (e7, 0, (IntKind.wrap .i64 ((o_2.1.length : Int) - 1)), ())) fun y8 => cond (!y8.1.1) (some (.inl ((71, ()), (), ()))) (L ((l_1, i_6, (IntKind.wrap .i64 (k_8 + 1)), ()), (o_2, o_7, ()), ()))) (some (.inr ((l_1, i_6, ()), (o_2, ()), ())))
noncomputable def L27_13 : Nat → ((List zTq) × Int × Int × Unit) × (zTw × zTq × Unit) × Unit → Option (zTn ⊕ zVk)
  | 0, _ => none
  | n + 1, d => B27_13 n (L27_13 n) d.1.1 d.1.2.1 d.1.2.2.1 d.2.1.1 d.2.1.2.1
noncomputable def l27_13 : jC := ⟨⟨[(1, .v (.list false 110 (.str (.pair zI (.pair zI (.pair zI (.pair jE zI))))))), (2, .c (.ptr 2 [])), (6, .v zI), (7, .c (.ptr 7 [])), (8, .v zI)], [(2, false, .str zTe), (7, false, .str (.pair zI (.pair zI (.pair zI (.pair jE zI)))))], none⟩, [(.ret, ⟨[(4, .v zI)], [], none⟩), (.exit 2, ⟨[(1, .v (.list false 110 (.str (.pair zI (.pair zI (.pair zI (.pair jE zI))))))), (2, .c (.ptr 2 [])), (6, .v zI)], [(2, false, .str zTe)], none⟩)], L27_13⟩
noncomputable def B27_7 (n : Nat) (L : ((List zTq) × Int × Unit) × (zTw × Unit) × Unit → Option (zTn ⊕ zTr)) (l_1 : List zTq) (i_6 : Int) (o_2 : (List (Int × zTl)) × Int) : Option (zTn ⊕ zTr) :=
  cond (decide (i_6 < (l_1.length : Int))) (qg l_1 i_6 fun e2 => qa (g56 (e2.1, 0, 2000, ())) fun y3 => cond (!y3.1.1) (some (.inl ((71, ()), (), ()))) (qa (g56 (e2.2.1, 1, 40, ())) fun y4 => cond (!y4.1.1) (some (.inl ((71, ()), (), ()))) (qa (g56 (e2.2.2.1, 0, 10000, ())) fun y5 => cond (!y5.1.1) (some (.inl ((71, ()), (), ()))) (cond (decide ((e2.2.2.2.1.length : Int) > 10)) (some (.inl ((71, ()), (), ()))) (qa (g56 (e2.2.2.2.2, 0, 2000, ())) fun y6 => cond (!y6.1.1) (some (.inl ((71, ()), (), ()))) (qa (L27_13 n ((l_1, i_6, 0, ()), (o_2, e2, ()), ())) fun o9 => qaP o9 (fun d10 => some (.inl ((d10.1.1, ()), (), ()))) (fun d11 => L ((d11.1.1, (IntKind.wrap .i64 (d11.1.2.1 + 1)), ()), (d11.2.1.1, ()), ())))))))) (some (.inr ((), (), ())))
noncomputable def L27_7 : Nat → ((List zTq) × Int × Unit) × (zTw × Unit) × Unit → Option (zTn ⊕ zTr)
  | 0, _ => none
  | n + 1, d => B27_7 n (L27_7 n) d.1.1 d.1.2.1 d.2.1.1
noncomputable def l27_7 : jC := ⟨⟨[(1, .v (.list false 110 (.str (.pair zI (.pair zI (.pair zI (.pair jE zI))))))), (2, .c (.ptr 2 [])), (6, .v zI)], [(2, false, .str zTe)], none⟩, [(.ret, ⟨[(4, .v zI)], [], none⟩), (.exit 0, ⟨[], [], none⟩)], L27_7⟩
noncomputable def F27 (n : Nat) (f_0 : zTw) (l_1 : (List zTq)) : Option zTu :=
  qa (g55 (f_0, ())) fun y1 => cond (y1.1.1 != 0) (some ((y1.1.1, ()), ())) (cond (decide ((l_1.length : Int) > 60)) (some ((71, ()), ())) (qa (L27_7 n ((l_1, 0, ()), (f_0, ()), ())) fun o12 => qaP o12 (fun d13 => some ((d13.1.1, ()), ())) (fun _ => some ((0, ()), ()))))
noncomputable def g27 (d : zTw × (List zTq) × Unit) : Option zTu := F27 fuel d.1 d.2.1
noncomputable def p27 : qH := ⟨[.v (.str zTe), .v (.list false 110 (.str (.pair zI (.pair zI (.pair zI (.pair jE zI))))))], [.v zI], g27⟩
noncomputable def c27 : qW := ⟨73, tyT, [], [(55, p55), (56, p56)], [(13, l27_13), (7, l27_7)], [], [], [], [], [], [], [], [], [], none⟩
theorem F27_eq (n : Nat) (d) : qz c27 n Tryz.f27 (body Tryz.f27) p27.ps p27.rs d = F27 n d.1 d.2.1 := by kernel_rfl
theorem L27_7_eq (n : Nat) (d) : (l27_7).g (n + 1) d = run c27 n (j7 0 (qe (body Tryz.f27))) ((l27_7).ins.fill d) (qJ (l27_7) n) := by kernel_rfl
theorem L27_13_eq (n : Nat) (d) : (l27_13).g (n + 1) d = run c27 n (j7 1 (qe (body Tryz.f27))) ((l27_13).ins.fill d) (qJ (l27_13) n) := by kernel_rfl
theorem ls27 : qe (body Tryz.f27) = [j7 0 (qe (body Tryz.f27)), j7 1 (qe (body Tryz.f27))] := by kernel_rfl
theorem d27 : ql c27 (body Tryz.f27) = true := by kernel_rfl
theorem h27 : qx Tryz.prog 27 p27 := hQ (cfg := c27) (qn qq (qd h55 (qd h56 qh)) rfl (by kernel_rfl)) Tryz.func27 (by kernel_rfl) (by rw [ls27]; simp only [List.forall_mem_cons]; exact ⟨qF (key := 7) (li := l27_7) (by kernel_rfl) rfl (fun _ => rfl) (L27_7_eq), qF (key := 13) (li := l27_13) (by kernel_rfl) rfl (fun _ => rfl) (L27_13_eq), fun _ h => by cases h⟩) d27 (F27_eq fuel)
end Go.Proofs.Tryz.V
