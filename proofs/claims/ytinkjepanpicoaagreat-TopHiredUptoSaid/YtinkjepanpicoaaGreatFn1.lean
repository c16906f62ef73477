/- The contracts of functions of the program, printed by program from the interpreter: each says what a call returns. No condition beyond those typed in each theorem. -/
import Derived.Test.YtinkjepanpicoaaGreatMk
import Derived.Test.YtinkjepanpicoaaGreatProg
namespace Go.Proofs.Tryz.V
open Go.Vi
set_option maxRecDepth 100000
abbrev zI : Ty := .int .i64
abbrev zTf : Type := Int × (Int × (Int × Int))
abbrev jD : Ty := .list false 3 zI
abbrev zTh : Ty := .pair zI zI
abbrev qQ : Ty := .pair zI (.pair zI zTh)
abbrev zTi : Ty := .pair zI (.pair zI (.pair zI .bool))
abbrev zTb : Ty := .pair (.list false 150 (.str zTi)) (.pair jD jD)
abbrev zTd : Ty := .pair (.list false 145 (.str (.pair zI zTi))) zI
abbrev zTj : Type := Int × (Int × (Int × Bool))
abbrev zTl : Type := (Bool × Unit) × (Unit)
abbrev zTm : Type := (Int × Unit) × (Unit) × Unit
abbrev zTn : Type := (List (List Int)) × Unit
abbrev zTo : Type := Int × (Int × (Int × ((List Int) × Int)))
abbrev zTq : Type := (Int × Unit) × (Unit)
abbrev zTr : Type := (Unit) × (Unit) × Unit
abbrev zTs : Type := (List Int) × Unit
abbrev zTt : Type := (List (Int × zTj)) × Int
abbrev zTu : Type := Int × (Int × ((List Int) × ((List Int) × ((List (Int × Int)) × (Int × (Int × Int))))))
abbrev zTv : Type := (((List (Int × Int)) × Int × Int × Unit) × zTn × Unit)
abbrev zTw : Ty := .list true 3 zI
abbrev zTx : Type := (List (Int × Int)) × Int × Int × Int × Unit
abbrev zTz : Type := ((Unit) × zTs × Unit)
abbrev zUa : Type := (List Int) × (List Int)
abbrev zTe : Type := (List zTj) × zUa
abbrev zTp : Type := zTe × (List (Int × zTf))
abbrev zUb : Ty := .arr 3 zI
abbrev zUc : Type := (((List (Int × Int)) × Int × Unit) × zTn × Unit)
abbrev zUd : Type := ((List Int) × Int × Unit) × (Unit)
abbrev zUe : Type := (Bool × Unit) × (Unit) × Unit
abbrev zUf : Type := (((List Int) × (List Int) × Int × (List Int) × Int × Bool × Int × Int × Int × Int × Unit) × zTs × Unit)
abbrev zUg : Type := ((List Int) × Int × Int × Unit) × (Unit)
abbrev zUh : Type := Int × Int × (List (Int × Int)) × Int × Int × Unit
abbrev zUj : Type := (List zTf) × (Int × (Int × Int))
abbrev zTk : Type := (List zTf) × zUj
abbrev zUi : Type := zTe × ((List (Int × zTf)) × (Int × (zTk × zUa)))
abbrev zTc : Type := zTt × zUi
abbrev zUk : Type := Int × Int × Int × Int × (List (Int × Int)) × Int × Int × Unit
abbrev zUl : Type := (Int × Int × Unit) × (Unit)
abbrev zUm : Type := (List (Int × zTf)) × Int × Int × Unit
abbrev zUn : Type := (List (Int × Int)) × Int × Int × Int × Int × Int × Unit
abbrev zUo : Type := (Int × Int) × (List (List Int)) × (List Int) × Unit
abbrev zUp : Type := (List (Int × Int)) × Int × Int × Int × Int × Unit
abbrev zUq : Type := (List (List Int)) × (List Int) × Unit
abbrev zTy : Type := (zUh × zUq × Unit)
abbrev zUr : Type := (Unit) × (zTk × Unit) × Unit
abbrev zUs : Type := (Unit) × (zTe × Unit) × Unit
abbrev zUt : Type := ((Int × Unit) × zTs × Unit)
abbrev zUu : Type := Int × Int × Int × Unit
abbrev zUv : Type := (((List Int) × Int × Bool × Unit) × (Unit) × Unit)
abbrev zUw : Type := ((Unit) × zTn × Unit)
abbrev zUx : Type := ((List Int) × (List Int) × Unit) × (Unit) × Unit
abbrev zUy : Type := ((List zTo) × Int × Unit) × (zTt × Unit) × Unit
def tyT : List (Nat × Ty) := [(2, .int .i64), (3, .int .i64), (4, .bool), (5, .int .u8), (6, .int .u8), (7, .str (.pair zI (.pair zI (.pair .bool (.int .u8))))), (8, .str (.pair zI (.pair zI (.pair .bool (.int .u8))))), (12, .int .u64), (21, .int .i32), (22, .list false 145 (.str (.pair zI zTi))), (23, .str zTd), (24, .str zTd), (25, .list false 150 (.str zTi)), (26, .list false 3 zI), (27, .str zTb), (28, .str zTb), (29, .list false 68 (.str (.pair zI qQ))), (30, .list false 51 (.str qQ)), (31, .list false 116 (.str qQ)), (32, .str (.pair (.list false 51 (.str qQ)) (.pair (.list false 116 (.str qQ)) (.pair zI zTh)))), (33, .str (.pair (.list false 51 (.str qQ)) (.pair (.list false 116 (.str qQ)) (.pair zI zTh)))), (34, .str (.pair (.str zTd) (.pair (.str zTb) (.pair (.list false 68 (.str (.pair zI qQ))) (.pair zI (.pair (.str (.pair (.list false 51 (.str qQ)) (.pair (.list false 116 (.str qQ)) (.pair zI zTh)))) (.pair jD jD))))))), (35, .str (.pair (.str zTd) (.pair (.str zTb) (.pair (.list false 68 (.str (.pair zI qQ))) (.pair zI (.pair (.str (.pair (.list false 51 (.str qQ)) (.pair (.list false 116 (.str qQ)) (.pair zI zTh)))) (.pair jD jD))))))), (36, .str (.pair jD jD)), (37, .str (.pair jD jD)), (38, .fn (.str (.pair (.str zTd) (.pair (.str zTb) (.pair (.list false 68 (.str (.pair zI qQ))) (.pair zI (.pair (.str (.pair (.list false 51 (.str qQ)) (.pair (.list false 116 (.str qQ)) (.pair zI zTh)))) (.pair jD jD))))))) .bool), (41, .int .i64), (42, .fn (.str (.pair (.str zTd) (.pair (.str zTb) (.pair (.list false 68 (.str (.pair zI qQ))) (.pair zI (.pair (.str (.pair (.list false 51 (.str qQ)) (.pair (.list false 116 (.str qQ)) (.pair zI zTh)))) (.pair jD jD))))))) zI), (43, .list false 47 zUb), (46, .int .u64), (47, .arr 3 zI), (50, .str qQ), (51, .str qQ), (55, .fn2 jD jD .bool), (56, .fn2 (.str (.pair (.str zTd) (.pair (.str zTb) (.pair (.list false 68 (.str (.pair zI qQ))) (.pair zI (.pair (.str (.pair (.list false 51 (.str qQ)) (.pair (.list false 116 (.str qQ)) (.pair zI zTh)))) (.pair jD jD))))))) (.str (.pair jD jD)) .bool), (57, .list false 100 (.str (.pair zI (.pair zI (.pair zI jD))))), (58, .list false 26 jD), (59, .str (.pair (.list false 100 (.str (.pair zI (.pair zI (.pair zI jD))))) (.pair zI (.list false 26 jD)))), (60, .str (.pair (.list false 100 (.str (.pair zI (.pair zI (.pair zI jD))))) (.pair zI (.list false 26 jD)))), (61, .list false 135 (.str zTh)), (62, .str (.pair (.str (.pair (.list false 100 (.str (.pair zI (.pair zI (.pair zI jD))))) (.pair zI (.list false 26 jD)))) (.list false 135 (.str zTh)))), (63, .str (.pair (.str (.pair (.list false 100 (.str (.pair zI (.pair zI (.pair zI jD))))) (.pair zI (.list false 26 jD)))) (.list false 135 (.str zTh)))), (64, .fn (.str (.pair (.list false 100 (.str (.pair zI (.pair zI (.pair zI jD))))) (.pair zI (.list false 26 jD)))) zI), (67, .str (.pair zI qQ)), (68, .str (.pair zI qQ)), (69, .fn2 jD zI .bool), (71, .str zTh), (72, .str zTh), (73, .list false 72 (.str zTh)), (74, .str (.pair zI (.pair zI (.pair jD (.pair jD (.pair (.list false 72 (.str zTh)) (.pair zI zTh))))))), (75, .str (.pair zI (.pair zI (.pair jD (.pair jD (.pair (.list false 72 (.str zTh)) (.pair zI zTh))))))), (78, .fn2 (.str zTd) (.list false 110 (.str (.pair zI (.pair zI (.pair zI (.pair jD zI)))))) zI), (81, .fn (.str (.pair (.list false 51 (.str qQ)) (.pair (.list false 116 (.str qQ)) (.pair zI zTh)))) zI), (82, .fn zI .bool), (85, .fn2 jD (.fn zI .bool) .bool), (86, .fn2 (.str (.pair (.list false 51 (.str qQ)) (.pair (.list false 116 (.str qQ)) (.pair zI zTh)))) zI zI), (87, .list false 89 zUb), (89, .arr 3 zI), (92, .fn2 jD jD zI), (94, .str (.pair (.str zTb) (.list false 68 (.str (.pair zI qQ))))), (95, .str (.pair (.str zTb) (.list false 68 (.str (.pair zI qQ))))), (99, .str (.pair zI (.pair zI (.pair zI jD)))), (100, .str (.pair zI (.pair zI (.pair zI jD)))), (101, .list false 4 .bool), (102, .list false 4 .bool), (105, .fn2 (.list false 4 .bool) .bool .bool), (106, .fn (.str (.pair zI (.pair zI (.pair jD (.pair jD (.pair (.list false 72 (.str zTh)) (.pair zI zTh))))))) zI), (107, .list false 110 (.str (.pair zI (.pair zI (.pair zI (.pair jD zI)))))), (108, .fn (.str zTd) zI), (109, .str (.pair zI (.pair zI (.pair zI (.pair jD zI))))), (110, .str (.pair zI (.pair zI (.pair zI (.pair jD zI))))), (111, .fn (.str (.pair zI (.pair zI (.pair zI (.pair jD zI))))) .bool), (112, .fn2 (.list false 110 (.str (.pair zI (.pair zI (.pair zI (.pair jD zI)))))) (.fn (.str (.pair zI (.pair zI (.pair zI (.pair jD zI))))) .bool) .bool), (115, .str qQ), (116, .str qQ), (117, .fn2 jD (.fn zI .bool) zI), (118, .fn (.str zTb) zI), (120, .fn2 (.str (.pair (.list false 51 (.str qQ)) (.pair (.list false 116 (.str qQ)) (.pair zI zTh)))) zI .bool), (123, .fn2 zI zI zI), (128, .fn zI zI), (129, .fn2 zI (.fn (.str (.pair zI qQ)) .bool) zI), (130, .fn (.str (.pair zI qQ)) .bool), (131, .ptr (.str (.pair (.str (.pair (.list false 100 (.str (.pair zI (.pair zI (.pair zI jD))))) (.pair zI (.list false 26 jD)))) (.pair (.list false 26 jD) (.list false 26 jD))))), (134, .str zTh), (135, .str zTh), (136, .fn2 (.list false 4 .bool) zI .bool), (137, .str (.pair (.str (.pair (.list false 100 (.str (.pair zI (.pair zI (.pair zI jD))))) (.pair zI (.list false 26 jD)))) (.pair (.list false 26 jD) (.list false 26 jD)))), (138, .str (.pair (.str (.pair (.list false 100 (.str (.pair zI (.pair zI (.pair zI jD))))) (.pair zI (.list false 26 jD)))) (.pair (.list false 26 jD) (.list false 26 jD)))), (139, .fn2 (.list false 4 .bool) .bool zI), (140, .fn2 (.list false 72 (.str zTh)) (.fn (.str zTh) .bool) .bool), (141, .fn (.str zTh) .bool), (144, .str (.pair zI zTi)), (145, .str (.pair zI zTi)), (146, .fn (.str (.pair zI zTi)) .bool), (147, .fn2 (.list false 145 (.str (.pair zI zTi))) (.fn (.str (.pair zI zTi)) .bool) .bool), (148, .fn2 (.list false 110 (.str (.pair zI (.pair zI (.pair zI (.pair jD zI)))))) (.fn (.str (.pair zI (.pair zI (.pair zI (.pair jD zI))))) .bool) zI), (149, .str zTi), (150, .str zTi), (152, .fn2 (.list false 68 (.str (.pair zI qQ))) zI .bool), (155, .fn2 (.list false 68 (.str (.pair zI qQ))) (.fn (.str (.pair zI qQ)) .bool) zI), (156, .arr 4 zI), (162, .fn jD .bool), (163, .fn2 (.list false 72 (.str zTh)) (.fn (.str zTh) .bool) zI), (165, .fn2 (.list false 145 (.str (.pair zI zTi))) (.fn (.str (.pair zI zTi)) .bool) zI), (166, .fn2 (.list false 150 (.str zTi)) (.fn (.str zTi) .bool) .bool), (167, .fn (.str zTi) .bool), (169, .fn2 (.str (.pair (.list false 51 (.str qQ)) (.pair (.list false 116 (.str qQ)) (.pair zI zTh)))) zI zI), (177, .fn2 (.list false 150 (.str zTi)) (.fn (.str zTi) .bool) zI), (178, .fn2 zI zI .bool), (179, .fn2 (.list false 68 (.str (.pair zI qQ))) (.fn (.str (.pair zI qQ)) .bool) .bool), (180, .fn2 zI (.str (.pair zI qQ)) .bool), (181, .int .u32), (184, .int .u64), (193, .int .u8), (194, .int .u8), (196, .ptr (.int .u8)), (197, .int .i32), (198, .int .i32)]
theorem qq : tysB Tryz.prog tyT = true := by kernel_rfl
theorem mixed : Tryz.prog.follows .mixedOrders = true := by kernel_rfl
theorem hQ {cfg : qX} {f : FuncId} {fn : Func} {p : qI} (hc : qC Tryz.prog cfg) (hf : Tryz.prog.funcs[f]? = some fn) (ha : (fn.body.isSome && (Nat.beq fn.ntmps cfg.nt && (!(fn.name == "runtime.NumGoroutine") && Nat.ble p.ps.length cfg.nt))) = true) (hl : ∀ b ∈ qe (body fn), qdm cfg b) (hd : qn cfg (body fn) = true) (he : ∀ d, qA cfg fuel fn (body fn) p.ps p.rs d = p.g d) : qz Tryz.prog f p := by
  simp only [Bool.and_eq_true, Bool.not_eq_true'] at ha
  exact fn_done mixed hc hf ha.1 (Nat.eq_of_beq_eq_true ha.2.1) ha.2.2.1 ha.2.2.2 hl hd (fun d y h => ⟨fuel, (he d).trans h⟩)
noncomputable def F5 (_n : Nat) (g_0 : zTc) : Option zTl :=
  cond (decide ((g_0.1.1.length : Int) > 10)) (some ((true, ()), ())) (cond (decide ((g_0.2.1.1.length : Int) > 25)) (some ((true, ()), ())) (cond (decide ((g_0.2.1.2.1.length : Int) > 12)) (some ((true, ()), ())) (cond (decide ((g_0.2.1.2.2.length : Int) > 15)) (some ((true, ()), ())) (cond (decide ((g_0.2.2.1.length : Int) > 60)) (some ((true, ()), ())) (cond (decide ((g_0.2.2.2.2.1.1.length : Int) > 15)) (some ((true, ()), ())) (cond (decide ((g_0.2.2.2.2.1.2.1.length : Int) > 20)) (some ((true, ()), ())) (cond (decide ((g_0.2.2.2.2.2.1.length : Int) > 15)) (some ((true, ()), ())) (some (((decide ((g_0.2.2.2.2.2.2.length : Int) > 15)), ()), ())))))))))
noncomputable def g5 (d : zTc × Unit) : Option zTl := F5 fuel d.1
noncomputable def p5 : qI := ⟨[.v (.str (.pair (.str zTd) (.pair (.str zTb) (.pair (.list false 68 (.str (.pair zI qQ))) (.pair zI (.pair (.str (.pair (.list false 51 (.str qQ)) (.pair (.list false 116 (.str qQ)) (.pair zI zTh)))) (.pair jD jD)))))))], [.v .bool], g5⟩
noncomputable def c5 : qX := ⟨61, tyT, [], [], [], [], [], [], [], [], [], [], [], [], none⟩
theorem F5_eq (n : Nat) (d) : qA c5 n Tryz.f5 (body Tryz.f5) p5.ps p5.rs d = F5 n d.1 := by kernel_rfl
theorem d5 : qn c5 (body Tryz.f5) = true := by kernel_rfl
theorem h5 : qz Tryz.prog 5 p5 := hQ (cfg := c5) (qo qq (qh) rfl (by kernel_rfl)) Tryz.func5 (by kernel_rfl) (qr (by kernel_rfl)) d5 (F5_eq fuel)
noncomputable def B14_4 (_n : Nat) (L : ((List Int) × (List Int) × Int × Unit) × (Unit) × Unit → Option (zUe ⊕ zTr)) (a_0 : List Int) (b_1 : List Int) (i_5 : Int) : Option (zUe ⊕ zTr) :=
  cond (decide (i_5 < (a_0.length : Int))) (qi a_0 i_5 fun e1 => qi b_1 i_5 fun e2 => cond (e1 != e2) (some (.inl ((false, ()), (), ()))) (L ((a_0, b_1, (IntKind.wrap .i64 (i_5 + 1)), ()), (), ()))) (some (.inr ((), (), ())))
noncomputable def L14_4 : Nat → ((List Int) × (List Int) × Int × Unit) × (Unit) × Unit → Option (zUe ⊕ zTr)
  | 0, _ => none
  | n + 1, d => B14_4 n (L14_4 n) d.1.1 d.1.2.1 d.1.2.2.1
noncomputable def l14_4 : jL := ⟨⟨[(0, .v jD), (1, .v jD), (5, .v zI)], [], none⟩, [(.ret, ⟨[(4, .v .bool)], [], none⟩), (.exit 0, ⟨[], [], none⟩)], L14_4⟩
noncomputable def F14 (n : Nat) (a_0 : (List Int)) (b_1 : (List Int)) : Option zTl :=
  cond ((a_0.length : Int) != (b_1.length : Int)) (some ((false, ()), ())) (qa (L14_4 n ((a_0, b_1, 0, ()), (), ())) fun o3 => qbS o3 (fun d4 => some ((d4.1.1, ()), ())) (fun _ => some ((true, ()), ())))
noncomputable def g14 (d : (List Int) × (List Int) × Unit) : Option zTl := F14 fuel d.1 d.2.1
noncomputable def p14 : qI := ⟨[.v jD, .v jD], [.v .bool], g14⟩
noncomputable def c14 : qX := ⟨26, tyT, [], [], [(4, l14_4)], [], [], [], [], [], [], [], [], [], none⟩
theorem F14_eq (n : Nat) (d) : qA c14 n Tryz.f14 (body Tryz.f14) p14.ps p14.rs d = F14 n d.1 d.2.1 := by kernel_rfl
theorem L14_4_eq (n : Nat) (d) : (l14_4).g (n + 1) d = run c14 n (nth 0 (qe (body Tryz.f14))) ((l14_4).ins.fill d) (qO (l14_4) n) := by kernel_rfl
theorem ls14 : qe (body Tryz.f14) = [nth 0 (qe (body Tryz.f14))] := by kernel_rfl
theorem d14 : qn c14 (body Tryz.f14) = true := by kernel_rfl
theorem h14 : qz Tryz.prog 14 p14 := hQ (cfg := c14) (qo qq (qh) rfl (by kernel_rfl)) Tryz.func14 (by kernel_rfl) (by rw [ls14]; simp only [List.forall_mem_cons]; exact ⟨qJ (key := 4) (li := l14_4) (by kernel_rfl) rfl (fun _ => rfl) (L14_4_eq), fun _ h => by cases h⟩) d14 (F14_eq fuel)
noncomputable def B54_2 (_n : Nat) (L : ((List Int) × (Int → Option Bool) × Int × Int × Unit) × (Unit) × Unit → Option (zTm ⊕ zTr)) (s_0 : List Int) (f_1 : Int → Option Bool) (t_7 : Int) (t_8 : Int) : Option (zTm ⊕ zTr) :=
  cond (decide (t_8 < t_7)) (qi s_0 t_8 fun e1 => qa (f_1 e1) fun y2 => cond y2 (some (.inl ((t_8, ()), (), ()))) (L ((s_0, f_1, t_7, (IntKind.wrap .i64 (t_8 + 1)), ()), (), ()))) (some (.inr ((), (), ())))
noncomputable def L54_2 : Nat → ((List Int) × (Int → Option Bool) × Int × Int × Unit) × (Unit) × Unit → Option (zTm ⊕ zTr)
  | 0, _ => none
  | n + 1, d => B54_2 n (L54_2 n) d.1.1 d.1.2.1 d.1.2.2.1 d.1.2.2.2.1
noncomputable def l54_2 : jL := ⟨⟨[(0, .v jD), (1, .v (.fn zI .bool)), (7, .v zI), (8, .v zI)], [], none⟩, [(.ret, ⟨[(4, .v zI)], [], none⟩), (.exit 0, ⟨[], [], none⟩)], L54_2⟩
noncomputable def F54 (n : Nat) (s_0 : (List Int)) (f_1 : (Int → Option Bool)) : Option zTq :=
  qa (L54_2 n ((s_0, f_1, (s_0.length : Int), 0, ()), (), ())) fun o3 => qbS o3 (fun d4 => some ((d4.1.1, ()), ())) (fun _ => some (((-1), ()), ()))
noncomputable def g54 (d : (List Int) × (Int → Option Bool) × Unit) : Option zTq := F54 fuel d.1 d.2.1
noncomputable def p54 : qI := ⟨[.v jD, .v (.fn zI .bool)], [.v zI], g54⟩
noncomputable def c54 : qX := ⟨19, tyT, [], [], [(2, l54_2)], [], [], [], [], [], [], [], [], [], none⟩
theorem F54_eq (n : Nat) (d) : qA c54 n Tryz.f54 (body Tryz.f54) p54.ps p54.rs d = F54 n d.1 d.2.1 := by kernel_rfl
theorem L54_2_eq (n : Nat) (d) : (l54_2).g (n + 1) d = run c54 n (nth 0 (qe (body Tryz.f54))) ((l54_2).ins.fill d) (qO (l54_2) n) := by kernel_rfl
theorem ls54 : qe (body Tryz.f54) = [nth 0 (qe (body Tryz.f54))] := by kernel_rfl
theorem d54 : qn c54 (body Tryz.f54) = true := by kernel_rfl
theorem h54 : qz Tryz.prog 54 p54 := hQ (cfg := c54) (qo qq (qh) rfl (by kernel_rfl)) Tryz.func54 (by kernel_rfl) (by rw [ls54]; simp only [List.forall_mem_cons]; exact ⟨qJ (key := 2) (li := l54_2) (by kernel_rfl) rfl (fun _ => rfl) (L54_2_eq), fun _ h => by cases h⟩) d54 (F54_eq fuel)
noncomputable def F26 (_n : Nat) (s_0 : (List Int)) (f_1 : (Int → Option Bool)) : Option zTl :=
  qa (g54 (s_0, f_1, ())) fun y1 => some (((decide (y1.1.1 ≥ 0)), ()), ())
noncomputable def g26 (d : (List Int) × (Int → Option Bool) × Unit) : Option zTl := F26 fuel d.1 d.2.1
noncomputable def p26 : qI := ⟨[.v jD, .v (.fn zI .bool)], [.v .bool], g26⟩
noncomputable def c26 : qX := ⟨9, tyT, [], [(54, p54)], [], [], [], [], [], [], [], [], [], [], none⟩
theorem F26_eq (n : Nat) (d) : qA c26 n Tryz.f26 (body Tryz.f26) p26.ps p26.rs d = F26 n d.1 d.2.1 := by kernel_rfl
theorem d26 : qn c26 (body Tryz.f26) = true := by kernel_rfl
theorem h26 : qz Tryz.prog 26 p26 := hQ (cfg := c26) (qo qq (qd h54 qh) rfl (by kernel_rfl)) Tryz.func26 (by kernel_rfl) (qr (by kernel_rfl)) d26 (F26_eq fuel)
noncomputable def F46 (_n : Nat) (n_0 : Int) (low_1 : Int) (high_2 : Int) : Option zTl :=
  cond (decide (n_0 ≥ low_1)) (some (((decide (n_0 ≤ high_2)), ()), ())) (some ((false, ()), ()))
noncomputable def g46 (d : Int × Int × Int × Unit) : Option zTl := F46 fuel d.1 d.2.1 d.2.2.1
noncomputable def p46 : qI := ⟨[.v zI, .v zI, .v zI], [.v .bool], g46⟩
noncomputable def c46 : qX := ⟨15, tyT, [], [], [], [], [], [], [], [], [], [], [], [], none⟩
theorem F46_eq (n : Nat) (d) : qA c46 n Tryz.f46 (body Tryz.f46) p46.ps p46.rs d = F46 n d.1 d.2.1 d.2.2.1 := by kernel_rfl
theorem d46 : qn c46 (body Tryz.f46) = true := by kernel_rfl
theorem h46 : qz Tryz.prog 46 p46 := hQ (cfg := c46) (qo qq (qh) rfl (by kernel_rfl)) Tryz.func46 (by kernel_rfl) (qr (by kernel_rfl)) d46 (F46_eq fuel)
noncomputable def F78 (_n : Nat) (n_0 : Int) (t_1 : Int) (t_2 : Int) : Option zTl :=
  qa (g46 (n_0, t_1, t_2, ())) fun y1 => some (((!y1.1.1), ()), ())
noncomputable def g78 (d : Int × Int × Int × Unit) : Option zTl := F78 fuel d.1 d.2.1 d.2.2.1
noncomputable def p78 : qI := ⟨[.v zI, .r zI, .r zI], [.v .bool], g78⟩
noncomputable def c78 : qX := ⟨10, tyT, [], [(46, p46)], [], [], [], [], [], [], [], [], [], [], none⟩
theorem F78_eq (n : Nat) (d) : qA c78 n Tryz.f78 (body Tryz.f78) p78.ps p78.rs d = F78 n d.1 d.2.1 d.2.2.1 := by kernel_rfl
theorem d78 : qn c78 (body Tryz.f78) = true := by kernel_rfl
theorem h78 : qz Tryz.prog 78 p78 := hQ (cfg := c78) (qo qq (qd h46 qh) rfl (by kernel_rfl)) Tryz.func78 (by kernel_rfl) (qr (by kernel_rfl)) d78 (F78_eq fuel)
noncomputable def B100_2 (_n : Nat) (L : ((List (Int × Int)) × ((Int × Int) → Option Bool) × Int × Int × Unit) × (Unit) × Unit → Option (zTm ⊕ zTr)) (s_0 : List (Int × Int)) (f_1 : (Int × Int) → Option Bool) (t_7 : Int) (t_8 : Int) : Option (zTm ⊕ zTr) :=
  cond (decide (t_8 < t_7)) (qi s_0 t_8 fun e1 => qa (f_1 e1) fun y2 => cond y2 (some (.inl ((t_8, ()), (), ()))) (L ((s_0, f_1, t_7, (IntKind.wrap .i64 (t_8 + 1)), ()), (), ()))) (some (.inr ((), (), ())))
noncomputable def L100_2 : Nat → ((List (Int × Int)) × ((Int × Int) → Option Bool) × Int × Int × Unit) × (Unit) × Unit → Option (zTm ⊕ zTr)
  | 0, _ => none
  | n + 1, d => B100_2 n (L100_2 n) d.1.1 d.1.2.1 d.1.2.2.1 d.1.2.2.2.1
noncomputable def l100_2 : jL := ⟨⟨[(0, .v (.list false 72 (.str zTh))), (1, .v (.fn (.str zTh) .bool)), (7, .v zI), (8, .v zI)], [], none⟩, [(.ret, ⟨[(4, .v zI)], [], none⟩), (.exit 0, ⟨[], [], none⟩)], L100_2⟩
noncomputable def F100 (n : Nat) (s_0 : (List (Int × Int))) (f_1 : ((Int × Int) → Option Bool)) : Option zTq :=
  qa (L100_2 n ((s_0, f_1, (s_0.length : Int), 0, ()), (), ())) fun o3 => qbS o3 (fun d4 => some ((d4.1.1, ()), ())) (fun _ => some (((-1), ()), ()))
noncomputable def g100 (d : (List (Int × Int)) × ((Int × Int) → Option Bool) × Unit) : Option zTq := F100 fuel d.1 d.2.1
noncomputable def p100 : qI := ⟨[.v (.list false 72 (.str zTh)), .v (.fn (.str zTh) .bool)], [.v zI], g100⟩
noncomputable def c100 : qX := ⟨19, tyT, [], [], [(2, l100_2)], [], [], [], [], [], [], [], [], [], none⟩
theorem F100_eq (n : Nat) (d) : qA c100 n Tryz.f100 (body Tryz.f100) p100.ps p100.rs d = F100 n d.1 d.2.1 := by kernel_rfl
theorem L100_2_eq (n : Nat) (d) : (l100_2).g (n + 1) d = run c100 n (nth 0 (qe (body Tryz.f100))) ((l100_2).ins.fill d) (qO (l100_2) n) := by kernel_rfl
theorem ls100 : qe (body Tryz.f100) = [nth 0 (qe (body Tryz.f100))] := by kernel_rfl
theorem d100 : qn c100 (body Tryz.f100) = true := by kernel_rfl
theorem h100 : qz Tryz.prog 100 p100 := hQ (cfg := c100) (qo qq (qh) rfl (by kernel_rfl)) Tryz.func100 (by kernel_rfl) (by rw [ls100]; simp only [List.forall_mem_cons]; exact ⟨qJ (key := 2) (li := l100_2) (by kernel_rfl) rfl (fun _ => rfl) (L100_2_eq), fun _ h => by cases h⟩) d100 (F100_eq fuel)
noncomputable def F79 (_n : Nat) (s_0 : (List (Int × Int))) (f_1 : ((Int × Int) → Option Bool)) : Option zTl :=
  qa (g100 (s_0, f_1, ())) fun y1 => some (((decide (y1.1.1 ≥ 0)), ()), ())
noncomputable def g79 (d : (List (Int × Int)) × ((Int × Int) → Option Bool) × Unit) : Option zTl := F79 fuel d.1 d.2.1
noncomputable def p79 : qI := ⟨[.v (.list false 72 (.str zTh)), .v (.fn (.str zTh) .bool)], [.v .bool], g79⟩
noncomputable def c79 : qX := ⟨9, tyT, [], [(100, p100)], [], [], [], [], [], [], [], [], [], [], none⟩
theorem F79_eq (n : Nat) (d) : qA c79 n Tryz.f79 (body Tryz.f79) p79.ps p79.rs d = F79 n d.1 d.2.1 := by kernel_rfl
theorem d79 : qn c79 (body Tryz.f79) = true := by kernel_rfl
theorem h79 : qz Tryz.prog 79 p79 := hQ (cfg := c79) (qo qq (qd h100 qh) rfl (by kernel_rfl)) Tryz.func79 (by kernel_rfl) (qr (by kernel_rfl)) d79 (F79_eq fuel)
noncomputable def F80 (_n : Nat) (b_0 : (Int × Int)) (t_1 : zTu) : Option zTl :=
  qa (g46 (b_0.1, 1, 1000, ())) fun y1 => cond (!y1.1.1) (some ((true, ()), ())) (qa (g46 (b_0.2, 1, 1000000, ())) fun y2 => cond (!y2.1.1) (some ((true, ()), ())) (some (((decide ((IntKind.wrap .i64 (t_1.2.2.2.2.2.1 * b_0.1)) > b_0.2)), ()), ())))
noncomputable def g80 (d : (Int × Int) × zTu × Unit) : Option zTl := F80 fuel d.1 d.2.1
noncomputable def p80 : qI := ⟨[.v (.str zTh), .r (.str (.pair zI (.pair zI (.pair jD (.pair jD (.pair (.list false 72 (.str zTh)) (.pair zI zTh)))))))], [.v .bool], g80⟩
noncomputable def c80 : qX := ⟨24, tyT, [], [(46, p46)], [], [], [], [], [], [], [], [], [], [], none⟩
theorem F80_eq (n : Nat) (d) : qA c80 n Tryz.f80 (body Tryz.f80) p80.ps p80.rs d = F80 n d.1 d.2.1 := by kernel_rfl
theorem d80 : qn c80 (body Tryz.f80) = true := by kernel_rfl
theorem h80 : qz Tryz.prog 80 p80 := hQ (cfg := c80) (qo qq (qd h46 qh) rfl (by kernel_rfl)) Tryz.func80 (by kernel_rfl) (qr (by kernel_rfl)) d80 (F80_eq fuel)
noncomputable def F45 (_n : Nat) (f_0 : zTu) : Option zTq :=
  qa (g46 ((f_0.2.2.1.length : Int), 1, 8, ())) fun y1 => cond (!y1.1.1) (some ((10, ()), ())) (cond ((f_0.2.2.2.1.length : Int) != (f_0.2.2.1.length : Int)) (some ((10, ()), ())) (qa (g46 (f_0.1, 0, 20, ())) fun y2 => cond (!y2.1.1) (some ((10, ()), ())) (qa (g46 (f_0.2.1, 0, 12, ())) fun y3 => cond (!y3.1.1) (some ((10, ()), ())) (cond (decide ((f_0.2.2.2.2.1.length : Int) > 6)) (some ((10, ()), ())) (qa (Mk.m77.p.g (0, 100000, ())) fun y4 => qa (g26 (f_0.2.2.1, (fun v5 => qa y4.1.1 fun q7 => qa y4.1.2.1 fun q8 => qa (g78 (v5, q7, q8, ())) fun y6 => some y6.1.1), ())) fun y9 => cond y9.1.1 (some ((10, ()), ())) (qa (Mk.m77.p.g (0, 1000000, ())) fun y10 => qa (g26 (f_0.2.2.2.1, (fun v11 => qa y10.1.1 fun q13 => qa y10.1.2.1 fun q14 => qa (g78 (v11, q13, q14, ())) fun y12 => some y12.1.1), ())) fun y15 => cond y15.1.1 (some ((10, ()), ())) (qa (g46 (f_0.2.2.2.2.2.1, 0, 1000, ())) fun y16 => cond (!y16.1.1) (some ((10, ()), ())) (qa (g46 (f_0.2.2.2.2.2.2.1, 0, 1000000, ())) fun y17 => cond (!y17.1.1) (some ((10, ()), ())) (qa (g46 (f_0.2.2.2.2.2.2.2, 1, 1440, ())) fun y18 => cond (!y18.1.1) (some ((10, ()), ())) (qa (g79 (f_0.2.2.2.2.1, (fun v19 => qa (g80 (v19, f_0, ())) fun y20 => some y20.1.1), ())) fun y21 => cond y21.1.1 (some ((10, ()), ())) (some ((0, ()), ()))))))))))))
noncomputable def g45 (d : zTu × Unit) : Option zTq := F45 fuel d.1
noncomputable def p45 : qI := ⟨[.v (.str (.pair zI (.pair zI (.pair jD (.pair jD (.pair (.list false 72 (.str zTh)) (.pair zI zTh)))))))], [.v zI], g45⟩
noncomputable def c45 : qX := ⟨78, tyT, [(1, .str (.pair zI (.pair zI (.pair jD (.pair jD (.pair (.list false 72 (.str zTh)) (.pair zI zTh)))))))], [(26, p26), (46, p46), (78, p78), (79, p79), (80, p80)], [], [], [3], [], [], [(77, Mk.m77)], [], [], [], [], none⟩
theorem F45_eq (n : Nat) (d) : qA c45 n Tryz.f45 (body Tryz.f45) p45.ps p45.rs d = F45 n d.1 := by kernel_rfl
theorem d45 : qn c45 (body Tryz.f45) = true := by kernel_rfl
theorem h45 : qz Tryz.prog 45 p45 := hQ (cfg := c45) (qo qq (qd h26 (qd h46 (qd h78 (qd h79 (qd h80 qh))))) rfl (by kernel_rfl) (qhF (qfb Mk.k77 qhH))) Tryz.func45 (by kernel_rfl) (qr (by kernel_rfl)) d45 (F45_eq fuel)
noncomputable def F126 (_n : Nat) (x_0 : Int) (y_1 : Int) : Option zUl :=
  qbU 32 (qbU 32 (qbG (IntKind.wrap .u64 ((qbl .and .u64 x_0 4294967295) * (qbl .and .u64 y_1 4294967295))) fun z1 => qbU 32 (qbG (IntKind.wrap .u64 ((IntKind.wrap .u64 ((qdt .u64 x_0 32) * (qbl .and .u64 y_1 4294967295))) + (qdt .u64 z1 32))) fun z2 => qbU 32 (qbG (IntKind.wrap .u64 ((qbl .and .u64 z2 4294967295) + (IntKind.wrap .u64 ((qbl .and .u64 x_0 4294967295) * (qdt .u64 y_1 32))))) fun z3 => qbU 32 (qbG (IntKind.wrap .u64 ((IntKind.wrap .u64 ((IntKind.wrap .u64 ((qdt .u64 x_0 32) * (qdt .u64 y_1 32))) + (qdt .u64 z2 32))) + (qdt .u64 z3 32))) fun z4 => some ((z4, (IntKind.wrap .u64 (x_0 * y_1)), ()), ()))))))
noncomputable def g126 (d : Int × Int × Unit) : Option zUl := F126 fuel d.1 d.2.1
noncomputable def p126 : qI := ⟨[.v (.int .u64), .v (.int .u64)], [.v (.int .u64), .v (.int .u64)], g126⟩
noncomputable def c126 : qX := ⟨51, tyT, [], [], [], [], [], [], [], [], [], [], [], [], none⟩
theorem F126_eq (n : Nat) (d) : qA c126 n Tryz.f126 (body Tryz.f126) p126.ps p126.rs d = F126 n d.1 d.2.1 := by kernel_rfl
theorem d126 : qn c126 (body Tryz.f126) = true := by kernel_rfl
theorem h126 : qz Tryz.prog 126 p126 := hQ (cfg := c126) (qo qq (qh) rfl (by kernel_rfl)) Tryz.func126 (by kernel_rfl) (qr (by kernel_rfl)) d126 (F126_eq fuel)
noncomputable def F119 (_n : Nat) (x_0 : Int) (y_1 : Int) : Option zUl :=
  qa (g126 (x_0, y_1, ())) fun y1 => some ((y1.1.1, y1.1.2.1, ()), ())
noncomputable def g119 (d : Int × Int × Unit) : Option zUl := F119 fuel d.1 d.2.1
noncomputable def p119 : qI := ⟨[.v (.int .u64), .v (.int .u64)], [.v (.int .u64), .v (.int .u64)], g119⟩
noncomputable def c119 : qX := ⟨30, tyT, [], [(126, p126)], [], [], [], [], [], [], [], [], [], [], none⟩
theorem F119_eq (n : Nat) (d) : qA c119 n Tryz.f119 (body Tryz.f119) p119.ps p119.rs d = F119 n d.1 d.2.1 := by kernel_rfl
theorem d119 : qn c119 (body Tryz.f119) = true := by kernel_rfl
theorem h119 : qz Tryz.prog 119 p119 := hQ (cfg := c119) (qo qq (qd h126 qh) rfl (by kernel_rfl)) Tryz.func119 (by kernel_rfl) (qr (by kernel_rfl)) d119 (F119_eq fuel)
noncomputable def B101_8 (_n : Nat) (L : (Int × Unit) × zTs × Unit → Option zTz) (n_8 : Int) (o_30 : List Int) : Option zTz :=
  cond (decide (n_8 < (o_30.length : Int))) (qjn (L (((IntKind.wrap .i64 (n_8 + ((min (o_30.take n_8.toNat).length (o_30.length - n_8.toNat) : Nat) : Int))), ()), ((qbz o_30 (o_30.take n_8.toNat) n_8.toNat), ()), ())) fun E => qE [leK 0 n_8 (leK n_8 (o_30.length : Int) (leK 0 n_8 (leK n_8 (o_30.length : Int) (E)))), leK 0 n_8 (leK n_8 (o_30.length : Int) (leK 0 n_8 (leK n_8 (o_30.length : Int) (E))))]) (some ((), (o_30, ()), ()))
noncomputable def L101_8 : Nat → (Int × Unit) × zTs × Unit → Option zTz
  | 0, _ => none
  | n + 1, d => B101_8 n (L101_8 n) d.1.1 d.2.1.1
noncomputable def l101_8 : jL := ⟨⟨[(7, .c (.view 30 [])), (8, .v zI)], [(30, true, .list true 3 zI)], none⟩, [(.exit 0, ⟨[(7, .c (.view 30 []))], [(30, true, .list true 3 zI)], none⟩)], L101_8⟩
noncomputable def F101 (n : Nat) (x_0 : (List Int)) (count_1 : Int) : Option (zTs × (Unit)) :=
  cond (decide (count_1 < 0)) (none) (qa (g119 ((IntKind.wrap .u64 (x_0.length : Int)), (IntKind.wrap .u64 count_1), ())) fun y1 => cond (decide (y1.1.1 > 0)) (none) (cond (decide (y1.1.2.1 > 9223372036854775807)) (none) (leK 0 (IntKind.wrap .i64 y1.1.2.1) (leK (IntKind.wrap .i64 y1.1.2.1) (IntKind.wrap .i64 y1.1.2.1) (jF (IntKind.wrap .i64 y1.1.2.1) (qbG ((min x_0.length ((List.replicate (IntKind.wrap .i64 y1.1.2.1).toNat (0 : Int)).length - (0 : Int).toNat) : Nat) : Int) fun z2 => qa (L101_8 n ((z2, ()), ((qbz (List.replicate (IntKind.wrap .i64 y1.1.2.1).toNat (0 : Int)) x_0 (0 : Int).toNat), ()), ())) fun o3 => some ((o3.2.1.1, ()), ())))))))
noncomputable def g101 (d : (List Int) × Int × Unit) : Option (zTs × (Unit)) := F101 fuel d.1 d.2.1
noncomputable def p101 : qI := ⟨[.v jD, .v zI], [.own 3 zI], g101⟩
noncomputable def c101 : qX := ⟨48, tyT, [], [(119, p119)], [(8, l101_8)], [], [9], [], [], [], [], [], [], [], none⟩
theorem F101_eq (n : Nat) (d) : qA c101 n Tryz.f101 (body Tryz.f101) p101.ps p101.rs d = F101 n d.1 d.2.1 := by kernel_rfl
theorem L101_8_eq (n : Nat) (d) : (l101_8).g (n + 1) d = run c101 n (nth 0 (qe (body Tryz.f101))) ((l101_8).ins.fill d) (qO (l101_8) n) := by kernel_rfl
theorem ls101 : qe (body Tryz.f101) = [nth 0 (qe (body Tryz.f101))] := by kernel_rfl
theorem d101 : qn c101 (body Tryz.f101) = true := by kernel_rfl
theorem h101 : qz Tryz.prog 101 p101 := hQ (cfg := c101) (qo qq (qd h119 qh) rfl (by kernel_rfl)) Tryz.func101 (by kernel_rfl) (by rw [ls101]; simp only [List.forall_mem_cons]; exact ⟨qJ (key := 8) (li := l101_8) (by kernel_rfl) rfl (fun _ => rfl) (L101_8_eq), fun _ h => by cases h⟩) d101 (F101_eq fuel)
noncomputable def B81_4 (_n : Nat) (L : zUp × zTn × Unit → Option zTv) (l_0 : List (Int × Int)) (n_1 : Int) (most_6 : Int) (t_24 : Int) (t_25 : Int) (o_22 : List (List Int)) : Option zTv :=
  cond (decide (t_25 < t_24)) (qa (g101 ([1152921504606846976], (IntKind.wrap .i64 (most_6 + 1)), ())) fun y1 => jQ t_25 o_22.length (qi o_22 t_25 fun _ => L ((l_0, n_1, most_6, t_24, (IntKind.wrap .i64 (t_25 + 1)), ()), ((o_22.set t_25.toNat y1.1.1), ()), ()))) (some ((l_0, n_1, most_6, ()), (o_22, ()), ()))
noncomputable def L81_4 : Nat → zUp × zTn × Unit → Option zTv
  | 0, _ => none
  | n + 1, d => B81_4 n (L81_4 n) d.1.1 d.1.2.1 d.1.2.2.1 d.1.2.2.2.1 d.1.2.2.2.2.1 d.2.1.1
noncomputable def l81_4 : jL := ⟨⟨[(0, .v (.list false 72 (.str zTh))), (1, .v zI), (6, .v zI), (7, .c (.view 22 [])), (24, .v zI), (25, .v zI)], [(22, true, .list true 26 zTw)], none⟩, [(.exit 0, ⟨[(0, .v (.list false 72 (.str zTh))), (1, .v zI), (6, .v zI), (7, .c (.view 22 []))], [(22, true, .list true 26 zTw)], none⟩)], L81_4⟩
noncomputable def B81_13 (_n : Nat) (L : zUn × zTn × Unit → Option ((zTx × zTn × Unit))) (l_0 : List (Int × Int)) (n_1 : Int) (most_6 : Int) (i_9 : Int) (t_53 : Int) (t_54 : Int) (o_22 : List (List Int)) : Option ((zTx × zTn × Unit)) :=
  cond (decide (t_54 < t_53)) (jQ i_9 o_22.length (jQ (IntKind.wrap .i64 (i_9 + 1)) o_22.length (qi o_22 (IntKind.wrap .i64 (i_9 + 1)) fun e8 => jQ t_54 e8.length (qi o_22 (IntKind.wrap .i64 (i_9 + 1)) fun e9 => qi e9 t_54 fun e10 => qi o_22 i_9 fun e11 => jQ t_54 e11.length (qi o_22 i_9 fun e12 => qi e12 t_54 fun _ => qi l_0 i_9 fun e14 => cond (decide ((IntKind.wrap .i64 (t_54 - e14.1)) ≥ 0)) (jQ i_9 (o_22.set i_9.toNat (e12.set t_54.toNat e10)).length (qi (o_22.set i_9.toNat (e12.set t_54.toNat e10)) i_9 fun e15 => jQ (IntKind.wrap .i64 (t_54 - e14.1)) e15.length (qi (o_22.set i_9.toNat (e12.set t_54.toNat e10)) i_9 fun e16 => qi e16 (IntKind.wrap .i64 (t_54 - e14.1)) fun e17 => cond (decide (e17 < 1152921504606846976)) (jQ i_9 (o_22.set i_9.toNat (e12.set t_54.toNat e10)).length (jQ i_9 (o_22.set i_9.toNat (e12.set t_54.toNat e10)).length (qi (o_22.set i_9.toNat (e12.set t_54.toNat e10)) i_9 fun e18 => jQ t_54 e18.length (qi (o_22.set i_9.toNat (e12.set t_54.toNat e10)) i_9 fun e19 => qi e19 t_54 fun e20 => jQ i_9 (o_22.set i_9.toNat (e12.set t_54.toNat e10)).length (qi (o_22.set i_9.toNat (e12.set t_54.toNat e10)) i_9 fun e21 => jQ (IntKind.wrap .i64 (t_54 - e14.1)) e21.length (qi (o_22.set i_9.toNat (e12.set t_54.toNat e10)) i_9 fun e22 => qi e22 (IntKind.wrap .i64 (t_54 - e14.1)) fun e23 => qi l_0 i_9 fun e24 => qi (o_22.set i_9.toNat (e12.set t_54.toNat e10)) i_9 fun e25 => jQ t_54 e25.length (qi (o_22.set i_9.toNat (e12.set t_54.toNat e10)) i_9 fun e26 => qi e26 t_54 fun _ => qbG ((o_22.set i_9.toNat (e12.set t_54.toNat e10)).set i_9.toNat (e26.set t_54.toNat (min e20 (IntKind.wrap .i64 (e23 + e24.2))))) fun z28 => L ((l_0, n_1, most_6, i_9, t_53, (IntKind.wrap .i64 (t_54 + 1)), ()), (z28, ()), ())))))))) (L ((l_0, n_1, most_6, i_9, t_53, (IntKind.wrap .i64 (t_54 + 1)), ()), ((o_22.set i_9.toNat (e12.set t_54.toNat e10)), ()), ()))))) (L ((l_0, n_1, most_6, i_9, t_53, (IntKind.wrap .i64 (t_54 + 1)), ()), ((o_22.set i_9.toNat (e12.set t_54.toNat e10)), ()), ()))))))) (some ((l_0, n_1, most_6, i_9, ()), (o_22, ()), ()))
noncomputable def L81_13 : Nat → zUn × zTn × Unit → Option ((zTx × zTn × Unit))
  | 0, _ => none
  | n + 1, d => B81_13 n (L81_13 n) d.1.1 d.1.2.1 d.1.2.2.1 d.1.2.2.2.1 d.1.2.2.2.2.1 d.1.2.2.2.2.2.1 d.2.1.1
noncomputable def l81_13 : jL := ⟨⟨[(0, .v (.list false 72 (.str zTh))), (1, .v zI), (6, .v zI), (7, .c (.view 22 [])), (9, .v zI), (53, .v zI), (54, .v zI)], [(22, true, .list true 26 zTw)], none⟩, [(.exit 4, ⟨[(0, .v (.list false 72 (.str zTh))), (1, .v zI), (6, .v zI), (7, .c (.view 22 [])), (9, .v zI)], [(22, true, .list true 26 zTw)], none⟩)], L81_13⟩
noncomputable def B81_10 (n : Nat) (L : zTx × zTn × Unit → Option zTv) (l_0 : List (Int × Int)) (n_1 : Int) (most_6 : Int) (i_9 : Int) (o_22 : List (List Int)) : Option zTv :=
  cond (decide (i_9 ≥ 0)) (jQ i_9 o_22.length (qi o_22 i_9 fun e7 => qa (L81_13 n ((l_0, n_1, most_6, i_9, (e7.length : Int), 0, ()), (o_22, ()), ())) fun o29 => L ((o29.1.1, o29.1.2.1, o29.1.2.2.1, (IntKind.wrap .i64 (o29.1.2.2.2.1 - 1)), ()), (o29.2.1.1, ()), ()))) (some ((l_0, n_1, most_6, ()), (o_22, ()), ()))
noncomputable def L81_10 : Nat → zTx × zTn × Unit → Option zTv
  | 0, _ => none
  | n + 1, d => B81_10 n (L81_10 n) d.1.1 d.1.2.1 d.1.2.2.1 d.1.2.2.2.1 d.2.1.1
noncomputable def l81_10 : jL := ⟨⟨[(0, .v (.list false 72 (.str zTh))), (1, .v zI), (6, .v zI), (7, .c (.view 22 [])), (9, .v zI)], [(22, true, .list true 26 zTw)], none⟩, [(.exit 2, ⟨[(0, .v (.list false 72 (.str zTh))), (1, .v zI), (6, .v zI), (7, .c (.view 22 []))], [(22, true, .list true 26 zTw)], none⟩)], L81_10⟩
noncomputable def B81_22 (_n : Nat) (L : zTx × zTn × Unit → Option zUc) (l_0 : List (Int × Int)) (most_6 : Int) (tokens_12 : Int) (t_13 : Int) (o_22 : List (List Int)) : Option zUc :=
  cond (decide (t_13 ≤ most_6)) (jQ 0 o_22.length (qi o_22 0 fun e31 => jQ t_13 e31.length (qi o_22 0 fun e32 => qi e32 t_13 fun e33 => jQ 0 o_22.length (qi o_22 0 fun e34 => jQ tokens_12 e34.length (qi o_22 0 fun e35 => qi e35 tokens_12 fun e36 => cond (decide (e33 < e36)) (L ((l_0, most_6, t_13, (IntKind.wrap .i64 (t_13 + 1)), ()), (o_22, ()), ())) (L ((l_0, most_6, tokens_12, (IntKind.wrap .i64 (t_13 + 1)), ()), (o_22, ()), ()))))))) (some ((l_0, tokens_12, ()), (o_22, ()), ()))
noncomputable def L81_22 : Nat → zTx × zTn × Unit → Option zUc
  | 0, _ => none
  | n + 1, d => B81_22 n (L81_22 n) d.1.1 d.1.2.1 d.1.2.2.1 d.1.2.2.2.1 d.2.1.1
noncomputable def l81_22 : jL := ⟨⟨[(0, .v (.list false 72 (.str zTh))), (6, .v zI), (7, .c (.view 22 [])), (12, .v zI), (13, .v zI)], [(22, true, .list true 26 zTw)], none⟩, [(.exit 6, ⟨[(0, .v (.list false 72 (.str zTh))), (7, .c (.view 22 [])), (12, .v zI)], [(22, true, .list true 26 zTw)], none⟩)], L81_22⟩
noncomputable def B81_34 (_n : Nat) (L : zUk × zUo × Unit → Option zTy) (price_5 : Int) (tokens_12 : Int) (i_14 : Int) (left_16 : Int) (t_150 : List (Int × Int)) (t_151 : Int) (t_152 : Int) (o_15 : Int × Int) (o_22 : List (List Int)) (o_4000149 : List Int) : Option zTy :=
  cond (decide (tokens_12 ≥ o_15.1)) (jQ i_14 o_22.length (qi o_22 i_14 fun e45 => jQ (IntKind.wrap .i64 (tokens_12 - o_15.1)) e45.length (qi o_22 i_14 fun e46 => qi e46 (IntKind.wrap .i64 (tokens_12 - o_15.1)) fun e47 => cond (decide (e47 < 1152921504606846976)) (jQ i_14 o_22.length (qi o_22 i_14 fun e48 => jQ (IntKind.wrap .i64 (tokens_12 - o_15.1)) e48.length (qi o_22 i_14 fun e49 => qi e49 (IntKind.wrap .i64 (tokens_12 - o_15.1)) fun e50 => cond ((IntKind.wrap .i64 (e50 + o_15.2)) == left_16) (jQ i_14 o_4000149.length (qi o_4000149 i_14 fun e51 => jQ i_14 o_4000149.length (qi o_4000149 i_14 fun _ => jQ i_14 o_22.length (qi o_22 i_14 fun e53 => jQ (IntKind.wrap .i64 (tokens_12 - o_15.1)) e53.length (qi o_22 i_14 fun e54 => qi e54 (IntKind.wrap .i64 (tokens_12 - o_15.1)) fun e55 => L ((price_5, (IntKind.wrap .i64 (tokens_12 - o_15.1)), i_14, e55, t_150, t_151, t_152, ()), (o_15, o_22, (o_4000149.set i_14.toNat (IntKind.wrap .i64 (e51 + 1))), ()), ())))))) (some ((price_5, tokens_12, t_150, t_151, t_152, ()), (o_22, o_4000149, ()), ()))))) (some ((price_5, tokens_12, t_150, t_151, t_152, ()), (o_22, o_4000149, ()), ()))))) (some ((price_5, tokens_12, t_150, t_151, t_152, ()), (o_22, o_4000149, ()), ()))
noncomputable def L81_34 : Nat → zUk × zUo × Unit → Option zTy
  | 0, _ => none
  | n + 1, d => B81_34 n (L81_34 n) d.1.1 d.1.2.1 d.1.2.2.1 d.1.2.2.2.1 d.1.2.2.2.2.1 d.1.2.2.2.2.2.1 d.1.2.2.2.2.2.2.1 d.2.1.1 d.2.1.2.1 d.2.1.2.2.1
noncomputable def l81_34 : jL := ⟨⟨[(4, .c (.view 4000149 [])), (5, .v zI), (7, .c (.view 22 [])), (12, .v zI), (14, .v zI), (15, .c (.ptr 15 [])), (16, .v zI), (150, .v (.list false 72 (.str zTh))), (151, .v zI), (152, .v zI)], [(15, false, .str zTh), (22, true, .list true 26 zTw), (4000149, true, .list true 3 zI)], none⟩, [(.exit 10, ⟨[(4, .c (.view 4000149 [])), (5, .v zI), (7, .c (.view 22 [])), (12, .v zI), (150, .v (.list false 72 (.str zTh))), (151, .v zI), (152, .v zI)], [(22, true, .list true 26 zTw), (4000149, true, .list true 3 zI)], none⟩)], L81_34⟩
noncomputable def B81_31 (n : Nat) (L : zUh × zUq × Unit → Option zUt) (price_5 : Int) (tokens_12 : Int) (t_150 : List (Int × Int)) (t_151 : Int) (t_152 : Int) (o_22 : List (List Int)) (o_4000149 : List Int) : Option zUt :=
  cond (decide (t_152 < t_151)) (qi t_150 t_152 fun e41 => jQ t_152 o_22.length (qi o_22 t_152 fun e42 => jQ tokens_12 e42.length (qi o_22 t_152 fun e43 => qi e43 tokens_12 fun e44 => qa (L81_34 n ((price_5, tokens_12, t_152, e44, t_150, t_151, t_152, ()), (e41, o_22, o_4000149, ()), ())) fun o56 => L ((o56.1.1, o56.1.2.1, o56.1.2.2.1, o56.1.2.2.2.1, (IntKind.wrap .i64 (o56.1.2.2.2.2.1 + 1)), ()), (o56.2.1.1, o56.2.1.2.1, ()), ())))) (some ((price_5, ()), (o_4000149, ()), ()))
noncomputable def L81_31 : Nat → zUh × zUq × Unit → Option zUt
  | 0, _ => none
  | n + 1, d => B81_31 n (L81_31 n) d.1.1 d.1.2.1 d.1.2.2.1 d.1.2.2.2.1 d.1.2.2.2.2.1 d.2.1.1 d.2.1.2.1
noncomputable def l81_31 : jL := ⟨⟨[(4, .c (.view 4000149 [])), (5, .v zI), (7, .c (.view 22 [])), (12, .v zI), (150, .v (.list false 72 (.str zTh))), (151, .v zI), (152, .v zI)], [(22, true, .list true 26 zTw), (4000149, true, .list true 3 zI)], none⟩, [(.exit 8, ⟨[(4, .c (.view 4000149 [])), (5, .v zI)], [(4000149, true, .list true 3 zI)], none⟩)], L81_31⟩
noncomputable def F81 (n : Nat) (l_0 : (List (Int × Int))) (n_1 : Int) : Option zUd :=
  leK 0 (IntKind.wrap .i64 ((l_0.length : Int) + 1)) (leK (IntKind.wrap .i64 ((l_0.length : Int) + 1)) (IntKind.wrap .i64 ((l_0.length : Int) + 1)) (jF (IntKind.wrap .i64 ((l_0.length : Int) + 1)) (qa (L81_4 n ((l_0, n_1, (IntKind.wrap .i64 (n_1 + 1000)), ((List.replicate (IntKind.wrap .i64 ((l_0.length : Int) + 1)).toNat ([] : List Int)).length : Int), 0, ()), ((List.replicate (IntKind.wrap .i64 ((l_0.length : Int) + 1)).toNat ([] : List Int)), ()), ())) fun o3 => jQ (o3.1.1.length : Int) o3.2.1.1.length (qi o3.2.1.1 (o3.1.1.length : Int) fun e4 => jQ 0 e4.length (qi o3.2.1.1 (o3.1.1.length : Int) fun e5 => qi e5 0 fun _ => qa (L81_10 n ((o3.1.1, o3.1.2.1, o3.1.2.2.1, (IntKind.wrap .i64 ((o3.1.1.length : Int) - 1)), ()), ((o3.2.1.1.set (o3.1.1.length : Int).toNat (e5.set (0 : Int).toNat 0)), ()), ())) fun o30 => qa (L81_22 n ((o30.1.1, o30.1.2.2.1, o30.1.2.1, o30.1.2.1, ()), (o30.2.1.1, ()), ())) fun o37 => jQ 0 o37.2.1.1.length (qi o37.2.1.1 0 fun e38 => jQ o37.1.2.1 e38.length (qi o37.2.1.1 0 fun e39 => qi e39 o37.1.2.1 fun e40 => cond (e40 == 1152921504606846976) (none) (leK 0 (o37.1.1.length : Int) (leK (o37.1.1.length : Int) (o37.1.1.length : Int) (jF (o37.1.1.length : Int) (qa (L81_31 n ((e40, o37.1.2.1, o37.1.1, (o37.1.1.length : Int), 0, ()), (o37.2.1.1, (List.replicate (o37.1.1.length : Int).toNat (0 : Int)), ()), ())) fun o57 => some ((o57.2.1.1, o57.1.1, ()), ()))))))))))))
noncomputable def g81 (d : (List (Int × Int)) × Int × Unit) : Option zUd := F81 fuel d.1 d.2.1
noncomputable def p81 : qI := ⟨[.v (.list false 72 (.str zTh)), .v zI], [.sure true 3 zI, .v zI], g81⟩
noncomputable def c81 : qX := ⟨218, tyT, [(22, .list true 26 zTw), (4, .bool)], [(101, p101)], [(4, l81_4), (13, l81_13), (10, l81_10), (22, l81_22), (34, l81_34), (31, l81_31)], [], [1000149], [], [], [], [], [], [], [], none⟩
theorem F81_eq (n : Nat) (d) : qA c81 n Tryz.f81 (body Tryz.f81) p81.ps p81.rs d = F81 n d.1 d.2.1 := by kernel_rfl
theorem L81_4_eq (n : Nat) (d) : (l81_4).g (n + 1) d = run c81 n (nth 0 (qe (body Tryz.f81))) ((l81_4).ins.fill d) (qO (l81_4) n) := by kernel_rfl
theorem L81_10_eq (n : Nat) (d) : (l81_10).g (n + 1) d = run c81 n (nth 1 (qe (body Tryz.f81))) ((l81_10).ins.fill d) (qO (l81_10) n) := by kernel_rfl
theorem L81_13_eq (n : Nat) (d) : (l81_13).g (n + 1) d = run c81 n (nth 2 (qe (body Tryz.f81))) ((l81_13).ins.fill d) (qO (l81_13) n) := by kernel_rfl
theorem L81_22_eq (n : Nat) (d) : (l81_22).g (n + 1) d = run c81 n (nth 3 (qe (body Tryz.f81))) ((l81_22).ins.fill d) (qO (l81_22) n) := by kernel_rfl
theorem L81_31_eq (n : Nat) (d) : (l81_31).g (n + 1) d = run c81 n (nth 4 (qe (body Tryz.f81))) ((l81_31).ins.fill d) (qO (l81_31) n) := by kernel_rfl
theorem L81_34_eq (n : Nat) (d) : (l81_34).g (n + 1) d = run c81 n (nth 5 (qe (body Tryz.f81))) ((l81_34).ins.fill d) (qO (l81_34) n) := by kernel_rfl
theorem ls81 : qe (body Tryz.f81) = [nth 0 (qe (body Tryz.f81)), nth 1 (qe (body Tryz.f81)), nth 2 (qe (body Tryz.f81)), nth 3 (qe (body Tryz.f81)), nth 4 (qe (body Tryz.f81)), nth 5 (qe (body Tryz.f81))] := by kernel_rfl
theorem d81 : qn c81 (body Tryz.f81) = true := by kernel_rfl
theorem h81 : qz Tryz.prog 81 p81 := hQ (cfg := c81) (qo qq (qd h101 qh) rfl (by kernel_rfl)) Tryz.func81 (by kernel_rfl) (by rw [ls81]; simp only [List.forall_mem_cons]; exact ⟨qJ (key := 4) (li := l81_4) (by kernel_rfl) rfl (fun _ => rfl) (L81_4_eq), qJ (key := 10) (li := l81_10) (by kernel_rfl) rfl (fun _ => rfl) (L81_10_eq), qJ (key := 13) (li := l81_13) (by kernel_rfl) rfl (fun _ => rfl) (L81_13_eq), qJ (key := 22) (li := l81_22) (by kernel_rfl) rfl (fun _ => rfl) (L81_22_eq), qJ (key := 31) (li := l81_31) (by kernel_rfl) rfl (fun _ => rfl) (L81_31_eq), qJ (key := 34) (li := l81_34) (by kernel_rfl) rfl (fun _ => rfl) (L81_34_eq), fun _ h => by cases h⟩) d81 (F81_eq fuel)
noncomputable def B10081_4 (_n : Nat) (L : zUp × zTn × Unit → Option zTv) (l_0 : List (Int × Int)) (n_1 : Int) (most_6 : Int) (t_24 : Int) (t_25 : Int) (o_22 : List (List Int)) : Option zTv :=
  cond (decide (t_25 < t_24)) (qa (g101 ([1152921504606846976], (IntKind.wrap .i64 (most_6 + 1)), ())) fun y1 => jQ t_25 o_22.length (qi o_22 t_25 fun _ => L ((l_0, n_1, most_6, t_24, (IntKind.wrap .i64 (t_25 + 1)), ()), ((o_22.set t_25.toNat y1.1.1), ()), ()))) (some ((l_0, n_1, most_6, ()), (o_22, ()), ()))
noncomputable def L10081_4 : Nat → zUp × zTn × Unit → Option zTv
  | 0, _ => none
  | n + 1, d => B10081_4 n (L10081_4 n) d.1.1 d.1.2.1 d.1.2.2.1 d.1.2.2.2.1 d.1.2.2.2.2.1 d.2.1.1
noncomputable def l10081_4 : jL := ⟨⟨[(0, .v (.list false 72 (.str zTh))), (1, .v zI), (6, .v zI), (7, .c (.view 22 [])), (24, .v zI), (25, .v zI)], [(22, true, .list true 26 zTw)], none⟩, [(.exit 0, ⟨[(0, .v (.list false 72 (.str zTh))), (1, .v zI), (6, .v zI), (7, .c (.view 22 []))], [(22, true, .list true 26 zTw)], none⟩)], L10081_4⟩
noncomputable def B10081_13 (_n : Nat) (L : zUn × zTn × Unit → Option ((zTx × zTn × Unit))) (l_0 : List (Int × Int)) (n_1 : Int) (most_6 : Int) (i_9 : Int) (t_53 : Int) (t_54 : Int) (o_22 : List (List Int)) : Option ((zTx × zTn × Unit)) :=
  cond (decide (t_54 < t_53)) (jQ i_9 o_22.length (jQ (IntKind.wrap .i64 (i_9 + 1)) o_22.length (qi o_22 (IntKind.wrap .i64 (i_9 + 1)) fun e8 => jQ t_54 e8.length (qi o_22 (IntKind.wrap .i64 (i_9 + 1)) fun e9 => qi e9 t_54 fun e10 => qi o_22 i_9 fun e11 => jQ t_54 e11.length (qi o_22 i_9 fun e12 => qi e12 t_54 fun _ => qi l_0 i_9 fun e14 => cond (decide ((IntKind.wrap .i64 (t_54 - e14.1)) ≥ 0)) (jQ i_9 (o_22.set i_9.toNat (e12.set t_54.toNat e10)).length (qi (o_22.set i_9.toNat (e12.set t_54.toNat e10)) i_9 fun e15 => jQ (IntKind.wrap .i64 (t_54 - e14.1)) e15.length (qi (o_22.set i_9.toNat (e12.set t_54.toNat e10)) i_9 fun e16 => qi e16 (IntKind.wrap .i64 (t_54 - e14.1)) fun e17 => cond (decide (e17 < 1152921504606846976)) (jQ i_9 (o_22.set i_9.toNat (e12.set t_54.toNat e10)).length (jQ i_9 (o_22.set i_9.toNat (e12.set t_54.toNat e10)).length (qi (o_22.set i_9.toNat (e12.set t_54.toNat e10)) i_9 fun e18 => jQ t_54 e18.length (qi (o_22.set i_9.toNat (e12.set t_54.toNat e10)) i_9 fun e19 => qi e19 t_54 fun e20 => jQ i_9 (o_22.set i_9.toNat (e12.set t_54.toNat e10)).length (qi (o_22.set i_9.toNat (e12.set t_54.toNat e10)) i_9 fun e21 => jQ (IntKind.wrap .i64 (t_54 - e14.1)) e21.length (qi (o_22.set i_9.toNat (e12.set t_54.toNat e10)) i_9 fun e22 => qi e22 (IntKind.wrap .i64 (t_54 - e14.1)) fun e23 => qi l_0 i_9 fun e24 => qi (o_22.set i_9.toNat (e12.set t_54.toNat e10)) i_9 fun e25 => jQ t_54 e25.length (qi (o_22.set i_9.toNat (e12.set t_54.toNat e10)) i_9 fun e26 => qi e26 t_54 fun _ => qbG ((o_22.set i_9.toNat (e12.set t_54.toNat e10)).set i_9.toNat (e26.set t_54.toNat (min e20 (IntKind.wrap .i64 (e23 + e24.2))))) fun z28 => L ((l_0, n_1, most_6, i_9, t_53, (IntKind.wrap .i64 (t_54 + 1)), ()), (z28, ()), ())))))))) (L ((l_0, n_1, most_6, i_9, t_53, (IntKind.wrap .i64 (t_54 + 1)), ()), ((o_22.set i_9.toNat (e12.set t_54.toNat e10)), ()), ()))))) (L ((l_0, n_1, most_6, i_9, t_53, (IntKind.wrap .i64 (t_54 + 1)), ()), ((o_22.set i_9.toNat (e12.set t_54.toNat e10)), ()), ()))))))) (some ((l_0, n_1, most_6, i_9, ()), (o_22, ()), ()))
noncomputable def L10081_13 : Nat → zUn × zTn × Unit → Option ((zTx × zTn × Unit))
  | 0, _ => none
  | n + 1, d => B10081_13 n (L10081_13 n) d.1.1 d.1.2.1 d.1.2.2.1 d.1.2.2.2.1 d.1.2.2.2.2.1 d.1.2.2.2.2.2.1 d.2.1.1
noncomputable def l10081_13 : jL := ⟨⟨[(0, .v (.list false 72 (.str zTh))), (1, .v zI), (6, .v zI), (7, .c (.view 22 [])), (9, .v zI), (53, .v zI), (54, .v zI)], [(22, true, .list true 26 zTw)], none⟩, [(.exit 4, ⟨[(0, .v (.list false 72 (.str zTh))), (1, .v zI), (6, .v zI), (7, .c (.view 22 [])), (9, .v zI)], [(22, true, .list true 26 zTw)], none⟩)], L10081_13⟩
noncomputable def B10081_10 (n : Nat) (L : zTx × zTn × Unit → Option zTv) (l_0 : List (Int × Int)) (n_1 : Int) (most_6 : Int) (i_9 : Int) (o_22 : List (List Int)) : Option zTv :=
  cond (decide (i_9 ≥ 0)) (jQ i_9 o_22.length (qi o_22 i_9 fun e7 => qa (L10081_13 n ((l_0, n_1, most_6, i_9, (e7.length : Int), 0, ()), (o_22, ()), ())) fun o29 => L ((o29.1.1, o29.1.2.1, o29.1.2.2.1, (IntKind.wrap .i64 (o29.1.2.2.2.1 - 1)), ()), (o29.2.1.1, ()), ()))) (some ((l_0, n_1, most_6, ()), (o_22, ()), ()))
noncomputable def L10081_10 : Nat → zTx × zTn × Unit → Option zTv
  | 0, _ => none
  | n + 1, d => B10081_10 n (L10081_10 n) d.1.1 d.1.2.1 d.1.2.2.1 d.1.2.2.2.1 d.2.1.1
noncomputable def l10081_10 : jL := ⟨⟨[(0, .v (.list false 72 (.str zTh))), (1, .v zI), (6, .v zI), (7, .c (.view 22 [])), (9, .v zI)], [(22, true, .list true 26 zTw)], none⟩, [(.exit 2, ⟨[(0, .v (.list false 72 (.str zTh))), (1, .v zI), (6, .v zI), (7, .c (.view 22 []))], [(22, true, .list true 26 zTw)], none⟩)], L10081_10⟩
noncomputable def B10081_22 (_n : Nat) (L : zTx × zTn × Unit → Option zUc) (l_0 : List (Int × Int)) (most_6 : Int) (tokens_12 : Int) (t_13 : Int) (o_22 : List (List Int)) : Option zUc :=
  cond (decide (t_13 ≤ most_6)) (jQ 0 o_22.length (qi o_22 0 fun e31 => jQ t_13 e31.length (qi o_22 0 fun e32 => qi e32 t_13 fun e33 => jQ 0 o_22.length (qi o_22 0 fun e34 => jQ tokens_12 e34.length (qi o_22 0 fun e35 => qi e35 tokens_12 fun e36 => cond (decide (e33 < e36)) (L ((l_0, most_6, t_13, (IntKind.wrap .i64 (t_13 + 1)), ()), (o_22, ()), ())) (L ((l_0, most_6, tokens_12, (IntKind.wrap .i64 (t_13 + 1)), ()), (o_22, ()), ()))))))) (some ((l_0, tokens_12, ()), (o_22, ()), ()))
noncomputable def L10081_22 : Nat → zTx × zTn × Unit → Option zUc
  | 0, _ => none
  | n + 1, d => B10081_22 n (L10081_22 n) d.1.1 d.1.2.1 d.1.2.2.1 d.1.2.2.2.1 d.2.1.1
noncomputable def l10081_22 : jL := ⟨⟨[(0, .v (.list false 72 (.str zTh))), (6, .v zI), (7, .c (.view 22 [])), (12, .v zI), (13, .v zI)], [(22, true, .list true 26 zTw)], none⟩, [(.exit 6, ⟨[(0, .v (.list false 72 (.str zTh))), (7, .c (.view 22 [])), (12, .v zI)], [(22, true, .list true 26 zTw)], none⟩)], L10081_22⟩
noncomputable def B10081_34 (_n : Nat) (L : zUk × zUo × Unit → Option zTy) (price_5 : Int) (tokens_12 : Int) (i_14 : Int) (left_16 : Int) (t_150 : List (Int × Int)) (t_151 : Int) (t_152 : Int) (o_15 : Int × Int) (o_22 : List (List Int)) (o_4000149 : List Int) : Option zTy :=
  cond (decide (tokens_12 ≥ o_15.1)) (jQ i_14 o_22.length (qi o_22 i_14 fun e45 => jQ (IntKind.wrap .i64 (tokens_12 - o_15.1)) e45.length (qi o_22 i_14 fun e46 => qi e46 (IntKind.wrap .i64 (tokens_12 - o_15.1)) fun e47 => cond (decide (e47 < 1152921504606846976)) (jQ i_14 o_22.length (qi o_22 i_14 fun e48 => jQ (IntKind.wrap .i64 (tokens_12 - o_15.1)) e48.length (qi o_22 i_14 fun e49 => qi e49 (IntKind.wrap .i64 (tokens_12 - o_15.1)) fun e50 => cond ((IntKind.wrap .i64 (e50 + o_15.2)) == left_16) (jQ i_14 o_4000149.length (qi o_4000149 i_14 fun e51 => jQ i_14 o_4000149.length (qi o_4000149 i_14 fun _ => jQ i_14 o_22.length (qi o_22 i_14 fun e53 => jQ (IntKind.wrap .i64 (tokens_12 - o_15.1)) e53.length (qi o_22 i_14 fun e54 => qi e54 (IntKind.wrap .i64 (tokens_12 - o_15.1)) fun e55 => L ((price_5, (IntKind.wrap .i64 (tokens_12 - o_15.1)), i_14, e55, t_150, t_151, t_152, ()), (o_15, o_22, (o_4000149.set i_14.toNat (IntKind.wrap .i64 (e51 + 1))), ()), ())))))) (some ((price_5, tokens_12, t_150, t_151, t_152, ()), (o_22, o_4000149, ()), ()))))) (some ((price_5, tokens_12, t_150, t_151, t_152, ()), (o_22, o_4000149, ()), ()))))) (some ((price_5, tokens_12, t_150, t_151, t_152, ()), (o_22, o_4000149, ()), ()))
noncomputable def L10081_34 : Nat → zUk × zUo × Unit → Option zTy
  | 0, _ => none
  | n + 1, d => B10081_34 n (L10081_34 n) d.1.1 d.1.2.1 d.1.2.2.1 d.1.2.2.2.1 d.1.2.2.2.2.1 d.1.2.2.2.2.2.1 d.1.2.2.2.2.2.2.1 d.2.1.1 d.2.1.2.1 d.2.1.2.2.1
noncomputable def l10081_34 : jL := ⟨⟨[(4, .c (.view 4000149 [])), (5, .v zI), (7, .c (.view 22 [])), (12, .v zI), (14, .v zI), (15, .c (.ptr 15 [])), (16, .v zI), (150, .v (.list false 72 (.str zTh))), (151, .v zI), (152, .v zI)], [(15, false, .str zTh), (22, true, .list true 26 zTw), (4000149, true, .list true 3 zI)], none⟩, [(.exit 10, ⟨[(4, .c (.view 4000149 [])), (5, .v zI), (7, .c (.view 22 [])), (12, .v zI), (150, .v (.list false 72 (.str zTh))), (151, .v zI), (152, .v zI)], [(22, true, .list true 26 zTw), (4000149, true, .list true 3 zI)], none⟩)], L10081_34⟩
noncomputable def B10081_31 (n : Nat) (L : zUh × zUq × Unit → Option zUt) (price_5 : Int) (tokens_12 : Int) (t_150 : List (Int × Int)) (t_151 : Int) (t_152 : Int) (o_22 : List (List Int)) (o_4000149 : List Int) : Option zUt :=
  cond (decide (t_152 < t_151)) (qi t_150 t_152 fun e41 => jQ t_152 o_22.length (qi o_22 t_152 fun e42 => jQ tokens_12 e42.length (qi o_22 t_152 fun e43 => qi e43 tokens_12 fun e44 => qa (L10081_34 n ((price_5, tokens_12, t_152, e44, t_150, t_151, t_152, ()), (e41, o_22, o_4000149, ()), ())) fun o56 => L ((o56.1.1, o56.1.2.1, o56.1.2.2.1, o56.1.2.2.2.1, (IntKind.wrap .i64 (o56.1.2.2.2.2.1 + 1)), ()), (o56.2.1.1, o56.2.1.2.1, ()), ())))) (some ((price_5, ()), (o_4000149, ()), ()))
noncomputable def L10081_31 : Nat → zUh × zUq × Unit → Option zUt
  | 0, _ => none
  | n + 1, d => B10081_31 n (L10081_31 n) d.1.1 d.1.2.1 d.1.2.2.1 d.1.2.2.2.1 d.1.2.2.2.2.1 d.2.1.1 d.2.1.2.1
noncomputable def l10081_31 : jL := ⟨⟨[(4, .c (.view 4000149 [])), (5, .v zI), (7, .c (.view 22 [])), (12, .v zI), (150, .v (.list false 72 (.str zTh))), (151, .v zI), (152, .v zI)], [(22, true, .list true 26 zTw), (4000149, true, .list true 3 zI)], none⟩, [(.exit 8, ⟨[(4, .c (.view 4000149 [])), (5, .v zI)], [(4000149, true, .list true 3 zI)], none⟩)], L10081_31⟩
noncomputable def F10081 (n : Nat) (l_0 : (List (Int × Int))) (n_1 : Int) : Option zUd :=
  leK 0 (IntKind.wrap .i64 ((l_0.length : Int) + 1)) (leK (IntKind.wrap .i64 ((l_0.length : Int) + 1)) (IntKind.wrap .i64 ((l_0.length : Int) + 1)) (jF (IntKind.wrap .i64 ((l_0.length : Int) + 1)) (qa (L10081_4 n ((l_0, n_1, (IntKind.wrap .i64 (n_1 + 1000)), ((List.replicate (IntKind.wrap .i64 ((l_0.length : Int) + 1)).toNat ([] : List Int)).length : Int), 0, ()), ((List.replicate (IntKind.wrap .i64 ((l_0.length : Int) + 1)).toNat ([] : List Int)), ()), ())) fun o3 => jQ (o3.1.1.length : Int) o3.2.1.1.length (qi o3.2.1.1 (o3.1.1.length : Int) fun e4 => jQ 0 e4.length (qi o3.2.1.1 (o3.1.1.length : Int) fun e5 => qi e5 0 fun _ => qa (L10081_10 n ((o3.1.1, o3.1.2.1, o3.1.2.2.1, (IntKind.wrap .i64 ((o3.1.1.length : Int) - 1)), ()), ((o3.2.1.1.set (o3.1.1.length : Int).toNat (e5.set (0 : Int).toNat 0)), ()), ())) fun o30 => qa (L10081_22 n ((o30.1.1, o30.1.2.2.1, o30.1.2.1, o30.1.2.1, ()), (o30.2.1.1, ()), ())) fun o37 => jQ 0 o37.2.1.1.length (qi o37.2.1.1 0 fun e38 => jQ o37.1.2.1 e38.length (qi o37.2.1.1 0 fun e39 => qi e39 o37.1.2.1 fun e40 => cond (e40 == 1152921504606846976) (some ((([] : List Int), 0, ()), ())) (leK 0 (o37.1.1.length : Int) (leK (o37.1.1.length : Int) (o37.1.1.length : Int) (jF (o37.1.1.length : Int) (qa (L10081_31 n ((e40, o37.1.2.1, o37.1.1, (o37.1.1.length : Int), 0, ()), (o37.2.1.1, (List.replicate (o37.1.1.length : Int).toNat (0 : Int)), ()), ())) fun _ => none)))))))))))
noncomputable def g10081 (d : (List (Int × Int)) × Int × Unit) : Option zUd := F10081 fuel d.1 d.2.1
noncomputable def p10081 : qI := ⟨[.v (.list false 72 (.str zTh)), .v zI], [.sure false 3 zI, .v zI], g10081⟩
noncomputable def c10081 : qX := ⟨218, tyT, [(22, .list true 26 zTw), (4, .bool)], [(101, p101)], [(4, l10081_4), (13, l10081_13), (10, l10081_10), (22, l10081_22), (34, l10081_34), (31, l10081_31)], [], [1000149], [], [], [], [], [], [], [], none⟩
theorem F10081_eq (n : Nat) (d) : qA c10081 n Tryz.f81 (body Tryz.f81) p10081.ps p10081.rs d = F10081 n d.1 d.2.1 := by kernel_rfl
theorem L10081_4_eq (n : Nat) (d) : (l10081_4).g (n + 1) d = run c10081 n (nth 0 (qe (body Tryz.f81))) ((l10081_4).ins.fill d) (qO (l10081_4) n) := by kernel_rfl
theorem L10081_10_eq (n : Nat) (d) : (l10081_10).g (n + 1) d = run c10081 n (nth 1 (qe (body Tryz.f81))) ((l10081_10).ins.fill d) (qO (l10081_10) n) := by kernel_rfl
theorem L10081_13_eq (n : Nat) (d) : (l10081_13).g (n + 1) d = run c10081 n (nth 2 (qe (body Tryz.f81))) ((l10081_13).ins.fill d) (qO (l10081_13) n) := by kernel_rfl
theorem L10081_22_eq (n : Nat) (d) : (l10081_22).g (n + 1) d = run c10081 n (nth 3 (qe (body Tryz.f81))) ((l10081_22).ins.fill d) (qO (l10081_22) n) := by kernel_rfl
theorem L10081_31_eq (n : Nat) (d) : (l10081_31).g (n + 1) d = run c10081 n (nth 4 (qe (body Tryz.f81))) ((l10081_31).ins.fill d) (qO (l10081_31) n) := by kernel_rfl
theorem L10081_34_eq (n : Nat) (d) : (l10081_34).g (n + 1) d = run c10081 n (nth 5 (qe (body Tryz.f81))) ((l10081_34).ins.fill d) (qO (l10081_34) n) := by kernel_rfl
theorem ls10081 : qe (body Tryz.f81) = [nth 0 (qe (body Tryz.f81)), nth 1 (qe (body Tryz.f81)), nth 2 (qe (body Tryz.f81)), nth 3 (qe (body Tryz.f81)), nth 4 (qe (body Tryz.f81)), nth 5 (qe (body Tryz.f81))] := by kernel_rfl
theorem d10081 : qn c10081 (body Tryz.f81) = true := by kernel_rfl
theorem h10081 : qz Tryz.prog 81 p10081 := hQ (cfg := c10081) (qo qq (qd h101 qh) rfl (by kernel_rfl)) Tryz.func81 (by kernel_rfl) (by rw [ls10081]; simp only [List.forall_mem_cons]; exact ⟨qJ (key := 4) (li := l10081_4) (by kernel_rfl) rfl (fun _ => rfl) (L10081_4_eq), qJ (key := 10) (li := l10081_10) (by kernel_rfl) rfl (fun _ => rfl) (L10081_10_eq), qJ (key := 13) (li := l10081_13) (by kernel_rfl) rfl (fun _ => rfl) (L10081_13_eq), qJ (key := 22) (li := l10081_22) (by kernel_rfl) rfl (fun _ => rfl) (L10081_22_eq), qJ (key := 31) (li := l10081_31) (by kernel_rfl) rfl (fun _ => rfl) (L10081_31_eq), qJ (key := 34) (li := l10081_34) (by kernel_rfl) rfl (fun _ => rfl) (L10081_34_eq), fun _ h => by cases h⟩) d10081 (F10081_eq fuel)
noncomputable def F47 (_n : Nat) (f_0 : zTu) (n_1 : Int) : Option zUg :=
  altK (g10081 (f_0.2.2.2.2.1, n_1, ())) (fun _ => some ((([] : List Int), 0, 3, ()), ())) (qa (g81 (f_0.2.2.2.2.1, n_1, ())) fun y2 => some ((y2.1.1, y2.1.2.1, 0, ()), ()))
noncomputable def g47 (d : zTu × Int × Unit) : Option zUg := F47 fuel d.1 d.2.1
noncomputable def p47 : qI := ⟨[.v (.str (.pair zI (.pair zI (.pair jD (.pair jD (.pair (.list false 72 (.str zTh)) (.pair zI zTh))))))), .v zI], [.own 3 zI, .v zI, .v zI], g47⟩
noncomputable def c47 : qX := ⟨20, tyT, [], [(81, p81)], [], [], [], [], [], [], [(81, p10081)], [], [], [], none⟩
theorem F47_eq (n : Nat) (d) : qA c47 n Tryz.f47 (body Tryz.f47) p47.ps p47.rs d = F47 n d.1 d.2.1 := by kernel_rfl
theorem d47 : qn c47 (body Tryz.f47) = true := by kernel_rfl
theorem h47 : qz Tryz.prog 47 p47 := hQ (cfg := c47) (qo qq (qd h81 qh) rfl (by kernel_rfl) (hal := qd h10081 qh)) Tryz.func47 (by kernel_rfl) (qr (by kernel_rfl)) d47 (F47_eq fuel)
noncomputable def F18 (_n : Nat) (f_0 : zTu) (n_1 : Int) : Option zUg :=
  qa (g45 (f_0, ())) fun y1 => cond (y1.1.1 != 0) (some ((([] : List Int), 0, y1.1.1, ()), ())) (qa (g46 (n_1, 0, 1000, ())) fun y2 => cond (!y2.1.1) (some ((([] : List Int), 0, 1, ()), ())) (qa (g47 (f_0, n_1, ())) fun y3 => some ((y3.1.1, y3.1.2.1, y3.1.2.2.1, ()), ())))
noncomputable def g18 (d : zTu × Int × Unit) : Option zUg := F18 fuel d.1 d.2.1
noncomputable def p18 : qI := ⟨[.v (.str (.pair zI (.pair zI (.pair jD (.pair jD (.pair (.list false 72 (.str zTh)) (.pair zI zTh))))))), .v zI], [.own 3 zI, .v zI, .v zI], g18⟩
noncomputable def c18 : qX := ⟨22, tyT, [], [(45, p45), (46, p46), (47, p47)], [], [], [], [], [], [], [], [], [], [], none⟩
theorem F18_eq (n : Nat) (d) : qA c18 n Tryz.f18 (body Tryz.f18) p18.ps p18.rs d = F18 n d.1 d.2.1 := by kernel_rfl
theorem d18 : qn c18 (body Tryz.f18) = true := by kernel_rfl
theorem h18 : qz Tryz.prog 18 p18 := hQ (cfg := c18) (qo qq (qd h45 (qd h46 (qd h47 qh))) rfl (by kernel_rfl)) Tryz.func18 (by kernel_rfl) (qr (by kernel_rfl)) d18 (F18_eq fuel)
noncomputable def F6 (_n : Nat)  : Option zTl :=
  qbG ((0 : Int), (0 : Int), [5], [0], [(1, 200), (6, 1000)], (0 : Int), (0 : Int), 1) fun z1 => qa (g18 (z1, 7, ())) fun y2 => cond (y2.1.2.2.1 == 0) (cond (y2.1.2.1 == 1200) (qa (g14 (y2.1.1, [1, 1], ())) fun y3 => some ((y3.1.1, ()), ())) (some ((false, ()), ()))) (some ((false, ()), ()))
noncomputable def g6 (_d : Unit) : Option zTl := F6 fuel 
noncomputable def p6 : qI := ⟨[], [.v .bool], g6⟩
noncomputable def c6 : qX := ⟨28, tyT, [], [(14, p14), (18, p18)], [], [], [], [], [], [], [], [], [], [], none⟩
theorem F6_eq (n : Nat) (d) : qA c6 n Tryz.f6 (body Tryz.f6) p6.ps p6.rs d = F6 n  := by kernel_rfl
theorem d6 : qn c6 (body Tryz.f6) = true := by kernel_rfl
theorem h6 : qz Tryz.prog 6 p6 := hQ (cfg := c6) (qo qq (qd h14 (qd h18 qh)) rfl (by kernel_rfl)) Tryz.func6 (by kernel_rfl) (qr (by kernel_rfl)) d6 (F6_eq fuel)
noncomputable def F19 (_n : Nat) (f_0 : zTt) : Option ((zTt × Unit) × (Unit)) :=
  jF ((([] : List (Int × zTj)).length : Int) + f_0.1.length) (some ((((([] : List (Int × zTj)) ++ f_0.1), f_0.2), ()), ()))
noncomputable def g19 (d : zTt × Unit) : Option ((zTt × Unit) × (Unit)) := F19 fuel d.1
noncomputable def p19 : qI := ⟨[.v (.str zTd)], [.v (.str zTd)], g19⟩
noncomputable def c19 : qX := ⟨10, tyT, [(1, .str zTd), (6, .list true 145 (.str (.pair zI zTi)))], [], [], [], [1], [], [], [], [], [], [], [], none⟩
theorem F19_eq (n : Nat) (d) : qA c19 n Tryz.f19 (body Tryz.f19) p19.ps p19.rs d = F19 n d.1 := by kernel_rfl
theorem d19 : qn c19 (body Tryz.f19) = true := by kernel_rfl
theorem h19 : qz Tryz.prog 19 p19 := hQ (cfg := c19) (qo qq (qh) rfl (by kernel_rfl)) Tryz.func19 (by kernel_rfl) (qr (by kernel_rfl)) d19 (F19_eq fuel)
noncomputable def F7 (_n : Nat) (g_0 : zTc) : Option ((zTc × Unit) × (Unit)) :=
  qa (g19 (g_0.1, ())) fun y1 => qjn (jF ((([] : List (Int × zTf)).length : Int) + g_0.2.2.1.length) (qbG (((y1.1.1, g_0.2).1, (((([] : List zTj) ++ g_0.2.1.1), (([] : List Int) ++ g_0.2.1.2.1), (([] : List Int) ++ g_0.2.1.2.2)), ((y1.1.1, g_0.2).2).2)).1, ((((y1.1.1, g_0.2).1, (((([] : List zTj) ++ g_0.2.1.1), (([] : List Int) ++ g_0.2.1.2.1), (([] : List Int) ++ g_0.2.1.2.2)), ((y1.1.1, g_0.2).2).2)).2).1, ((([] : List (Int × zTf)) ++ g_0.2.2.1), ((((y1.1.1, g_0.2).1, (((([] : List zTj) ++ g_0.2.1.1), (([] : List Int) ++ g_0.2.1.2.1), (([] : List Int) ++ g_0.2.1.2.2)), ((y1.1.1, g_0.2).2).2)).2).2).2))) fun z2 => jF ((([] : List zTf).length : Int) + g_0.2.2.2.2.1.1.length) (qbG (z2.1, (z2.2.1, (z2.2.2.1, (z2.2.2.2.1, (((([] : List zTf) ++ g_0.2.2.2.2.1.1), z2.2.2.2.2.1.2), z2.2.2.2.2.2))))) fun z3 => jF ((([] : List zTf).length : Int) + g_0.2.2.2.2.1.2.1.length) (qbG (z3.1, (z3.2.1, (z3.2.2.1, (z3.2.2.2.1, ((z3.2.2.2.2.1.1, ((([] : List zTf) ++ g_0.2.2.2.2.1.2.1), z3.2.2.2.2.1.2.2)), z3.2.2.2.2.2))))) fun z4 => jF ((([] : List Int).length : Int) + g_0.2.2.2.2.2.1.length) (qbG (z4.1, (z4.2.1, (z4.2.2.1, (z4.2.2.2.1, (z4.2.2.2.2.1, ((([] : List Int) ++ g_0.2.2.2.2.2.1), z4.2.2.2.2.2.2)))))) fun z5 => jF ((([] : List Int).length : Int) + g_0.2.2.2.2.2.2.length) (qbG (z5.1, (z5.2.1, (z5.2.2.1, (z5.2.2.2.1, (z5.2.2.2.2.1, (z5.2.2.2.2.2.1, (([] : List Int) ++ g_0.2.2.2.2.2.2))))))) fun z6 => some ((z6, ()), ()))))))) fun E => qE [qE [jF ((([] : List zTj).length : Int) + g_0.2.1.1.length) (qE [qE [jF ((([] : List Int).length : Int) + g_0.2.1.2.1.length) (jF ((([] : List Int).length : Int) + g_0.2.1.2.2.length) (E)), jF ((([] : List Int).length : Int) + g_0.2.1.2.1.length) (jF ((([] : List Int).length : Int) + g_0.2.1.2.2.length) (E))], jF ((([] : List Int).length : Int) + g_0.2.1.2.1.length) (jF ((([] : List Int).length : Int) + g_0.2.1.2.2.length) (E))]), qE [jF ((([] : List zTj).length : Int) + g_0.2.1.1.length) (qE [jF ((([] : List Int).length : Int) + g_0.2.1.2.1.length) (jF ((([] : List Int).length : Int) + g_0.2.1.2.2.length) (E)), jF ((([] : List Int).length : Int) + g_0.2.1.2.1.length) (jF ((([] : List Int).length : Int) + g_0.2.1.2.2.length) (E))]), jF ((([] : List zTj).length : Int) + g_0.2.1.1.length) (jF ((([] : List Int).length : Int) + g_0.2.1.2.1.length) (jF ((([] : List Int).length : Int) + g_0.2.1.2.2.length) (E)))], qE [jF ((([] : List zTj).length : Int) + g_0.2.1.1.length) (jF ((([] : List Int).length : Int) + g_0.2.1.2.1.length) (jF ((([] : List Int).length : Int) + g_0.2.1.2.2.length) (E))), jF ((([] : List zTj).length : Int) + g_0.2.1.1.length) (jF ((([] : List Int).length : Int) + g_0.2.1.2.1.length) (jF ((([] : List Int).length : Int) + g_0.2.1.2.2.length) (E)))]], qE [qE [jF ((([] : List zTj).length : Int) + g_0.2.1.1.length) (qE [jF ((([] : List Int).length : Int) + g_0.2.1.2.1.length) (jF ((([] : List Int).length : Int) + g_0.2.1.2.2.length) (E)), jF ((([] : List Int).length : Int) + g_0.2.1.2.1.length) (jF ((([] : List Int).length : Int) + g_0.2.1.2.2.length) (E))]), jF ((([] : List zTj).length : Int) + g_0.2.1.1.length) (jF ((([] : List Int).length : Int) + g_0.2.1.2.1.length) (jF ((([] : List Int).length : Int) + g_0.2.1.2.2.length) (E)))], jF ((([] : List zTj).length : Int) + g_0.2.1.1.length) (jF ((([] : List Int).length : Int) + g_0.2.1.2.1.length) (jF ((([] : List Int).length : Int) + g_0.2.1.2.2.length) (E)))], qE [qE [jF ((([] : List zTj).length : Int) + g_0.2.1.1.length) (jF ((([] : List Int).length : Int) + g_0.2.1.2.1.length) (jF ((([] : List Int).length : Int) + g_0.2.1.2.2.length) (E))), jF ((([] : List zTj).length : Int) + g_0.2.1.1.length) (jF ((([] : List Int).length : Int) + g_0.2.1.2.1.length) (jF ((([] : List Int).length : Int) + g_0.2.1.2.2.length) (E)))], jF ((([] : List zTj).length : Int) + g_0.2.1.1.length) (jF ((([] : List Int).length : Int) + g_0.2.1.2.1.length) (jF ((([] : List Int).length : Int) + g_0.2.1.2.2.length) (E)))]]
noncomputable def g7 (d : zTc × Unit) : Option ((zTc × Unit) × (Unit)) := F7 fuel d.1
noncomputable def p7 : qI := ⟨[.v (.str (.pair (.str zTd) (.pair (.str zTb) (.pair (.list false 68 (.str (.pair zI qQ))) (.pair zI (.pair (.str (.pair (.list false 51 (.str qQ)) (.pair (.list false 116 (.str qQ)) (.pair zI zTh)))) (.pair jD jD)))))))], [.ownv (.str (.pair (.str zTd) (.pair (.str zTb) (.pair (.list true 68 (.str (.pair zI qQ))) (.pair zI (.pair (.str (.pair (.list true 51 (.str qQ)) (.pair (.list true 116 (.str qQ)) (.pair zI zTh)))) (.pair jD jD)))))))], g7⟩
noncomputable def c7 : qX := ⟨56, tyT, [(1, .str (.pair (.str zTd) (.pair (.str zTb) (.pair (.list false 68 (.str (.pair zI qQ))) (.pair zI (.pair (.str (.pair (.list false 51 (.str qQ)) (.pair (.list false 116 (.str qQ)) (.pair zI zTh)))) (.pair jD jD))))))), (13, .list true 150 (.str zTi)), (18, .list true 3 zI), (23, .list true 3 zI), (29, .list true 68 (.str (.pair zI qQ))), (35, .list true 51 (.str qQ)), (42, .list true 116 (.str qQ)), (48, .list true 3 zI), (53, .list true 3 zI), (55, .str (.pair (.str zTd) (.pair (.str zTb) (.pair (.list true 68 (.str (.pair zI qQ))) (.pair zI (.pair (.str (.pair (.list true 51 (.str qQ)) (.pair (.list true 116 (.str qQ)) (.pair zI zTh)))) (.pair jD jD))))))), (2, .str (.pair (.str zTd) (.pair (.str zTb) (.pair (.list true 68 (.str (.pair zI qQ))) (.pair zI (.pair (.str (.pair (.list true 51 (.str qQ)) (.pair (.list true 116 (.str qQ)) (.pair zI zTh)))) (.pair jD jD)))))))], [(19, p19)], [], [], [3, 6000030, 6000037, 6000044], [], [], [], [], [], [], [], none⟩
theorem F7_eq (n : Nat) (d) : qA c7 n Tryz.f7 (body Tryz.f7) p7.ps p7.rs d = F7 n d.1 := by kernel_rfl
theorem d7 : qn c7 (body Tryz.f7) = true := by kernel_rfl
theorem h7 : qz Tryz.prog 7 p7 := hQ (cfg := c7) (qo qq (qd h19 qh) rfl (by kernel_rfl)) Tryz.func7 (by kernel_rfl) (qr (by kernel_rfl)) d7 (F7_eq fuel)
noncomputable def F51 (_n : Nat) (n_0 : Int) (low_1 : Int) (high_2 : Int) : Option zTl :=
  cond (decide (n_0 ≥ low_1)) (some (((decide (n_0 ≤ high_2)), ()), ())) (some ((false, ()), ()))
noncomputable def g51 (d : Int × Int × Int × Unit) : Option zTl := F51 fuel d.1 d.2.1 d.2.2.1
noncomputable def p51 : qI := ⟨[.v zI, .v zI, .v zI], [.v .bool], g51⟩
noncomputable def c51 : qX := ⟨15, tyT, [], [], [], [], [], [], [], [], [], [], [], [], none⟩
theorem F51_eq (n : Nat) (d) : qA c51 n Tryz.f51 (body Tryz.f51) p51.ps p51.rs d = F51 n d.1 d.2.1 d.2.2.1 := by kernel_rfl
theorem d51 : qn c51 (body Tryz.f51) = true := by kernel_rfl
theorem h51 : qz Tryz.prog 51 p51 := hQ (cfg := c51) (qo qq (qh) rfl (by kernel_rfl)) Tryz.func51 (by kernel_rfl) (qr (by kernel_rfl)) d51 (F51_eq fuel)
noncomputable def F82 (_n : Nat) (b_0 : (Int × zTj)) : Option zTl :=
  qa (g51 (b_0.1, 1, 40, ())) fun y1 => cond (!y1.1.1) (some ((true, ()), ())) (qa (g51 (b_0.2.1, 0, 100, ())) fun y2 => cond (!y2.1.1) (some ((true, ()), ())) (qa (g51 (b_0.2.2.1, 1, 100, ())) fun y3 => cond (!y3.1.1) (some ((true, ()), ())) (qa (g51 (b_0.2.2.2.1, 0, 100, ())) fun y4 => some (((!y4.1.1), ()), ()))))
noncomputable def g82 (d : (Int × zTj) × Unit) : Option zTl := F82 fuel d.1
noncomputable def p82 : qI := ⟨[.v (.str (.pair zI zTi))], [.v .bool], g82⟩
noncomputable def c82 : qX := ⟨25, tyT, [], [(51, p51)], [], [], [], [], [], [], [], [], [], [], none⟩
theorem F82_eq (n : Nat) (d) : qA c82 n Tryz.f82 (body Tryz.f82) p82.ps p82.rs d = F82 n d.1 := by kernel_rfl
theorem d82 : qn c82 (body Tryz.f82) = true := by kernel_rfl
theorem h82 : qz Tryz.prog 82 p82 := hQ (cfg := c82) (qo qq (qd h51 qh) rfl (by kernel_rfl)) Tryz.func82 (by kernel_rfl) (qr (by kernel_rfl)) d82 (F82_eq fuel)
noncomputable def B102_2 (_n : Nat) (L : ((List (Int × zTj)) × ((Int × zTj) → Option Bool) × Int × Int × Unit) × (Unit) × Unit → Option (zTm ⊕ zTr)) (s_0 : List (Int × zTj)) (f_1 : (Int × zTj) → Option Bool) (t_7 : Int) (t_8 : Int) : Option (zTm ⊕ zTr) :=
  cond (decide (t_8 < t_7)) (qi s_0 t_8 fun e1 => qa (f_1 e1) fun y2 => cond y2 (some (.inl ((t_8, ()), (), ()))) (L ((s_0, f_1, t_7, (IntKind.wrap .i64 (t_8 + 1)), ()), (), ()))) (some (.inr ((), (), ())))
noncomputable def L102_2 : Nat → ((List (Int × zTj)) × ((Int × zTj) → Option Bool) × Int × Int × Unit) × (Unit) × Unit → Option (zTm ⊕ zTr)
  | 0, _ => none
  | n + 1, d => B102_2 n (L102_2 n) d.1.1 d.1.2.1 d.1.2.2.1 d.1.2.2.2.1
noncomputable def l102_2 : jL := ⟨⟨[(0, .v (.list false 145 (.str (.pair zI zTi)))), (1, .v (.fn (.str (.pair zI zTi)) .bool)), (7, .v zI), (8, .v zI)], [], none⟩, [(.ret, ⟨[(4, .v zI)], [], none⟩), (.exit 0, ⟨[], [], none⟩)], L102_2⟩
noncomputable def F102 (n : Nat) (s_0 : (List (Int × zTj))) (f_1 : ((Int × zTj) → Option Bool)) : Option zTq :=
  qa (L102_2 n ((s_0, f_1, (s_0.length : Int), 0, ()), (), ())) fun o3 => qbS o3 (fun d4 => some ((d4.1.1, ()), ())) (fun _ => some (((-1), ()), ()))
noncomputable def g102 (d : (List (Int × zTj)) × ((Int × zTj) → Option Bool) × Unit) : Option zTq := F102 fuel d.1 d.2.1
noncomputable def p102 : qI := ⟨[.v (.list false 145 (.str (.pair zI zTi))), .v (.fn (.str (.pair zI zTi)) .bool)], [.v zI], g102⟩
noncomputable def c102 : qX := ⟨19, tyT, [], [], [(2, l102_2)], [], [], [], [], [], [], [], [], [], none⟩
theorem F102_eq (n : Nat) (d) : qA c102 n Tryz.f102 (body Tryz.f102) p102.ps p102.rs d = F102 n d.1 d.2.1 := by kernel_rfl
theorem L102_2_eq (n : Nat) (d) : (l102_2).g (n + 1) d = run c102 n (nth 0 (qe (body Tryz.f102))) ((l102_2).ins.fill d) (qO (l102_2) n) := by kernel_rfl
theorem ls102 : qe (body Tryz.f102) = [nth 0 (qe (body Tryz.f102))] := by kernel_rfl
theorem d102 : qn c102 (body Tryz.f102) = true := by kernel_rfl
theorem h102 : qz Tryz.prog 102 p102 := hQ (cfg := c102) (qo qq (qh) rfl (by kernel_rfl)) Tryz.func102 (by kernel_rfl) (by rw [ls102]; simp only [List.forall_mem_cons]; exact ⟨qJ (key := 2) (li := l102_2) (by kernel_rfl) rfl (fun _ => rfl) (L102_2_eq), fun _ h => by cases h⟩) d102 (F102_eq fuel)
noncomputable def F83 (_n : Nat) (s_0 : (List (Int × zTj))) (f_1 : ((Int × zTj) → Option Bool)) : Option zTl :=
  qa (g102 (s_0, f_1, ())) fun y1 => some (((decide (y1.1.1 ≥ 0)), ()), ())
noncomputable def g83 (d : (List (Int × zTj)) × ((Int × zTj) → Option Bool) × Unit) : Option zTl := F83 fuel d.1 d.2.1
noncomputable def p83 : qI := ⟨[.v (.list false 145 (.str (.pair zI zTi))), .v (.fn (.str (.pair zI zTi)) .bool)], [.v .bool], g83⟩
noncomputable def c83 : qX := ⟨9, tyT, [], [(102, p102)], [], [], [], [], [], [], [], [], [], [], none⟩
theorem F83_eq (n : Nat) (d) : qA c83 n Tryz.f83 (body Tryz.f83) p83.ps p83.rs d = F83 n d.1 d.2.1 := by kernel_rfl
theorem d83 : qn c83 (body Tryz.f83) = true := by kernel_rfl
theorem h83 : qz Tryz.prog 83 p83 := hQ (cfg := c83) (qo qq (qd h102 qh) rfl (by kernel_rfl)) Tryz.func83 (by kernel_rfl) (qr (by kernel_rfl)) d83 (F83_eq fuel)
noncomputable def F48 (_n : Nat) (f_0 : zTt) : Option zTq :=
  cond (decide ((f_0.1.length : Int) > 8)) (some ((70, ()), ())) (qa (g51 (f_0.2, 0, 100, ())) fun y1 => cond (!y1.1.1) (some ((70, ()), ())) (qa (g83 (f_0.1, (fun v2 => qa (g82 (v2, ())) fun y3 => some y3.1.1), ())) fun y4 => cond y4.1.1 (some ((70, ()), ())) (some ((0, ()), ()))))
noncomputable def g48 (d : zTt × Unit) : Option zTq := F48 fuel d.1
noncomputable def p48 : qI := ⟨[.v (.str zTd)], [.v zI], g48⟩
noncomputable def c48 : qX := ⟨20, tyT, [], [(51, p51), (82, p82), (83, p83)], [], [], [], [], [], [], [], [], [], [], none⟩
theorem F48_eq (n : Nat) (d) : qA c48 n Tryz.f48 (body Tryz.f48) p48.ps p48.rs d = F48 n d.1 := by kernel_rfl
theorem d48 : qn c48 (body Tryz.f48) = true := by kernel_rfl
theorem h48 : qz Tryz.prog 48 p48 := hQ (cfg := c48) (qo qq (qd h51 (qd h82 (qd h83 qh))) rfl (by kernel_rfl)) Tryz.func48 (by kernel_rfl) (qr (by kernel_rfl)) d48 (F48_eq fuel)
noncomputable def F50 (_n : Nat) (n_0 : Int) (t_1 : zTt) : Option zTl :=
  qa (g51 (n_0, 0, (IntKind.wrap .i64 ((t_1.1.length : Int) - 1)), ())) fun y1 => some (((!y1.1.1), ()), ())
noncomputable def g50 (d : Int × zTt × Unit) : Option zTl := F50 fuel d.1 d.2.1
noncomputable def p50 : qI := ⟨[.v zI, .r (.str zTd)], [.v .bool], g50⟩
noncomputable def c50 : qX := ⟨11, tyT, [], [(51, p51)], [], [], [], [], [], [], [], [], [], [], none⟩
theorem F50_eq (n : Nat) (d) : qA c50 n Tryz.f50 (body Tryz.f50) p50.ps p50.rs d = F50 n d.1 d.2.1 := by kernel_rfl
theorem d50 : qn c50 (body Tryz.f50) = true := by kernel_rfl
theorem h50 : qz Tryz.prog 50 p50 := hQ (cfg := c50) (qo qq (qd h51 qh) rfl (by kernel_rfl)) Tryz.func50 (by kernel_rfl) (qr (by kernel_rfl)) d50 (F50_eq fuel)
end Go.Proofs.Tryz.V
