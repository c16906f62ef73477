/- The contracts of functions of the program, printed by program from the interpreter: each says what a call returns. No condition beyond those typed in each theorem. -/
import Derived.Test.YtinkjepanpicoaaMk
import Derived.Test.YtinkjepanpicoaaProg
namespace Go.Proofs.Try.V
open Go.Vi
set_option maxRecDepth 100000
abbrev zI : Ty := .int .i64
abbrev zTh : Ty := .list false 3 zI
abbrev zTi : Ty := .pair zI (.pair zI (.pair zI .bool))
abbrev zTb : Ty := .pair (.list false 56 (.str zTi)) (.pair zTh zTh)
abbrev zTd : Ty := .pair (.list false 106 (.str (.pair zI zTi))) zI
abbrev zTj : Type := Int × (Int × (Int × Bool))
abbrev zTm : Type := (Bool × Unit) × (Unit)
abbrev zTn : Type := (Int × Unit) × (Unit) × Unit
abbrev zTp : Type := (List (List Int)) × Unit
abbrev zTq : Type := Int × (Int × (Int × ((List Int) × Int)))
abbrev zTr : Type := (Unit) × (Unit) × Unit
abbrev zTs : Type := (Int × Unit) × (Unit)
abbrev zTt : Type := (List (Int × zTj)) × Int
abbrev zTu : Type := (List Int) × Unit
abbrev zTw : Type := (((List (Int × Int)) × Int × Int × Unit) × zTp × Unit)
abbrev zTx : Ty := .list true 3 zI
abbrev zTy : Type := (List (Int × Int)) × Int × Int × Int × Unit
abbrev zUa : Ty := .pair zI zI
abbrev zTg : Ty := .pair zI zUa
abbrev zTa : Ty := .pair zI zTg
abbrev zTk : Ty := .list false 63 (.str zUa)
abbrev zUd : Type := (Bool × Unit) × (Unit) × Unit
abbrev zUe : Type := ((Unit) × zTu × Unit)
abbrev zUf : Type := Int × Int × Int × Unit
abbrev zUg : Type := ((List Int) × Int × Unit) × (Unit)
abbrev zUi : Type := (((List (Int × Int)) × Int × Unit) × zTp × Unit)
abbrev zUk : Type := Int × Int × (List (Int × Int)) × Int × Int × Unit
abbrev zUl : Type := Int × (Int × Int)
abbrev zTe : Type := Int × zUl
abbrev zTl : Type := (List zTe) × ((List zTe) × zUl)
abbrev zTv : Type := Int × (Int × ((List Int) × ((List Int) × ((List (Int × Int)) × zUl))))
abbrev zUm : Type := Int × Int × Int × Int × (List (Int × Int)) × Int × Int × Unit
abbrev zUn : Type := (Int × Int × Unit) × (Unit)
abbrev zUo : Type := (List (Int × zTe)) × Int × Int × Unit
abbrev zUp : Type := (List (Int × Int)) × Int × Int × Int × Int × Int × Unit
abbrev zUq : Type := (Int × Int) × (List (List Int)) × (List Int) × Unit
abbrev zUr : Type := (List Int) × (List Int)
abbrev zTf : Type := (List zTj) × zUr
abbrev zTo : Type := zTf × (List (Int × zTe))
abbrev zUc : Type := zTf × ((List (Int × zTe)) × (Int × (zTl × zUr)))
abbrev zTc : Type := zTt × zUc
abbrev zUh : Type := zTc × (List (Int × zTe)) × (List Int) × Unit
abbrev zUj : Type := zTf × (List (List Int)) × zTo × Unit
abbrev zUs : Ty := .arr 3 zI
abbrev zUt : Type := (List (Int × Int)) × Int × Int × Int × Int × Unit
abbrev zUu : Type := (List (List Int)) × (List Int) × Unit
abbrev zTz : Type := (zUk × zUu × Unit)
abbrev zUv : Type := (Unit) × (zTf × Unit) × Unit
abbrev zUw : Type := (Unit) × (zTl × Unit) × Unit
abbrev zUx : Type := ((Int × Unit) × zTu × Unit)
abbrev zUy : Type := zTc × (List (Int × zTe)) × Unit
abbrev zUb : Type := (zTe × Unit) × zUy × Unit
abbrev zUz : Type := ((List Int) × Int × Int × Unit) × (Unit)
abbrev zVa : Ty := .arr 2 zI
abbrev zVb : Type := ((Unit) × zTp × Unit)
abbrev zVc : Type := ((List zTq) × Int × Unit) × (zTt × Unit) × Unit
def tyT : List (Nat × Ty) := [(2, .int .i64), (3, .int .i64), (4, .bool), (5, .int .u8), (6, .int .u8), (7, .str (.pair zI (.pair zI (.pair .bool (.int .u8))))), (8, .str (.pair zI (.pair zI (.pair .bool (.int .u8))))), (12, .int .u64), (21, .int .i32), (22, .list false 106 (.str (.pair zI zTi))), (23, .str zTd), (24, .str zTd), (25, .list false 56 (.str zTi)), (26, .list false 3 zI), (27, .str zTb), (28, .str zTb), (29, .list false 48 (.str (.pair zI zTa))), (30, .list false 46 (.str zTa)), (31, .list false 44 (.str zTa)), (32, .str (.pair (.list false 46 (.str zTa)) (.pair (.list false 44 (.str zTa)) zTg))), (33, .str (.pair (.list false 46 (.str zTa)) (.pair (.list false 44 (.str zTa)) zTg))), (34, .str (.pair (.str zTd) (.pair (.str zTb) (.pair (.list false 48 (.str (.pair zI zTa))) (.pair zI (.pair (.str (.pair (.list false 46 (.str zTa)) (.pair (.list false 44 (.str zTa)) zTg))) (.pair zTh zTh))))))), (35, .str (.pair (.str zTd) (.pair (.str zTb) (.pair (.list false 48 (.str (.pair zI zTa))) (.pair zI (.pair (.str (.pair (.list false 46 (.str zTa)) (.pair (.list false 44 (.str zTa)) zTg))) (.pair zTh zTh))))))), (36, .fn (.str (.pair (.str zTd) (.pair (.str zTb) (.pair (.list false 48 (.str (.pair zI zTa))) (.pair zI (.pair (.str (.pair (.list false 46 (.str zTa)) (.pair (.list false 44 (.str zTa)) zTg))) (.pair zTh zTh))))))) .bool), (39, .int .i64), (40, .fn (.str (.pair (.str zTd) (.pair (.str zTb) (.pair (.list false 48 (.str (.pair zI zTa))) (.pair zI (.pair (.str (.pair (.list false 46 (.str zTa)) (.pair (.list false 44 (.str zTa)) zTg))) (.pair zTh zTh))))))) zI), (43, .str zTa), (44, .str zTa), (45, .str zTa), (46, .str zTa), (47, .str (.pair zI zTa)), (48, .str (.pair zI zTa)), (51, .str zTa), (52, .str zTa), (55, .str zTi), (56, .str zTi), (57, .list false 60 zVa), (60, .arr 2 zI), (61, .fn2 (.str (.pair (.str zTd) (.pair (.str zTb) (.pair (.list false 48 (.str (.pair zI zTa))) (.pair zI (.pair (.str (.pair (.list false 46 (.str zTa)) (.pair (.list false 44 (.str zTa)) zTg))) (.pair zTh zTh))))))) (.str zTa) .bool), (62, .str zUa), (63, .str zUa), (64, .list false 63 (.str zUa)), (65, .str (.pair zI (.pair zI (.pair zTh (.pair zTh (.pair zTk zTg)))))), (66, .str (.pair zI (.pair zI (.pair zTh (.pair zTh (.pair zTk zTg)))))), (69, .fn2 zTh zTh .bool), (71, .fn2 (.str zTd) (.list false 87 (.str (.pair zI (.pair zI (.pair zI (.pair zTh zI)))))) zI), (73, .fn (.str (.pair (.list false 46 (.str zTa)) (.pair (.list false 44 (.str zTa)) zTg))) zI), (75, .str (.pair (.str zTb) (.list false 48 (.str (.pair zI zTa))))), (76, .str (.pair (.str zTb) (.list false 48 (.str (.pair zI zTa))))), (79, .fn zI zI), (80, .fn zI .bool), (82, .fn (.str zTb) zI), (83, .fn (.str (.pair zI (.pair zI (.pair zTh (.pair zTh (.pair zTk zTg)))))) zI), (84, .list false 87 (.str (.pair zI (.pair zI (.pair zI (.pair zTh zI)))))), (85, .fn (.str zTd) zI), (86, .str (.pair zI (.pair zI (.pair zI (.pair zTh zI))))), (87, .str (.pair zI (.pair zI (.pair zI (.pair zTh zI))))), (93, .arr 4 zI), (96, .fn2 (.list false 56 (.str zTi)) (.fn (.str zTi) .bool) .bool), (97, .fn (.str zTi) .bool), (98, .fn2 zTh (.fn zI .bool) .bool), (99, .fn2 zI zI .bool), (101, .fn2 zTk (.fn (.str zUa) .bool) .bool), (102, .fn (.str zUa) .bool), (105, .str (.pair zI zTi)), (106, .str (.pair zI zTi)), (108, .fn2 (.list false 48 (.str (.pair zI zTa))) zI .bool), (112, .fn2 zI (.fn (.str (.pair zI zTa)) .bool) zI), (113, .fn (.str (.pair zI zTa)) .bool), (121, .fn2 (.list false 56 (.str zTi)) (.fn (.str zTi) .bool) zI), (122, .fn2 zTh (.fn zI .bool) zI), (123, .fn2 zTk (.fn (.str zUa) .bool) zI), (124, .list false 26 zTh), (126, .fn2 (.list false 48 (.str (.pair zI zTa))) (.fn (.str (.pair zI zTa)) .bool) zI), (127, .fn2 zI (.str (.pair zI zTa)) .bool), (128, .fn2 (.list false 48 (.str (.pair zI zTa))) (.fn (.str (.pair zI zTa)) .bool) .bool), (129, .fn (.str (.pair zI (.pair zI (.pair zI (.pair zTh zI))))) .bool), (130, .fn2 (.list false 87 (.str (.pair zI (.pair zI (.pair zI (.pair zTh zI)))))) (.fn (.str (.pair zI (.pair zI (.pair zI (.pair zTh zI))))) .bool) .bool), (132, .fn2 (.str (.pair (.list false 46 (.str zTa)) (.pair (.list false 44 (.str zTa)) zTg))) zI zI), (135, .int .u64), (138, .fn (.str (.pair zI zTi)) .bool), (139, .fn2 (.list false 106 (.str (.pair zI zTi))) (.fn (.str (.pair zI zTi)) .bool) .bool), (140, .fn2 (.list false 87 (.str (.pair zI (.pair zI (.pair zI (.pair zTh zI)))))) (.fn (.str (.pair zI (.pair zI (.pair zI (.pair zTh zI))))) .bool) zI), (142, .fn2 (.str (.pair (.list false 46 (.str zTa)) (.pair (.list false 44 (.str zTa)) zTg))) zI .bool), (143, .list false 146 zUs), (145, .arr 3 zI), (146, .arr 3 zI), (148, .fn2 (.str (.pair (.list false 46 (.str zTa)) (.pair (.list false 44 (.str zTa)) zTg))) zI zI), (149, .int .u32), (152, .int .u64), (155, .fn2 (.list false 106 (.str (.pair zI zTi))) (.fn (.str (.pair zI zTi)) .bool) zI), (164, .int .u8), (165, .int .u8), (167, .ptr (.int .u8)), (168, .int .i32), (169, .int .i32)]
theorem tyT_ok : tysB Try.prog tyT = true := by kernel_rfl
theorem mixed : Try.prog.follows .mixedOrders = true := by kernel_rfl
theorem hQ {cfg : Cfg} {f : FuncId} {fn : Func} {p : Prim} (hc : CfgOK Try.prog cfg) (hf : Try.prog.funcs[f]? = some fn) (ha : (fn.body.isSome && (Nat.beq fn.ntmps cfg.nt && (!(fn.name == "runtime.NumGoroutine") && Nat.ble p.ps.length cfg.nt))) = true) (hl : ∀ b ∈ loopsOf (body fn), LoopHas cfg b) (hd : drawOK cfg (body fn) = true) (he : ∀ d, absFn cfg fuel fn (body fn) p.ps p.rs d = p.g d) : GoodF Try.prog f p := by
  simp only [Bool.and_eq_true, Bool.not_eq_true'] at ha
  exact fn_done mixed hc hf ha.1 (Nat.eq_of_beq_eq_true ha.2.1) ha.2.2.1 ha.2.2.2 hl hd (fun d y h => ⟨fuel, (he d).trans h⟩)
noncomputable def F5 (_n : Nat) (g_0 : zTc) : Option zTm :=
  cond (decide ((g_0.1.1.length : Int) > 10)) (some ((true, ()), ())) (cond (decide ((g_0.2.1.1.length : Int) > 25)) (some ((true, ()), ())) (cond (decide ((g_0.2.1.2.1.length : Int) > 12)) (some ((true, ()), ())) (cond (decide ((g_0.2.1.2.2.length : Int) > 15)) (some ((true, ()), ())) (cond (decide ((g_0.2.2.1.length : Int) > 60)) (some ((true, ()), ())) (cond (decide ((g_0.2.2.2.2.1.1.length : Int) > 15)) (some ((true, ()), ())) (cond (decide ((g_0.2.2.2.2.1.2.1.length : Int) > 20)) (some ((true, ()), ())) (cond (decide ((g_0.2.2.2.2.2.1.length : Int) > 15)) (some ((true, ()), ())) (some (((decide ((g_0.2.2.2.2.2.2.length : Int) > 15)), ()), ())))))))))
noncomputable def g5 (d : zTc × Unit) : Option zTm := F5 fuel d.1
noncomputable def p5 : Prim := ⟨[.v (.str (.pair (.str zTd) (.pair (.str zTb) (.pair (.list false 48 (.str (.pair zI zTa))) (.pair zI (.pair (.str (.pair (.list false 46 (.str zTa)) (.pair (.list false 44 (.str zTa)) zTg))) (.pair zTh zTh)))))))], [.v .bool], g5⟩
noncomputable def c5 : Cfg := ⟨61, tyT, [], [], [], [], [], [], [], [], [], [], [], [], none⟩
theorem F5_eq (n : Nat) (d) : absFn c5 n Try.f5 (body Try.f5) p5.ps p5.rs d = F5 n d.1 := by kernel_rfl
theorem d5 : drawOK c5 (body Try.f5) = true := by kernel_rfl
theorem h5 : GoodF Try.prog 5 p5 := hQ (cfg := c5) (cfg_ok tyT_ok (goodNil) rfl (by kernel_rfl)) Try.func5 (by kernel_rfl) (noLoops (by kernel_rfl)) d5 (F5_eq fuel)
noncomputable def F30 (_n : Nat) (n_0 : Int) (low_1 : Int) (high_2 : Int) : Option zTm :=
  cond (decide (n_0 ≥ low_1)) (some (((decide (n_0 ≤ high_2)), ()), ())) (some ((false, ()), ()))
noncomputable def g30 (d : Int × Int × Int × Unit) : Option zTm := F30 fuel d.1 d.2.1 d.2.2.1
noncomputable def p30 : Prim := ⟨[.v zI, .v zI, .v zI], [.v .bool], g30⟩
noncomputable def c30 : Cfg := ⟨15, tyT, [], [], [], [], [], [], [], [], [], [], [], [], none⟩
theorem F30_eq (n : Nat) (d) : absFn c30 n Try.f30 (body Try.f30) p30.ps p30.rs d = F30 n d.1 d.2.1 d.2.2.1 := by kernel_rfl
theorem d30 : drawOK c30 (body Try.f30) = true := by kernel_rfl
theorem h30 : GoodF Try.prog 30 p30 := hQ (cfg := c30) (cfg_ok tyT_ok (goodNil) rfl (by kernel_rfl)) Try.func30 (by kernel_rfl) (noLoops (by kernel_rfl)) d30 (F30_eq fuel)
noncomputable def B73_2 (_n : Nat) (L : ((List Int) × (Int → Option Bool) × Int × Int × Unit) × (Unit) × Unit → Option (zTn ⊕ zTr)) (s_0 : List Int) (f_1 : Int → Option Bool) (t_7 : Int) (t_8 : Int) : Option (zTn ⊕ zTr) :=
  cond (decide (t_8 < t_7)) (getI s_0 t_8 fun e1 => derefK (f_1 e1) fun y2 => cond y2 (some (.inl ((t_8, ()), (), ()))) (L ((s_0, f_1, t_7, (IntKind.wrap .i64 (t_8 + 1)), ()), (), ()))) (some (.inr ((), (), ())))
noncomputable def L73_2 : Nat → ((List Int) × (Int → Option Bool) × Int × Int × Unit) × (Unit) × Unit → Option (zTn ⊕ zTr)
  | 0, _ => none
  | n + 1, d => B73_2 n (L73_2 n) d.1.1 d.1.2.1 d.1.2.2.1 d.1.2.2.2.1
noncomputable def l73_2 : LoopI := ⟨⟨[(0, .v zTh), (1, .v (.fn zI .bool)), (7, .v zI), (8, .v zI)], [], none⟩, [(.ret, ⟨[(4, .v zI)], [], none⟩), (.exit 0, ⟨[], [], none⟩)], L73_2⟩
noncomputable def F73 (n : Nat) (s_0 : (List Int)) (f_1 : (Int → Option Bool)) : Option zTs :=
  derefK (L73_2 n ((s_0, f_1, (s_0.length : Int), 0, ()), (), ())) fun o3 => sumK o3 (fun d4 => some ((d4.1.1, ()), ())) (fun _ => some (((-1), ()), ()))
noncomputable def g73 (d : (List Int) × (Int → Option Bool) × Unit) : Option zTs := F73 fuel d.1 d.2.1
noncomputable def p73 : Prim := ⟨[.v zTh, .v (.fn zI .bool)], [.v zI], g73⟩
noncomputable def c73 : Cfg := ⟨19, tyT, [], [], [(2, l73_2)], [], [], [], [], [], [], [], [], [], none⟩
theorem F73_eq (n : Nat) (d) : absFn c73 n Try.f73 (body Try.f73) p73.ps p73.rs d = F73 n d.1 d.2.1 := by kernel_rfl
theorem L73_2_eq (n : Nat) (d) : (l73_2).g (n + 1) d = run c73 n (nth 0 (loopsOf (body Try.f73))) ((l73_2).ins.fill d) (roundK (l73_2) n) := by kernel_rfl
theorem ls73 : loopsOf (body Try.f73) = [nth 0 (loopsOf (body Try.f73))] := by kernel_rfl
theorem d73 : drawOK c73 (body Try.f73) = true := by kernel_rfl
theorem h73 : GoodF Try.prog 73 p73 := hQ (cfg := c73) (cfg_ok tyT_ok (goodNil) rfl (by kernel_rfl)) Try.func73 (by kernel_rfl) (by rw [ls73]; simp only [List.forall_mem_cons]; exact ⟨loopHas (key := 2) (li := l73_2) (by kernel_rfl) rfl (fun _ => rfl) (L73_2_eq), fun _ h => by cases h⟩) d73 (F73_eq fuel)
noncomputable def F45 (_n : Nat) (s_0 : (List Int)) (f_1 : (Int → Option Bool)) : Option zTm :=
  derefK (g73 (s_0, f_1, ())) fun y1 => some (((decide (y1.1.1 ≥ 0)), ()), ())
noncomputable def g45 (d : (List Int) × (Int → Option Bool) × Unit) : Option zTm := F45 fuel d.1 d.2.1
noncomputable def p45 : Prim := ⟨[.v zTh, .v (.fn zI .bool)], [.v .bool], g45⟩
noncomputable def c45 : Cfg := ⟨9, tyT, [], [(73, p73)], [], [], [], [], [], [], [], [], [], [], none⟩
theorem F45_eq (n : Nat) (d) : absFn c45 n Try.f45 (body Try.f45) p45.ps p45.rs d = F45 n d.1 d.2.1 := by kernel_rfl
theorem d45 : drawOK c45 (body Try.f45) = true := by kernel_rfl
theorem h45 : GoodF Try.prog 45 p45 := hQ (cfg := c45) (cfg_ok tyT_ok (goodCons h73 goodNil) rfl (by kernel_rfl)) Try.func45 (by kernel_rfl) (noLoops (by kernel_rfl)) d45 (F45_eq fuel)
noncomputable def F50 (_n : Nat) (n_0 : Int) (t_1 : Int) (t_2 : Int) : Option zTm :=
  derefK (g30 (n_0, t_1, t_2, ())) fun y1 => some (((!y1.1.1), ()), ())
noncomputable def g50 (d : Int × Int × Int × Unit) : Option zTm := F50 fuel d.1 d.2.1 d.2.2.1
noncomputable def p50 : Prim := ⟨[.v zI, .r zI, .r zI], [.v .bool], g50⟩
noncomputable def c50 : Cfg := ⟨10, tyT, [], [(30, p30)], [], [], [], [], [], [], [], [], [], [], none⟩
theorem F50_eq (n : Nat) (d) : absFn c50 n Try.f50 (body Try.f50) p50.ps p50.rs d = F50 n d.1 d.2.1 d.2.2.1 := by kernel_rfl
theorem d50 : drawOK c50 (body Try.f50) = true := by kernel_rfl
theorem h50 : GoodF Try.prog 50 p50 := hQ (cfg := c50) (cfg_ok tyT_ok (goodCons h30 goodNil) rfl (by kernel_rfl)) Try.func50 (by kernel_rfl) (noLoops (by kernel_rfl)) d50 (F50_eq fuel)
noncomputable def B75_2 (_n : Nat) (L : ((List (Int × Int)) × ((Int × Int) → Option Bool) × Int × Int × Unit) × (Unit) × Unit → Option (zTn ⊕ zTr)) (s_0 : List (Int × Int)) (f_1 : (Int × Int) → Option Bool) (t_7 : Int) (t_8 : Int) : Option (zTn ⊕ zTr) :=
  cond (decide (t_8 < t_7)) (getI s_0 t_8 fun e1 => derefK (f_1 e1) fun y2 => cond y2 (some (.inl ((t_8, ()), (), ()))) (L ((s_0, f_1, t_7, (IntKind.wrap .i64 (t_8 + 1)), ()), (), ()))) (some (.inr ((), (), ())))
noncomputable def L75_2 : Nat → ((List (Int × Int)) × ((Int × Int) → Option Bool) × Int × Int × Unit) × (Unit) × Unit → Option (zTn ⊕ zTr)
  | 0, _ => none
  | n + 1, d => B75_2 n (L75_2 n) d.1.1 d.1.2.1 d.1.2.2.1 d.1.2.2.2.1
noncomputable def l75_2 : LoopI := ⟨⟨[(0, .v zTk), (1, .v (.fn (.str zUa) .bool)), (7, .v zI), (8, .v zI)], [], none⟩, [(.ret, ⟨[(4, .v zI)], [], none⟩), (.exit 0, ⟨[], [], none⟩)], L75_2⟩
noncomputable def F75 (n : Nat) (s_0 : (List (Int × Int))) (f_1 : ((Int × Int) → Option Bool)) : Option zTs :=
  derefK (L75_2 n ((s_0, f_1, (s_0.length : Int), 0, ()), (), ())) fun o3 => sumK o3 (fun d4 => some ((d4.1.1, ()), ())) (fun _ => some (((-1), ()), ()))
noncomputable def g75 (d : (List (Int × Int)) × ((Int × Int) → Option Bool) × Unit) : Option zTs := F75 fuel d.1 d.2.1
noncomputable def p75 : Prim := ⟨[.v zTk, .v (.fn (.str zUa) .bool)], [.v zI], g75⟩
noncomputable def c75 : Cfg := ⟨19, tyT, [], [], [(2, l75_2)], [], [], [], [], [], [], [], [], [], none⟩
theorem F75_eq (n : Nat) (d) : absFn c75 n Try.f75 (body Try.f75) p75.ps p75.rs d = F75 n d.1 d.2.1 := by kernel_rfl
theorem L75_2_eq (n : Nat) (d) : (l75_2).g (n + 1) d = run c75 n (nth 0 (loopsOf (body Try.f75))) ((l75_2).ins.fill d) (roundK (l75_2) n) := by kernel_rfl
theorem ls75 : loopsOf (body Try.f75) = [nth 0 (loopsOf (body Try.f75))] := by kernel_rfl
theorem d75 : drawOK c75 (body Try.f75) = true := by kernel_rfl
theorem h75 : GoodF Try.prog 75 p75 := hQ (cfg := c75) (cfg_ok tyT_ok (goodNil) rfl (by kernel_rfl)) Try.func75 (by kernel_rfl) (by rw [ls75]; simp only [List.forall_mem_cons]; exact ⟨loopHas (key := 2) (li := l75_2) (by kernel_rfl) rfl (fun _ => rfl) (L75_2_eq), fun _ h => by cases h⟩) d75 (F75_eq fuel)
noncomputable def F51 (_n : Nat) (s_0 : (List (Int × Int))) (f_1 : ((Int × Int) → Option Bool)) : Option zTm :=
  derefK (g75 (s_0, f_1, ())) fun y1 => some (((decide (y1.1.1 ≥ 0)), ()), ())
noncomputable def g51 (d : (List (Int × Int)) × ((Int × Int) → Option Bool) × Unit) : Option zTm := F51 fuel d.1 d.2.1
noncomputable def p51 : Prim := ⟨[.v zTk, .v (.fn (.str zUa) .bool)], [.v .bool], g51⟩
noncomputable def c51 : Cfg := ⟨9, tyT, [], [(75, p75)], [], [], [], [], [], [], [], [], [], [], none⟩
theorem F51_eq (n : Nat) (d) : absFn c51 n Try.f51 (body Try.f51) p51.ps p51.rs d = F51 n d.1 d.2.1 := by kernel_rfl
theorem d51 : drawOK c51 (body Try.f51) = true := by kernel_rfl
theorem h51 : GoodF Try.prog 51 p51 := hQ (cfg := c51) (cfg_ok tyT_ok (goodCons h75 goodNil) rfl (by kernel_rfl)) Try.func51 (by kernel_rfl) (noLoops (by kernel_rfl)) d51 (F51_eq fuel)
noncomputable def F52 (_n : Nat) (b_0 : (Int × Int)) (t_1 : zTv) : Option zTm :=
  derefK (g30 (b_0.1, 1, 1000, ())) fun y1 => cond (!y1.1.1) (some ((true, ()), ())) (derefK (g30 (b_0.2, 1, 1000000, ())) fun y2 => cond (!y2.1.1) (some ((true, ()), ())) (some (((decide ((IntKind.wrap .i64 (t_1.2.2.2.2.2.1 * b_0.1)) > b_0.2)), ()), ())))
noncomputable def g52 (d : (Int × Int) × zTv × Unit) : Option zTm := F52 fuel d.1 d.2.1
noncomputable def p52 : Prim := ⟨[.v (.str zUa), .r (.str (.pair zI (.pair zI (.pair zTh (.pair zTh (.pair zTk zTg))))))], [.v .bool], g52⟩
noncomputable def c52 : Cfg := ⟨24, tyT, [], [(30, p30)], [], [], [], [], [], [], [], [], [], [], none⟩
theorem F52_eq (n : Nat) (d) : absFn c52 n Try.f52 (body Try.f52) p52.ps p52.rs d = F52 n d.1 d.2.1 := by kernel_rfl
theorem d52 : drawOK c52 (body Try.f52) = true := by kernel_rfl
theorem h52 : GoodF Try.prog 52 p52 := hQ (cfg := c52) (cfg_ok tyT_ok (goodCons h30 goodNil) rfl (by kernel_rfl)) Try.func52 (by kernel_rfl) (noLoops (by kernel_rfl)) d52 (F52_eq fuel)
noncomputable def F29 (_n : Nat) (f_0 : zTv) : Option zTs :=
  derefK (g30 ((f_0.2.2.1.length : Int), 1, 8, ())) fun y1 => cond (!y1.1.1) (some ((10, ()), ())) (cond ((f_0.2.2.2.1.length : Int) != (f_0.2.2.1.length : Int)) (some ((10, ()), ())) (derefK (g30 (f_0.1, 0, 20, ())) fun y2 => cond (!y2.1.1) (some ((10, ()), ())) (derefK (g30 (f_0.2.1, 0, 12, ())) fun y3 => cond (!y3.1.1) (some ((10, ()), ())) (cond (decide ((f_0.2.2.2.2.1.length : Int) > 6)) (some ((10, ()), ())) (derefK (Mk.m49.p.g (0, 100000, ())) fun y4 => derefK (g45 (f_0.2.2.1, (fun v5 => derefK y4.1.1 fun q7 => derefK y4.1.2.1 fun q8 => derefK (g50 (v5, q7, q8, ())) fun y6 => some y6.1.1), ())) fun y9 => cond y9.1.1 (some ((10, ()), ())) (derefK (Mk.m49.p.g (0, 1000000, ())) fun y10 => derefK (g45 (f_0.2.2.2.1, (fun v11 => derefK y10.1.1 fun q13 => derefK y10.1.2.1 fun q14 => derefK (g50 (v11, q13, q14, ())) fun y12 => some y12.1.1), ())) fun y15 => cond y15.1.1 (some ((10, ()), ())) (derefK (g30 (f_0.2.2.2.2.2.1, 0, 1000, ())) fun y16 => cond (!y16.1.1) (some ((10, ()), ())) (derefK (g30 (f_0.2.2.2.2.2.2.1, 0, 1000000, ())) fun y17 => cond (!y17.1.1) (some ((10, ()), ())) (derefK (g30 (f_0.2.2.2.2.2.2.2, 1, 1440, ())) fun y18 => cond (!y18.1.1) (some ((10, ()), ())) (derefK (g51 (f_0.2.2.2.2.1, (fun v19 => derefK (g52 (v19, f_0, ())) fun y20 => some y20.1.1), ())) fun y21 => cond y21.1.1 (some ((10, ()), ())) (some ((0, ()), ()))))))))))))
noncomputable def g29 (d : zTv × Unit) : Option zTs := F29 fuel d.1
noncomputable def p29 : Prim := ⟨[.v (.str (.pair zI (.pair zI (.pair zTh (.pair zTh (.pair zTk zTg))))))], [.v zI], g29⟩
noncomputable def c29 : Cfg := ⟨78, tyT, [(1, .str (.pair zI (.pair zI (.pair zTh (.pair zTh (.pair zTk zTg))))))], [(30, p30), (45, p45), (50, p50), (51, p51), (52, p52)], [], [], [3], [], [], [(49, Mk.m49)], [], [], [], [], none⟩
theorem F29_eq (n : Nat) (d) : absFn c29 n Try.f29 (body Try.f29) p29.ps p29.rs d = F29 n d.1 := by kernel_rfl
theorem d29 : drawOK c29 (body Try.f29) = true := by kernel_rfl
theorem h29 : GoodF Try.prog 29 p29 := hQ (cfg := c29) (cfg_ok tyT_ok (goodCons h30 (goodCons h45 (goodCons h50 (goodCons h51 (goodCons h52 goodNil))))) rfl (by kernel_rfl) (mk_ok (mkCons Mk.k49 mkNil))) Try.func29 (by kernel_rfl) (noLoops (by kernel_rfl)) d29 (F29_eq fuel)
noncomputable def F103 (_n : Nat) (x_0 : Int) (y_1 : Int) : Option zUn :=
  negK 32 (negK 32 (bindV (IntKind.wrap .u64 ((bitsI .and .u64 x_0 4294967295) * (bitsI .and .u64 y_1 4294967295))) fun z1 => negK 32 (bindV (IntKind.wrap .u64 ((IntKind.wrap .u64 ((shrI .u64 x_0 32) * (bitsI .and .u64 y_1 4294967295))) + (shrI .u64 z1 32))) fun z2 => negK 32 (bindV (IntKind.wrap .u64 ((bitsI .and .u64 z2 4294967295) + (IntKind.wrap .u64 ((bitsI .and .u64 x_0 4294967295) * (shrI .u64 y_1 32))))) fun z3 => negK 32 (bindV (IntKind.wrap .u64 ((IntKind.wrap .u64 ((IntKind.wrap .u64 ((shrI .u64 x_0 32) * (shrI .u64 y_1 32))) + (shrI .u64 z2 32))) + (shrI .u64 z3 32))) fun z4 => some ((z4, (IntKind.wrap .u64 (x_0 * y_1)), ()), ()))))))
noncomputable def g103 (d : Int × Int × Unit) : Option zUn := F103 fuel d.1 d.2.1
noncomputable def p103 : Prim := ⟨[.v (.int .u64), .v (.int .u64)], [.v (.int .u64), .v (.int .u64)], g103⟩
noncomputable def c103 : Cfg := ⟨51, tyT, [], [], [], [], [], [], [], [], [], [], [], [], none⟩
theorem F103_eq (n : Nat) (d) : absFn c103 n Try.f103 (body Try.f103) p103.ps p103.rs d = F103 n d.1 d.2.1 := by kernel_rfl
theorem d103 : drawOK c103 (body Try.f103) = true := by kernel_rfl
theorem h103 : GoodF Try.prog 103 p103 := hQ (cfg := c103) (cfg_ok tyT_ok (goodNil) rfl (by kernel_rfl)) Try.func103 (by kernel_rfl) (noLoops (by kernel_rfl)) d103 (F103_eq fuel)
noncomputable def F92 (_n : Nat) (x_0 : Int) (y_1 : Int) : Option zUn :=
  derefK (g103 (x_0, y_1, ())) fun y1 => some ((y1.1.1, y1.1.2.1, ()), ())
noncomputable def g92 (d : Int × Int × Unit) : Option zUn := F92 fuel d.1 d.2.1
noncomputable def p92 : Prim := ⟨[.v (.int .u64), .v (.int .u64)], [.v (.int .u64), .v (.int .u64)], g92⟩
noncomputable def c92 : Cfg := ⟨30, tyT, [], [(103, p103)], [], [], [], [], [], [], [], [], [], [], none⟩
theorem F92_eq (n : Nat) (d) : absFn c92 n Try.f92 (body Try.f92) p92.ps p92.rs d = F92 n d.1 d.2.1 := by kernel_rfl
theorem d92 : drawOK c92 (body Try.f92) = true := by kernel_rfl
theorem h92 : GoodF Try.prog 92 p92 := hQ (cfg := c92) (cfg_ok tyT_ok (goodCons h103 goodNil) rfl (by kernel_rfl)) Try.func92 (by kernel_rfl) (noLoops (by kernel_rfl)) d92 (F92_eq fuel)
noncomputable def B76_8 (_n : Nat) (L : (Int × Unit) × zTu × Unit → Option zUe) (n_8 : Int) (o_30 : List Int) : Option zUe :=
  cond (decide (n_8 < (o_30.length : Int))) (enumK (L (((IntKind.wrap .i64 (n_8 + ((min (o_30.take n_8.toNat).length (o_30.length - n_8.toNat) : Nat) : Int))), ()), ((overL o_30 (o_30.take n_8.toNat) n_8.toNat), ()), ())) fun E => agreeK [leK 0 n_8 (leK n_8 (o_30.length : Int) (leK 0 n_8 (leK n_8 (o_30.length : Int) (E)))), leK 0 n_8 (leK n_8 (o_30.length : Int) (leK 0 n_8 (leK n_8 (o_30.length : Int) (E))))]) (some ((), (o_30, ()), ()))
noncomputable def L76_8 : Nat → (Int × Unit) × zTu × Unit → Option zUe
  | 0, _ => none
  | n + 1, d => B76_8 n (L76_8 n) d.1.1 d.2.1.1
noncomputable def l76_8 : LoopI := ⟨⟨[(7, .c (.view 30 [])), (8, .v zI)], [(30, true, .list true 3 zI)], none⟩, [(.exit 0, ⟨[(7, .c (.view 30 []))], [(30, true, .list true 3 zI)], none⟩)], L76_8⟩
noncomputable def F76 (n : Nat) (x_0 : (List Int)) (count_1 : Int) : Option (zTu × (Unit)) :=
  cond (decide (count_1 < 0)) (none) (derefK (g92 ((IntKind.wrap .u64 (x_0.length : Int)), (IntKind.wrap .u64 count_1), ())) fun y1 => cond (decide (y1.1.1 > 0)) (none) (cond (decide (y1.1.2.1 > 9223372036854775807)) (none) (leK 0 (IntKind.wrap .i64 y1.1.2.1) (leK (IntKind.wrap .i64 y1.1.2.1) (IntKind.wrap .i64 y1.1.2.1) (lenK (IntKind.wrap .i64 y1.1.2.1) (bindV ((min x_0.length ((List.replicate (IntKind.wrap .i64 y1.1.2.1).toNat (0 : Int)).length - (0 : Int).toNat) : Nat) : Int) fun z2 => derefK (L76_8 n ((z2, ()), ((overL (List.replicate (IntKind.wrap .i64 y1.1.2.1).toNat (0 : Int)) x_0 (0 : Int).toNat), ()), ())) fun o3 => some ((o3.2.1.1, ()), ())))))))
noncomputable def g76 (d : (List Int) × Int × Unit) : Option (zTu × (Unit)) := F76 fuel d.1 d.2.1
noncomputable def p76 : Prim := ⟨[.v zTh, .v zI], [.own 3 zI], g76⟩
noncomputable def c76 : Cfg := ⟨48, tyT, [], [(92, p92)], [(8, l76_8)], [], [9], [], [], [], [], [], [], [], none⟩
theorem F76_eq (n : Nat) (d) : absFn c76 n Try.f76 (body Try.f76) p76.ps p76.rs d = F76 n d.1 d.2.1 := by kernel_rfl
theorem L76_8_eq (n : Nat) (d) : (l76_8).g (n + 1) d = run c76 n (nth 0 (loopsOf (body Try.f76))) ((l76_8).ins.fill d) (roundK (l76_8) n) := by kernel_rfl
theorem ls76 : loopsOf (body Try.f76) = [nth 0 (loopsOf (body Try.f76))] := by kernel_rfl
theorem d76 : drawOK c76 (body Try.f76) = true := by kernel_rfl
theorem h76 : GoodF Try.prog 76 p76 := hQ (cfg := c76) (cfg_ok tyT_ok (goodCons h92 goodNil) rfl (by kernel_rfl)) Try.func76 (by kernel_rfl) (by rw [ls76]; simp only [List.forall_mem_cons]; exact ⟨loopHas (key := 8) (li := l76_8) (by kernel_rfl) rfl (fun _ => rfl) (L76_8_eq), fun _ h => by cases h⟩) d76 (F76_eq fuel)
noncomputable def B53_4 (_n : Nat) (L : zUt × zTp × Unit → Option zTw) (l_0 : List (Int × Int)) (n_1 : Int) (most_6 : Int) (t_24 : Int) (t_25 : Int) (o_22 : List (List Int)) : Option zTw :=
  cond (decide (t_25 < t_24)) (derefK (g76 ([1152921504606846976], (IntKind.wrap .i64 (most_6 + 1)), ())) fun y1 => inR t_25 o_22.length (getI o_22 t_25 fun _ => L ((l_0, n_1, most_6, t_24, (IntKind.wrap .i64 (t_25 + 1)), ()), ((o_22.set t_25.toNat y1.1.1), ()), ()))) (some ((l_0, n_1, most_6, ()), (o_22, ()), ()))
noncomputable def L53_4 : Nat → zUt × zTp × Unit → Option zTw
  | 0, _ => none
  | n + 1, d => B53_4 n (L53_4 n) d.1.1 d.1.2.1 d.1.2.2.1 d.1.2.2.2.1 d.1.2.2.2.2.1 d.2.1.1
noncomputable def l53_4 : LoopI := ⟨⟨[(0, .v zTk), (1, .v zI), (6, .v zI), (7, .c (.view 22 [])), (24, .v zI), (25, .v zI)], [(22, true, .list true 26 zTx)], none⟩, [(.exit 0, ⟨[(0, .v zTk), (1, .v zI), (6, .v zI), (7, .c (.view 22 []))], [(22, true, .list true 26 zTx)], none⟩)], L53_4⟩
noncomputable def B53_13 (_n : Nat) (L : zUp × zTp × Unit → Option ((zTy × zTp × Unit))) (l_0 : List (Int × Int)) (n_1 : Int) (most_6 : Int) (i_9 : Int) (t_53 : Int) (t_54 : Int) (o_22 : List (List Int)) : Option ((zTy × zTp × Unit)) :=
  cond (decide (t_54 < t_53)) (inR i_9 o_22.length (inR (IntKind.wrap .i64 (i_9 + 1)) o_22.length (getI o_22 (IntKind.wrap .i64 (i_9 + 1)) fun e8 => inR t_54 e8.length (getI o_22 (IntKind.wrap .i64 (i_9 + 1)) fun e9 => getI e9 t_54 fun e10 => getI o_22 i_9 fun e11 => inR t_54 e11.length (getI o_22 i_9 fun e12 => getI e12 t_54 fun _ => getI l_0 i_9 fun e14 => cond (decide ((IntKind.wrap .i64 (t_54 - e14.1)) ≥ 0)) (inR i_9 (o_22.set i_9.toNat (e12.set t_54.toNat e10)).length (getI (o_22.set i_9.toNat (e12.set t_54.toNat e10)) i_9 fun e15 => inR (IntKind.wrap .i64 (t_54 - e14.1)) e15.length (getI (o_22.set i_9.toNat (e12.set t_54.toNat e10)) i_9 fun e16 => getI e16 (IntKind.wrap .i64 (t_54 - e14.1)) fun e17 => cond (decide (e17 < 1152921504606846976)) (inR i_9 (o_22.set i_9.toNat (e12.set t_54.toNat e10)).length (inR i_9 (o_22.set i_9.toNat (e12.set t_54.toNat e10)).length (getI (o_22.set i_9.toNat (e12.set t_54.toNat e10)) i_9 fun e18 => inR t_54 e18.length (getI (o_22.set i_9.toNat (e12.set t_54.toNat e10)) i_9 fun e19 => getI e19 t_54 fun e20 => inR i_9 (o_22.set i_9.toNat (e12.set t_54.toNat e10)).length (getI (o_22.set i_9.toNat (e12.set t_54.toNat e10)) i_9 fun e21 => inR (IntKind.wrap .i64 (t_54 - e14.1)) e21.length (getI (o_22.set i_9.toNat (e12.set t_54.toNat e10)) i_9 fun e22 => getI e22 (IntKind.wrap .i64 (t_54 - e14.1)) fun e23 => getI l_0 i_9 fun e24 => getI (o_22.set i_9.toNat (e12.set t_54.toNat e10)) i_9 fun e25 => inR t_54 e25.length (getI (o_22.set i_9.toNat (e12.set t_54.toNat e10)) i_9 fun e26 => getI e26 t_54 fun _ => bindV ((o_22.set i_9.toNat (e12.set t_54.toNat e10)).set i_9.toNat (e26.set t_54.toNat (min e20 (IntKind.wrap .i64 (e23 + e24.2))))) fun z28 => L ((l_0, n_1, most_6, i_9, t_53, (IntKind.wrap .i64 (t_54 + 1)), ()), (z28, ()), ())))))))) (L ((l_0, n_1, most_6, i_9, t_53, (IntKind.wrap .i64 (t_54 + 1)), ()), ((o_22.set i_9.toNat (e12.set t_54.toNat e10)), ()), ()))))) (L ((l_0, n_1, most_6, i_9, t_53, (IntKind.wrap .i64 (t_54 + 1)), ()), ((o_22.set i_9.toNat (e12.set t_54.toNat e10)), ()), ()))))))) (some ((l_0, n_1, most_6, i_9, ()), (o_22, ()), ()))
noncomputable def L53_13 : Nat → zUp × zTp × Unit → Option ((zTy × zTp × Unit))
  | 0, _ => none
  | n + 1, d => B53_13 n (L53_13 n) d.1.1 d.1.2.1 d.1.2.2.1 d.1.2.2.2.1 d.1.2.2.2.2.1 d.1.2.2.2.2.2.1 d.2.1.1
noncomputable def l53_13 : LoopI := ⟨⟨[(0, .v zTk), (1, .v zI), (6, .v zI), (7, .c (.view 22 [])), (9, .v zI), (53, .v zI), (54, .v zI)], [(22, true, .list true 26 zTx)], none⟩, [(.exit 4, ⟨[(0, .v zTk), (1, .v zI), (6, .v zI), (7, .c (.view 22 [])), (9, .v zI)], [(22, true, .list true 26 zTx)], none⟩)], L53_13⟩
noncomputable def B53_10 (n : Nat) (L : zTy × zTp × Unit → Option zTw) (l_0 : List (Int × Int)) (n_1 : Int) (most_6 : Int) (i_9 : Int) (o_22 : List (List Int)) : Option zTw :=
  cond (decide (i_9 ≥ 0)) (inR i_9 o_22.length (getI o_22 i_9 fun e7 => derefK (L53_13 n ((l_0, n_1, most_6, i_9, (e7.length : Int), 0, ()), (o_22, ()), ())) fun o29 => L ((o29.1.1, o29.1.2.1, o29.1.2.2.1, (IntKind.wrap .i64 (o29.1.2.2.2.1 - 1)), ()), (o29.2.1.1, ()), ()))) (some ((l_0, n_1, most_6, ()), (o_22, ()), ()))
noncomputable def L53_10 : Nat → zTy × zTp × Unit → Option zTw
  | 0, _ => none
  | n + 1, d => B53_10 n (L53_10 n) d.1.1 d.1.2.1 d.1.2.2.1 d.1.2.2.2.1 d.2.1.1
noncomputable def l53_10 : LoopI := ⟨⟨[(0, .v zTk), (1, .v zI), (6, .v zI), (7, .c (.view 22 [])), (9, .v zI)], [(22, true, .list true 26 zTx)], none⟩, [(.exit 2, ⟨[(0, .v zTk), (1, .v zI), (6, .v zI), (7, .c (.view 22 []))], [(22, true, .list true 26 zTx)], none⟩)], L53_10⟩
noncomputable def B53_22 (_n : Nat) (L : zTy × zTp × Unit → Option zUi) (l_0 : List (Int × Int)) (most_6 : Int) (tokens_12 : Int) (t_13 : Int) (o_22 : List (List Int)) : Option zUi :=
  cond (decide (t_13 ≤ most_6)) (inR 0 o_22.length (getI o_22 0 fun e31 => inR t_13 e31.length (getI o_22 0 fun e32 => getI e32 t_13 fun e33 => inR 0 o_22.length (getI o_22 0 fun e34 => inR tokens_12 e34.length (getI o_22 0 fun e35 => getI e35 tokens_12 fun e36 => cond (decide (e33 < e36)) (L ((l_0, most_6, t_13, (IntKind.wrap .i64 (t_13 + 1)), ()), (o_22, ()), ())) (L ((l_0, most_6, tokens_12, (IntKind.wrap .i64 (t_13 + 1)), ()), (o_22, ()), ()))))))) (some ((l_0, tokens_12, ()), (o_22, ()), ()))
noncomputable def L53_22 : Nat → zTy × zTp × Unit → Option zUi
  | 0, _ => none
  | n + 1, d => B53_22 n (L53_22 n) d.1.1 d.1.2.1 d.1.2.2.1 d.1.2.2.2.1 d.2.1.1
noncomputable def l53_22 : LoopI := ⟨⟨[(0, .v zTk), (6, .v zI), (7, .c (.view 22 [])), (12, .v zI), (13, .v zI)], [(22, true, .list true 26 zTx)], none⟩, [(.exit 6, ⟨[(0, .v zTk), (7, .c (.view 22 [])), (12, .v zI)], [(22, true, .list true 26 zTx)], none⟩)], L53_22⟩
noncomputable def B53_34 (_n : Nat) (L : zUm × zUq × Unit → Option zTz) (price_5 : Int) (tokens_12 : Int) (i_14 : Int) (left_16 : Int) (t_150 : List (Int × Int)) (t_151 : Int) (t_152 : Int) (o_15 : Int × Int) (o_22 : List (List Int)) (o_4000149 : List Int) : Option zTz :=
  cond (decide (tokens_12 ≥ o_15.1)) (inR i_14 o_22.length (getI o_22 i_14 fun e45 => inR (IntKind.wrap .i64 (tokens_12 - o_15.1)) e45.length (getI o_22 i_14 fun e46 => getI e46 (IntKind.wrap .i64 (tokens_12 - o_15.1)) fun e47 => cond (decide (e47 < 1152921504606846976)) (inR i_14 o_22.length (getI o_22 i_14 fun e48 => inR (IntKind.wrap .i64 (tokens_12 - o_15.1)) e48.length (getI o_22 i_14 fun e49 => getI e49 (IntKind.wrap .i64 (tokens_12 - o_15.1)) fun e50 => cond ((IntKind.wrap .i64 (e50 + o_15.2)) == left_16) (inR i_14 o_4000149.length (getI o_4000149 i_14 fun e51 => inR i_14 o_4000149.length (getI o_4000149 i_14 fun _ => inR i_14 o_22.length (getI o_22 i_14 fun e53 => inR (IntKind.wrap .i64 (tokens_12 - o_15.1)) e53.length (getI o_22 i_14 fun e54 => getI e54 (IntKind.wrap .i64 (tokens_12 - o_15.1)) fun e55 => L ((price_5, (IntKind.wrap .i64 (tokens_12 - o_15.1)), i_14, e55, t_150, t_151, t_152, ()), (o_15, o_22, (o_4000149.set i_14.toNat (IntKind.wrap .i64 (e51 + 1))), ()), ())))))) (some ((price_5, tokens_12, t_150, t_151, t_152, ()), (o_22, o_4000149, ()), ()))))) (some ((price_5, tokens_12, t_150, t_151, t_152, ()), (o_22, o_4000149, ()), ()))))) (some ((price_5, tokens_12, t_150, t_151, t_152, ()), (o_22, o_4000149, ()), ()))
noncomputable def L53_34 : Nat → zUm × zUq × Unit → Option zTz
  | 0, _ => none
  | n + 1, d => B53_34 n (L53_34 n) d.1.1 d.1.2.1 d.1.2.2.1 d.1.2.2.2.1 d.1.2.2.2.2.1 d.1.2.2.2.2.2.1 d.1.2.2.2.2.2.2.1 d.2.1.1 d.2.1.2.1 d.2.1.2.2.1
noncomputable def l53_34 : LoopI := ⟨⟨[(4, .c (.view 4000149 [])), (5, .v zI), (7, .c (.view 22 [])), (12, .v zI), (14, .v zI), (15, .c (.ptr 15 [])), (16, .v zI), (150, .v zTk), (151, .v zI), (152, .v zI)], [(15, false, .str zUa), (22, true, .list true 26 zTx), (4000149, true, .list true 3 zI)], none⟩, [(.exit 10, ⟨[(4, .c (.view 4000149 [])), (5, .v zI), (7, .c (.view 22 [])), (12, .v zI), (150, .v zTk), (151, .v zI), (152, .v zI)], [(22, true, .list true 26 zTx), (4000149, true, .list true 3 zI)], none⟩)], L53_34⟩
noncomputable def B53_31 (n : Nat) (L : zUk × zUu × Unit → Option zUx) (price_5 : Int) (tokens_12 : Int) (t_150 : List (Int × Int)) (t_151 : Int) (t_152 : Int) (o_22 : List (List Int)) (o_4000149 : List Int) : Option zUx :=
  cond (decide (t_152 < t_151)) (getI t_150 t_152 fun e41 => inR t_152 o_22.length (getI o_22 t_152 fun e42 => inR tokens_12 e42.length (getI o_22 t_152 fun e43 => getI e43 tokens_12 fun e44 => derefK (L53_34 n ((price_5, tokens_12, t_152, e44, t_150, t_151, t_152, ()), (e41, o_22, o_4000149, ()), ())) fun o56 => L ((o56.1.1, o56.1.2.1, o56.1.2.2.1, o56.1.2.2.2.1, (IntKind.wrap .i64 (o56.1.2.2.2.2.1 + 1)), ()), (o56.2.1.1, o56.2.1.2.1, ()), ())))) (some ((price_5, ()), (o_4000149, ()), ()))
noncomputable def L53_31 : Nat → zUk × zUu × Unit → Option zUx
  | 0, _ => none
  | n + 1, d => B53_31 n (L53_31 n) d.1.1 d.1.2.1 d.1.2.2.1 d.1.2.2.2.1 d.1.2.2.2.2.1 d.2.1.1 d.2.1.2.1
noncomputable def l53_31 : LoopI := ⟨⟨[(4, .c (.view 4000149 [])), (5, .v zI), (7, .c (.view 22 [])), (12, .v zI), (150, .v zTk), (151, .v zI), (152, .v zI)], [(22, true, .list true 26 zTx), (4000149, true, .list true 3 zI)], none⟩, [(.exit 8, ⟨[(4, .c (.view 4000149 [])), (5, .v zI)], [(4000149, true, .list true 3 zI)], none⟩)], L53_31⟩
noncomputable def F53 (n : Nat) (l_0 : (List (Int × Int))) (n_1 : Int) : Option zUg :=
  leK 0 (IntKind.wrap .i64 ((l_0.length : Int) + 1)) (leK (IntKind.wrap .i64 ((l_0.length : Int) + 1)) (IntKind.wrap .i64 ((l_0.length : Int) + 1)) (lenK (IntKind.wrap .i64 ((l_0.length : Int) + 1)) (derefK (L53_4 n ((l_0, n_1, (IntKind.wrap .i64 (n_1 + 1000)), ((List.replicate (IntKind.wrap .i64 ((l_0.length : Int) + 1)).toNat ([] : List Int)).length : Int), 0, ()), ((List.replicate (IntKind.wrap .i64 ((l_0.length : Int) + 1)).toNat ([] : List Int)), ()), ())) fun o3 => inR (o3.1.1.length : Int) o3.2.1.1.length (getI o3.2.1.1 (o3.1.1.length : Int) fun e4 => inR 0 e4.length (getI o3.2.1.1 (o3.1.1.length : Int) fun e5 => getI e5 0 fun _ => derefK (L53_10 n ((o3.1.1, o3.1.2.1, o3.1.2.2.1, (IntKind.wrap .i64 ((o3.1.1.length : Int) - 1)), ()), ((o3.2.1.1.set (o3.1.1.length : Int).toNat (e5.set (0 : Int).toNat 0)), ()), ())) fun o30 => derefK (L53_22 n ((o30.1.1, o30.1.2.2.1, o30.1.2.1, o30.1.2.1, ()), (o30.2.1.1, ()), ())) fun o37 => inR 0 o37.2.1.1.length (getI o37.2.1.1 0 fun e38 => inR o37.1.2.1 e38.length (getI o37.2.1.1 0 fun e39 => getI e39 o37.1.2.1 fun e40 => cond (e40 == 1152921504606846976) (none) (leK 0 (o37.1.1.length : Int) (leK (o37.1.1.length : Int) (o37.1.1.length : Int) (lenK (o37.1.1.length : Int) (derefK (L53_31 n ((e40, o37.1.2.1, o37.1.1, (o37.1.1.length : Int), 0, ()), (o37.2.1.1, (List.replicate (o37.1.1.length : Int).toNat (0 : Int)), ()), ())) fun o57 => some ((o57.2.1.1, o57.1.1, ()), ()))))))))))))
noncomputable def g53 (d : (List (Int × Int)) × Int × Unit) : Option zUg := F53 fuel d.1 d.2.1
noncomputable def p53 : Prim := ⟨[.v zTk, .v zI], [.sure true 3 zI, .v zI], g53⟩
noncomputable def c53 : Cfg := ⟨218, tyT, [(22, .list true 26 zTx), (4, .bool)], [(76, p76)], [(4, l53_4), (13, l53_13), (10, l53_10), (22, l53_22), (34, l53_34), (31, l53_31)], [], [1000149], [], [], [], [], [], [], [], none⟩
theorem F53_eq (n : Nat) (d) : absFn c53 n Try.f53 (body Try.f53) p53.ps p53.rs d = F53 n d.1 d.2.1 := by kernel_rfl
theorem L53_4_eq (n : Nat) (d) : (l53_4).g (n + 1) d = run c53 n (nth 0 (loopsOf (body Try.f53))) ((l53_4).ins.fill d) (roundK (l53_4) n) := by kernel_rfl
theorem L53_10_eq (n : Nat) (d) : (l53_10).g (n + 1) d = run c53 n (nth 1 (loopsOf (body Try.f53))) ((l53_10).ins.fill d) (roundK (l53_10) n) := by kernel_rfl
theorem L53_13_eq (n : Nat) (d) : (l53_13).g (n + 1) d = run c53 n (nth 2 (loopsOf (body Try.f53))) ((l53_13).ins.fill d) (roundK (l53_13) n) := by kernel_rfl
theorem L53_22_eq (n : Nat) (d) : (l53_22).g (n + 1) d = run c53 n (nth 3 (loopsOf (body Try.f53))) ((l53_22).ins.fill d) (roundK (l53_22) n) := by kernel_rfl
theorem L53_31_eq (n : Nat) (d) : (l53_31).g (n + 1) d = run c53 n (nth 4 (loopsOf (body Try.f53))) ((l53_31).ins.fill d) (roundK (l53_31) n) := by kernel_rfl
theorem L53_34_eq (n : Nat) (d) : (l53_34).g (n + 1) d = run c53 n (nth 5 (loopsOf (body Try.f53))) ((l53_34).ins.fill d) (roundK (l53_34) n) := by kernel_rfl
theorem ls53 : loopsOf (body Try.f53) = [nth 0 (loopsOf (body Try.f53)), nth 1 (loopsOf (body Try.f53)), nth 2 (loopsOf (body Try.f53)), nth 3 (loopsOf (body Try.f53)), nth 4 (loopsOf (body Try.f53)), nth 5 (loopsOf (body Try.f53))] := by kernel_rfl
theorem d53 : drawOK c53 (body Try.f53) = true := by kernel_rfl
theorem h53 : GoodF Try.prog 53 p53 := hQ (cfg := c53) (cfg_ok tyT_ok (goodCons h76 goodNil) rfl (by kernel_rfl)) Try.func53 (by kernel_rfl) (by rw [ls53]; simp only [List.forall_mem_cons]; exact ⟨loopHas (key := 4) (li := l53_4) (by kernel_rfl) rfl (fun _ => rfl) (L53_4_eq), loopHas (key := 10) (li := l53_10) (by kernel_rfl) rfl (fun _ => rfl) (L53_10_eq), loopHas (key := 13) (li := l53_13) (by kernel_rfl) rfl (fun _ => rfl) (L53_13_eq), loopHas (key := 22) (li := l53_22) (by kernel_rfl) rfl (fun _ => rfl) (L53_22_eq), loopHas (key := 31) (li := l53_31) (by kernel_rfl) rfl (fun _ => rfl) (L53_31_eq), loopHas (key := 34) (li := l53_34) (by kernel_rfl) rfl (fun _ => rfl) (L53_34_eq), fun _ h => by cases h⟩) d53 (F53_eq fuel)
noncomputable def B10053_4 (_n : Nat) (L : zUt × zTp × Unit → Option zTw) (l_0 : List (Int × Int)) (n_1 : Int) (most_6 : Int) (t_24 : Int) (t_25 : Int) (o_22 : List (List Int)) : Option zTw :=
  cond (decide (t_25 < t_24)) (derefK (g76 ([1152921504606846976], (IntKind.wrap .i64 (most_6 + 1)), ())) fun y1 => inR t_25 o_22.length (getI o_22 t_25 fun _ => L ((l_0, n_1, most_6, t_24, (IntKind.wrap .i64 (t_25 + 1)), ()), ((o_22.set t_25.toNat y1.1.1), ()), ()))) (some ((l_0, n_1, most_6, ()), (o_22, ()), ()))
noncomputable def L10053_4 : Nat → zUt × zTp × Unit → Option zTw
  | 0, _ => none
  | n + 1, d => B10053_4 n (L10053_4 n) d.1.1 d.1.2.1 d.1.2.2.1 d.1.2.2.2.1 d.1.2.2.2.2.1 d.2.1.1
noncomputable def l10053_4 : LoopI := ⟨⟨[(0, .v zTk), (1, .v zI), (6, .v zI), (7, .c (.view 22 [])), (24, .v zI), (25, .v zI)], [(22, true, .list true 26 zTx)], none⟩, [(.exit 0, ⟨[(0, .v zTk), (1, .v zI), (6, .v zI), (7, .c (.view 22 []))], [(22, true, .list true 26 zTx)], none⟩)], L10053_4⟩
noncomputable def B10053_13 (_n : Nat) (L : zUp × zTp × Unit → Option ((zTy × zTp × Unit))) (l_0 : List (Int × Int)) (n_1 : Int) (most_6 : Int) (i_9 : Int) (t_53 : Int) (t_54 : Int) (o_22 : List (List Int)) : Option ((zTy × zTp × Unit)) :=
  cond (decide (t_54 < t_53)) (inR i_9 o_22.length (inR (IntKind.wrap .i64 (i_9 + 1)) o_22.length (getI o_22 (IntKind.wrap .i64 (i_9 + 1)) fun e8 => inR t_54 e8.length (getI o_22 (IntKind.wrap .i64 (i_9 + 1)) fun e9 => getI e9 t_54 fun e10 => getI o_22 i_9 fun e11 => inR t_54 e11.length (getI o_22 i_9 fun e12 => getI e12 t_54 fun _ => getI l_0 i_9 fun e14 => cond (decide ((IntKind.wrap .i64 (t_54 - e14.1)) ≥ 0)) (inR i_9 (o_22.set i_9.toNat (e12.set t_54.toNat e10)).length (getI (o_22.set i_9.toNat (e12.set t_54.toNat e10)) i_9 fun e15 => inR (IntKind.wrap .i64 (t_54 - e14.1)) e15.length (getI (o_22.set i_9.toNat (e12.set t_54.toNat e10)) i_9 fun e16 => getI e16 (IntKind.wrap .i64 (t_54 - e14.1)) fun e17 => cond (decide (e17 < 1152921504606846976)) (inR i_9 (o_22.set i_9.toNat (e12.set t_54.toNat e10)).length (inR i_9 (o_22.set i_9.toNat (e12.set t_54.toNat e10)).length (getI (o_22.set i_9.toNat (e12.set t_54.toNat e10)) i_9 fun e18 => inR t_54 e18.length (getI (o_22.set i_9.toNat (e12.set t_54.toNat e10)) i_9 fun e19 => getI e19 t_54 fun e20 => inR i_9 (o_22.set i_9.toNat (e12.set t_54.toNat e10)).length (getI (o_22.set i_9.toNat (e12.set t_54.toNat e10)) i_9 fun e21 => inR (IntKind.wrap .i64 (t_54 - e14.1)) e21.length (getI (o_22.set i_9.toNat (e12.set t_54.toNat e10)) i_9 fun e22 => getI e22 (IntKind.wrap .i64 (t_54 - e14.1)) fun e23 => getI l_0 i_9 fun e24 => getI (o_22.set i_9.toNat (e12.set t_54.toNat e10)) i_9 fun e25 => inR t_54 e25.length (getI (o_22.set i_9.toNat (e12.set t_54.toNat e10)) i_9 fun e26 => getI e26 t_54 fun _ => bindV ((o_22.set i_9.toNat (e12.set t_54.toNat e10)).set i_9.toNat (e26.set t_54.toNat (min e20 (IntKind.wrap .i64 (e23 + e24.2))))) fun z28 => L ((l_0, n_1, most_6, i_9, t_53, (IntKind.wrap .i64 (t_54 + 1)), ()), (z28, ()), ())))))))) (L ((l_0, n_1, most_6, i_9, t_53, (IntKind.wrap .i64 (t_54 + 1)), ()), ((o_22.set i_9.toNat (e12.set t_54.toNat e10)), ()), ()))))) (L ((l_0, n_1, most_6, i_9, t_53, (IntKind.wrap .i64 (t_54 + 1)), ()), ((o_22.set i_9.toNat (e12.set t_54.toNat e10)), ()), ()))))))) (some ((l_0, n_1, most_6, i_9, ()), (o_22, ()), ()))
noncomputable def L10053_13 : Nat → zUp × zTp × Unit → Option ((zTy × zTp × Unit))
  | 0, _ => none
  | n + 1, d => B10053_13 n (L10053_13 n) d.1.1 d.1.2.1 d.1.2.2.1 d.1.2.2.2.1 d.1.2.2.2.2.1 d.1.2.2.2.2.2.1 d.2.1.1
noncomputable def l10053_13 : LoopI := ⟨⟨[(0, .v zTk), (1, .v zI), (6, .v zI), (7, .c (.view 22 [])), (9, .v zI), (53, .v zI), (54, .v zI)], [(22, true, .list true 26 zTx)], none⟩, [(.exit 4, ⟨[(0, .v zTk), (1, .v zI), (6, .v zI), (7, .c (.view 22 [])), (9, .v zI)], [(22, true, .list true 26 zTx)], none⟩)], L10053_13⟩
noncomputable def B10053_10 (n : Nat) (L : zTy × zTp × Unit → Option zTw) (l_0 : List (Int × Int)) (n_1 : Int) (most_6 : Int) (i_9 : Int) (o_22 : List (List Int)) : Option zTw :=
  cond (decide (i_9 ≥ 0)) (inR i_9 o_22.length (getI o_22 i_9 fun e7 => derefK (L10053_13 n ((l_0, n_1, most_6, i_9, (e7.length : Int), 0, ()), (o_22, ()), ())) fun o29 => L ((o29.1.1, o29.1.2.1, o29.1.2.2.1, (IntKind.wrap .i64 (o29.1.2.2.2.1 - 1)), ()), (o29.2.1.1, ()), ()))) (some ((l_0, n_1, most_6, ()), (o_22, ()), ()))
noncomputable def L10053_10 : Nat → zTy × zTp × Unit → Option zTw
  | 0, _ => none
  | n + 1, d => B10053_10 n (L10053_10 n) d.1.1 d.1.2.1 d.1.2.2.1 d.1.2.2.2.1 d.2.1.1
noncomputable def l10053_10 : LoopI := ⟨⟨[(0, .v zTk), (1, .v zI), (6, .v zI), (7, .c (.view 22 [])), (9, .v zI)], [(22, true, .list true 26 zTx)], none⟩, [(.exit 2, ⟨[(0, .v zTk), (1, .v zI), (6, .v zI), (7, .c (.view 22 []))], [(22, true, .list true 26 zTx)], none⟩)], L10053_10⟩
noncomputable def B10053_22 (_n : Nat) (L : zTy × zTp × Unit → Option zUi) (l_0 : List (Int × Int)) (most_6 : Int) (tokens_12 : Int) (t_13 : Int) (o_22 : List (List Int)) : Option zUi :=
  cond (decide (t_13 ≤ most_6)) (inR 0 o_22.length (getI o_22 0 fun e31 => inR t_13 e31.length (getI o_22 0 fun e32 => getI e32 t_13 fun e33 => inR 0 o_22.length (getI o_22 0 fun e34 => inR tokens_12 e34.length (getI o_22 0 fun e35 => getI e35 tokens_12 fun e36 => cond (decide (e33 < e36)) (L ((l_0, most_6, t_13, (IntKind.wrap .i64 (t_13 + 1)), ()), (o_22, ()), ())) (L ((l_0, most_6, tokens_12, (IntKind.wrap .i64 (t_13 + 1)), ()), (o_22, ()), ()))))))) (some ((l_0, tokens_12, ()), (o_22, ()), ()))
noncomputable def L10053_22 : Nat → zTy × zTp × Unit → Option zUi
  | 0, _ => none
  | n + 1, d => B10053_22 n (L10053_22 n) d.1.1 d.1.2.1 d.1.2.2.1 d.1.2.2.2.1 d.2.1.1
noncomputable def l10053_22 : LoopI := ⟨⟨[(0, .v zTk), (6, .v zI), (7, .c (.view 22 [])), (12, .v zI), (13, .v zI)], [(22, true, .list true 26 zTx)], none⟩, [(.exit 6, ⟨[(0, .v zTk), (7, .c (.view 22 [])), (12, .v zI)], [(22, true, .list true 26 zTx)], none⟩)], L10053_22⟩
noncomputable def B10053_34 (_n : Nat) (L : zUm × zUq × Unit → Option zTz) (price_5 : Int) (tokens_12 : Int) (i_14 : Int) (left_16 : Int) (t_150 : List (Int × Int)) (t_151 : Int) (t_152 : Int) (o_15 : Int × Int) (o_22 : List (List Int)) (o_4000149 : List Int) : Option zTz :=
  cond (decide (tokens_12 ≥ o_15.1)) (inR i_14 o_22.length (getI o_22 i_14 fun e45 => inR (IntKind.wrap .i64 (tokens_12 - o_15.1)) e45.length (getI o_22 i_14 fun e46 => getI e46 (IntKind.wrap .i64 (tokens_12 - o_15.1)) fun e47 => cond (decide (e47 < 1152921504606846976)) (inR i_14 o_22.length (getI o_22 i_14 fun e48 => inR (IntKind.wrap .i64 (tokens_12 - o_15.1)) e48.length (getI o_22 i_14 fun e49 => getI e49 (IntKind.wrap .i64 (tokens_12 - o_15.1)) fun e50 => cond ((IntKind.wrap .i64 (e50 + o_15.2)) == left_16) (inR i_14 o_4000149.length (getI o_4000149 i_14 fun e51 => inR i_14 o_4000149.length (getI o_4000149 i_14 fun _ => inR i_14 o_22.length (getI o_22 i_14 fun e53 => inR (IntKind.wrap .i64 (tokens_12 - o_15.1)) e53.length (getI o_22 i_14 fun e54 => getI e54 (IntKind.wrap .i64 (tokens_12 - o_15.1)) fun e55 => L ((price_5, (IntKind.wrap .i64 (tokens_12 - o_15.1)), i_14, e55, t_150, t_151, t_152, ()), (o_15, o_22, (o_4000149.set i_14.toNat (IntKind.wrap .i64 (e51 + 1))), ()), ())))))) (some ((price_5, tokens_12, t_150, t_151, t_152, ()), (o_22, o_4000149, ()), ()))))) (some ((price_5, tokens_12, t_150, t_151, t_152, ()), (o_22, o_4000149, ()), ()))))) (some ((price_5, tokens_12, t_150, t_151, t_152, ()), (o_22, o_4000149, ()), ()))
noncomputable def L10053_34 : Nat → zUm × zUq × Unit → Option zTz
  | 0, _ => none
  | n + 1, d => B10053_34 n (L10053_34 n) d.1.1 d.1.2.1 d.1.2.2.1 d.1.2.2.2.1 d.1.2.2.2.2.1 d.1.2.2.2.2.2.1 d.1.2.2.2.2.2.2.1 d.2.1.1 d.2.1.2.1 d.2.1.2.2.1
noncomputable def l10053_34 : LoopI := ⟨⟨[(4, .c (.view 4000149 [])), (5, .v zI), (7, .c (.view 22 [])), (12, .v zI), (14, .v zI), (15, .c (.ptr 15 [])), (16, .v zI), (150, .v zTk), (151, .v zI), (152, .v zI)], [(15, false, .str zUa), (22, true, .list true 26 zTx), (4000149, true, .list true 3 zI)], none⟩, [(.exit 10, ⟨[(4, .c (.view 4000149 [])), (5, .v zI), (7, .c (.view 22 [])), (12, .v zI), (150, .v zTk), (151, .v zI), (152, .v zI)], [(22, true, .list true 26 zTx), (4000149, true, .list true 3 zI)], none⟩)], L10053_34⟩
noncomputable def B10053_31 (n : Nat) (L : zUk × zUu × Unit → Option zUx) (price_5 : Int) (tokens_12 : Int) (t_150 : List (Int × Int)) (t_151 : Int) (t_152 : Int) (o_22 : List (List Int)) (o_4000149 : List Int) : Option zUx :=
  cond (decide (t_152 < t_151)) (getI t_150 t_152 fun e41 => inR t_152 o_22.length (getI o_22 t_152 fun e42 => inR tokens_12 e42.length (getI o_22 t_152 fun e43 => getI e43 tokens_12 fun e44 => derefK (L10053_34 n ((price_5, tokens_12, t_152, e44, t_150, t_151, t_152, ()), (e41, o_22, o_4000149, ()), ())) fun o56 => L ((o56.1.1, o56.1.2.1, o56.1.2.2.1, o56.1.2.2.2.1, (IntKind.wrap .i64 (o56.1.2.2.2.2.1 + 1)), ()), (o56.2.1.1, o56.2.1.2.1, ()), ())))) (some ((price_5, ()), (o_4000149, ()), ()))
noncomputable def L10053_31 : Nat → zUk × zUu × Unit → Option zUx
  | 0, _ => none
  | n + 1, d => B10053_31 n (L10053_31 n) d.1.1 d.1.2.1 d.1.2.2.1 d.1.2.2.2.1 d.1.2.2.2.2.1 d.2.1.1 d.2.1.2.1
noncomputable def l10053_31 : LoopI := ⟨⟨[(4, .c (.view 4000149 [])), (5, .v zI), (7, .c (.view 22 [])), (12, .v zI), (150, .v zTk), (151, .v zI), (152, .v zI)], [(22, true, .list true 26 zTx), (4000149, true, .list true 3 zI)], none⟩, [(.exit 8, ⟨[(4, .c (.view 4000149 [])), (5, .v zI)], [(4000149, true, .list true 3 zI)], none⟩)], L10053_31⟩
noncomputable def F10053 (n : Nat) (l_0 : (List (Int × Int))) (n_1 : Int) : Option zUg :=
  leK 0 (IntKind.wrap .i64 ((l_0.length : Int) + 1)) (leK (IntKind.wrap .i64 ((l_0.length : Int) + 1)) (IntKind.wrap .i64 ((l_0.length : Int) + 1)) (lenK (IntKind.wrap .i64 ((l_0.length : Int) + 1)) (derefK (L10053_4 n ((l_0, n_1, (IntKind.wrap .i64 (n_1 + 1000)), ((List.replicate (IntKind.wrap .i64 ((l_0.length : Int) + 1)).toNat ([] : List Int)).length : Int), 0, ()), ((List.replicate (IntKind.wrap .i64 ((l_0.length : Int) + 1)).toNat ([] : List Int)), ()), ())) fun o3 => inR (o3.1.1.length : Int) o3.2.1.1.length (getI o3.2.1.1 (o3.1.1.length : Int) fun e4 => inR 0 e4.length (getI o3.2.1.1 (o3.1.1.length : Int) fun e5 => getI e5 0 fun _ => derefK (L10053_10 n ((o3.1.1, o3.1.2.1, o3.1.2.2.1, (IntKind.wrap .i64 ((o3.1.1.length : Int) - 1)), ()), ((o3.2.1.1.set (o3.1.1.length : Int).toNat (e5.set (0 : Int).toNat 0)), ()), ())) fun o30 => derefK (L10053_22 n ((o30.1.1, o30.1.2.2.1, o30.1.2.1, o30.1.2.1, ()), (o30.2.1.1, ()), ())) fun o37 => inR 0 o37.2.1.1.length (getI o37.2.1.1 0 fun e38 => inR o37.1.2.1 e38.length (getI o37.2.1.1 0 fun e39 => getI e39 o37.1.2.1 fun e40 => cond (e40 == 1152921504606846976) (some ((([] : List Int), 0, ()), ())) (leK 0 (o37.1.1.length : Int) (leK (o37.1.1.length : Int) (o37.1.1.length : Int) (lenK (o37.1.1.length : Int) (derefK (L10053_31 n ((e40, o37.1.2.1, o37.1.1, (o37.1.1.length : Int), 0, ()), (o37.2.1.1, (List.replicate (o37.1.1.length : Int).toNat (0 : Int)), ()), ())) fun _ => none)))))))))))
noncomputable def g10053 (d : (List (Int × Int)) × Int × Unit) : Option zUg := F10053 fuel d.1 d.2.1
noncomputable def p10053 : Prim := ⟨[.v zTk, .v zI], [.sure false 3 zI, .v zI], g10053⟩
noncomputable def c10053 : Cfg := ⟨218, tyT, [(22, .list true 26 zTx), (4, .bool)], [(76, p76)], [(4, l10053_4), (13, l10053_13), (10, l10053_10), (22, l10053_22), (34, l10053_34), (31, l10053_31)], [], [1000149], [], [], [], [], [], [], [], none⟩
theorem F10053_eq (n : Nat) (d) : absFn c10053 n Try.f53 (body Try.f53) p10053.ps p10053.rs d = F10053 n d.1 d.2.1 := by kernel_rfl
theorem L10053_4_eq (n : Nat) (d) : (l10053_4).g (n + 1) d = run c10053 n (nth 0 (loopsOf (body Try.f53))) ((l10053_4).ins.fill d) (roundK (l10053_4) n) := by kernel_rfl
theorem L10053_10_eq (n : Nat) (d) : (l10053_10).g (n + 1) d = run c10053 n (nth 1 (loopsOf (body Try.f53))) ((l10053_10).ins.fill d) (roundK (l10053_10) n) := by kernel_rfl
theorem L10053_13_eq (n : Nat) (d) : (l10053_13).g (n + 1) d = run c10053 n (nth 2 (loopsOf (body Try.f53))) ((l10053_13).ins.fill d) (roundK (l10053_13) n) := by kernel_rfl
theorem L10053_22_eq (n : Nat) (d) : (l10053_22).g (n + 1) d = run c10053 n (nth 3 (loopsOf (body Try.f53))) ((l10053_22).ins.fill d) (roundK (l10053_22) n) := by kernel_rfl
theorem L10053_31_eq (n : Nat) (d) : (l10053_31).g (n + 1) d = run c10053 n (nth 4 (loopsOf (body Try.f53))) ((l10053_31).ins.fill d) (roundK (l10053_31) n) := by kernel_rfl
theorem L10053_34_eq (n : Nat) (d) : (l10053_34).g (n + 1) d = run c10053 n (nth 5 (loopsOf (body Try.f53))) ((l10053_34).ins.fill d) (roundK (l10053_34) n) := by kernel_rfl
theorem ls10053 : loopsOf (body Try.f53) = [nth 0 (loopsOf (body Try.f53)), nth 1 (loopsOf (body Try.f53)), nth 2 (loopsOf (body Try.f53)), nth 3 (loopsOf (body Try.f53)), nth 4 (loopsOf (body Try.f53)), nth 5 (loopsOf (body Try.f53))] := by kernel_rfl
theorem d10053 : drawOK c10053 (body Try.f53) = true := by kernel_rfl
theorem h10053 : GoodF Try.prog 53 p10053 := hQ (cfg := c10053) (cfg_ok tyT_ok (goodCons h76 goodNil) rfl (by kernel_rfl)) Try.func53 (by kernel_rfl) (by rw [ls10053]; simp only [List.forall_mem_cons]; exact ⟨loopHas (key := 4) (li := l10053_4) (by kernel_rfl) rfl (fun _ => rfl) (L10053_4_eq), loopHas (key := 10) (li := l10053_10) (by kernel_rfl) rfl (fun _ => rfl) (L10053_10_eq), loopHas (key := 13) (li := l10053_13) (by kernel_rfl) rfl (fun _ => rfl) (L10053_13_eq), loopHas (key := 22) (li := l10053_22) (by kernel_rfl) rfl (fun _ => rfl) (L10053_22_eq), loopHas (key := 31) (li := l10053_31) (by kernel_rfl) rfl (fun _ => rfl) (L10053_31_eq), loopHas (key := 34) (li := l10053_34) (by kernel_rfl) rfl (fun _ => rfl) (L10053_34_eq), fun _ h => by cases h⟩) d10053 (F10053_eq fuel)
noncomputable def F31 (_n : Nat) (f_0 : zTv) (n_1 : Int) : Option zUz :=
  altK (g10053 (f_0.2.2.2.2.1, n_1, ())) (fun _ => some ((([] : List Int), 0, 3, ()), ())) (derefK (g53 (f_0.2.2.2.2.1, n_1, ())) fun y2 => some ((y2.1.1, y2.1.2.1, 0, ()), ()))
noncomputable def g31 (d : zTv × Int × Unit) : Option zUz := F31 fuel d.1 d.2.1
noncomputable def p31 : Prim := ⟨[.v (.str (.pair zI (.pair zI (.pair zTh (.pair zTh (.pair zTk zTg)))))), .v zI], [.own 3 zI, .v zI, .v zI], g31⟩
noncomputable def c31 : Cfg := ⟨20, tyT, [], [(53, p53)], [], [], [], [], [], [], [(53, p10053)], [], [], [], none⟩
theorem F31_eq (n : Nat) (d) : absFn c31 n Try.f31 (body Try.f31) p31.ps p31.rs d = F31 n d.1 d.2.1 := by kernel_rfl
theorem d31 : drawOK c31 (body Try.f31) = true := by kernel_rfl
theorem h31 : GoodF Try.prog 31 p31 := hQ (cfg := c31) (cfg_ok tyT_ok (goodCons h53 goodNil) rfl (by kernel_rfl) (hal := goodCons h10053 goodNil)) Try.func31 (by kernel_rfl) (noLoops (by kernel_rfl)) d31 (F31_eq fuel)
noncomputable def F13 (_n : Nat) (f_0 : zTv) (n_1 : Int) : Option zUz :=
  derefK (g29 (f_0, ())) fun y1 => cond (y1.1.1 != 0) (some ((([] : List Int), 0, y1.1.1, ()), ())) (derefK (g30 (n_1, 0, 1000, ())) fun y2 => cond (!y2.1.1) (some ((([] : List Int), 0, 1, ()), ())) (derefK (g31 (f_0, n_1, ())) fun y3 => some ((y3.1.1, y3.1.2.1, y3.1.2.2.1, ()), ())))
noncomputable def g13 (d : zTv × Int × Unit) : Option zUz := F13 fuel d.1 d.2.1
noncomputable def p13 : Prim := ⟨[.v (.str (.pair zI (.pair zI (.pair zTh (.pair zTh (.pair zTk zTg)))))), .v zI], [.own 3 zI, .v zI, .v zI], g13⟩
noncomputable def c13 : Cfg := ⟨22, tyT, [], [(29, p29), (30, p30), (31, p31)], [], [], [], [], [], [], [], [], [], [], none⟩
theorem F13_eq (n : Nat) (d) : absFn c13 n Try.f13 (body Try.f13) p13.ps p13.rs d = F13 n d.1 d.2.1 := by kernel_rfl
theorem d13 : drawOK c13 (body Try.f13) = true := by kernel_rfl
theorem h13 : GoodF Try.prog 13 p13 := hQ (cfg := c13) (cfg_ok tyT_ok (goodCons h29 (goodCons h30 (goodCons h31 goodNil))) rfl (by kernel_rfl)) Try.func13 (by kernel_rfl) (noLoops (by kernel_rfl)) d13 (F13_eq fuel)
noncomputable def B14_4 (_n : Nat) (L : ((List Int) × (List Int) × Int × Unit) × (Unit) × Unit → Option (zUd ⊕ zTr)) (a_0 : List Int) (b_1 : List Int) (i_5 : Int) : Option (zUd ⊕ zTr) :=
  cond (decide (i_5 < (a_0.length : Int))) (getI a_0 i_5 fun e1 => getI b_1 i_5 fun e2 => cond (e1 != e2) (some (.inl ((false, ()), (), ()))) (L ((a_0, b_1, (IntKind.wrap .i64 (i_5 + 1)), ()), (), ()))) (some (.inr ((), (), ())))
noncomputable def L14_4 : Nat → ((List Int) × (List Int) × Int × Unit) × (Unit) × Unit → Option (zUd ⊕ zTr)
  | 0, _ => none
  | n + 1, d => B14_4 n (L14_4 n) d.1.1 d.1.2.1 d.1.2.2.1
noncomputable def l14_4 : LoopI := ⟨⟨[(0, .v zTh), (1, .v zTh), (5, .v zI)], [], none⟩, [(.ret, ⟨[(4, .v .bool)], [], none⟩), (.exit 0, ⟨[], [], none⟩)], L14_4⟩
noncomputable def F14 (n : Nat) (a_0 : (List Int)) (b_1 : (List Int)) : Option zTm :=
  cond ((a_0.length : Int) != (b_1.length : Int)) (some ((false, ()), ())) (derefK (L14_4 n ((a_0, b_1, 0, ()), (), ())) fun o3 => sumK o3 (fun d4 => some ((d4.1.1, ()), ())) (fun _ => some ((true, ()), ())))
noncomputable def g14 (d : (List Int) × (List Int) × Unit) : Option zTm := F14 fuel d.1 d.2.1
noncomputable def p14 : Prim := ⟨[.v zTh, .v zTh], [.v .bool], g14⟩
noncomputable def c14 : Cfg := ⟨26, tyT, [], [], [(4, l14_4)], [], [], [], [], [], [], [], [], [], none⟩
theorem F14_eq (n : Nat) (d) : absFn c14 n Try.f14 (body Try.f14) p14.ps p14.rs d = F14 n d.1 d.2.1 := by kernel_rfl
theorem L14_4_eq (n : Nat) (d) : (l14_4).g (n + 1) d = run c14 n (nth 0 (loopsOf (body Try.f14))) ((l14_4).ins.fill d) (roundK (l14_4) n) := by kernel_rfl
theorem ls14 : loopsOf (body Try.f14) = [nth 0 (loopsOf (body Try.f14))] := by kernel_rfl
theorem d14 : drawOK c14 (body Try.f14) = true := by kernel_rfl
theorem h14 : GoodF Try.prog 14 p14 := hQ (cfg := c14) (cfg_ok tyT_ok (goodNil) rfl (by kernel_rfl)) Try.func14 (by kernel_rfl) (by rw [ls14]; simp only [List.forall_mem_cons]; exact ⟨loopHas (key := 4) (li := l14_4) (by kernel_rfl) rfl (fun _ => rfl) (L14_4_eq), fun _ h => by cases h⟩) d14 (F14_eq fuel)
noncomputable def F6 (_n : Nat)  : Option zTm :=
  bindV ((0 : Int), (0 : Int), [5], [0], [(1, 200), (6, 1000)], (0 : Int), (0 : Int), 1) fun z1 => derefK (g13 (z1, 7, ())) fun y2 => cond (y2.1.2.2.1 == 0) (cond (y2.1.2.1 == 1200) (derefK (g14 (y2.1.1, [1, 1], ())) fun y3 => some ((y3.1.1, ()), ())) (some ((false, ()), ()))) (some ((false, ()), ()))
noncomputable def g6 (_d : Unit) : Option zTm := F6 fuel 
noncomputable def p6 : Prim := ⟨[], [.v .bool], g6⟩
noncomputable def c6 : Cfg := ⟨28, tyT, [], [(13, p13), (14, p14)], [], [], [], [], [], [], [], [], [], [], none⟩
theorem F6_eq (n : Nat) (d) : absFn c6 n Try.f6 (body Try.f6) p6.ps p6.rs d = F6 n  := by kernel_rfl
theorem d6 : drawOK c6 (body Try.f6) = true := by kernel_rfl
theorem h6 : GoodF Try.prog 6 p6 := hQ (cfg := c6) (cfg_ok tyT_ok (goodCons h13 (goodCons h14 goodNil)) rfl (by kernel_rfl)) Try.func6 (by kernel_rfl) (noLoops (by kernel_rfl)) d6 (F6_eq fuel)
noncomputable def F15 (_n : Nat) (f_0 : zTt) : Option ((zTt × Unit) × (Unit)) :=
  lenK ((([] : List (Int × zTj)).length : Int) + f_0.1.length) (some ((((([] : List (Int × zTj)) ++ f_0.1), f_0.2), ()), ()))
noncomputable def g15 (d : zTt × Unit) : Option ((zTt × Unit) × (Unit)) := F15 fuel d.1
noncomputable def p15 : Prim := ⟨[.v (.str zTd)], [.v (.str zTd)], g15⟩
noncomputable def c15 : Cfg := ⟨10, tyT, [(1, .str zTd), (6, .list true 106 (.str (.pair zI zTi)))], [], [], [], [1], [], [], [], [], [], [], [], none⟩
theorem F15_eq (n : Nat) (d) : absFn c15 n Try.f15 (body Try.f15) p15.ps p15.rs d = F15 n d.1 := by kernel_rfl
theorem d15 : drawOK c15 (body Try.f15) = true := by kernel_rfl
theorem h15 : GoodF Try.prog 15 p15 := hQ (cfg := c15) (cfg_ok tyT_ok (goodNil) rfl (by kernel_rfl)) Try.func15 (by kernel_rfl) (noLoops (by kernel_rfl)) d15 (F15_eq fuel)
noncomputable def F7 (_n : Nat) (g_0 : zTc) : Option ((zTc × Unit) × (Unit)) :=
  derefK (g15 (g_0.1, ())) fun y1 => enumK (lenK ((([] : List (Int × zTe)).length : Int) + g_0.2.2.1.length) (bindV (((y1.1.1, g_0.2).1, (((([] : List zTj) ++ g_0.2.1.1), (([] : List Int) ++ g_0.2.1.2.1), (([] : List Int) ++ g_0.2.1.2.2)), ((y1.1.1, g_0.2).2).2)).1, ((((y1.1.1, g_0.2).1, (((([] : List zTj) ++ g_0.2.1.1), (([] : List Int) ++ g_0.2.1.2.1), (([] : List Int) ++ g_0.2.1.2.2)), ((y1.1.1, g_0.2).2).2)).2).1, ((([] : List (Int × zTe)) ++ g_0.2.2.1), ((((y1.1.1, g_0.2).1, (((([] : List zTj) ++ g_0.2.1.1), (([] : List Int) ++ g_0.2.1.2.1), (([] : List Int) ++ g_0.2.1.2.2)), ((y1.1.1, g_0.2).2).2)).2).2).2))) fun z2 => lenK ((([] : List zTe).length : Int) + g_0.2.2.2.2.1.1.length) (bindV (z2.1, (z2.2.1, (z2.2.2.1, (z2.2.2.2.1, (((([] : List zTe) ++ g_0.2.2.2.2.1.1), z2.2.2.2.2.1.2), z2.2.2.2.2.2))))) fun z3 => lenK ((([] : List zTe).length : Int) + g_0.2.2.2.2.1.2.1.length) (bindV (z3.1, (z3.2.1, (z3.2.2.1, (z3.2.2.2.1, ((z3.2.2.2.2.1.1, ((([] : List zTe) ++ g_0.2.2.2.2.1.2.1), z3.2.2.2.2.1.2.2)), z3.2.2.2.2.2))))) fun z4 => lenK ((([] : List Int).length : Int) + g_0.2.2.2.2.2.1.length) (bindV (z4.1, (z4.2.1, (z4.2.2.1, (z4.2.2.2.1, (z4.2.2.2.2.1, ((([] : List Int) ++ g_0.2.2.2.2.2.1), z4.2.2.2.2.2.2)))))) fun z5 => lenK ((([] : List Int).length : Int) + g_0.2.2.2.2.2.2.length) (bindV (z5.1, (z5.2.1, (z5.2.2.1, (z5.2.2.2.1, (z5.2.2.2.2.1, (z5.2.2.2.2.2.1, (([] : List Int) ++ g_0.2.2.2.2.2.2))))))) fun z6 => some ((z6, ()), ()))))))) fun E => agreeK [agreeK [lenK ((([] : List zTj).length : Int) + g_0.2.1.1.length) (agreeK [agreeK [lenK ((([] : List Int).length : Int) + g_0.2.1.2.1.length) (lenK ((([] : List Int).length : Int) + g_0.2.1.2.2.length) (E)), lenK ((([] : List Int).length : Int) + g_0.2.1.2.1.length) (lenK ((([] : List Int).length : Int) + g_0.2.1.2.2.length) (E))], lenK ((([] : List Int).length : Int) + g_0.2.1.2.1.length) (lenK ((([] : List Int).length : Int) + g_0.2.1.2.2.length) (E))]), agreeK [lenK ((([] : List zTj).length : Int) + g_0.2.1.1.length) (agreeK [lenK ((([] : List Int).length : Int) + g_0.2.1.2.1.length) (lenK ((([] : List Int).length : Int) + g_0.2.1.2.2.length) (E)), lenK ((([] : List Int).length : Int) + g_0.2.1.2.1.length) (lenK ((([] : List Int).length : Int) + g_0.2.1.2.2.length) (E))]), lenK ((([] : List zTj).length : Int) + g_0.2.1.1.length) (lenK ((([] : List Int).length : Int) + g_0.2.1.2.1.length) (lenK ((([] : List Int).length : Int) + g_0.2.1.2.2.length) (E)))], agreeK [lenK ((([] : List zTj).length : Int) + g_0.2.1.1.length) (lenK ((([] : List Int).length : Int) + g_0.2.1.2.1.length) (lenK ((([] : List Int).length : Int) + g_0.2.1.2.2.length) (E))), lenK ((([] : List zTj).length : Int) + g_0.2.1.1.length) (lenK ((([] : List Int).length : Int) + g_0.2.1.2.1.length) (lenK ((([] : List Int).length : Int) + g_0.2.1.2.2.length) (E)))]], agreeK [agreeK [lenK ((([] : List zTj).length : Int) + g_0.2.1.1.length) (agreeK [lenK ((([] : List Int).length : Int) + g_0.2.1.2.1.length) (lenK ((([] : List Int).length : Int) + g_0.2.1.2.2.length) (E)), lenK ((([] : List Int).length : Int) + g_0.2.1.2.1.length) (lenK ((([] : List Int).length : Int) + g_0.2.1.2.2.length) (E))]), lenK ((([] : List zTj).length : Int) + g_0.2.1.1.length) (lenK ((([] : List Int).length : Int) + g_0.2.1.2.1.length) (lenK ((([] : List Int).length : Int) + g_0.2.1.2.2.length) (E)))], lenK ((([] : List zTj).length : Int) + g_0.2.1.1.length) (lenK ((([] : List Int).length : Int) + g_0.2.1.2.1.length) (lenK ((([] : List Int).length : Int) + g_0.2.1.2.2.length) (E)))], agreeK [agreeK [lenK ((([] : List zTj).length : Int) + g_0.2.1.1.length) (lenK ((([] : List Int).length : Int) + g_0.2.1.2.1.length) (lenK ((([] : List Int).length : Int) + g_0.2.1.2.2.length) (E))), lenK ((([] : List zTj).length : Int) + g_0.2.1.1.length) (lenK ((([] : List Int).length : Int) + g_0.2.1.2.1.length) (lenK ((([] : List Int).length : Int) + g_0.2.1.2.2.length) (E)))], lenK ((([] : List zTj).length : Int) + g_0.2.1.1.length) (lenK ((([] : List Int).length : Int) + g_0.2.1.2.1.length) (lenK ((([] : List Int).length : Int) + g_0.2.1.2.2.length) (E)))]]
noncomputable def g7 (d : zTc × Unit) : Option ((zTc × Unit) × (Unit)) := F7 fuel d.1
noncomputable def p7 : Prim := ⟨[.v (.str (.pair (.str zTd) (.pair (.str zTb) (.pair (.list false 48 (.str (.pair zI zTa))) (.pair zI (.pair (.str (.pair (.list false 46 (.str zTa)) (.pair (.list false 44 (.str zTa)) zTg))) (.pair zTh zTh)))))))], [.ownv (.str (.pair (.str zTd) (.pair (.str zTb) (.pair (.list true 48 (.str (.pair zI zTa))) (.pair zI (.pair (.str (.pair (.list true 46 (.str zTa)) (.pair (.list true 44 (.str zTa)) zTg))) (.pair zTh zTh)))))))], g7⟩
noncomputable def c7 : Cfg := ⟨56, tyT, [(1, .str (.pair (.str zTd) (.pair (.str zTb) (.pair (.list false 48 (.str (.pair zI zTa))) (.pair zI (.pair (.str (.pair (.list false 46 (.str zTa)) (.pair (.list false 44 (.str zTa)) zTg))) (.pair zTh zTh))))))), (13, .list true 56 (.str zTi)), (18, .list true 3 zI), (23, .list true 3 zI), (29, .list true 48 (.str (.pair zI zTa))), (35, .list true 46 (.str zTa)), (42, .list true 44 (.str zTa)), (48, .list true 3 zI), (53, .list true 3 zI), (55, .str (.pair (.str zTd) (.pair (.str zTb) (.pair (.list true 48 (.str (.pair zI zTa))) (.pair zI (.pair (.str (.pair (.list true 46 (.str zTa)) (.pair (.list true 44 (.str zTa)) zTg))) (.pair zTh zTh))))))), (2, .str (.pair (.str zTd) (.pair (.str zTb) (.pair (.list true 48 (.str (.pair zI zTa))) (.pair zI (.pair (.str (.pair (.list true 46 (.str zTa)) (.pair (.list true 44 (.str zTa)) zTg))) (.pair zTh zTh)))))))], [(15, p15)], [], [], [3, 6000030, 6000037, 6000044], [], [], [], [], [], [], [], none⟩
theorem F7_eq (n : Nat) (d) : absFn c7 n Try.f7 (body Try.f7) p7.ps p7.rs d = F7 n d.1 := by kernel_rfl
theorem d7 : drawOK c7 (body Try.f7) = true := by kernel_rfl
theorem h7 : GoodF Try.prog 7 p7 := hQ (cfg := c7) (cfg_ok tyT_ok (goodCons h15 goodNil) rfl (by kernel_rfl)) Try.func7 (by kernel_rfl) (noLoops (by kernel_rfl)) d7 (F7_eq fuel)
noncomputable def F33 (_n : Nat) (n_0 : Int) (low_1 : Int) (high_2 : Int) : Option zTm :=
  cond (decide (n_0 ≥ low_1)) (some (((decide (n_0 ≤ high_2)), ()), ())) (some ((false, ()), ()))
noncomputable def g33 (d : Int × Int × Int × Unit) : Option zTm := F33 fuel d.1 d.2.1 d.2.2.1
noncomputable def p33 : Prim := ⟨[.v zI, .v zI, .v zI], [.v .bool], g33⟩
noncomputable def c33 : Cfg := ⟨15, tyT, [], [], [], [], [], [], [], [], [], [], [], [], none⟩
theorem F33_eq (n : Nat) (d) : absFn c33 n Try.f33 (body Try.f33) p33.ps p33.rs d = F33 n d.1 d.2.1 d.2.2.1 := by kernel_rfl
theorem d33 : drawOK c33 (body Try.f33) = true := by kernel_rfl
theorem h33 : GoodF Try.prog 33 p33 := hQ (cfg := c33) (cfg_ok tyT_ok (goodNil) rfl (by kernel_rfl)) Try.func33 (by kernel_rfl) (noLoops (by kernel_rfl)) d33 (F33_eq fuel)
noncomputable def B32_4 (_n : Nat) (L : (Int × Unit) × (zTt × Unit) × Unit → Option (zTn ⊕ zTr)) (i_3 : Int) (o_1 : (List (Int × zTj)) × Int) : Option (zTn ⊕ zTr) :=
  cond (decide (i_3 < (o_1.1.length : Int))) (getI o_1.1 i_3 fun e2 => derefK (g33 (e2.1, 1, 40, ())) fun y3 => cond (!y3.1.1) (some (.inl ((70, ()), (), ()))) (derefK (g33 (e2.2.1, 0, 100, ())) fun y4 => cond (!y4.1.1) (some (.inl ((70, ()), (), ()))) (derefK (g33 (e2.2.2.1, 1, 100, ())) fun y5 => cond (!y5.1.1) (some (.inl ((70, ()), (), ()))) (derefK (g33 (e2.2.2.2.1, 0, 100, ())) fun y6 => cond (!y6.1.1) (some (.inl ((70, ()), (), ()))) (L (((IntKind.wrap .i64 (i_3 + 1)), ()), (o_1, ()), ())))))) (some (.inr ((), (), ())))
noncomputable def L32_4 : Nat → (Int × Unit) × (zTt × Unit) × Unit → Option (zTn ⊕ zTr)
  | 0, _ => none
  | n + 1, d => B32_4 n (L32_4 n) d.1.1 d.2.1.1
noncomputable def l32_4 : LoopI := ⟨⟨[(1, .c (.ptr 1 [])), (3, .v zI)], [(1, false, .str zTd)], none⟩, [(.ret, ⟨[(2, .v zI)], [], none⟩), (.exit 0, ⟨[], [], none⟩)], L32_4⟩
noncomputable def F32 (n : Nat) (f_0 : zTt) : Option zTs :=
  cond (decide ((f_0.1.length : Int) > 8)) (some ((70, ()), ())) (derefK (g33 (f_0.2, 0, 100, ())) fun y1 => cond (!y1.1.1) (some ((70, ()), ())) (derefK (L32_4 n ((0, ()), (f_0, ()), ())) fun o7 => sumK o7 (fun d8 => some ((d8.1.1, ()), ())) (fun _ => some ((0, ()), ()))))
noncomputable def g32 (d : zTt × Unit) : Option zTs := F32 fuel d.1
noncomputable def p32 : Prim := ⟨[.v (.str zTd)], [.v zI], g32⟩
noncomputable def c32 : Cfg := ⟨49, tyT, [], [(33, p33)], [(4, l32_4)], [], [], [], [], [], [], [], [], [], none⟩
theorem F32_eq (n : Nat) (d) : absFn c32 n Try.f32 (body Try.f32) p32.ps p32.rs d = F32 n d.1 := by kernel_rfl
theorem L32_4_eq (n : Nat) (d) : (l32_4).g (n + 1) d = run c32 n (nth 0 (loopsOf (body Try.f32))) ((l32_4).ins.fill d) (roundK (l32_4) n) := by kernel_rfl
theorem ls32 : loopsOf (body Try.f32) = [nth 0 (loopsOf (body Try.f32))] := by kernel_rfl
theorem d32 : drawOK c32 (body Try.f32) = true := by kernel_rfl
theorem h32 : GoodF Try.prog 32 p32 := hQ (cfg := c32) (cfg_ok tyT_ok (goodCons h33 goodNil) rfl (by kernel_rfl)) Try.func32 (by kernel_rfl) (by rw [ls32]; simp only [List.forall_mem_cons]; exact ⟨loopHas (key := 4) (li := l32_4) (by kernel_rfl) rfl (fun _ => rfl) (L32_4_eq), fun _ h => by cases h⟩) d32 (F32_eq fuel)
noncomputable def B16_13 (_n : Nat) (L : ((List zTq) × Int × Int × Unit) × (zTt × zTq × Unit) × Unit → Option (zTn ⊕ zVc)) (l_1 : List zTq) (i_6 : Int) (k_8 : Int) (o_2 : (List (Int × zTj)) × Int) (o_7 : Int × (Int × (Int × ((List Int) × Int)))) : Option (zTn ⊕ zVc) :=
  cond (decide (k_8 < (o_7.2.2.2.1.length : Int))) (getI o_7.2.2.2.1 k_8 fun e7 => derefK (g33 (e7, 0, (IntKind.wrap .i64 ((o_2.1.length : Int) - 1)), ())) fun y8 => cond (!y8.1.1) (some (.inl ((71, ()), (), ()))) (L ((l_1, i_6, (IntKind.wrap .i64 (k_8 + 1)), ()), (o_2, o_7, ()), ()))) (some (.inr ((l_1, i_6, ()), (o_2, ()), ())))
noncomputable def L16_13 : Nat → ((List zTq) × Int × Int × Unit) × (zTt × zTq × Unit) × Unit → Option (zTn ⊕ zVc)
  | 0, _ => none
  | n + 1, d => B16_13 n (L16_13 n) d.1.1 d.1.2.1 d.1.2.2.1 d.2.1.1 d.2.1.2.1
noncomputable def l16_13 : LoopI := ⟨⟨[(1, .v (.list false 87 (.str (.pair zI (.pair zI (.pair zI (.pair zTh zI))))))), (2, .c (.ptr 2 [])), (6, .v zI), (7, .c (.ptr 7 [])), (8, .v zI)], [(2, false, .str zTd), (7, false, .str (.pair zI (.pair zI (.pair zI (.pair zTh zI)))))], none⟩, [(.ret, ⟨[(4, .v zI)], [], none⟩), (.exit 2, ⟨[(1, .v (.list false 87 (.str (.pair zI (.pair zI (.pair zI (.pair zTh zI))))))), (2, .c (.ptr 2 [])), (6, .v zI)], [(2, false, .str zTd)], none⟩)], L16_13⟩
noncomputable def B16_7 (n : Nat) (L : ((List zTq) × Int × Unit) × (zTt × Unit) × Unit → Option (zTn ⊕ zTr)) (l_1 : List zTq) (i_6 : Int) (o_2 : (List (Int × zTj)) × Int) : Option (zTn ⊕ zTr) :=
  cond (decide (i_6 < (l_1.length : Int))) (getI l_1 i_6 fun e2 => derefK (g33 (e2.1, 0, 2000, ())) fun y3 => cond (!y3.1.1) (some (.inl ((71, ()), (), ()))) (derefK (g33 (e2.2.1, 1, 40, ())) fun y4 => cond (!y4.1.1) (some (.inl ((71, ()), (), ()))) (derefK (g33 (e2.2.2.1, 0, 10000, ())) fun y5 => cond (!y5.1.1) (some (.inl ((71, ()), (), ()))) (cond (decide ((e2.2.2.2.1.length : Int) > 10)) (some (.inl ((71, ()), (), ()))) (derefK (g33 (e2.2.2.2.2, 0, 2000, ())) fun y6 => cond (!y6.1.1) (some (.inl ((71, ()), (), ()))) (derefK (L16_13 n ((l_1, i_6, 0, ()), (o_2, e2, ()), ())) fun o9 => sumK o9 (fun d10 => some (.inl ((d10.1.1, ()), (), ()))) (fun d11 => L ((d11.1.1, (IntKind.wrap .i64 (d11.1.2.1 + 1)), ()), (d11.2.1.1, ()), ())))))))) (some (.inr ((), (), ())))
noncomputable def L16_7 : Nat → ((List zTq) × Int × Unit) × (zTt × Unit) × Unit → Option (zTn ⊕ zTr)
  | 0, _ => none
  | n + 1, d => B16_7 n (L16_7 n) d.1.1 d.1.2.1 d.2.1.1
noncomputable def l16_7 : LoopI := ⟨⟨[(1, .v (.list false 87 (.str (.pair zI (.pair zI (.pair zI (.pair zTh zI))))))), (2, .c (.ptr 2 [])), (6, .v zI)], [(2, false, .str zTd)], none⟩, [(.ret, ⟨[(4, .v zI)], [], none⟩), (.exit 0, ⟨[], [], none⟩)], L16_7⟩
noncomputable def F16 (n : Nat) (f_0 : zTt) (l_1 : (List zTq)) : Option zTs :=
  derefK (g32 (f_0, ())) fun y1 => cond (y1.1.1 != 0) (some ((y1.1.1, ()), ())) (cond (decide ((l_1.length : Int) > 60)) (some ((71, ()), ())) (derefK (L16_7 n ((l_1, 0, ()), (f_0, ()), ())) fun o12 => sumK o12 (fun d13 => some ((d13.1.1, ()), ())) (fun _ => some ((0, ()), ()))))
noncomputable def g16 (d : zTt × (List zTq) × Unit) : Option zTs := F16 fuel d.1 d.2.1
noncomputable def p16 : Prim := ⟨[.v (.str zTd), .v (.list false 87 (.str (.pair zI (.pair zI (.pair zI (.pair zTh zI))))))], [.v zI], g16⟩
noncomputable def c16 : Cfg := ⟨73, tyT, [], [(32, p32), (33, p33)], [(13, l16_13), (7, l16_7)], [], [], [], [], [], [], [], [], [], none⟩
theorem F16_eq (n : Nat) (d) : absFn c16 n Try.f16 (body Try.f16) p16.ps p16.rs d = F16 n d.1 d.2.1 := by kernel_rfl
theorem L16_7_eq (n : Nat) (d) : (l16_7).g (n + 1) d = run c16 n (nth 0 (loopsOf (body Try.f16))) ((l16_7).ins.fill d) (roundK (l16_7) n) := by kernel_rfl
theorem L16_13_eq (n : Nat) (d) : (l16_13).g (n + 1) d = run c16 n (nth 1 (loopsOf (body Try.f16))) ((l16_13).ins.fill d) (roundK (l16_13) n) := by kernel_rfl
theorem ls16 : loopsOf (body Try.f16) = [nth 0 (loopsOf (body Try.f16)), nth 1 (loopsOf (body Try.f16))] := by kernel_rfl
theorem d16 : drawOK c16 (body Try.f16) = true := by kernel_rfl
theorem h16 : GoodF Try.prog 16 p16 := hQ (cfg := c16) (cfg_ok tyT_ok (goodCons h32 (goodCons h33 goodNil)) rfl (by kernel_rfl)) Try.func16 (by kernel_rfl) (by rw [ls16]; simp only [List.forall_mem_cons]; exact ⟨loopHas (key := 7) (li := l16_7) (by kernel_rfl) rfl (fun _ => rfl) (L16_7_eq), loopHas (key := 13) (li := l16_13) (by kernel_rfl) rfl (fun _ => rfl) (L16_13_eq), fun _ h => by cases h⟩) d16 (F16_eq fuel)
noncomputable def F54 (_n : Nat) (n_0 : Int) (low_1 : Int) (high_2 : Int) : Option zTm :=
  cond (decide (n_0 ≥ low_1)) (some (((decide (n_0 ≤ high_2)), ()), ())) (some ((false, ()), ()))
noncomputable def g54 (d : Int × Int × Int × Unit) : Option zTm := F54 fuel d.1 d.2.1 d.2.2.1
noncomputable def p54 : Prim := ⟨[.v zI, .v zI, .v zI], [.v .bool], g54⟩
noncomputable def c54 : Cfg := ⟨15, tyT, [], [], [], [], [], [], [], [], [], [], [], [], none⟩
theorem F54_eq (n : Nat) (d) : absFn c54 n Try.f54 (body Try.f54) p54.ps p54.rs d = F54 n d.1 d.2.1 d.2.2.1 := by kernel_rfl
theorem d54 : drawOK c54 (body Try.f54) = true := by kernel_rfl
theorem h54 : GoodF Try.prog 54 p54 := hQ (cfg := c54) (cfg_ok tyT_ok (goodNil) rfl (by kernel_rfl)) Try.func54 (by kernel_rfl) (noLoops (by kernel_rfl)) d54 (F54_eq fuel)
end Go.Proofs.Try.V
