/- The contracts of functions of the program, printed by program from the interpreter: each says what a call returns. No condition beyond those typed in each theorem. -/
import Derived.Test.YtinkjepanpicoaaFn2
namespace Go.Proofs.Try.V
open Go.Vi
set_option maxRecDepth 100000
-- function 9
noncomputable def F9 (_n : Nat) (b_0 : zTe) (entries_1 : (List zTf)) (ride_2 : Int) (day_3 : Int) : Option ((Int × Int × Unit) × (Unit)) :=
  derefK (g20 (b_0, entries_1, ride_2, day_3, ())) fun y1 => cond (y1.1.2.1 != 0) (some ((0, y1.1.2.1, ()), ())) (derefK (g21 (y1.1.1, ride_2, ())) fun y2 => derefK (g22 (y1.1.1, ride_2, ())) fun y3 => cond (decide ((min y2.1.1 y3.1.1) < day_3)) (some ((0, 3, ()), ())) (derefK (g23 (y1.1.1, ride_2, ())) fun y4 => cond (!y4.1.1) (some ((0, 3, ()), ())) (some (((min y2.1.1 y3.1.1), 0, ()), ()))))
noncomputable def g9 (d : zTe × (List zTf) × Int × Int × Unit) : Option ((Int × Int × Unit) × (Unit)) := F9 fuel d.1 d.2.1 d.2.2.1 d.2.2.2.1
noncomputable def p9 : Prim := ⟨[.v (.str zTb), .v (.list false 48 (.str (.pair (.int .i64) zTa))), .v (.int .i64), .v (.int .i64)], [.v (.int .i64), .v (.int .i64)], g9⟩
noncomputable def c9 : Cfg := ⟨41, tyT, [], [(20, p20), (21, p21), (22, p22), (23, p23)], [], [], [], [], [], [], [], [], [], [], none⟩
theorem F9_eq (n : Nat) (d) : absFn c9 n Try.f9 (body Try.f9) [.v (.str zTb), .v (.list false 48 (.str (.pair (.int .i64) zTa))), .v (.int .i64), .v (.int .i64)] [.v (.int .i64), .v (.int .i64)] d = F9 n d.1 d.2.1 d.2.2.1 d.2.2.2.1 := by kernel_rfl
theorem d9 : drawOK c9 (body Try.f9) = true := by kernel_rfl
theorem h9 : GoodF Try.prog 9 p9 := fn_done mixed (cfg := c9) (cfg_ok tyT_ok (goodCons h20 (goodCons h21 (goodCons h22 (goodCons h23 goodNil)))) rfl (by kernel_rfl)) Try.func9 rfl rfl (by kernel_rfl) rfl (noLoops (by kernel_rfl)) d9 (fun d y h => ⟨fuel, (F9_eq fuel d).trans h⟩)
-- function 86
noncomputable def F86 (_n : Nat) (n_0 : Int) (low_1 : Int) (high_2 : Int) : Option ((Bool × Unit) × (Unit)) :=
  cond (decide (n_0 ≥ low_1)) (some (((decide (n_0 ≤ high_2)), ()), ())) (some ((false, ()), ()))
noncomputable def g86 (d : Int × Int × Int × Unit) : Option ((Bool × Unit) × (Unit)) := F86 fuel d.1 d.2.1 d.2.2.1
noncomputable def p86 : Prim := ⟨[.v (.int .i64), .v (.int .i64), .v (.int .i64)], [.v .bool], g86⟩
noncomputable def c86 : Cfg := ⟨15, tyT, [], [], [], [], [], [], [], [], [], [], [], [], none⟩
theorem F86_eq (n : Nat) (d) : absFn c86 n Try.f86 (body Try.f86) [.v (.int .i64), .v (.int .i64), .v (.int .i64)] [.v .bool] d = F86 n d.1 d.2.1 d.2.2.1 := by kernel_rfl
theorem d86 : drawOK c86 (body Try.f86) = true := by kernel_rfl
theorem h86 : GoodF Try.prog 86 p86 := fn_done mixed (cfg := c86) (cfg_ok tyT_ok (goodNil) rfl (by kernel_rfl)) Try.func86 rfl rfl (by kernel_rfl) rfl (noLoops (by kernel_rfl)) d86 (fun d y h => ⟨fuel, (F86_eq fuel d).trans h⟩)
-- function 93
noncomputable def F93 (_n : Nat) (b_0 : zTm) : Option ((Bool × Unit) × (Unit)) :=
  derefK (g86 (b_0.1, 1, 40, ())) fun y1 => cond (!y1.1.1) (some ((true, ()), ())) (derefK (g86 (b_0.2.1, 0, 100, ())) fun y2 => cond (!y2.1.1) (some ((true, ()), ())) (derefK (g86 (b_0.2.2.1, 1, 100, ())) fun y3 => cond (!y3.1.1) (some ((true, ()), ())) (derefK (g86 (b_0.2.2.2.1, 0, 100, ())) fun y4 => some (((!y4.1.1), ()), ()))))
noncomputable def g93 (d : zTm × Unit) : Option ((Bool × Unit) × (Unit)) := F93 fuel d.1
noncomputable def p93 : Prim := ⟨[.v (.str (.pair (.int .i64) zTj))], [.v .bool], g93⟩
noncomputable def c93 : Cfg := ⟨25, tyT, [], [(86, p86)], [], [], [], [], [], [], [], [], [], [], none⟩
theorem F93_eq (n : Nat) (d) : absFn c93 n Try.f93 (body Try.f93) [.v (.str (.pair (.int .i64) zTj))] [.v .bool] d = F93 n d.1 := by kernel_rfl
theorem d93 : drawOK c93 (body Try.f93) = true := by kernel_rfl
theorem h93 : GoodF Try.prog 93 p93 := fn_done mixed (cfg := c93) (cfg_ok tyT_ok (goodCons h86 goodNil) rfl (by kernel_rfl)) Try.func93 rfl rfl (by kernel_rfl) rfl (noLoops (by kernel_rfl)) d93 (fun d y h => ⟨fuel, (F93_eq fuel d).trans h⟩)
-- function 104
noncomputable def B104_2 (_n : Nat) (L : ((List zTm) × (zTm → Option Bool) × Int × Int × Unit) × (Unit) × Unit → Option (zTn ⊕ ((Unit) × (Unit) × Unit))) (s_0 : List zTm) (f_1 : zTm → Option Bool) (t_7 : Int) (t_8 : Int) : Option (zTn ⊕ ((Unit) × (Unit) × Unit)) :=
  cond (decide (t_8 < t_7)) (getI s_0 t_8 fun e1 => derefK (f_1 e1) fun y2 => cond y2 (some (.inl ((t_8, ()), (), ()))) (L ((s_0, f_1, t_7, (IntKind.wrap .i64 (t_8 + 1)), ()), (), ()))) (some (.inr ((), (), ())))
noncomputable def L104_2 : Nat → ((List zTm) × (zTm → Option Bool) × Int × Int × Unit) × (Unit) × Unit → Option (zTn ⊕ ((Unit) × (Unit) × Unit))
  | 0, _ => none
  | n + 1, d => B104_2 n (L104_2 n) d.1.1 d.1.2.1 d.1.2.2.1 d.1.2.2.2.1
noncomputable def l104_2 : LoopI := ⟨⟨[(0, .v (.list false 106 (.str (.pair (.int .i64) zTj)))), (1, .v (.fn (.str (.pair (.int .i64) zTj)) .bool)), (7, .v (.int .i64)), (8, .v (.int .i64))], [], none⟩, [(.ret, ⟨[(4, .v (.int .i64))], [], none⟩), (.exit 0, ⟨[], [], none⟩)], L104_2⟩
noncomputable def F104 (n : Nat) (s_0 : (List zTm)) (f_1 : (zTm → Option Bool)) : Option ((Int × Unit) × (Unit)) :=
  derefK (L104_2 n ((s_0, f_1, (s_0.length : Int), 0, ()), (), ())) fun o3 => sumK o3 (fun d4 => some ((d4.1.1, ()), ())) (fun _ => some (((-1), ()), ()))
noncomputable def g104 (d : (List zTm) × (zTm → Option Bool) × Unit) : Option ((Int × Unit) × (Unit)) := F104 fuel d.1 d.2.1
noncomputable def p104 : Prim := ⟨[.v (.list false 106 (.str (.pair (.int .i64) zTj))), .v (.fn (.str (.pair (.int .i64) zTj)) .bool)], [.v (.int .i64)], g104⟩
noncomputable def c104 : Cfg := ⟨19, tyT, [], [], [(2, l104_2)], [], [], [], [], [], [], [], [], [], none⟩
theorem F104_eq (n : Nat) (d) : absFn c104 n Try.f104 (body Try.f104) [.v (.list false 106 (.str (.pair (.int .i64) zTj))), .v (.fn (.str (.pair (.int .i64) zTj)) .bool)] [.v (.int .i64)] d = F104 n d.1 d.2.1 := by kernel_rfl
theorem L104_2_eq (n : Nat) (d) : (l104_2).g (n + 1) d = run c104 n (nth 0 (loopsOf (body Try.f104))) ((l104_2).ins.fill d) (roundK (l104_2) n) := by kernel_rfl
theorem ls104 : loopsOf (body Try.f104) = [nth 0 (loopsOf (body Try.f104))] := by kernel_rfl
theorem d104 : drawOK c104 (body Try.f104) = true := by kernel_rfl
theorem h104 : GoodF Try.prog 104 p104 := fn_done mixed (cfg := c104) (cfg_ok tyT_ok (goodNil) rfl (by kernel_rfl)) Try.func104 rfl rfl (by kernel_rfl) rfl (by rw [ls104]; simp only [List.forall_mem_cons]; exact ⟨loopHas (key := 2) (li := l104_2) (by kernel_rfl) rfl (fun _ => rfl) (L104_2_eq), fun _ h => by cases h⟩) d104 (fun d y h => ⟨fuel, (F104_eq fuel d).trans h⟩)
-- function 94
noncomputable def F94 (_n : Nat) (s_0 : (List zTm)) (f_1 : (zTm → Option Bool)) : Option ((Bool × Unit) × (Unit)) :=
  derefK (g104 (s_0, f_1, ())) fun y1 => some (((decide (y1.1.1 ≥ 0)), ()), ())
noncomputable def g94 (d : (List zTm) × (zTm → Option Bool) × Unit) : Option ((Bool × Unit) × (Unit)) := F94 fuel d.1 d.2.1
noncomputable def p94 : Prim := ⟨[.v (.list false 106 (.str (.pair (.int .i64) zTj))), .v (.fn (.str (.pair (.int .i64) zTj)) .bool)], [.v .bool], g94⟩
noncomputable def c94 : Cfg := ⟨9, tyT, [], [(104, p104)], [], [], [], [], [], [], [], [], [], [], none⟩
theorem F94_eq (n : Nat) (d) : absFn c94 n Try.f94 (body Try.f94) [.v (.list false 106 (.str (.pair (.int .i64) zTj))), .v (.fn (.str (.pair (.int .i64) zTj)) .bool)] [.v .bool] d = F94 n d.1 d.2.1 := by kernel_rfl
theorem d94 : drawOK c94 (body Try.f94) = true := by kernel_rfl
theorem h94 : GoodF Try.prog 94 p94 := fn_done mixed (cfg := c94) (cfg_ok tyT_ok (goodCons h104 goodNil) rfl (by kernel_rfl)) Try.func94 rfl rfl (by kernel_rfl) rfl (noLoops (by kernel_rfl)) d94 (fun d y h => ⟨fuel, (F94_eq fuel d).trans h⟩)
-- function 83
noncomputable def F83 (_n : Nat) (f_0 : ((List zTm) × Int)) : Option ((Int × Unit) × (Unit)) :=
  cond (decide ((f_0.1.length : Int) > 8)) (some ((70, ()), ())) (derefK (g86 (f_0.2, 0, 100, ())) fun y1 => cond (!y1.1.1) (some ((70, ()), ())) (derefK (g94 (f_0.1, (fun v2 => derefK (g93 (v2, ())) fun y3 => some y3.1.1), ())) fun y4 => cond y4.1.1 (some ((70, ()), ())) (some ((0, ()), ()))))
noncomputable def g83 (d : ((List zTm) × Int) × Unit) : Option ((Int × Unit) × (Unit)) := F83 fuel d.1
noncomputable def p83 : Prim := ⟨[.v (.str zTd)], [.v (.int .i64)], g83⟩
noncomputable def c83 : Cfg := ⟨20, tyT, [], [(86, p86), (93, p93), (94, p94)], [], [], [], [], [], [], [], [], [], [], none⟩
theorem F83_eq (n : Nat) (d) : absFn c83 n Try.f83 (body Try.f83) [.v (.str zTd)] [.v (.int .i64)] d = F83 n d.1 := by kernel_rfl
theorem d83 : drawOK c83 (body Try.f83) = true := by kernel_rfl
theorem h83 : GoodF Try.prog 83 p83 := fn_done mixed (cfg := c83) (cfg_ok tyT_ok (goodCons h86 (goodCons h93 (goodCons h94 goodNil))) rfl (by kernel_rfl)) Try.func83 rfl rfl (by kernel_rfl) rfl (noLoops (by kernel_rfl)) d83 (fun d y h => ⟨fuel, (F83_eq fuel d).trans h⟩)
-- function 85
noncomputable def F85 (_n : Nat) (n_0 : Int) (t_1 : ((List zTm) × Int)) : Option ((Bool × Unit) × (Unit)) :=
  derefK (g86 (n_0, 0, (IntKind.wrap .i64 ((t_1.1.length : Int) - 1)), ())) fun y1 => some (((!y1.1.1), ()), ())
noncomputable def g85 (d : Int × ((List zTm) × Int) × Unit) : Option ((Bool × Unit) × (Unit)) := F85 fuel d.1 d.2.1
noncomputable def p85 : Prim := ⟨[.v (.int .i64), .r (.str zTd)], [.v .bool], g85⟩
noncomputable def c85 : Cfg := ⟨11, tyT, [], [(86, p86)], [], [], [], [], [], [], [], [], [], [], none⟩
theorem F85_eq (n : Nat) (d) : absFn c85 n Try.f85 (body Try.f85) [.v (.int .i64), .r (.str zTd)] [.v .bool] d = F85 n d.1 d.2.1 := by kernel_rfl
theorem d85 : drawOK c85 (body Try.f85) = true := by kernel_rfl
theorem h85 : GoodF Try.prog 85 p85 := fn_done mixed (cfg := c85) (cfg_ok tyT_ok (goodCons h86 goodNil) rfl (by kernel_rfl)) Try.func85 rfl rfl (by kernel_rfl) rfl (noLoops (by kernel_rfl)) d85 (fun d y h => ⟨fuel, (F85_eq fuel d).trans h⟩)
-- function 84
noncomputable def F84 (_n : Nat) (g_0 : zTo) (t_1 : ((List zTm) × Int)) : Option ((Bool × Unit) × (Unit)) :=
  derefK (g86 (g_0.1, 0, 2000, ())) fun y1 => cond (!y1.1.1) (some ((true, ()), ())) (derefK (g86 (g_0.2.1, 1, 40, ())) fun y2 => cond (!y2.1.1) (some ((true, ()), ())) (derefK (g86 (g_0.2.2.1, 0, 10000, ())) fun y3 => cond (!y3.1.1) (some ((true, ()), ())) (derefK (g86 (g_0.2.2.2.2, 0, 2000, ())) fun y4 => cond (!y4.1.1) (some ((true, ()), ())) (cond (decide ((g_0.2.2.2.1.length : Int) > 10)) (some ((true, ()), ())) (derefK (g45 (g_0.2.2.2.1, (fun v5 => derefK (g85 (v5, t_1, ())) fun y6 => some y6.1.1), ())) fun y7 => some ((y7.1.1, ()), ()))))))
noncomputable def g84 (d : zTo × ((List zTm) × Int) × Unit) : Option ((Bool × Unit) × (Unit)) := F84 fuel d.1 d.2.1
noncomputable def p84 : Prim := ⟨[.v (.str zTi), .r (.str zTd)], [.v .bool], g84⟩
noncomputable def c84 : Cfg := ⟨40, tyT, [], [(45, p45), (85, p85), (86, p86)], [], [], [], [], [], [], [], [], [], [], none⟩
theorem F84_eq (n : Nat) (d) : absFn c84 n Try.f84 (body Try.f84) [.v (.str zTi), .r (.str zTd)] [.v .bool] d = F84 n d.1 d.2.1 := by kernel_rfl
theorem d84 : drawOK c84 (body Try.f84) = true := by kernel_rfl
theorem h84 : GoodF Try.prog 84 p84 := fn_done mixed (cfg := c84) (cfg_ok tyT_ok (goodCons h45 (goodCons h85 (goodCons h86 goodNil))) rfl (by kernel_rfl)) Try.func84 rfl rfl (by kernel_rfl) rfl (noLoops (by kernel_rfl)) d84 (fun d y h => ⟨fuel, (F84_eq fuel d).trans h⟩)
-- function 95
noncomputable def B95_2 (_n : Nat) (L : ((List zTo) × (zTo → Option Bool) × Int × Int × Unit) × (Unit) × Unit → Option (zTn ⊕ ((Unit) × (Unit) × Unit))) (s_0 : List zTo) (f_1 : zTo → Option Bool) (t_7 : Int) (t_8 : Int) : Option (zTn ⊕ ((Unit) × (Unit) × Unit)) :=
  cond (decide (t_8 < t_7)) (getI s_0 t_8 fun e1 => derefK (f_1 e1) fun y2 => cond y2 (some (.inl ((t_8, ()), (), ()))) (L ((s_0, f_1, t_7, (IntKind.wrap .i64 (t_8 + 1)), ()), (), ()))) (some (.inr ((), (), ())))
noncomputable def L95_2 : Nat → ((List zTo) × (zTo → Option Bool) × Int × Int × Unit) × (Unit) × Unit → Option (zTn ⊕ ((Unit) × (Unit) × Unit))
  | 0, _ => none
  | n + 1, d => B95_2 n (L95_2 n) d.1.1 d.1.2.1 d.1.2.2.1 d.1.2.2.2.1
noncomputable def l95_2 : LoopI := ⟨⟨[(0, .v (.list false 87 (.str zTi))), (1, .v (.fn (.str zTi) .bool)), (7, .v (.int .i64)), (8, .v (.int .i64))], [], none⟩, [(.ret, ⟨[(4, .v (.int .i64))], [], none⟩), (.exit 0, ⟨[], [], none⟩)], L95_2⟩
noncomputable def F95 (n : Nat) (s_0 : (List zTo)) (f_1 : (zTo → Option Bool)) : Option ((Int × Unit) × (Unit)) :=
  derefK (L95_2 n ((s_0, f_1, (s_0.length : Int), 0, ()), (), ())) fun o3 => sumK o3 (fun d4 => some ((d4.1.1, ()), ())) (fun _ => some (((-1), ()), ()))
noncomputable def g95 (d : (List zTo) × (zTo → Option Bool) × Unit) : Option ((Int × Unit) × (Unit)) := F95 fuel d.1 d.2.1
noncomputable def p95 : Prim := ⟨[.v (.list false 87 (.str zTi)), .v (.fn (.str zTi) .bool)], [.v (.int .i64)], g95⟩
noncomputable def c95 : Cfg := ⟨19, tyT, [], [], [(2, l95_2)], [], [], [], [], [], [], [], [], [], none⟩
theorem F95_eq (n : Nat) (d) : absFn c95 n Try.f95 (body Try.f95) [.v (.list false 87 (.str zTi)), .v (.fn (.str zTi) .bool)] [.v (.int .i64)] d = F95 n d.1 d.2.1 := by kernel_rfl
theorem L95_2_eq (n : Nat) (d) : (l95_2).g (n + 1) d = run c95 n (nth 0 (loopsOf (body Try.f95))) ((l95_2).ins.fill d) (roundK (l95_2) n) := by kernel_rfl
theorem ls95 : loopsOf (body Try.f95) = [nth 0 (loopsOf (body Try.f95))] := by kernel_rfl
theorem d95 : drawOK c95 (body Try.f95) = true := by kernel_rfl
theorem h95 : GoodF Try.prog 95 p95 := fn_done mixed (cfg := c95) (cfg_ok tyT_ok (goodNil) rfl (by kernel_rfl)) Try.func95 rfl rfl (by kernel_rfl) rfl (by rw [ls95]; simp only [List.forall_mem_cons]; exact ⟨loopHas (key := 2) (li := l95_2) (by kernel_rfl) rfl (fun _ => rfl) (L95_2_eq), fun _ h => by cases h⟩) d95 (fun d y h => ⟨fuel, (F95_eq fuel d).trans h⟩)
-- function 87
noncomputable def F87 (_n : Nat) (s_0 : (List zTo)) (f_1 : (zTo → Option Bool)) : Option ((Bool × Unit) × (Unit)) :=
  derefK (g95 (s_0, f_1, ())) fun y1 => some (((decide (y1.1.1 ≥ 0)), ()), ())
noncomputable def g87 (d : (List zTo) × (zTo → Option Bool) × Unit) : Option ((Bool × Unit) × (Unit)) := F87 fuel d.1 d.2.1
noncomputable def p87 : Prim := ⟨[.v (.list false 87 (.str zTi)), .v (.fn (.str zTi) .bool)], [.v .bool], g87⟩
noncomputable def c87 : Cfg := ⟨9, tyT, [], [(95, p95)], [], [], [], [], [], [], [], [], [], [], none⟩
theorem F87_eq (n : Nat) (d) : absFn c87 n Try.f87 (body Try.f87) [.v (.list false 87 (.str zTi)), .v (.fn (.str zTi) .bool)] [.v .bool] d = F87 n d.1 d.2.1 := by kernel_rfl
theorem d87 : drawOK c87 (body Try.f87) = true := by kernel_rfl
theorem h87 : GoodF Try.prog 87 p87 := fn_done mixed (cfg := c87) (cfg_ok tyT_ok (goodCons h95 goodNil) rfl (by kernel_rfl)) Try.func87 rfl rfl (by kernel_rfl) rfl (noLoops (by kernel_rfl)) d87 (fun d y h => ⟨fuel, (F87_eq fuel d).trans h⟩)
-- function 64
noncomputable def F64 (_n : Nat) (f_0 : ((List zTm) × Int)) (l_1 : (List zTo)) : Option ((Int × Unit) × (Unit)) :=
  derefK (g83 (f_0, ())) fun y1 => cond (y1.1.1 != 0) (some ((y1.1.1, ()), ())) (cond (decide ((l_1.length : Int) > 60)) (some ((71, ()), ())) (derefK (g87 (l_1, (fun v2 => derefK (g84 (v2, f_0, ())) fun y3 => some y3.1.1), ())) fun y4 => cond y4.1.1 (some ((71, ()), ())) (some ((0, ()), ()))))
noncomputable def g64 (d : ((List zTm) × Int) × (List zTo) × Unit) : Option ((Int × Unit) × (Unit)) := F64 fuel d.1 d.2.1
noncomputable def p64 : Prim := ⟨[.v (.str zTd), .v (.list false 87 (.str zTi))], [.v (.int .i64)], g64⟩
noncomputable def c64 : Cfg := ⟨21, tyT, [], [(83, p83), (84, p84), (87, p87)], [], [], [], [], [], [], [], [], [], [], none⟩
theorem F64_eq (n : Nat) (d) : absFn c64 n Try.f64 (body Try.f64) [.v (.str zTd), .v (.list false 87 (.str zTi))] [.v (.int .i64)] d = F64 n d.1 d.2.1 := by kernel_rfl
theorem d64 : drawOK c64 (body Try.f64) = true := by kernel_rfl
theorem h64 : GoodF Try.prog 64 p64 := fn_done mixed (cfg := c64) (cfg_ok tyT_ok (goodCons h83 (goodCons h84 (goodCons h87 goodNil))) rfl (by kernel_rfl)) Try.func64 rfl rfl (by kernel_rfl) rfl (noLoops (by kernel_rfl)) d64 (fun d y h => ⟨fuel, (F64_eq fuel d).trans h⟩)
-- function 65
noncomputable def F65 (_n : Nat) (b_0 : zTe) (l_1 : (List zTf)) : Option ((Int × Int × Unit) × (Unit)) :=
  derefK (g57 (b_0, l_1, ())) fun y1 => some ((y1.1.2.1, y1.1.2.2.1, ()), ())
noncomputable def g65 (d : zTe × (List zTf) × Unit) : Option ((Int × Int × Unit) × (Unit)) := F65 fuel d.1 d.2.1
noncomputable def p65 : Prim := ⟨[.v (.str zTb), .v (.list false 48 (.str (.pair (.int .i64) zTa)))], [.v (.int .i64), .v (.int .i64)], g65⟩
noncomputable def c65 : Cfg := ⟨15, tyT, [], [(57, p57)], [], [], [], [], [], [], [], [], [], [], none⟩
theorem F65_eq (n : Nat) (d) : absFn c65 n Try.f65 (body Try.f65) [.v (.str zTb), .v (.list false 48 (.str (.pair (.int .i64) zTa)))] [.v (.int .i64), .v (.int .i64)] d = F65 n d.1 d.2.1 := by kernel_rfl
theorem d65 : drawOK c65 (body Try.f65) = true := by kernel_rfl
theorem h65 : GoodF Try.prog 65 p65 := fn_done mixed (cfg := c65) (cfg_ok tyT_ok (goodCons h57 goodNil) rfl (by kernel_rfl)) Try.func65 rfl rfl (by kernel_rfl) rfl (noLoops (by kernel_rfl)) d65 (fun d y h => ⟨fuel, (F65_eq fuel d).trans h⟩)
-- function 88
noncomputable def F88 (_n : Nat) (n_0 : Int) (low_1 : Int) (high_2 : Int) : Option ((Bool × Unit) × (Unit)) :=
  cond (decide (n_0 ≥ low_1)) (some (((decide (n_0 ≤ high_2)), ()), ())) (some ((false, ()), ()))
noncomputable def g88 (d : Int × Int × Int × Unit) : Option ((Bool × Unit) × (Unit)) := F88 fuel d.1 d.2.1 d.2.2.1
noncomputable def p88 : Prim := ⟨[.v (.int .i64), .v (.int .i64), .v (.int .i64)], [.v .bool], g88⟩
noncomputable def c88 : Cfg := ⟨15, tyT, [], [], [], [], [], [], [], [], [], [], [], [], none⟩
theorem F88_eq (n : Nat) (d) : absFn c88 n Try.f88 (body Try.f88) [.v (.int .i64), .v (.int .i64), .v (.int .i64)] [.v .bool] d = F88 n d.1 d.2.1 d.2.2.1 := by kernel_rfl
theorem d88 : drawOK c88 (body Try.f88) = true := by kernel_rfl
theorem h88 : GoodF Try.prog 88 p88 := fn_done mixed (cfg := c88) (cfg_ok tyT_ok (goodNil) rfl (by kernel_rfl)) Try.func88 rfl rfl (by kernel_rfl) rfl (noLoops (by kernel_rfl)) d88 (fun d y h => ⟨fuel, (F88_eq fuel d).trans h⟩)
-- function 66
noncomputable def B66_4 (_n : Nat) (L : ((List (Int × (Int × (Int × Int)))) × Int × Int × Unit) × (zTg × Unit) × Unit → Option (zTn ⊕ ((Unit) × (zTg × Unit) × Unit))) (t_36 : List (Int × (Int × (Int × Int)))) (t_37 : Int) (t_38 : Int) (o_1 : (List (Int × (Int × (Int × Int)))) × ((List (Int × (Int × (Int × Int)))) × (Int × (Int × Int)))) : Option (zTn ⊕ ((Unit) × (zTg × Unit) × Unit)) :=
  cond (decide (t_38 < t_37)) (getI t_36 t_38 fun e4 => derefK (g88 (e4.1, (-1), (IntKind.wrap .i64 (t_38 - 1)), ())) fun y5 => cond (!y5.1.1) (some (.inl ((50, ()), (), ()))) (derefK (g88 (e4.2.1, 1, 1000, ())) fun y6 => cond (!y6.1.1) (some (.inl ((50, ()), (), ()))) (derefK (g88 (e4.2.2.1, 0, 20, ())) fun y7 => cond (!y7.1.1) (some (.inl ((50, ()), (), ()))) (derefK (g88 (e4.2.2.2, 1, 10000, ())) fun y8 => cond (!y8.1.1) (some (.inl ((50, ()), (), ()))) (L ((t_36, t_37, (IntKind.wrap .i64 (t_38 + 1)), ()), (o_1, ()), ())))))) (some (.inr ((), (o_1, ()), ())))
noncomputable def L66_4 : Nat → ((List (Int × (Int × (Int × Int)))) × Int × Int × Unit) × (zTg × Unit) × Unit → Option (zTn ⊕ ((Unit) × (zTg × Unit) × Unit))
  | 0, _ => none
  | n + 1, d => B66_4 n (L66_4 n) d.1.1 d.1.2.1 d.1.2.2.1 d.2.1.1
noncomputable def l66_4 : LoopI := ⟨⟨[(1, .c (.ptr 1 [])), (36, .v (.list false 46 (.str zTa))), (37, .v (.int .i64)), (38, .v (.int .i64))], [(1, false, .str (.pair (.list false 46 (.str zTa)) (.pair (.list false 44 (.str zTa)) zTh)))], none⟩, [(.ret, ⟨[(2, .v (.int .i64))], [], none⟩), (.exit 0, ⟨[(1, .c (.ptr 1 []))], [(1, false, .str (.pair (.list false 46 (.str zTa)) (.pair (.list false 44 (.str zTa)) zTh)))], none⟩)], L66_4⟩
noncomputable def B66_10 (_n : Nat) (L : ((List (Int × (Int × (Int × Int)))) × Int × Int × Unit) × (zTg × Unit) × Unit → Option (zTn ⊕ ((Unit) × (Unit) × Unit))) (t_69 : List (Int × (Int × (Int × Int)))) (t_70 : Int) (t_71 : Int) (o_1 : (List (Int × (Int × (Int × Int)))) × ((List (Int × (Int × (Int × Int)))) × (Int × (Int × Int)))) : Option (zTn ⊕ ((Unit) × (Unit) × Unit)) :=
  cond (decide (t_71 < t_70)) (getI t_69 t_71 fun e12 => derefK (g88 (e12.1, 0, (IntKind.wrap .i64 ((o_1.1.length : Int) - 1)), ())) fun y13 => cond (!y13.1.1) (some (.inl ((50, ()), (), ()))) (derefK (g88 (e12.2.1, 0, 2, ())) fun y14 => cond (!y14.1.1) (some (.inl ((50, ()), (), ()))) (derefK (g88 (e12.2.2.1, 1, 1000, ())) fun y15 => cond (!y15.1.1) (some (.inl ((50, ()), (), ()))) (derefK (g88 (e12.2.2.2, 0, 1000, ())) fun y16 => cond (!y16.1.1) (some (.inl ((50, ()), (), ()))) (L ((t_69, t_70, (IntKind.wrap .i64 (t_71 + 1)), ()), (o_1, ()), ())))))) (some (.inr ((), (), ())))
noncomputable def L66_10 : Nat → ((List (Int × (Int × (Int × Int)))) × Int × Int × Unit) × (zTg × Unit) × Unit → Option (zTn ⊕ ((Unit) × (Unit) × Unit))
  | 0, _ => none
  | n + 1, d => B66_10 n (L66_10 n) d.1.1 d.1.2.1 d.1.2.2.1 d.2.1.1
noncomputable def l66_10 : LoopI := ⟨⟨[(1, .c (.ptr 1 [])), (69, .v (.list false 44 (.str zTa))), (70, .v (.int .i64)), (71, .v (.int .i64))], [(1, false, .str (.pair (.list false 46 (.str zTa)) (.pair (.list false 44 (.str zTa)) zTh)))], none⟩, [(.ret, ⟨[(2, .v (.int .i64))], [], none⟩), (.exit 2, ⟨[], [], none⟩)], L66_10⟩
noncomputable def F66 (n : Nat) (s_0 : zTg) : Option ((Int × Unit) × (Unit)) :=
  cond (decide ((s_0.1.length : Int) > 10)) (some ((50, ()), ())) (cond (decide ((s_0.2.1.length : Int) > 16)) (some ((50, ()), ())) (derefK (g88 (s_0.2.2.1, 1, 1000, ())) fun y1 => cond (!y1.1.1) (some ((50, ()), ())) (derefK (g88 (s_0.2.2.2.1, 0, 20, ())) fun y2 => cond (!y2.1.1) (some ((50, ()), ())) (derefK (g88 (s_0.2.2.2.2, 1, 1000, ())) fun y3 => cond (!y3.1.1) (some ((50, ()), ())) (derefK (L66_4 n ((s_0.1, (s_0.1.length : Int), 0, ()), (s_0, ()), ())) fun o9 => sumK o9 (fun d10 => some ((d10.1.1, ()), ())) (fun d11 => derefK (L66_10 n ((d11.2.1.1.2.1, (d11.2.1.1.2.1.length : Int), 0, ()), (d11.2.1.1, ()), ())) fun o17 => sumK o17 (fun d18 => some ((d18.1.1, ()), ())) (fun _ => some ((0, ()), ()))))))))
noncomputable def g66 (d : zTg × Unit) : Option ((Int × Unit) × (Unit)) := F66 fuel d.1
noncomputable def p66 : Prim := ⟨[.v (.str (.pair (.list false 46 (.str zTa)) (.pair (.list false 44 (.str zTa)) zTh)))], [.v (.int .i64)], g66⟩
noncomputable def c66 : Cfg := ⟨102, tyT, [], [(88, p88)], [(4, l66_4), (10, l66_10)], [], [], [], [], [], [], [], [], [], none⟩
theorem F66_eq (n : Nat) (d) : absFn c66 n Try.f66 (body Try.f66) [.v (.str (.pair (.list false 46 (.str zTa)) (.pair (.list false 44 (.str zTa)) zTh)))] [.v (.int .i64)] d = F66 n d.1 := by kernel_rfl
theorem L66_4_eq (n : Nat) (d) : (l66_4).g (n + 1) d = run c66 n (nth 0 (loopsOf (body Try.f66))) ((l66_4).ins.fill d) (roundK (l66_4) n) := by kernel_rfl
theorem L66_10_eq (n : Nat) (d) : (l66_10).g (n + 1) d = run c66 n (nth 1 (loopsOf (body Try.f66))) ((l66_10).ins.fill d) (roundK (l66_10) n) := by kernel_rfl
theorem ls66 : loopsOf (body Try.f66) = [nth 0 (loopsOf (body Try.f66)), nth 1 (loopsOf (body Try.f66))] := by kernel_rfl
theorem d66 : drawOK c66 (body Try.f66) = true := by kernel_rfl
theorem h66 : GoodF Try.prog 66 p66 := fn_done mixed (cfg := c66) (cfg_ok tyT_ok (goodCons h88 goodNil) rfl (by kernel_rfl)) Try.func66 rfl rfl (by kernel_rfl) rfl (by rw [ls66]; simp only [List.forall_mem_cons]; exact ⟨loopHas (key := 4) (li := l66_4) (by kernel_rfl) rfl (fun _ => rfl) (L66_4_eq), loopHas (key := 10) (li := l66_10) (by kernel_rfl) rfl (fun _ => rfl) (L66_10_eq), fun _ h => by cases h⟩) d66 (fun d y h => ⟨fuel, (F66_eq fuel d).trans h⟩)
-- function 69
noncomputable def F69 (_n : Nat) (n_0 : Int) (low_1 : Int) (high_2 : Int) : Option ((Bool × Unit) × (Unit)) :=
  cond (decide (n_0 ≥ low_1)) (some (((decide (n_0 ≤ high_2)), ()), ())) (some ((false, ()), ()))
noncomputable def g69 (d : Int × Int × Int × Unit) : Option ((Bool × Unit) × (Unit)) := F69 fuel d.1 d.2.1 d.2.2.1
noncomputable def p69 : Prim := ⟨[.v (.int .i64), .v (.int .i64), .v (.int .i64)], [.v .bool], g69⟩
noncomputable def c69 : Cfg := ⟨15, tyT, [], [], [], [], [], [], [], [], [], [], [], [], none⟩
theorem F69_eq (n : Nat) (d) : absFn c69 n Try.f69 (body Try.f69) [.v (.int .i64), .v (.int .i64), .v (.int .i64)] [.v .bool] d = F69 n d.1 d.2.1 d.2.2.1 := by kernel_rfl
theorem d69 : drawOK c69 (body Try.f69) = true := by kernel_rfl
theorem h69 : GoodF Try.prog 69 p69 := fn_done mixed (cfg := c69) (cfg_ok tyT_ok (goodNil) rfl (by kernel_rfl)) Try.func69 rfl rfl (by kernel_rfl) rfl (noLoops (by kernel_rfl)) d69 (fun d y h => ⟨fuel, (F69_eq fuel d).trans h⟩)
-- function 68
noncomputable def F68 (_n : Nat) (x_0 : Int) (t_1 : Int) : Option ((Bool × Unit) × (Unit)) :=
  derefK (g69 (x_0, 0, t_1, ())) fun y1 => some (((!y1.1.1), ()), ())
noncomputable def g68 (d : Int × Int × Unit) : Option ((Bool × Unit) × (Unit)) := F68 fuel d.1 d.2.1
noncomputable def p68 : Prim := ⟨[.v (.int .i64), .r (.int .i64)], [.v .bool], g68⟩
noncomputable def c68 : Cfg := ⟨8, tyT, [], [(69, p69)], [], [], [], [], [], [], [], [], [], [], none⟩
theorem F68_eq (n : Nat) (d) : absFn c68 n Try.f68 (body Try.f68) [.v (.int .i64), .r (.int .i64)] [.v .bool] d = F68 n d.1 d.2.1 := by kernel_rfl
theorem d68 : drawOK c68 (body Try.f68) = true := by kernel_rfl
theorem h68 : GoodF Try.prog 68 p68 := fn_done mixed (cfg := c68) (cfg_ok tyT_ok (goodCons h69 goodNil) rfl (by kernel_rfl)) Try.func68 rfl rfl (by kernel_rfl) rfl (noLoops (by kernel_rfl)) d68 (fun d y h => ⟨fuel, (F68_eq fuel d).trans h⟩)
-- function 41
noncomputable def F41 (_n : Nat) (g_0 : zTc) : Option ((Int × Unit) × (Unit)) :=
  derefK (g64 (g_0.1, [], ())) fun y1 => cond (y1.1.1 != 0) (some ((y1.1.1, ()), ())) (derefK (g65 (g_0.2.1, g_0.2.2.1, ())) fun y2 => cond (y2.1.2.1 != 0) (some ((y2.1.2.1, ()), ())) (derefK (g66 (g_0.2.2.2.2.1, ())) fun y3 => cond (y3.1.1 != 0) (some ((y3.1.1, ()), ())) (cond ((g_0.2.1.2.2.length : Int) != (g_0.1.1.length : Int)) (cond ((g_0.2.1.2.2.length : Int) != (g_0.1.1.length : Int)) (some ((120, ()), ())) (derefK (Mk.m67.p.g (200, ())) fun y4 => derefK (g45 (g_0.2.2.2.2.2.1, (fun v5 => derefK y4.1.1 fun q7 => derefK (g68 (v5, q7, ())) fun y6 => some y6.1.1), ())) fun y8 => cond y8.1.1 (cond y8.1.1 (some ((120, ()), ())) (some ((0, ()), ()))) (derefK (Mk.m67.p.g (100, ())) fun y9 => derefK (g45 (g_0.2.2.2.2.2.2, (fun v10 => derefK y9.1.1 fun q12 => derefK (g68 (v10, q12, ())) fun y11 => some y11.1.1), ())) fun y13 => cond y13.1.1 (some ((120, ()), ())) (some ((0, ()), ()))))) (cond ((g_0.2.2.2.2.1.2.1.length : Int) != (g_0.1.1.length : Int)) (cond ((g_0.2.2.2.2.1.2.1.length : Int) != (g_0.1.1.length : Int)) (some ((120, ()), ())) (derefK (Mk.m67.p.g (200, ())) fun y14 => derefK (g45 (g_0.2.2.2.2.2.1, (fun v15 => derefK y14.1.1 fun q17 => derefK (g68 (v15, q17, ())) fun y16 => some y16.1.1), ())) fun y18 => cond y18.1.1 (cond y18.1.1 (some ((120, ()), ())) (some ((0, ()), ()))) (derefK (Mk.m67.p.g (100, ())) fun y19 => derefK (g45 (g_0.2.2.2.2.2.2, (fun v20 => derefK y19.1.1 fun q22 => derefK (g68 (v20, q22, ())) fun y21 => some y21.1.1), ())) fun y23 => cond y23.1.1 (some ((120, ()), ())) (some ((0, ()), ()))))) (cond ((g_0.2.2.2.2.2.1.length : Int) != (g_0.1.1.length : Int)) (cond ((g_0.2.2.2.2.2.1.length : Int) != (g_0.1.1.length : Int)) (some ((120, ()), ())) (derefK (Mk.m67.p.g (200, ())) fun y24 => derefK (g45 (g_0.2.2.2.2.2.1, (fun v25 => derefK y24.1.1 fun q27 => derefK (g68 (v25, q27, ())) fun y26 => some y26.1.1), ())) fun y28 => cond y28.1.1 (cond y28.1.1 (some ((120, ()), ())) (some ((0, ()), ()))) (derefK (Mk.m67.p.g (100, ())) fun y29 => derefK (g45 (g_0.2.2.2.2.2.2, (fun v30 => derefK y29.1.1 fun q32 => derefK (g68 (v30, q32, ())) fun y31 => some y31.1.1), ())) fun y33 => cond y33.1.1 (some ((120, ()), ())) (some ((0, ()), ()))))) (cond ((g_0.2.2.2.2.2.2.length : Int) != (g_0.1.1.length : Int)) (cond ((g_0.2.2.2.2.2.2.length : Int) != (g_0.1.1.length : Int)) (some ((120, ()), ())) (derefK (Mk.m67.p.g (200, ())) fun y34 => derefK (g45 (g_0.2.2.2.2.2.1, (fun v35 => derefK y34.1.1 fun q37 => derefK (g68 (v35, q37, ())) fun y36 => some y36.1.1), ())) fun y38 => cond y38.1.1 (cond y38.1.1 (some ((120, ()), ())) (some ((0, ()), ()))) (derefK (Mk.m67.p.g (100, ())) fun y39 => derefK (g45 (g_0.2.2.2.2.2.2, (fun v40 => derefK y39.1.1 fun q42 => derefK (g68 (v40, q42, ())) fun y41 => some y41.1.1), ())) fun y43 => cond y43.1.1 (some ((120, ()), ())) (some ((0, ()), ()))))) (derefK (g69 (g_0.2.2.2.1, 0, 10000, ())) fun y44 => cond (!y44.1.1) (some ((120, ()), ())) (derefK (Mk.m67.p.g (200, ())) fun y45 => derefK (g45 (g_0.2.2.2.2.2.1, (fun v46 => derefK y45.1.1 fun q48 => derefK (g68 (v46, q48, ())) fun y47 => some y47.1.1), ())) fun y49 => cond y49.1.1 (cond y49.1.1 (some ((120, ()), ())) (some ((0, ()), ()))) (derefK (Mk.m67.p.g (100, ())) fun y50 => derefK (g45 (g_0.2.2.2.2.2.2, (fun v51 => derefK y50.1.1 fun q53 => derefK (g68 (v51, q53, ())) fun y52 => some y52.1.1), ())) fun y54 => cond y54.1.1 (some ((120, ()), ())) (some ((0, ()), ())))))))))))
noncomputable def g41 (d : zTc × Unit) : Option ((Int × Unit) × (Unit)) := F41 fuel d.1
noncomputable def p41 : Prim := ⟨[.v (.str (.pair (.str zTd) (.pair (.str zTb) (.pair (.list false 48 (.str (.pair (.int .i64) zTa))) (.pair (.int .i64) (.pair (.str (.pair (.list false 46 (.str zTa)) (.pair (.list false 44 (.str zTa)) zTh))) zTk))))))], [.v (.int .i64)], g41⟩
noncomputable def c41 : Cfg := ⟨74, tyT, [(1, .str (.pair (.str zTd) (.pair (.str zTb) (.pair (.list false 48 (.str (.pair (.int .i64) zTa))) (.pair (.int .i64) (.pair (.str (.pair (.list false 46 (.str zTa)) (.pair (.list false 44 (.str zTa)) zTh))) zTk))))))], [(45, p45), (64, p64), (65, p65), (66, p66), (68, p68), (69, p69)], [], [], [18, 19], [], [], [(67, Mk.m67)], [], [], [], [], none⟩
theorem F41_eq (n : Nat) (d) : absFn c41 n Try.f41 (body Try.f41) [.v (.str (.pair (.str zTd) (.pair (.str zTb) (.pair (.list false 48 (.str (.pair (.int .i64) zTa))) (.pair (.int .i64) (.pair (.str (.pair (.list false 46 (.str zTa)) (.pair (.list false 44 (.str zTa)) zTh))) zTk))))))] [.v (.int .i64)] d = F41 n d.1 := by kernel_rfl
theorem d41 : drawOK c41 (body Try.f41) = true := by kernel_rfl
theorem h41 : GoodF Try.prog 41 p41 := fn_done mixed (cfg := c41) (cfg_ok tyT_ok (goodCons h45 (goodCons h64 (goodCons h65 (goodCons h66 (goodCons h68 (goodCons h69 goodNil)))))) rfl (by kernel_rfl) (mk_ok (mkCons Mk.k67 mkNil))) Try.func41 rfl rfl (by kernel_rfl) rfl (noLoops (by kernel_rfl)) d41 (fun d y h => ⟨fuel, (F41_eq fuel d).trans h⟩)
-- function 96
noncomputable def F96 (_n : Nat) (reason_0 : Int) (is_1 : Bool) (t_2 : (List Int)) : Option ((Unit) × ((List Int) × Unit)) :=
  cond is_1 (lenK ((t_2.length : Int) + [reason_0].length) (some ((), ((t_2 ++ [reason_0]), ())))) (some ((), (t_2, ())))
noncomputable def g96 (d : Int × Bool × (List Int) × Unit) : Option ((Unit) × ((List Int) × Unit)) := F96 fuel d.1 d.2.1 d.2.2.1
noncomputable def p96 : Prim := ⟨[.v (.int .i64), .v .bool, .m (.list true 3 (.int .i64))], [], g96⟩
noncomputable def c96 : Cfg := ⟨10, tyT, [], [], [], [], [], [], [], [], [], [], [], [], none⟩
theorem F96_eq (n : Nat) (d) : absFn c96 n Try.f96 (body Try.f96) [.v (.int .i64), .v .bool, .m (.list true 3 (.int .i64))] [] d = F96 n d.1 d.2.1 d.2.2.1 := by kernel_rfl
theorem d96 : drawOK c96 (body Try.f96) = true := by kernel_rfl
theorem h96 : GoodF Try.prog 96 p96 := fn_done mixed (cfg := c96) (cfg_ok tyT_ok (goodNil) rfl (by kernel_rfl)) Try.func96 rfl rfl (by kernel_rfl) rfl (noLoops (by kernel_rfl)) d96 (fun d y h => ⟨fuel, (F96_eq fuel d).trans h⟩)
-- function 97
noncomputable def F97 (_n : Nat) (x_0 : zTf) (t_1 : Int) : Option ((Bool × Unit) × (Unit)) :=
  cond (x_0.2.1 == 4) (some (((x_0.2.2.1 == t_1), ()), ())) (some ((false, ()), ()))
noncomputable def g97 (d : zTf × Int × Unit) : Option ((Bool × Unit) × (Unit)) := F97 fuel d.1 d.2.1
noncomputable def p97 : Prim := ⟨[.v (.str (.pair (.int .i64) zTa)), .r (.int .i64)], [.v .bool], g97⟩
noncomputable def c97 : Cfg := ⟨13, tyT, [], [], [], [], [], [], [], [], [], [], [], [], none⟩
theorem F97_eq (n : Nat) (d) : absFn c97 n Try.f97 (body Try.f97) [.v (.str (.pair (.int .i64) zTa)), .r (.int .i64)] [.v .bool] d = F97 n d.1 d.2.1 := by kernel_rfl
theorem d97 : drawOK c97 (body Try.f97) = true := by kernel_rfl
theorem h97 : GoodF Try.prog 97 p97 := fn_done mixed (cfg := c97) (cfg_ok tyT_ok (goodNil) rfl (by kernel_rfl)) Try.func97 rfl rfl (by kernel_rfl) rfl (noLoops (by kernel_rfl)) d97 (fun d y h => ⟨fuel, (F97_eq fuel d).trans h⟩)
-- function 89
noncomputable def F89 (_n : Nat) (l_0 : (zTe × (List zTf))) (ride_1 : Int) (day_2 : Int) : Option (((List Int) × Unit) × (Unit)) :=
  derefK (g21 (l_0, ride_1, ())) fun y1 => derefK (g96 (1, (decide (y1.1.1 < day_2)), ([] : List Int), ())) fun y2 => derefK (g23 (l_0, ride_1, ())) fun y3 => derefK (g96 (2, (!y3.1.1), y2.2.1, ())) fun y4 => derefK (g59 (l_0, ride_1, (fun v5 => derefK (g97 (v5, ride_1, ())) fun y6 => some y6.1.1), ())) fun y7 => derefK (g96 (3, (y7.1.1 != day_2), y4.2.1, ())) fun y8 => derefK (g22 (l_0, ride_1, ())) fun y9 => derefK (g96 (4, (decide (y9.1.1 < day_2)), y8.2.1, ())) fun y10 => some ((y10.2.1, ()), ())
noncomputable def g89 (d : (zTe × (List zTf)) × Int × Int × Unit) : Option (((List Int) × Unit) × (Unit)) := F89 fuel d.1 d.2.1 d.2.2.1
noncomputable def p89 : Prim := ⟨[.v (.str (.pair (.str zTb) (.list false 48 (.str (.pair (.int .i64) zTa))))), .v (.int .i64), .v (.int .i64)], [.v (.list false 3 (.int .i64))], g89⟩
noncomputable def c89 : Cfg := ⟨38, tyT, [(6, .list true 3 (.int .i64))], [(21, p21), (22, p22), (23, p23), (59, p59), (96, p96), (97, p97)], [], [], [], [], [], [], [], [], [], [], none⟩
theorem F89_eq (n : Nat) (d) : absFn c89 n Try.f89 (body Try.f89) [.v (.str (.pair (.str zTb) (.list false 48 (.str (.pair (.int .i64) zTa))))), .v (.int .i64), .v (.int .i64)] [.v (.list false 3 (.int .i64))] d = F89 n d.1 d.2.1 d.2.2.1 := by kernel_rfl
theorem d89 : drawOK c89 (body Try.f89) = true := by kernel_rfl
theorem h89 : GoodF Try.prog 89 p89 := fn_done mixed (cfg := c89) (cfg_ok tyT_ok (goodCons h21 (goodCons h22 (goodCons h23 (goodCons h59 (goodCons h96 (goodCons h97 goodNil)))))) rfl (by kernel_rfl)) Try.func89 rfl rfl (by kernel_rfl) rfl (noLoops (by kernel_rfl)) d89 (fun d y h => ⟨fuel, (F89_eq fuel d).trans h⟩)
-- function 70
noncomputable def B70_5 (_n : Nat) (L : (Int × Int × Int × Unit) × ((List Int) × (zTe × (List zTf)) × Unit) × Unit → Option (((Unit) × ((List Int) × Unit) × Unit))) (day_2 : Int) (t_23 : Int) (t_24 : Int) (o_6 : List Int) (o_8 : zTe × (List zTf)) : Option (((Unit) × ((List Int) × Unit) × Unit)) :=
  cond (decide (t_24 < t_23)) (derefK (g89 (o_8, t_24, day_2, ())) fun y2 => cond ((y2.1.1.length : Int) == 0) (lenK ((o_6.length : Int) + [t_24].length) (L ((day_2, t_23, (IntKind.wrap .i64 (t_24 + 1)), ()), ((o_6 ++ [t_24]), o_8, ()), ()))) (L ((day_2, t_23, (IntKind.wrap .i64 (t_24 + 1)), ()), (o_6, o_8, ()), ()))) (some ((), (o_6, ()), ()))
noncomputable def L70_5 : Nat → (Int × Int × Int × Unit) × ((List Int) × (zTe × (List zTf)) × Unit) × Unit → Option (((Unit) × ((List Int) × Unit) × Unit))
  | 0, _ => none
  | n + 1, d => B70_5 n (L70_5 n) d.1.1 d.1.2.1 d.1.2.2.1 d.2.1.1 d.2.1.2.1
noncomputable def l70_5 : LoopI := ⟨⟨[(2, .v (.int .i64)), (6, .c (.view 6 [])), (8, .c (.ptr 8 [])), (23, .v (.int .i64)), (24, .v (.int .i64))], [(6, true, .list true 3 (.int .i64)), (8, false, .str (.pair (.str zTb) (.list false 48 (.str (.pair (.int .i64) zTa)))))], none⟩, [(.exit 0, ⟨[(6, .c (.view 6 []))], [(6, true, .list true 3 (.int .i64))], none⟩)], L70_5⟩
noncomputable def F70 (n : Nat) (b_0 : zTe) (entries_1 : (List zTf)) (day_2 : Int) : Option (((List Int) × Int × Unit) × (Unit)) :=
  derefK (g37 (b_0, entries_1, day_2, ())) fun y1 => cond (y1.1.2.1 != 0) (some ((([] : List Int), y1.1.2.1, ()), ())) (derefK (L70_5 n ((day_2, (y1.1.1.1.2.2.length : Int), 0, ()), (([] : List Int), y1.1.1, ()), ())) fun o3 => some ((o3.2.1.1, 0, ()), ()))
noncomputable def g70 (d : zTe × (List zTf) × Int × Unit) : Option (((List Int) × Int × Unit) × (Unit)) := F70 fuel d.1 d.2.1 d.2.2.1
noncomputable def p70 : Prim := ⟨[.v (.str zTb), .v (.list false 48 (.str (.pair (.int .i64) zTa))), .v (.int .i64)], [.own 3 (.int .i64), .v (.int .i64)], g70⟩
noncomputable def c70 : Cfg := ⟨39, tyT, [], [(37, p37), (89, p89)], [(5, l70_5)], [], [], [], [], [], [], [], [], [], none⟩
theorem F70_eq (n : Nat) (d) : absFn c70 n Try.f70 (body Try.f70) [.v (.str zTb), .v (.list false 48 (.str (.pair (.int .i64) zTa))), .v (.int .i64)] [.own 3 (.int .i64), .v (.int .i64)] d = F70 n d.1 d.2.1 d.2.2.1 := by kernel_rfl
theorem L70_5_eq (n : Nat) (d) : (l70_5).g (n + 1) d = run c70 n (nth 0 (loopsOf (body Try.f70))) ((l70_5).ins.fill d) (roundK (l70_5) n) := by kernel_rfl
theorem ls70 : loopsOf (body Try.f70) = [nth 0 (loopsOf (body Try.f70))] := by kernel_rfl
theorem d70 : drawOK c70 (body Try.f70) = true := by kernel_rfl
theorem h70 : GoodF Try.prog 70 p70 := fn_done mixed (cfg := c70) (cfg_ok tyT_ok (goodCons h37 (goodCons h89 goodNil)) rfl (by kernel_rfl)) Try.func70 rfl rfl (by kernel_rfl) rfl (by rw [ls70]; simp only [List.forall_mem_cons]; exact ⟨loopHas (key := 5) (li := l70_5) (by kernel_rfl) rfl (fun _ => rfl) (L70_5_eq), fun _ h => by cases h⟩) d70 (fun d y h => ⟨fuel, (F70_eq fuel d).trans h⟩)
-- function 98
noncomputable def F98 (_n : Nat) (s_0 : zTg) (set_1 : Int) : Option ((Bool × Unit) × (Unit)) :=
  negK (s_0.2.1.length : Int) (derefK (g88 (set_1, 0, (IntKind.wrap .i64 ((shlI .i64 1 (s_0.2.1.length : Int)) - 1)), ())) fun y1 => some ((y1.1.1, ()), ()))
noncomputable def g98 (d : zTg × Int × Unit) : Option ((Bool × Unit) × (Unit)) := F98 fuel d.1 d.2.1
noncomputable def p98 : Prim := ⟨[.v (.str (.pair (.list false 46 (.str zTa)) (.pair (.list false 44 (.str zTa)) zTh))), .v (.int .i64)], [.v .bool], g98⟩
noncomputable def c98 : Cfg := ⟨12, tyT, [], [(88, p88)], [], [], [], [], [], [], [], [], [], [], none⟩
theorem F98_eq (n : Nat) (d) : absFn c98 n Try.f98 (body Try.f98) [.v (.str (.pair (.list false 46 (.str zTa)) (.pair (.list false 44 (.str zTa)) zTh))), .v (.int .i64)] [.v .bool] d = F98 n d.1 d.2.1 := by kernel_rfl
theorem d98 : drawOK c98 (body Try.f98) = true := by kernel_rfl
theorem h98 : GoodF Try.prog 98 p98 := fn_done mixed (cfg := c98) (cfg_ok tyT_ok (goodCons h88 goodNil) rfl (by kernel_rfl)) Try.func98 rfl rfl (by kernel_rfl) rfl (noLoops (by kernel_rfl)) d98 (fun d y h => ⟨fuel, (F98_eq fuel d).trans h⟩)
-- function 90
noncomputable def F90 (_n : Nat) (s_0 : zTg) (set_1 : Int) : Option ((Int × Unit) × (Unit)) :=
  derefK (g66 (s_0, ())) fun y1 => cond (y1.1.1 != 0) (some ((y1.1.1, ()), ())) (derefK (g98 (s_0, set_1, ())) fun y2 => cond (!y2.1.1) (some ((1, ()), ())) (some ((0, ()), ())))
noncomputable def g90 (d : zTg × Int × Unit) : Option ((Int × Unit) × (Unit)) := F90 fuel d.1 d.2.1
noncomputable def p90 : Prim := ⟨[.v (.str (.pair (.list false 46 (.str zTa)) (.pair (.list false 44 (.str zTa)) zTh))), .v (.int .i64)], [.v (.int .i64)], g90⟩
noncomputable def c90 : Cfg := ⟨15, tyT, [], [(66, p66), (98, p98)], [], [], [], [], [], [], [], [], [], [], none⟩
theorem F90_eq (n : Nat) (d) : absFn c90 n Try.f90 (body Try.f90) [.v (.str (.pair (.list false 46 (.str zTa)) (.pair (.list false 44 (.str zTa)) zTh))), .v (.int .i64)] [.v (.int .i64)] d = F90 n d.1 d.2.1 := by kernel_rfl
theorem d90 : drawOK c90 (body Try.f90) = true := by kernel_rfl
theorem h90 : GoodF Try.prog 90 p90 := fn_done mixed (cfg := c90) (cfg_ok tyT_ok (goodCons h66 (goodCons h98 goodNil)) rfl (by kernel_rfl)) Try.func90 rfl rfl (by kernel_rfl) rfl (noLoops (by kernel_rfl)) d90 (fun d y h => ⟨fuel, (F90_eq fuel d).trans h⟩)
-- function 99
noncomputable def Q99_7 (_n : Nat) (L : (zTg × (List (List Int)) × (Int × (Int × (Int × Int))) × Unit) → Option (X × ((List (List Int)) × Unit))) (t_31 : Int) (s_2 : zTg) (out_5 : (List (List Int))) (l_7 : (Int × (Int × (Int × Int)))) : Option (X × ((List (List Int)) × Unit)) :=
  cond (t_31 == (-1)) (enumK (fun (e5 : Int) (e6 : List Int) => L (s_2, (out_5.set (s_2.1.length : Int).toNat (e6.set l_7.2.1.toNat (IntKind.wrap .i64 (e5 + l_7.2.2.1)))), l_7, ())) fun E => agreeK [inR (s_2.1.length : Int) out_5.length (agreeK [inR l_7.2.1 3 (agreeK [getI out_5 (s_2.1.length : Int) fun e4 => getI e4 l_7.2.1 fun e5 => inR (s_2.1.length : Int) out_5.length (inR l_7.2.1 3 (getI out_5 (s_2.1.length : Int) fun e6 => getI e6 l_7.2.1 fun _ => E e5 e6)), inR (s_2.1.length : Int) out_5.length (getI out_5 (s_2.1.length : Int) fun e8 => getI e8 l_7.2.1 fun e9 => inR l_7.2.1 3 (getI out_5 (s_2.1.length : Int) fun e10 => getI e10 l_7.2.1 fun _ => E e9 e10))]), inR (s_2.1.length : Int) out_5.length (inR l_7.2.1 3 (getI out_5 (s_2.1.length : Int) fun e12 => getI e12 l_7.2.1 fun e13 => inR l_7.2.1 3 (getI out_5 (s_2.1.length : Int) fun e14 => getI e14 l_7.2.1 fun _ => E e13 e14)))]), inR (s_2.1.length : Int) out_5.length (inR (s_2.1.length : Int) out_5.length (inR l_7.2.1 3 (getI out_5 (s_2.1.length : Int) fun e16 => getI e16 l_7.2.1 fun e17 => inR l_7.2.1 3 (getI out_5 (s_2.1.length : Int) fun e18 => getI e18 l_7.2.1 fun _ => E e17 e18))))]) (enumK (fun (e21 : Int) (e22 : List Int) => L (s_2, (out_5.set t_31.toNat (e22.set l_7.2.1.toNat (IntKind.wrap .i64 (e21 + l_7.2.2.1)))), l_7, ())) fun E => agreeK [inR t_31 out_5.length (agreeK [inR l_7.2.1 3 (agreeK [getI out_5 t_31 fun e20 => getI e20 l_7.2.1 fun e21 => inR t_31 out_5.length (inR l_7.2.1 3 (getI out_5 t_31 fun e22 => getI e22 l_7.2.1 fun _ => E e21 e22)), inR t_31 out_5.length (getI out_5 t_31 fun e24 => getI e24 l_7.2.1 fun e25 => inR l_7.2.1 3 (getI out_5 t_31 fun e26 => getI e26 l_7.2.1 fun _ => E e25 e26))]), inR t_31 out_5.length (inR l_7.2.1 3 (getI out_5 t_31 fun e28 => getI e28 l_7.2.1 fun e29 => inR l_7.2.1 3 (getI out_5 t_31 fun e30 => getI e30 l_7.2.1 fun _ => E e29 e30)))]), inR t_31 out_5.length (inR t_31 out_5.length (inR l_7.2.1 3 (getI out_5 t_31 fun e32 => getI e32 l_7.2.1 fun e33 => inR l_7.2.1 3 (getI out_5 t_31 fun e34 => getI e34 l_7.2.1 fun _ => E e33 e34))))])
noncomputable def R99_7 (n : Nat) : List Int → (zTg × (List (List Int)) × (Int × (Int × (Int × Int))) × Unit) → Option (X × ((List (List Int)) × Unit))
  | [], d => some (.norm, (d.2.1, ()))
  | x :: r, d => Q99_7 n (R99_7 n r) x d.1 d.2.1 d.2.2.1
noncomputable def r99_7 : RLoopI := ⟨.int .i64, [2, 5, 7], [.r (.str (.pair (.list false 46 (.str zTa)) (.pair (.list false 44 (.str zTa)) zTh))), .m (.list true 146 (.arr 3 (.int .i64))), .r (.str zTa)], [.norm], R99_7⟩
noncomputable def B99_3 (n : Nat) (L : (Int × zTg × (List (Int × (Int × (Int × Int)))) × Int × Int × Unit) × ((List (List Int)) × Unit) × Unit → Option (((Unit) × ((List (List Int)) × Unit) × Unit))) (set_1 : Int) (s_2 : (List (Int × (Int × (Int × Int)))) × ((List (Int × (Int × (Int × Int)))) × (Int × (Int × Int)))) (t_15 : List (Int × (Int × (Int × Int)))) (t_16 : Int) (t_17 : Int) (o_5 : List (List Int)) : Option (((Unit) × ((List (List Int)) × Unit) × Unit)) :=
  cond (decide (t_17 < t_16)) (getI t_15 t_17 fun e2 => negK t_17 (cond ((bitsI .and .i64 (shrI .i64 set_1 t_17) 1) == 0) (L ((set_1, s_2, t_15, t_16, (IntKind.wrap .i64 (t_17 + 1)), ()), (o_5, ()), ())) (derefK (It.m105.p.g (s_2, e2.1, ())) fun y3 => derefK y3.1.2.1 fun q4 => derefK (It.it106.g (y3.1.1, q4, ())) fun l6 => derefK (R99_7 n l6 (s_2, o_5, e2, ())) fun o5 => cond (X.same .norm o5.1) (L ((set_1, s_2, t_15, t_16, (IntKind.wrap .i64 (t_17 + 1)), ()), (o5.2.1, ()), ())) (none)))) (some ((), (o_5, ()), ()))
noncomputable def L99_3 : Nat → (Int × zTg × (List (Int × (Int × (Int × Int)))) × Int × Int × Unit) × ((List (List Int)) × Unit) × Unit → Option (((Unit) × ((List (List Int)) × Unit) × Unit))
  | 0, _ => none
  | n + 1, d => B99_3 n (L99_3 n) d.1.1 d.1.2.1 d.1.2.2.1 d.1.2.2.2.1 d.1.2.2.2.2.1 d.2.1.1
noncomputable def l99_3 : LoopI := ⟨⟨[(1, .v (.int .i64)), (2, .r (.str (.pair (.list false 46 (.str zTa)) (.pair (.list false 44 (.str zTa)) zTh)))), (5, .c (.ptr 5 [])), (15, .v (.list false 44 (.str zTa))), (16, .v (.int .i64)), (17, .v (.int .i64))], [(5, false, .list true 146 (.arr 3 (.int .i64)))], none⟩, [(.exit 0, ⟨[(5, .c (.ptr 5 []))], [(5, false, .list true 146 (.arr 3 (.int .i64)))], none⟩)], L99_3⟩
noncomputable def F99 (n : Nat) (s_0 : zTg) (set_1 : Int) : Option (((List (List Int)) × Unit) × (Unit)) :=
  leK 0 (IntKind.wrap .i64 ((s_0.1.length : Int) + 1)) (leK (IntKind.wrap .i64 ((s_0.1.length : Int) + 1)) (IntKind.wrap .i64 ((s_0.1.length : Int) + 1)) (lenK (IntKind.wrap .i64 ((s_0.1.length : Int) + 1)) (bindV (List.replicate (IntKind.wrap .i64 ((s_0.1.length : Int) + 1)).toNat (List.replicate 3 (0 : Int))) fun z1 => derefK (L99_3 n ((set_1, s_0, s_0.2.1, (s_0.2.1.length : Int), 0, ()), (z1, ()), ())) fun o7 => some ((o7.2.1.1, ()), ()))))
noncomputable def g99 (d : zTg × Int × Unit) : Option (((List (List Int)) × Unit) × (Unit)) := F99 fuel d.1 d.2.1
noncomputable def p99 : Prim := ⟨[.v (.str (.pair (.list false 46 (.str zTa)) (.pair (.list false 44 (.str zTa)) zTh))), .v (.int .i64)], [.own 146 (.arr 3 (.int .i64))], g99⟩
noncomputable def c99 : Cfg := ⟨51, tyT, [(2, .str (.pair (.list false 46 (.str zTa)) (.pair (.list false 44 (.str zTa)) zTh))), (5, .list true 146 (.arr 3 (.int .i64))), (7, .str zTa)], [], [(3, l99_3)], [], [10], [(106, It.it106)], [(7, r99_7)], [(105, It.m105)], [], [], [], [], none⟩
theorem F99_eq (n : Nat) (d) : absFn c99 n Try.f99 (body Try.f99) [.v (.str (.pair (.list false 46 (.str zTa)) (.pair (.list false 44 (.str zTa)) zTh))), .v (.int .i64)] [.own 146 (.arr 3 (.int .i64))] d = F99 n d.1 d.2.1 := by kernel_rfl
theorem L99_3_eq (n : Nat) (d) : (l99_3).g (n + 1) d = run c99 n (nth 0 (loopsOf (body Try.f99))) ((l99_3).ins.fill d) (roundK (l99_3) n) := by kernel_rfl
theorem ls99 : loopsOf (body Try.f99) = [nth 0 (loopsOf (body Try.f99))] := by kernel_rfl
theorem R99_7_eq (n : Nat) (x r d) : (r99_7).g n (x :: r) d = run c99 n (asR (nth 0 (rangesOf (body Try.f99)))) (innerSt r99_7 31 d x) (thenK (bodyK c99 r99_7 n (bdR (nth 0 (rangesOf (body Try.f99)))) r d) failK) := by kernel_rfl
theorem rs99 : rangesOf (body Try.f99) = [nth 0 (rangesOf (body Try.f99))] := by kernel_rfl
theorem d99 : drawD c99 (body Try.f99) = true := by kernel_rfl
theorem h99 : GoodF Try.prog 99 p99 := fn_doneR mixed (cfg := c99) (cfg_ok tyT_ok (goodNil) rfl (by kernel_rfl) (mk_ok (mkCons It.k105 mkNil))) (itCons It.it106_ok itNil) Try.func99 rfl rfl (by kernel_rfl) rfl (by rw [ls99]; simp only [List.forall_mem_cons]; exact ⟨loopHas (key := 3) (li := l99_3) (by kernel_rfl) rfl (fun _ => rfl) (L99_3_eq), fun _ h => by cases h⟩) (by rw [rs99]; simp only [List.forall_mem_cons]; exact ⟨rangeHas (key := 7) (li := r99_7) (p := 31) (by kernel_rfl) rfl (by kernel_rfl) (by kernel_rfl) (noLoops (by kernel_rfl)) (fun _ _ => rfl) R99_7_eq, fun _ h => by cases h⟩) d99 (fun d y h => ⟨fuel, (F99_eq fuel d).trans h⟩)
-- function 100
noncomputable def F100 (_n : Nat) (a_0 : (List Int)) : Option ((Int × Unit) × (Unit)) :=
  inR 0 3 (getI a_0 0 fun e1 => inR 1 3 (getI a_0 1 fun e2 => inR 2 3 (getI a_0 2 fun e3 => some (((max (max e1 e2) e3), ()), ()))))
noncomputable def g100 (d : (List Int) × Unit) : Option ((Int × Unit) × (Unit)) := F100 fuel d.1
noncomputable def p100 : Prim := ⟨[.v (.arr 3 (.int .i64))], [.v (.int .i64)], g100⟩
noncomputable def c100 : Cfg := ⟨10, tyT, [], [], [], [], [], [], [], [], [], [], [], [], none⟩
theorem F100_eq (n : Nat) (d) : absFn c100 n Try.f100 (body Try.f100) [.v (.arr 3 (.int .i64))] [.v (.int .i64)] d = F100 n d.1 := by kernel_rfl
theorem d100 : drawOK c100 (body Try.f100) = true := by kernel_rfl
theorem h100 : GoodF Try.prog 100 p100 := fn_done mixed (cfg := c100) (cfg_ok tyT_ok (goodNil) rfl (by kernel_rfl)) Try.func100 rfl rfl (by kernel_rfl) rfl (noLoops (by kernel_rfl)) d100 (fun d y h => ⟨fuel, (F100_eq fuel d).trans h⟩)
-- function 101
noncomputable def F101 (_n : Nat) (s_0 : zTg) (b_1 : Int) : Option ((Int × Unit) × (Unit)) :=
  cond (b_1 == (s_0.1.length : Int)) (some ((s_0.2.2.1, ()), ())) (cond (b_1 == (-1)) (some ((s_0.2.2.1, ()), ())) (getI s_0.1 b_1 fun e1 => some ((e1.2.1, ()), ())))
noncomputable def g101 (d : zTg × Int × Unit) : Option ((Int × Unit) × (Unit)) := F101 fuel d.1 d.2.1
noncomputable def p101 : Prim := ⟨[.v (.str (.pair (.list false 46 (.str zTa)) (.pair (.list false 44 (.str zTa)) zTh))), .v (.int .i64)], [.v (.int .i64)], g101⟩
noncomputable def c101 : Cfg := ⟨22, tyT, [], [], [], [], [], [], [], [], [], [], [], [], none⟩
theorem F101_eq (n : Nat) (d) : absFn c101 n Try.f101 (body Try.f101) [.v (.str (.pair (.list false 46 (.str zTa)) (.pair (.list false 44 (.str zTa)) zTh))), .v (.int .i64)] [.v (.int .i64)] d = F101 n d.1 d.2.1 := by kernel_rfl
theorem d101 : drawOK c101 (body Try.f101) = true := by kernel_rfl
theorem h101 : GoodF Try.prog 101 p101 := fn_done mixed (cfg := c101) (cfg_ok tyT_ok (goodNil) rfl (by kernel_rfl)) Try.func101 rfl rfl (by kernel_rfl) rfl (noLoops (by kernel_rfl)) d101 (fun d y h => ⟨fuel, (F101_eq fuel d).trans h⟩)
-- function 91
noncomputable def B91_5 (_n : Nat) (L : (Int × Int × Unit) × (zTg × (List (List Int)) × Unit) × Unit → Option (((Int × Bool × Unit) × (Unit) × Unit) ⊕ ((Unit) × (Unit) × Unit))) (t_23 : Int) (t_24 : Int) (o_2 : (List (Int × (Int × (Int × Int)))) × ((List (Int × (Int × (Int × Int)))) × (Int × (Int × Int)))) (o_11000 : List (List Int)) : Option (((Int × Bool × Unit) × (Unit) × Unit) ⊕ ((Unit) × (Unit) × Unit)) :=
  cond (decide (t_24 < t_23)) (inR t_24 o_11000.length (getI o_11000 t_24 fun e4 => derefK (g100 (e4, ())) fun y5 => derefK (g101 (o_2, t_24, ())) fun y6 => cond (decide (y5.1.1 > y6.1.1)) (some (.inl ((t_24, true, ()), (), ()))) (L ((t_23, (IntKind.wrap .i64 (t_24 + 1)), ()), (o_2, o_11000, ()), ())))) (some (.inr ((), (), ())))
noncomputable def L91_5 : Nat → (Int × Int × Unit) × (zTg × (List (List Int)) × Unit) × Unit → Option (((Int × Bool × Unit) × (Unit) × Unit) ⊕ ((Unit) × (Unit) × Unit))
  | 0, _ => none
  | n + 1, d => B91_5 n (L91_5 n) d.1.1 d.1.2.1 d.2.1.1 d.2.1.2.1
noncomputable def l91_5 : LoopI := ⟨⟨[(2, .c (.ptr 2 [])), (6, .c (.view 11000 [])), (23, .v (.int .i64)), (24, .v (.int .i64))], [(2, false, .str (.pair (.list false 46 (.str zTa)) (.pair (.list false 44 (.str zTa)) zTh))), (11000, true, .list true 146 (.arr 3 (.int .i64)))], none⟩, [(.ret, ⟨[(4, .v (.int .i64)), (5, .v .bool)], [], none⟩), (.exit 0, ⟨[], [], none⟩)], L91_5⟩
noncomputable def F91 (n : Nat) (s_0 : zTg) (set_1 : Int) : Option ((Int × Bool × Unit) × (Unit)) :=
  derefK (g99 (s_0, set_1, ())) fun y1 => inR (s_0.1.length : Int) y1.1.1.length (getI y1.1.1 (s_0.1.length : Int) fun e2 => derefK (g100 (e2, ())) fun y3 => cond (decide (y3.1.1 > s_0.2.2.1)) (some (((-1), true, ()), ())) (derefK (L91_5 n (((s_0.1.length : Int), 0, ()), (s_0, y1.1.1, ()), ())) fun o7 => sumK o7 (fun d8 => some ((d8.1.1, d8.1.2.1, ()), ())) (fun _ => some ((0, false, ()), ()))))
noncomputable def g91 (d : zTg × Int × Unit) : Option ((Int × Bool × Unit) × (Unit)) := F91 fuel d.1 d.2.1
noncomputable def p91 : Prim := ⟨[.v (.str (.pair (.list false 46 (.str zTa)) (.pair (.list false 44 (.str zTa)) zTh))), .v (.int .i64)], [.v (.int .i64), .v .bool], g91⟩
noncomputable def c91 : Cfg := ⟨38, tyT, [], [(99, p99), (100, p100), (101, p101)], [(5, l91_5)], [], [], [], [], [], [], [], [], [], none⟩
theorem F91_eq (n : Nat) (d) : absFn c91 n Try.f91 (body Try.f91) [.v (.str (.pair (.list false 46 (.str zTa)) (.pair (.list false 44 (.str zTa)) zTh))), .v (.int .i64)] [.v (.int .i64), .v .bool] d = F91 n d.1 d.2.1 := by kernel_rfl
theorem L91_5_eq (n : Nat) (d) : (l91_5).g (n + 1) d = run c91 n (nth 0 (loopsOf (body Try.f91))) ((l91_5).ins.fill d) (roundK (l91_5) n) := by kernel_rfl
theorem ls91 : loopsOf (body Try.f91) = [nth 0 (loopsOf (body Try.f91))] := by kernel_rfl
theorem d91 : drawOK c91 (body Try.f91) = true := by kernel_rfl
theorem h91 : GoodF Try.prog 91 p91 := fn_done mixed (cfg := c91) (cfg_ok tyT_ok (goodCons h99 (goodCons h100 (goodCons h101 goodNil))) rfl (by kernel_rfl)) Try.func91 rfl rfl (by kernel_rfl) rfl (by rw [ls91]; simp only [List.forall_mem_cons]; exact ⟨loopHas (key := 5) (li := l91_5) (by kernel_rfl) rfl (fun _ => rfl) (L91_5_eq), fun _ h => by cases h⟩) d91 (fun d y h => ⟨fuel, (F91_eq fuel d).trans h⟩)
-- function 71
noncomputable def F71 (_n : Nat) (s_0 : zTg) (set_1 : Int) : Option ((Int × Bool × Int × Unit) × (Unit)) :=
  derefK (g90 (s_0, set_1, ())) fun y1 => cond (y1.1.1 != 0) (some ((0, false, y1.1.1, ()), ())) (derefK (g91 (s_0, set_1, ())) fun y2 => some ((y2.1.1, (!y2.1.2.1), 0, ()), ()))
noncomputable def g71 (d : zTg × Int × Unit) : Option ((Int × Bool × Int × Unit) × (Unit)) := F71 fuel d.1 d.2.1
noncomputable def p71 : Prim := ⟨[.v (.str (.pair (.list false 46 (.str zTa)) (.pair (.list false 44 (.str zTa)) zTh))), .v (.int .i64)], [.v (.int .i64), .v .bool, .v (.int .i64)], g71⟩
noncomputable def c71 : Cfg := ⟨25, tyT, [], [(90, p90), (91, p91)], [], [], [], [], [], [], [], [], [], [], none⟩
theorem F71_eq (n : Nat) (d) : absFn c71 n Try.f71 (body Try.f71) [.v (.str (.pair (.list false 46 (.str zTa)) (.pair (.list false 44 (.str zTa)) zTh))), .v (.int .i64)] [.v (.int .i64), .v .bool, .v (.int .i64)] d = F71 n d.1 d.2.1 := by kernel_rfl
theorem d71 : drawOK c71 (body Try.f71) = true := by kernel_rfl
theorem h71 : GoodF Try.prog 71 p71 := fn_done mixed (cfg := c71) (cfg_ok tyT_ok (goodCons h90 (goodCons h91 goodNil)) rfl (by kernel_rfl)) Try.func71 rfl rfl (by kernel_rfl) rfl (noLoops (by kernel_rfl)) d71 (fun d y h => ⟨fuel, (F71_eq fuel d).trans h⟩)
-- function 42
noncomputable def B42_6 (_n : Nat) (L : (Int × Int × Int × Unit) × (zTc × (List Int) × (List Int) × Unit) × Unit → Option (((Unit) × ((List Int) × Unit) × Unit))) (set_5 : Int) (t_24 : Int) (t_25 : Int) (o_1 : ((List zTm) × Int) × (zTe × ((List zTf) × (Int × (zTg × ((List Int) × (List Int))))))) (o_2 : List Int) (o_19000 : List Int) : Option (((Unit) × ((List Int) × Unit) × Unit)) :=
  cond (decide (t_25 < t_24)) (inR t_25 o_19000.length (getI o_19000 t_25 fun e2 => negK e2 (derefK (g71 (o_1.2.2.2.2.1, (bitsI .or .i64 set_5 (shlI .i64 1 e2)), ())) fun y3 => cond (y3.1.2.2.1 == 0) (cond y3.1.2.1 (negK e2 (lenK ((o_2.length : Int) + [e2].length) (L (((bitsI .or .i64 set_5 (shlI .i64 1 e2)), t_24, (IntKind.wrap .i64 (t_25 + 1)), ()), (o_1, (o_2 ++ [e2]), o_19000, ()), ())))) (L ((set_5, t_24, (IntKind.wrap .i64 (t_25 + 1)), ()), (o_1, o_2, o_19000, ()), ()))) (L ((set_5, t_24, (IntKind.wrap .i64 (t_25 + 1)), ()), (o_1, o_2, o_19000, ()), ()))))) (some ((), (o_2, ()), ()))
noncomputable def L42_6 : Nat → (Int × Int × Int × Unit) × (zTc × (List Int) × (List Int) × Unit) × Unit → Option (((Unit) × ((List Int) × Unit) × Unit))
  | 0, _ => none
  | n + 1, d => B42_6 n (L42_6 n) d.1.1 d.1.2.1 d.1.2.2.1 d.2.1.1 d.2.1.2.1 d.2.1.2.2.1
noncomputable def l42_6 : LoopI := ⟨⟨[(1, .c (.ptr 1 [])), (2, .c (.view 2 [])), (5, .v (.int .i64)), (23, .c (.view 19000 [])), (24, .v (.int .i64)), (25, .v (.int .i64))], [(1, false, .str (.pair (.str zTd) (.pair (.str zTb) (.pair (.list false 48 (.str (.pair (.int .i64) zTa))) (.pair (.int .i64) (.pair (.str (.pair (.list false 46 (.str zTa)) (.pair (.list false 44 (.str zTa)) zTh))) zTk)))))), (2, true, .list true 3 (.int .i64)), (19000, true, .list true 3 (.int .i64))], none⟩, [(.exit 0, ⟨[(2, .c (.view 2 []))], [(2, true, .list true 3 (.int .i64))], none⟩)], L42_6⟩
noncomputable def F42 (n : Nat) (g_0 : zTc) : Option (((List Int) × Unit) × (Unit)) :=
  derefK (g70 (g_0.2.1, g_0.2.2.1, g_0.2.2.2.1, ())) fun y1 => cond (y1.1.2.1 != 0) (some ((([] : List Int), ()), ())) (derefK (L42_6 n ((0, (y1.1.1.length : Int), 0, ()), (g_0, ([] : List Int), y1.1.1, ()), ())) fun o4 => some ((o4.2.1.1, ()), ()))
noncomputable def g42 (d : zTc × Unit) : Option (((List Int) × Unit) × (Unit)) := F42 fuel d.1
noncomputable def p42 : Prim := ⟨[.v (.str (.pair (.str zTd) (.pair (.str zTb) (.pair (.list false 48 (.str (.pair (.int .i64) zTa))) (.pair (.int .i64) (.pair (.str (.pair (.list false 46 (.str zTa)) (.pair (.list false 44 (.str zTa)) zTh))) zTk))))))], [.own 3 (.int .i64)], g42⟩
noncomputable def c42 : Cfg := ⟨55, tyT, [], [(70, p70), (71, p71)], [(6, l42_6)], [], [], [], [], [], [], [], [], [], none⟩
theorem F42_eq (n : Nat) (d) : absFn c42 n Try.f42 (body Try.f42) [.v (.str (.pair (.str zTd) (.pair (.str zTb) (.pair (.list false 48 (.str (.pair (.int .i64) zTa))) (.pair (.int .i64) (.pair (.str (.pair (.list false 46 (.str zTa)) (.pair (.list false 44 (.str zTa)) zTh))) zTk))))))] [.own 3 (.int .i64)] d = F42 n d.1 := by kernel_rfl
theorem L42_6_eq (n : Nat) (d) : (l42_6).g (n + 1) d = run c42 n (nth 0 (loopsOf (body Try.f42))) ((l42_6).ins.fill d) (roundK (l42_6) n) := by kernel_rfl
theorem ls42 : loopsOf (body Try.f42) = [nth 0 (loopsOf (body Try.f42))] := by kernel_rfl
theorem d42 : drawOK c42 (body Try.f42) = true := by kernel_rfl
theorem h42 : GoodF Try.prog 42 p42 := fn_done mixed (cfg := c42) (cfg_ok tyT_ok (goodCons h70 (goodCons h71 goodNil)) rfl (by kernel_rfl)) Try.func42 rfl rfl (by kernel_rfl) rfl (by rw [ls42]; simp only [List.forall_mem_cons]; exact ⟨loopHas (key := 6) (li := l42_6) (by kernel_rfl) rfl (fun _ => rfl) (L42_6_eq), fun _ h => by cases h⟩) d42 (fun d y h => ⟨fuel, (F42_eq fuel d).trans h⟩)
-- function 24
noncomputable def F24 (_n : Nat) (g_0 : zTc) : Option (((List Int) × Int × Unit) × (Unit)) :=
  derefK (g41 (g_0, ())) fun y1 => cond (y1.1.1 != 0) (some ((([] : List Int), y1.1.1, ()), ())) (derefK (g42 (g_0, ())) fun y2 => some ((y2.1.1, 0, ()), ()))
noncomputable def g24 (d : zTc × Unit) : Option (((List Int) × Int × Unit) × (Unit)) := F24 fuel d.1
noncomputable def p24 : Prim := ⟨[.v (.str (.pair (.str zTd) (.pair (.str zTb) (.pair (.list false 48 (.str (.pair (.int .i64) zTa))) (.pair (.int .i64) (.pair (.str (.pair (.list false 46 (.str zTa)) (.pair (.list false 44 (.str zTa)) zTh))) zTk))))))], [.own 3 (.int .i64), .v (.int .i64)], g24⟩
noncomputable def c24 : Cfg := ⟨12, tyT, [], [(41, p41), (42, p42)], [], [], [], [], [], [], [], [], [], [], none⟩
theorem F24_eq (n : Nat) (d) : absFn c24 n Try.f24 (body Try.f24) [.v (.str (.pair (.str zTd) (.pair (.str zTb) (.pair (.list false 48 (.str (.pair (.int .i64) zTa))) (.pair (.int .i64) (.pair (.str (.pair (.list false 46 (.str zTa)) (.pair (.list false 44 (.str zTa)) zTh))) zTk))))))] [.own 3 (.int .i64), .v (.int .i64)] d = F24 n d.1 := by kernel_rfl
theorem d24 : drawOK c24 (body Try.f24) = true := by kernel_rfl
theorem h24 : GoodF Try.prog 24 p24 := fn_done mixed (cfg := c24) (cfg_ok tyT_ok (goodCons h41 (goodCons h42 goodNil)) rfl (by kernel_rfl)) Try.func24 rfl rfl (by kernel_rfl) rfl (noLoops (by kernel_rfl)) d24 (fun d y h => ⟨fuel, (F24_eq fuel d).trans h⟩)
-- function 10
noncomputable def B10_7 (_n : Nat) (L : (Int × Int × Unit) × ((List Int) × Unit) × Unit → Option (((Bool × Unit) × (Unit) × Unit) ⊕ ((Unit) × (Unit) × Unit))) (ride_2 : Int) (i_11 : Int) (o_26000 : List Int) : Option (((Bool × Unit) × (Unit) × Unit) ⊕ ((Unit) × (Unit) × Unit)) :=
  cond (decide (i_11 < (o_26000.length : Int))) (inR i_11 o_26000.length (getI o_26000 i_11 fun e3 => cond (e3 == ride_2) (some (.inl ((true, ()), (), ()))) (L ((ride_2, (IntKind.wrap .i64 (i_11 + 1)), ()), (o_26000, ()), ())))) (some (.inr ((), (), ())))
noncomputable def L10_7 : Nat → (Int × Int × Unit) × ((List Int) × Unit) × Unit → Option (((Bool × Unit) × (Unit) × Unit) ⊕ ((Unit) × (Unit) × Unit))
  | 0, _ => none
  | n + 1, d => B10_7 n (L10_7 n) d.1.1 d.1.2.1 d.2.1.1
noncomputable def l10_7 : LoopI := ⟨⟨[(2, .v (.int .i64)), (9, .c (.view 26000 [])), (11, .v (.int .i64))], [(26000, true, .list true 3 (.int .i64))], none⟩, [(.ret, ⟨[(8, .v .bool)], [], none⟩), (.exit 0, ⟨[], [], none⟩)], L10_7⟩
noncomputable def F10 (n : Nat) (g_0 : zTc) (entries_1 : (List zTf)) (ride_2 : Int) (day_3 : Int) : Option ((Bool × Unit) × (Unit)) :=
  lenK ((([] : List zTf).length : Int) + entries_1.length) (lenK (((([] : List zTf) ++ entries_1).length : Int) + [(day_3, 4, ride_2, (0 : Int), (0 : Int))].length) (bindV ((g_0.1, (g_0.2.1, (g_0.2.2.1, (day_3, g_0.2.2.2.2)))).1, (((g_0.1, (g_0.2.1, (g_0.2.2.1, (day_3, g_0.2.2.2.2)))).2).1, (((([] : List zTf) ++ entries_1) ++ [(day_3, 4, ride_2, (0 : Int), (0 : Int))]), (((g_0.1, (g_0.2.1, (g_0.2.2.1, (day_3, g_0.2.2.2.2)))).2).2).2))) fun z1 => derefK (g24 (z1, ())) fun y2 => cond (y2.1.2.1 != 0) (some ((false, ()), ())) (derefK (L10_7 n ((ride_2, 0, ()), (y2.1.1, ()), ())) fun o4 => sumK o4 (fun d5 => some ((d5.1.1, ()), ())) (fun _ => some ((false, ()), ())))))
noncomputable def g10 (d : zTc × (List zTf) × Int × Int × Unit) : Option ((Bool × Unit) × (Unit)) := F10 fuel d.1 d.2.1 d.2.2.1 d.2.2.2.1
noncomputable def p10 : Prim := ⟨[.v (.str (.pair (.str zTd) (.pair (.str zTb) (.pair (.list false 48 (.str (.pair (.int .i64) zTa))) (.pair (.int .i64) (.pair (.str (.pair (.list false 46 (.str zTa)) (.pair (.list false 44 (.str zTa)) zTh))) zTk)))))), .v (.list false 48 (.str (.pair (.int .i64) zTa))), .v (.int .i64), .v (.int .i64)], [.v .bool], g10⟩
noncomputable def c10 : Cfg := ⟨42, tyT, [(16, .list true 48 (.str (.pair (.int .i64) zTa))), (21, .list true 48 (.str (.pair (.int .i64) zTa)))], [(24, p24)], [(7, l10_7)], [], [], [], [], [], [], [], [], [], none⟩
theorem F10_eq (n : Nat) (d) : absFn c10 n Try.f10 (body Try.f10) [.v (.str (.pair (.str zTd) (.pair (.str zTb) (.pair (.list false 48 (.str (.pair (.int .i64) zTa))) (.pair (.int .i64) (.pair (.str (.pair (.list false 46 (.str zTa)) (.pair (.list false 44 (.str zTa)) zTh))) zTk)))))), .v (.list false 48 (.str (.pair (.int .i64) zTa))), .v (.int .i64), .v (.int .i64)] [.v .bool] d = F10 n d.1 d.2.1 d.2.2.1 d.2.2.2.1 := by kernel_rfl
theorem L10_7_eq (n : Nat) (d) : (l10_7).g (n + 1) d = run c10 n (nth 0 (loopsOf (body Try.f10))) ((l10_7).ins.fill d) (roundK (l10_7) n) := by kernel_rfl
theorem ls10 : loopsOf (body Try.f10) = [nth 0 (loopsOf (body Try.f10))] := by kernel_rfl
theorem d10 : drawOK c10 (body Try.f10) = true := by kernel_rfl
theorem h10 : GoodF Try.prog 10 p10 := fn_done mixed (cfg := c10) (cfg_ok tyT_ok (goodCons h24 goodNil) rfl (by kernel_rfl)) Try.func10 rfl rfl (by kernel_rfl) rfl (by rw [ls10]; simp only [List.forall_mem_cons]; exact ⟨loopHas (key := 7) (li := l10_7) (by kernel_rfl) rfl (fun _ => rfl) (L10_7_eq), fun _ h => by cases h⟩) d10 (fun d y h => ⟨fuel, (F10_eq fuel d).trans h⟩)
end Go.Proofs.Try.V
