/- The contracts of functions of the program, printed by program from the interpreter: each says what a call returns. No condition beyond those typed in each theorem. -/
import Derived.Test.YtjhphibadndkcaaFn6
namespace Go.Proofs.Try.V
open Go.Vi
set_option maxRecDepth 100000
-- function 66
noncomputable def F66 (n : Nat) (p_0 : Int) (t_1 : (Option (((List (Int × (Int × (Int × (List Int))))) × (Int × (List (List Int)))) × ((List (List Int)) × (List (List Int)))))) (t_2 : (List Bool)) : Option ((Bool × Unit) × (Unit)) :=
  derefK t_1 fun q1 => derefK (g56 (q1, t_2, p_0, ())) fun y2 => some ((y2.1.1, ()), ())
noncomputable def g66 (d : Int × (Option (((List (Int × (Int × (Int × (List Int))))) × (Int × (List (List Int)))) × ((List (List Int)) × (List (List Int))))) × (List Bool) × Unit) : Option ((Bool × Unit) × (Unit)) := F66 fuel d.1 d.2.1 d.2.2.1
noncomputable def p66 : Prim := ⟨[.v (.int .i64), .r (.ptr (.str (.pair (.str (.pair (.list false 38 (.str (.pair (.int .i64) (.pair (.int .i64) (.pair (.int .i64) (.list false 3 (.int .i64))))))) (.pair (.int .i64) (.list false 26 (.list false 3 (.int .i64)))))) (.pair (.list false 26 (.list false 3 (.int .i64))) (.list false 26 (.list false 3 (.int .i64))))))), .r (.list false 4 .bool)], [.v .bool], g66⟩
noncomputable def c66 : Cfg := ⟨9, tyT, [], [(56, p56)], [], [], []⟩
theorem F66_eq (n : Nat) (d) : absFn c66 n Try.f66 (body Try.f66) [.v (.int .i64), .r (.ptr (.str (.pair (.str (.pair (.list false 38 (.str (.pair (.int .i64) (.pair (.int .i64) (.pair (.int .i64) (.list false 3 (.int .i64))))))) (.pair (.int .i64) (.list false 26 (.list false 3 (.int .i64)))))) (.pair (.list false 26 (.list false 3 (.int .i64))) (.list false 26 (.list false 3 (.int .i64))))))), .r (.list false 4 .bool)] [.v .bool] d = F66 n d.1 d.2.1 d.2.2.1 := by kernel_rfl
theorem d66 : drawOK c66 (body Try.f66) = true := by kernel_rfl
theorem h66 : GoodF Try.prog 66 p66 := fn_done mixed (cfg := c66) (cfg_ok tyT_ok (goodCons h56 goodNil) rfl (by kernel_rfl)) Try.func66 rfl rfl (by kernel_rfl) rfl (noLoops (by kernel_rfl)) d66 (fun d y h => ⟨fuel, (F66_eq fuel d).trans h⟩)
-- function 34
noncomputable def F34 (n : Nat) (k_0 : ((List (Int × (Int × (Int × (List Int))))) × (Int × (List (List Int))))) (stands_1 : (List Bool)) : Option (((List Int) × Int × Unit) × (Unit)) :=
  derefK (g65 (k_0, stands_1, ())) fun y1 => cond (y1.1.2.1 != 0) (some ((([] : List Int), y1.1.2.1, ()), ())) (derefK y1.1.1 fun q2 => derefK (g51 (q2, (fun v3 => derefK (g66 (v3, y1.1.1, stands_1, ())) fun y4 => some y4.1.1), ())) fun y5 => some ((y5.1.1, 0, ()), ()))
noncomputable def g34 (d : ((List (Int × (Int × (Int × (List Int))))) × (Int × (List (List Int)))) × (List Bool) × Unit) : Option (((List Int) × Int × Unit) × (Unit)) := F34 fuel d.1 d.2.1
noncomputable def p34 : Prim := ⟨[.v (.str (.pair (.list false 38 (.str (.pair (.int .i64) (.pair (.int .i64) (.pair (.int .i64) (.list false 3 (.int .i64))))))) (.pair (.int .i64) (.list false 26 (.list false 3 (.int .i64)))))), .v (.list false 4 .bool)], [.own 3 (.int .i64), .v (.int .i64)], g34⟩
noncomputable def c34 : Cfg := ⟨20, tyT, [], [(51, p51), (65, p65), (66, p66)], [], [], []⟩
theorem F34_eq (n : Nat) (d) : absFn c34 n Try.f34 (body Try.f34) [.v (.str (.pair (.list false 38 (.str (.pair (.int .i64) (.pair (.int .i64) (.pair (.int .i64) (.list false 3 (.int .i64))))))) (.pair (.int .i64) (.list false 26 (.list false 3 (.int .i64)))))), .v (.list false 4 .bool)] [.own 3 (.int .i64), .v (.int .i64)] d = F34 n d.1 d.2.1 := by kernel_rfl
theorem d34 : drawOK c34 (body Try.f34) = true := by kernel_rfl
theorem h34 : GoodF Try.prog 34 p34 := fn_done mixed (cfg := c34) (cfg_ok tyT_ok (goodCons h51 (goodCons h65 (goodCons h66 goodNil))) rfl (by kernel_rfl)) Try.func34 rfl rfl (by kernel_rfl) rfl (noLoops (by kernel_rfl)) d34 (fun d y h => ⟨fuel, (F34_eq fuel d).trans h⟩)
-- function 67
noncomputable def F67 (n : Nat) (k_0 : ((List (Int × (Int × (Int × (List Int))))) × (Int × (List (List Int))))) (stands_1 : (List Bool)) : Option ((Int × Unit) × (Unit)) :=
  derefK (g33 (k_0, ())) fun y1 => cond (y1.1.1 != 0) (some ((y1.1.1, ()), ())) (cond ((stands_1.length : Int) != (k_0.1.length : Int)) (some ((1, ()), ())) (some ((0, ()), ())))
noncomputable def g67 (d : ((List (Int × (Int × (Int × (List Int))))) × (Int × (List (List Int)))) × (List Bool) × Unit) : Option ((Int × Unit) × (Unit)) := F67 fuel d.1 d.2.1
noncomputable def p67 : Prim := ⟨[.v (.str (.pair (.list false 38 (.str (.pair (.int .i64) (.pair (.int .i64) (.pair (.int .i64) (.list false 3 (.int .i64))))))) (.pair (.int .i64) (.list false 26 (.list false 3 (.int .i64)))))), .v (.list false 4 .bool)], [.v (.int .i64)], g67⟩
noncomputable def c67 : Cfg := ⟨17, tyT, [], [(33, p33)], [], [], []⟩
theorem F67_eq (n : Nat) (d) : absFn c67 n Try.f67 (body Try.f67) [.v (.str (.pair (.list false 38 (.str (.pair (.int .i64) (.pair (.int .i64) (.pair (.int .i64) (.list false 3 (.int .i64))))))) (.pair (.int .i64) (.list false 26 (.list false 3 (.int .i64)))))), .v (.list false 4 .bool)] [.v (.int .i64)] d = F67 n d.1 d.2.1 := by kernel_rfl
theorem d67 : drawOK c67 (body Try.f67) = true := by kernel_rfl
theorem h67 : GoodF Try.prog 67 p67 := fn_done mixed (cfg := c67) (cfg_ok tyT_ok (goodCons h33 goodNil) rfl (by kernel_rfl)) Try.func67 rfl rfl (by kernel_rfl) rfl (noLoops (by kernel_rfl)) d67 (fun d y h => ⟨fuel, (F67_eq fuel d).trans h⟩)
-- function 35
noncomputable def B35_6 (n : Nat) (L : ((List Bool) × Int × Unit) × (((List (Int × (Int × (Int × (List Int))))) × (Int × (List (List Int)))) × (List Int) × Unit) × Unit → Option (((Unit) × ((List Int) × Unit) × Unit))) (stands_1 : List Bool) (p_8 : Int) (o_2 : (List (Int × (Int × (Int × (List Int))))) × (Int × (List (List Int)))) (o_7 : List Int) : Option (((Unit) × ((List Int) × Unit) × Unit)) :=
  cond (decide (p_8 < (stands_1.length : Int))) (derefK (g58 (o_2, stands_1, p_8, ())) fun y2 => cond y2.1.1 (lenK ((o_7.length : Int) + [p_8].length) (L ((stands_1, (IntKind.wrap .i64 (p_8 + 1)), ()), (o_2, (o_7 ++ [p_8]), ()), ()))) (L ((stands_1, (IntKind.wrap .i64 (p_8 + 1)), ()), (o_2, o_7, ()), ()))) (some ((), (o_7, ()), ()))
noncomputable def L35_6 : Nat → ((List Bool) × Int × Unit) × (((List (Int × (Int × (Int × (List Int))))) × (Int × (List (List Int)))) × (List Int) × Unit) × Unit → Option (((Unit) × ((List Int) × Unit) × Unit))
  | 0, _ => none
  | n + 1, d => B35_6 n (L35_6 n) d.1.1 d.1.2.1 d.2.1.1 d.2.1.2.1
noncomputable def l35_6 : LoopI := ⟨⟨[(1, .v (.list false 4 .bool)), (2, .c (.ptr 2 [])), (7, .c (.view 7 [])), (8, .v (.int .i64))], [(2, false, .str (.pair (.list false 38 (.str (.pair (.int .i64) (.pair (.int .i64) (.pair (.int .i64) (.list false 3 (.int .i64))))))) (.pair (.int .i64) (.list false 26 (.list false 3 (.int .i64)))))), (7, true, .list true 3 (.int .i64))], none⟩, [(.exit 0, ⟨[(7, .c (.view 7 []))], [(7, true, .list true 3 (.int .i64))], none⟩)], L35_6⟩
noncomputable def F35 (n : Nat) (k_0 : ((List (Int × (Int × (Int × (List Int))))) × (Int × (List (List Int))))) (stands_1 : (List Bool)) : Option (((List Int) × Int × Unit) × (Unit)) :=
  derefK (g67 (k_0, stands_1, ())) fun y1 => cond (y1.1.1 != 0) (some ((([] : List Int), y1.1.1, ()), ())) (derefK (L35_6 n ((stands_1, 0, ()), (k_0, ([] : List Int), ()), ())) fun o3 => some ((o3.2.1.1, 0, ()), ()))
noncomputable def g35 (d : ((List (Int × (Int × (Int × (List Int))))) × (Int × (List (List Int)))) × (List Bool) × Unit) : Option (((List Int) × Int × Unit) × (Unit)) := F35 fuel d.1 d.2.1
noncomputable def p35 : Prim := ⟨[.v (.str (.pair (.list false 38 (.str (.pair (.int .i64) (.pair (.int .i64) (.pair (.int .i64) (.list false 3 (.int .i64))))))) (.pair (.int .i64) (.list false 26 (.list false 3 (.int .i64)))))), .v (.list false 4 .bool)], [.own 3 (.int .i64), .v (.int .i64)], g35⟩
noncomputable def c35 : Cfg := ⟨30, tyT, [], [(58, p58), (67, p67)], [(6, l35_6)], [], []⟩
theorem F35_eq (n : Nat) (d) : absFn c35 n Try.f35 (body Try.f35) [.v (.str (.pair (.list false 38 (.str (.pair (.int .i64) (.pair (.int .i64) (.pair (.int .i64) (.list false 3 (.int .i64))))))) (.pair (.int .i64) (.list false 26 (.list false 3 (.int .i64)))))), .v (.list false 4 .bool)] [.own 3 (.int .i64), .v (.int .i64)] d = F35 n d.1 d.2.1 := by kernel_rfl
theorem L35_6_eq (n : Nat) (d) : (l35_6).g (n + 1) d = run c35 n (nth 0 (loopsOf (body Try.f35))) ((l35_6).ins.fill d) (roundK (l35_6) n) := by kernel_rfl
theorem ls35 : loopsOf (body Try.f35) = [nth 0 (loopsOf (body Try.f35))] := by kernel_rfl
theorem d35 : drawOK c35 (body Try.f35) = true := by kernel_rfl
theorem h35 : GoodF Try.prog 35 p35 := fn_done mixed (cfg := c35) (cfg_ok tyT_ok (goodCons h58 (goodCons h67 goodNil)) rfl (by kernel_rfl)) Try.func35 rfl rfl (by kernel_rfl) rfl (by rw [ls35]; simp only [List.forall_mem_cons]; exact ⟨loopHas (key := 6) (li := l35_6) (by kernel_rfl) rfl (fun _ => rfl) (L35_6_eq), fun _ h => by cases h⟩) d35 (fun d y h => ⟨fuel, (F35_eq fuel d).trans h⟩)
-- function 68
noncomputable def F68 (n : Nat) (p_0 : Int) (t_1 : (List Bool)) (t_2 : (Option (((List (Int × (Int × (Int × (List Int))))) × (Int × (List (List Int)))) × ((List (List Int)) × (List (List Int)))))) : Option ((Bool × Unit) × (Unit)) :=
  getI t_1 p_0 fun e1 => cond e1 (derefK t_2 fun q2 => getI q2.1.1 p_0 fun e3 => derefK (g69 (t_1, e3.2.2.2, ())) fun y4 => some (((!y4.1.1), ()), ())) (some ((false, ()), ()))
noncomputable def g68 (d : Int × (List Bool) × (Option (((List (Int × (Int × (Int × (List Int))))) × (Int × (List (List Int)))) × ((List (List Int)) × (List (List Int))))) × Unit) : Option ((Bool × Unit) × (Unit)) := F68 fuel d.1 d.2.1 d.2.2.1
noncomputable def p68 : Prim := ⟨[.v (.int .i64), .r (.list false 4 .bool), .r (.ptr (.str (.pair (.str (.pair (.list false 38 (.str (.pair (.int .i64) (.pair (.int .i64) (.pair (.int .i64) (.list false 3 (.int .i64))))))) (.pair (.int .i64) (.list false 26 (.list false 3 (.int .i64)))))) (.pair (.list false 26 (.list false 3 (.int .i64))) (.list false 26 (.list false 3 (.int .i64)))))))], [.v .bool], g68⟩
noncomputable def c68 : Cfg := ⟨23, tyT, [], [(69, p69)], [], [], []⟩
theorem F68_eq (n : Nat) (d) : absFn c68 n Try.f68 (body Try.f68) [.v (.int .i64), .r (.list false 4 .bool), .r (.ptr (.str (.pair (.str (.pair (.list false 38 (.str (.pair (.int .i64) (.pair (.int .i64) (.pair (.int .i64) (.list false 3 (.int .i64))))))) (.pair (.int .i64) (.list false 26 (.list false 3 (.int .i64)))))) (.pair (.list false 26 (.list false 3 (.int .i64))) (.list false 26 (.list false 3 (.int .i64)))))))] [.v .bool] d = F68 n d.1 d.2.1 d.2.2.1 := by kernel_rfl
theorem d68 : drawOK c68 (body Try.f68) = true := by kernel_rfl
theorem h68 : GoodF Try.prog 68 p68 := fn_done mixed (cfg := c68) (cfg_ok tyT_ok (goodCons h69 goodNil) rfl (by kernel_rfl)) Try.func68 rfl rfl (by kernel_rfl) rfl (noLoops (by kernel_rfl)) d68 (fun d y h => ⟨fuel, (F68_eq fuel d).trans h⟩)
-- function 36
noncomputable def F36 (n : Nat) (k_0 : ((List (Int × (Int × (Int × (List Int))))) × (Int × (List (List Int))))) (stands_1 : (List Bool)) : Option (((List Int) × Int × Unit) × (Unit)) :=
  derefK (g65 (k_0, stands_1, ())) fun y1 => cond (y1.1.2.1 != 0) (some ((([] : List Int), y1.1.2.1, ()), ())) (derefK y1.1.1 fun q2 => derefK (g51 (q2, (fun v3 => derefK (g68 (v3, stands_1, y1.1.1, ())) fun y4 => some y4.1.1), ())) fun y5 => some ((y5.1.1, 0, ()), ()))
noncomputable def g36 (d : ((List (Int × (Int × (Int × (List Int))))) × (Int × (List (List Int)))) × (List Bool) × Unit) : Option (((List Int) × Int × Unit) × (Unit)) := F36 fuel d.1 d.2.1
noncomputable def p36 : Prim := ⟨[.v (.str (.pair (.list false 38 (.str (.pair (.int .i64) (.pair (.int .i64) (.pair (.int .i64) (.list false 3 (.int .i64))))))) (.pair (.int .i64) (.list false 26 (.list false 3 (.int .i64)))))), .v (.list false 4 .bool)], [.own 3 (.int .i64), .v (.int .i64)], g36⟩
noncomputable def c36 : Cfg := ⟨20, tyT, [], [(51, p51), (65, p65), (68, p68)], [], [], []⟩
theorem F36_eq (n : Nat) (d) : absFn c36 n Try.f36 (body Try.f36) [.v (.str (.pair (.list false 38 (.str (.pair (.int .i64) (.pair (.int .i64) (.pair (.int .i64) (.list false 3 (.int .i64))))))) (.pair (.int .i64) (.list false 26 (.list false 3 (.int .i64)))))), .v (.list false 4 .bool)] [.own 3 (.int .i64), .v (.int .i64)] d = F36 n d.1 d.2.1 := by kernel_rfl
theorem d36 : drawOK c36 (body Try.f36) = true := by kernel_rfl
theorem h36 : GoodF Try.prog 36 p36 := fn_done mixed (cfg := c36) (cfg_ok tyT_ok (goodCons h51 (goodCons h65 (goodCons h68 goodNil))) rfl (by kernel_rfl)) Try.func36 rfl rfl (by kernel_rfl) rfl (noLoops (by kernel_rfl)) d36 (fun d y h => ⟨fuel, (F36_eq fuel d).trans h⟩)
-- function 37
noncomputable def B37_6 (n : Nat) (L : ((List Bool) × Int × Unit) × (((List (Int × (Int × (Int × (List Int))))) × (Int × (List (List Int)))) × (List Int) × Unit) × Unit → Option (((Unit) × ((List Int) × Unit) × Unit))) (stands_1 : List Bool) (p_8 : Int) (o_2 : (List (Int × (Int × (Int × (List Int))))) × (Int × (List (List Int)))) (o_7 : List Int) : Option (((Unit) × ((List Int) × Unit) × Unit)) :=
  cond (decide (p_8 < (stands_1.length : Int))) (getI stands_1 p_8 fun e2 => cond e2 (derefK (g70 (o_2, stands_1, p_8, ())) fun y3 => cond (!y3.1.1) (lenK ((o_7.length : Int) + [p_8].length) (L ((stands_1, (IntKind.wrap .i64 (p_8 + 1)), ()), (o_2, (o_7 ++ [p_8]), ()), ()))) (L ((stands_1, (IntKind.wrap .i64 (p_8 + 1)), ()), (o_2, o_7, ()), ()))) (L ((stands_1, (IntKind.wrap .i64 (p_8 + 1)), ()), (o_2, o_7, ()), ()))) (some ((), (o_7, ()), ()))
noncomputable def L37_6 : Nat → ((List Bool) × Int × Unit) × (((List (Int × (Int × (Int × (List Int))))) × (Int × (List (List Int)))) × (List Int) × Unit) × Unit → Option (((Unit) × ((List Int) × Unit) × Unit))
  | 0, _ => none
  | n + 1, d => B37_6 n (L37_6 n) d.1.1 d.1.2.1 d.2.1.1 d.2.1.2.1
noncomputable def l37_6 : LoopI := ⟨⟨[(1, .v (.list false 4 .bool)), (2, .c (.ptr 2 [])), (7, .c (.view 7 [])), (8, .v (.int .i64))], [(2, false, .str (.pair (.list false 38 (.str (.pair (.int .i64) (.pair (.int .i64) (.pair (.int .i64) (.list false 3 (.int .i64))))))) (.pair (.int .i64) (.list false 26 (.list false 3 (.int .i64)))))), (7, true, .list true 3 (.int .i64))], none⟩, [(.exit 0, ⟨[(7, .c (.view 7 []))], [(7, true, .list true 3 (.int .i64))], none⟩)], L37_6⟩
noncomputable def F37 (n : Nat) (k_0 : ((List (Int × (Int × (Int × (List Int))))) × (Int × (List (List Int))))) (stands_1 : (List Bool)) : Option (((List Int) × Int × Unit) × (Unit)) :=
  derefK (g67 (k_0, stands_1, ())) fun y1 => cond (y1.1.1 != 0) (some ((([] : List Int), y1.1.1, ()), ())) (derefK (L37_6 n ((stands_1, 0, ()), (k_0, ([] : List Int), ()), ())) fun o4 => some ((o4.2.1.1, 0, ()), ()))
noncomputable def g37 (d : ((List (Int × (Int × (Int × (List Int))))) × (Int × (List (List Int)))) × (List Bool) × Unit) : Option (((List Int) × Int × Unit) × (Unit)) := F37 fuel d.1 d.2.1
noncomputable def p37 : Prim := ⟨[.v (.str (.pair (.list false 38 (.str (.pair (.int .i64) (.pair (.int .i64) (.pair (.int .i64) (.list false 3 (.int .i64))))))) (.pair (.int .i64) (.list false 26 (.list false 3 (.int .i64)))))), .v (.list false 4 .bool)], [.own 3 (.int .i64), .v (.int .i64)], g37⟩
noncomputable def c37 : Cfg := ⟨37, tyT, [], [(67, p67), (70, p70)], [(6, l37_6)], [], []⟩
theorem F37_eq (n : Nat) (d) : absFn c37 n Try.f37 (body Try.f37) [.v (.str (.pair (.list false 38 (.str (.pair (.int .i64) (.pair (.int .i64) (.pair (.int .i64) (.list false 3 (.int .i64))))))) (.pair (.int .i64) (.list false 26 (.list false 3 (.int .i64)))))), .v (.list false 4 .bool)] [.own 3 (.int .i64), .v (.int .i64)] d = F37 n d.1 d.2.1 := by kernel_rfl
theorem L37_6_eq (n : Nat) (d) : (l37_6).g (n + 1) d = run c37 n (nth 0 (loopsOf (body Try.f37))) ((l37_6).ins.fill d) (roundK (l37_6) n) := by kernel_rfl
theorem ls37 : loopsOf (body Try.f37) = [nth 0 (loopsOf (body Try.f37))] := by kernel_rfl
theorem d37 : drawOK c37 (body Try.f37) = true := by kernel_rfl
theorem h37 : GoodF Try.prog 37 p37 := fn_done mixed (cfg := c37) (cfg_ok tyT_ok (goodCons h67 (goodCons h70 goodNil)) rfl (by kernel_rfl)) Try.func37 rfl rfl (by kernel_rfl) rfl (by rw [ls37]; simp only [List.forall_mem_cons]; exact ⟨loopHas (key := 6) (li := l37_6) (by kernel_rfl) rfl (fun _ => rfl) (L37_6_eq), fun _ h => by cases h⟩) d37 (fun d y h => ⟨fuel, (F37_eq fuel d).trans h⟩)
-- function 8
noncomputable def F8 (n : Nat) (k_0 : ((List (Int × (Int × (Int × (List Int))))) × (Int × (List (List Int))))) (stands_1 : (List Bool)) : Option ((Bool × Unit) × (Unit)) :=
  derefK (g32 (k_0, ())) fun y1 => derefK (g33 (k_0, ())) fun y2 => cond (y1.1.1 != y2.1.1) (some ((false, ()), ())) (derefK (g34 (k_0, stands_1, ())) fun y3 => derefK (g35 (k_0, stands_1, ())) fun y4 => cond (y3.1.2.1 != y4.1.2.1) (some ((false, ()), ())) (derefK (g18 (y3.1.1, y4.1.1, ())) fun y5 => cond (!y5.1.1) (some ((false, ()), ())) (derefK (g36 (k_0, stands_1, ())) fun y6 => derefK (g37 (k_0, stands_1, ())) fun y7 => cond (y6.1.2.1 == y7.1.2.1) (derefK (g18 (y6.1.1, y7.1.1, ())) fun y8 => cond y8.1.1 (derefK (g21 ()) fun y9 => some ((y9.1.1, ()), ())) (some ((false, ()), ()))) (some ((false, ()), ())))))
noncomputable def g8 (d : ((List (Int × (Int × (Int × (List Int))))) × (Int × (List (List Int)))) × (List Bool) × Unit) : Option ((Bool × Unit) × (Unit)) := F8 fuel d.1 d.2.1
noncomputable def p8 : Prim := ⟨[.v (.str (.pair (.list false 38 (.str (.pair (.int .i64) (.pair (.int .i64) (.pair (.int .i64) (.list false 3 (.int .i64))))))) (.pair (.int .i64) (.list false 26 (.list false 3 (.int .i64)))))), .v (.list false 4 .bool)], [.v .bool], g8⟩
noncomputable def c8 : Cfg := ⟨58, tyT, [], [(18, p18), (21, p21), (32, p32), (33, p33), (34, p34), (35, p35), (36, p36), (37, p37)], [], [], []⟩
theorem F8_eq (n : Nat) (d) : absFn c8 n Try.f8 (body Try.f8) [.v (.str (.pair (.list false 38 (.str (.pair (.int .i64) (.pair (.int .i64) (.pair (.int .i64) (.list false 3 (.int .i64))))))) (.pair (.int .i64) (.list false 26 (.list false 3 (.int .i64)))))), .v (.list false 4 .bool)] [.v .bool] d = F8 n d.1 d.2.1 := by kernel_rfl
theorem d8 : drawOK c8 (body Try.f8) = true := by kernel_rfl
theorem h8 : GoodF Try.prog 8 p8 := fn_done mixed (cfg := c8) (cfg_ok tyT_ok (goodCons h18 (goodCons h21 (goodCons h32 (goodCons h33 (goodCons h34 (goodCons h35 (goodCons h36 (goodCons h37 goodNil)))))))) rfl (by kernel_rfl)) Try.func8 rfl rfl (by kernel_rfl) rfl (noLoops (by kernel_rfl)) d8 (fun d y h => ⟨fuel, (F8_eq fuel d).trans h⟩)
-- function 91
noncomputable def B91_2 (n : Nat) (L : ((List (List Int)) × ((List Int) → Option Bool) × Int × Int × Unit) × (Unit) × Unit → Option (((Int × Unit) × (Unit) × Unit) ⊕ ((Unit) × (Unit) × Unit))) (s_0 : List (List Int)) (f_1 : (List Int) → Option Bool) (t_7 : Int) (t_8 : Int) : Option (((Int × Unit) × (Unit) × Unit) ⊕ ((Unit) × (Unit) × Unit)) :=
  cond (decide (t_8 < t_7)) (getI s_0 t_8 fun e1 => derefK (f_1 e1) fun y2 => cond y2 (some (.inl ((t_8, ()), (), ()))) (L ((s_0, f_1, t_7, (IntKind.wrap .i64 (t_8 + 1)), ()), (), ()))) (some (.inr ((), (), ())))
noncomputable def L91_2 : Nat → ((List (List Int)) × ((List Int) → Option Bool) × Int × Int × Unit) × (Unit) × Unit → Option (((Int × Unit) × (Unit) × Unit) ⊕ ((Unit) × (Unit) × Unit))
  | 0, _ => none
  | n + 1, d => B91_2 n (L91_2 n) d.1.1 d.1.2.1 d.1.2.2.1 d.1.2.2.2.1
noncomputable def l91_2 : LoopI := ⟨⟨[(0, .v (.list false 26 (.list false 3 (.int .i64)))), (1, .v (.fn (.list false 3 (.int .i64)) .bool)), (7, .v (.int .i64)), (8, .v (.int .i64))], [], none⟩, [(.ret, ⟨[(4, .v (.int .i64))], [], none⟩), (.exit 0, ⟨[], [], none⟩)], L91_2⟩
noncomputable def F91 (n : Nat) (s_0 : (List (List Int))) (f_1 : ((List Int) → Option Bool)) : Option ((Int × Unit) × (Unit)) :=
  derefK (L91_2 n ((s_0, f_1, (s_0.length : Int), 0, ()), (), ())) fun o3 => sumK o3 (fun d4 => some ((d4.1.1, ()), ())) (fun d5 => some (((-1), ()), ()))
noncomputable def g91 (d : (List (List Int)) × ((List Int) → Option Bool) × Unit) : Option ((Int × Unit) × (Unit)) := F91 fuel d.1 d.2.1
noncomputable def p91 : Prim := ⟨[.v (.list false 26 (.list false 3 (.int .i64))), .v (.fn (.list false 3 (.int .i64)) .bool)], [.v (.int .i64)], g91⟩
noncomputable def c91 : Cfg := ⟨19, tyT, [], [], [(2, l91_2)], [], []⟩
theorem F91_eq (n : Nat) (d) : absFn c91 n Try.f91 (body Try.f91) [.v (.list false 26 (.list false 3 (.int .i64))), .v (.fn (.list false 3 (.int .i64)) .bool)] [.v (.int .i64)] d = F91 n d.1 d.2.1 := by kernel_rfl
theorem L91_2_eq (n : Nat) (d) : (l91_2).g (n + 1) d = run c91 n (nth 0 (loopsOf (body Try.f91))) ((l91_2).ins.fill d) (roundK (l91_2) n) := by kernel_rfl
theorem ls91 : loopsOf (body Try.f91) = [nth 0 (loopsOf (body Try.f91))] := by kernel_rfl
theorem d91 : drawOK c91 (body Try.f91) = true := by kernel_rfl
theorem h91 : GoodF Try.prog 91 p91 := fn_done mixed (cfg := c91) (cfg_ok tyT_ok (goodNil) rfl (by kernel_rfl)) Try.func91 rfl rfl (by kernel_rfl) rfl (by rw [ls91]; simp only [List.forall_mem_cons]; exact ⟨loopHas (key := 2) (li := l91_2) (by kernel_rfl) rfl (fun _ => rfl) (L91_2_eq), fun _ h => by cases h⟩) d91 (fun d y h => ⟨fuel, (F91_eq fuel d).trans h⟩)
-- function 71
noncomputable def F71 (n : Nat) (s_0 : (List (List Int))) (f_1 : ((List Int) → Option Bool)) : Option ((Bool × Unit) × (Unit)) :=
  derefK (g91 (s_0, f_1, ())) fun y1 => some (((decide (y1.1.1 ≥ 0)), ()), ())
noncomputable def g71 (d : (List (List Int)) × ((List Int) → Option Bool) × Unit) : Option ((Bool × Unit) × (Unit)) := F71 fuel d.1 d.2.1
noncomputable def p71 : Prim := ⟨[.v (.list false 26 (.list false 3 (.int .i64))), .v (.fn (.list false 3 (.int .i64)) .bool)], [.v .bool], g71⟩
noncomputable def c71 : Cfg := ⟨9, tyT, [], [(91, p91)], [], [], []⟩
theorem F71_eq (n : Nat) (d) : absFn c71 n Try.f71 (body Try.f71) [.v (.list false 26 (.list false 3 (.int .i64))), .v (.fn (.list false 3 (.int .i64)) .bool)] [.v .bool] d = F71 n d.1 d.2.1 := by kernel_rfl
theorem d71 : drawOK c71 (body Try.f71) = true := by kernel_rfl
theorem h71 : GoodF Try.prog 71 p71 := fn_done mixed (cfg := c71) (cfg_ok tyT_ok (goodCons h91 goodNil) rfl (by kernel_rfl)) Try.func71 rfl rfl (by kernel_rfl) rfl (noLoops (by kernel_rfl)) d71 (fun d y h => ⟨fuel, (F71_eq fuel d).trans h⟩)
-- function 72
noncomputable def F72 (n : Nat) (l_0 : (List Int)) : Option ((Bool × Unit) × (Unit)) :=
  some (((decide ((l_0.length : Int) > 100)), ()), ())
noncomputable def g72 (d : (List Int) × Unit) : Option ((Bool × Unit) × (Unit)) := F72 fuel d.1
noncomputable def p72 : Prim := ⟨[.v (.list false 3 (.int .i64))], [.v .bool], g72⟩
noncomputable def c72 : Cfg := ⟨6, tyT, [], [], [], [], []⟩
theorem F72_eq (n : Nat) (d) : absFn c72 n Try.f72 (body Try.f72) [.v (.list false 3 (.int .i64))] [.v .bool] d = F72 n d.1 := by kernel_rfl
theorem d72 : drawOK c72 (body Try.f72) = true := by kernel_rfl
theorem h72 : GoodF Try.prog 72 p72 := fn_done mixed (cfg := c72) (cfg_ok tyT_ok (goodNil) rfl (by kernel_rfl)) Try.func72 rfl rfl (by kernel_rfl) rfl (noLoops (by kernel_rfl)) d72 (fun d y h => ⟨fuel, (F72_eq fuel d).trans h⟩)
-- function 92
noncomputable def B92_2 (n : Nat) (L : ((List Int) × Int × Int × Int × Unit) × (Unit) × Unit → Option (((Int × Unit) × (Unit) × Unit) ⊕ ((Unit) × (Unit) × Unit))) (s_0 : List Int) (v_1 : Int) (t_7 : Int) (t_8 : Int) : Option (((Int × Unit) × (Unit) × Unit) ⊕ ((Unit) × (Unit) × Unit)) :=
  cond (decide (t_8 < t_7)) (getI s_0 t_8 fun e1 => cond (v_1 == e1) (some (.inl ((t_8, ()), (), ()))) (L ((s_0, v_1, t_7, (IntKind.wrap .i64 (t_8 + 1)), ()), (), ()))) (some (.inr ((), (), ())))
noncomputable def L92_2 : Nat → ((List Int) × Int × Int × Int × Unit) × (Unit) × Unit → Option (((Int × Unit) × (Unit) × Unit) ⊕ ((Unit) × (Unit) × Unit))
  | 0, _ => none
  | n + 1, d => B92_2 n (L92_2 n) d.1.1 d.1.2.1 d.1.2.2.1 d.1.2.2.2.1
noncomputable def l92_2 : LoopI := ⟨⟨[(0, .v (.list false 3 (.int .i64))), (1, .v (.int .i64)), (7, .v (.int .i64)), (8, .v (.int .i64))], [], none⟩, [(.ret, ⟨[(4, .v (.int .i64))], [], none⟩), (.exit 0, ⟨[], [], none⟩)], L92_2⟩
noncomputable def F92 (n : Nat) (s_0 : (List Int)) (v_1 : Int) : Option ((Int × Unit) × (Unit)) :=
  derefK (L92_2 n ((s_0, v_1, (s_0.length : Int), 0, ()), (), ())) fun o2 => sumK o2 (fun d3 => some ((d3.1.1, ()), ())) (fun d4 => some (((-1), ()), ()))
noncomputable def g92 (d : (List Int) × Int × Unit) : Option ((Int × Unit) × (Unit)) := F92 fuel d.1 d.2.1
noncomputable def p92 : Prim := ⟨[.v (.list false 3 (.int .i64)), .v (.int .i64)], [.v (.int .i64)], g92⟩
noncomputable def c92 : Cfg := ⟨19, tyT, [], [], [(2, l92_2)], [], []⟩
theorem F92_eq (n : Nat) (d) : absFn c92 n Try.f92 (body Try.f92) [.v (.list false 3 (.int .i64)), .v (.int .i64)] [.v (.int .i64)] d = F92 n d.1 d.2.1 := by kernel_rfl
theorem L92_2_eq (n : Nat) (d) : (l92_2).g (n + 1) d = run c92 n (nth 0 (loopsOf (body Try.f92))) ((l92_2).ins.fill d) (roundK (l92_2) n) := by kernel_rfl
theorem ls92 : loopsOf (body Try.f92) = [nth 0 (loopsOf (body Try.f92))] := by kernel_rfl
theorem d92 : drawOK c92 (body Try.f92) = true := by kernel_rfl
theorem h92 : GoodF Try.prog 92 p92 := fn_done mixed (cfg := c92) (cfg_ok tyT_ok (goodNil) rfl (by kernel_rfl)) Try.func92 rfl rfl (by kernel_rfl) rfl (by rw [ls92]; simp only [List.forall_mem_cons]; exact ⟨loopHas (key := 2) (li := l92_2) (by kernel_rfl) rfl (fun _ => rfl) (L92_2_eq), fun _ h => by cases h⟩) d92 (fun d y h => ⟨fuel, (F92_eq fuel d).trans h⟩)
-- function 75
noncomputable def F75 (n : Nat) (s_0 : (List Int)) (v_1 : Int) : Option ((Bool × Unit) × (Unit)) :=
  derefK (g92 (s_0, v_1, ())) fun y1 => some (((decide (y1.1.1 ≥ 0)), ()), ())
noncomputable def g75 (d : (List Int) × Int × Unit) : Option ((Bool × Unit) × (Unit)) := F75 fuel d.1 d.2.1
noncomputable def p75 : Prim := ⟨[.v (.list false 3 (.int .i64)), .v (.int .i64)], [.v .bool], g75⟩
noncomputable def c75 : Cfg := ⟨9, tyT, [], [(92, p92)], [], [], []⟩
theorem F75_eq (n : Nat) (d) : absFn c75 n Try.f75 (body Try.f75) [.v (.list false 3 (.int .i64)), .v (.int .i64)] [.v .bool] d = F75 n d.1 d.2.1 := by kernel_rfl
theorem d75 : drawOK c75 (body Try.f75) = true := by kernel_rfl
theorem h75 : GoodF Try.prog 75 p75 := fn_done mixed (cfg := c75) (cfg_ok tyT_ok (goodCons h92 goodNil) rfl (by kernel_rfl)) Try.func75 rfl rfl (by kernel_rfl) rfl (noLoops (by kernel_rfl)) d75 (fun d y h => ⟨fuel, (F75_eq fuel d).trans h⟩)
-- function 74
noncomputable def F74 (n : Nat) (l_0 : (List Int)) (t_1 : Int) : Option ((Bool × Unit) × (Unit)) :=
  derefK (g75 (l_0, t_1, ())) fun y1 => some ((y1.1.1, ()), ())
noncomputable def g74 (d : (List Int) × Int × Unit) : Option ((Bool × Unit) × (Unit)) := F74 fuel d.1 d.2.1
noncomputable def p74 : Prim := ⟨[.v (.list false 3 (.int .i64)), .r (.int .i64)], [.v .bool], g74⟩
noncomputable def c74 : Cfg := ⟨7, tyT, [], [(75, p75)], [], [], []⟩
theorem F74_eq (n : Nat) (d) : absFn c74 n Try.f74 (body Try.f74) [.v (.list false 3 (.int .i64)), .r (.int .i64)] [.v .bool] d = F74 n d.1 d.2.1 := by kernel_rfl
theorem d74 : drawOK c74 (body Try.f74) = true := by kernel_rfl
theorem h74 : GoodF Try.prog 74 p74 := fn_done mixed (cfg := c74) (cfg_ok tyT_ok (goodCons h75 goodNil) rfl (by kernel_rfl)) Try.func74 rfl rfl (by kernel_rfl) rfl (noLoops (by kernel_rfl)) d74 (fun d y h => ⟨fuel, (F74_eq fuel d).trans h⟩)
-- function 73
noncomputable def F73 (n : Nat) (p_0 : Int) (t_1 : (List (List Int))) : Option ((Bool × Unit) × (Unit)) :=
  derefK (g71 (t_1, (fun v1 => derefK (g74 (v1, p_0, ())) fun y2 => some y2.1.1), ())) fun y3 => some (((!y3.1.1), ()), ())
noncomputable def g73 (d : Int × (List (List Int)) × Unit) : Option ((Bool × Unit) × (Unit)) := F73 fuel d.1 d.2.1
noncomputable def p73 : Prim := ⟨[.v (.int .i64), .r (.list false 26 (.list false 3 (.int .i64)))], [.v .bool], g73⟩
noncomputable def c73 : Cfg := ⟨8, tyT, [], [(71, p71), (74, p74)], [], [], []⟩
theorem F73_eq (n : Nat) (d) : absFn c73 n Try.f73 (body Try.f73) [.v (.int .i64), .r (.list false 26 (.list false 3 (.int .i64)))] [.v .bool] d = F73 n d.1 d.2.1 := by kernel_rfl
theorem d73 : drawOK c73 (body Try.f73) = true := by kernel_rfl
theorem h73 : GoodF Try.prog 73 p73 := fn_done mixed (cfg := c73) (cfg_ok tyT_ok (goodCons h71 (goodCons h74 goodNil)) rfl (by kernel_rfl)) Try.func73 rfl rfl (by kernel_rfl) rfl (noLoops (by kernel_rfl)) d73 (fun d y h => ⟨fuel, (F73_eq fuel d).trans h⟩)
-- function 76
noncomputable def B76_4 (n : Nat) (L : ((List Int) × (List Int) × Int × Int × Unit) × (Unit) × Unit → Option (((Bool × Unit) × (Unit) × Unit) ⊕ ((Unit) × (Unit) × Unit))) (s1_0 : List Int) (s2_1 : List Int) (t_12 : Int) (t_13 : Int) : Option (((Bool × Unit) × (Unit) × Unit) ⊕ ((Unit) × (Unit) × Unit)) :=
  cond (decide (t_13 < t_12)) (getI s1_0 t_13 fun e1 => getI s2_1 t_13 fun e2 => cond (e1 != e2) (some (.inl ((false, ()), (), ()))) (L ((s1_0, s2_1, t_12, (IntKind.wrap .i64 (t_13 + 1)), ()), (), ()))) (some (.inr ((), (), ())))
noncomputable def L76_4 : Nat → ((List Int) × (List Int) × Int × Int × Unit) × (Unit) × Unit → Option (((Bool × Unit) × (Unit) × Unit) ⊕ ((Unit) × (Unit) × Unit))
  | 0, _ => none
  | n + 1, d => B76_4 n (L76_4 n) d.1.1 d.1.2.1 d.1.2.2.1 d.1.2.2.2.1
noncomputable def l76_4 : LoopI := ⟨⟨[(0, .v (.list false 3 (.int .i64))), (1, .v (.list false 3 (.int .i64))), (12, .v (.int .i64)), (13, .v (.int .i64))], [], none⟩, [(.ret, ⟨[(4, .v .bool)], [], none⟩), (.exit 0, ⟨[], [], none⟩)], L76_4⟩
noncomputable def F76 (n : Nat) (s1_0 : (List Int)) (s2_1 : (List Int)) : Option ((Bool × Unit) × (Unit)) :=
  cond ((s1_0.length : Int) != (s2_1.length : Int)) (some ((false, ()), ())) (derefK (L76_4 n ((s1_0, s2_1, (s1_0.length : Int), 0, ()), (), ())) fun o3 => sumK o3 (fun d4 => some ((d4.1.1, ()), ())) (fun d5 => some ((true, ()), ())))
noncomputable def g76 (d : (List Int) × (List Int) × Unit) : Option ((Bool × Unit) × (Unit)) := F76 fuel d.1 d.2.1
noncomputable def p76 : Prim := ⟨[.v (.list false 3 (.int .i64)), .v (.list false 3 (.int .i64))], [.v .bool], g76⟩
noncomputable def c76 : Cfg := ⟨26, tyT, [], [], [(4, l76_4)], [], []⟩
theorem F76_eq (n : Nat) (d) : absFn c76 n Try.f76 (body Try.f76) [.v (.list false 3 (.int .i64)), .v (.list false 3 (.int .i64))] [.v .bool] d = F76 n d.1 d.2.1 := by kernel_rfl
theorem L76_4_eq (n : Nat) (d) : (l76_4).g (n + 1) d = run c76 n (nth 0 (loopsOf (body Try.f76))) ((l76_4).ins.fill d) (roundK (l76_4) n) := by kernel_rfl
theorem ls76 : loopsOf (body Try.f76) = [nth 0 (loopsOf (body Try.f76))] := by kernel_rfl
theorem d76 : drawOK c76 (body Try.f76) = true := by kernel_rfl
theorem h76 : GoodF Try.prog 76 p76 := fn_done mixed (cfg := c76) (cfg_ok tyT_ok (goodNil) rfl (by kernel_rfl)) Try.func76 rfl rfl (by kernel_rfl) rfl (by rw [ls76]; simp only [List.forall_mem_cons]; exact ⟨loopHas (key := 4) (li := l76_4) (by kernel_rfl) rfl (fun _ => rfl) (L76_4_eq), fun _ h => by cases h⟩) d76 (fun d y h => ⟨fuel, (F76_eq fuel d).trans h⟩)
-- function 38
noncomputable def B38_8 (n : Nat) (L : ((List (List Int)) × Int × Int × Unit) × (((List (Int × (Int × (Int × (List Int))))) × (Int × (List (List Int)))) × (List Int) × (List Int) × Unit) × Unit → Option (((Unit) × ((List Int) × (List Int) × Unit) × Unit))) (t_31 : List (List Int)) (t_32 : Int) (t_33 : Int) (o_2 : (List (Int × (Int × (Int × (List Int))))) × (Int × (List (List Int)))) (o_5 : List Int) (o_31000 : List Int) : Option (((Unit) × ((List Int) × (List Int) × Unit) × Unit)) :=
  cond (decide (t_33 < t_32)) (getI t_31 t_33 fun e9 => getI o_2.2.2 t_33 fun e10 => derefK (g76 (e9, e10, ())) fun y11 => cond (!y11.1.1) (lenK ((o_5.length : Int) + [t_33].length) (L ((t_31, t_32, (IntKind.wrap .i64 (t_33 + 1)), ()), (o_2, (o_5 ++ [t_33]), o_31000, ()), ()))) (L ((t_31, t_32, (IntKind.wrap .i64 (t_33 + 1)), ()), (o_2, o_5, o_31000, ()), ()))) (some ((), (o_5, o_31000, ()), ()))
noncomputable def L38_8 : Nat → ((List (List Int)) × Int × Int × Unit) × (((List (Int × (Int × (Int × (List Int))))) × (Int × (List (List Int)))) × (List Int) × (List Int) × Unit) × Unit → Option (((Unit) × ((List Int) × (List Int) × Unit) × Unit))
  | 0, _ => none
  | n + 1, d => B38_8 n (L38_8 n) d.1.1 d.1.2.1 d.1.2.2.1 d.2.1.1 d.2.1.2.1 d.2.1.2.2.1
noncomputable def l38_8 : LoopI := ⟨⟨[(2, .c (.ptr 2 [])), (4, .c (.view 31000 [])), (5, .c (.view 5 [])), (31, .v (.list false 26 (.list false 3 (.int .i64)))), (32, .v (.int .i64)), (33, .v (.int .i64))], [(2, false, .str (.pair (.list false 38 (.str (.pair (.int .i64) (.pair (.int .i64) (.pair (.int .i64) (.list false 3 (.int .i64))))))) (.pair (.int .i64) (.list false 26 (.list false 3 (.int .i64)))))), (5, true, .list true 3 (.int .i64)), (31000, true, .list true 3 (.int .i64))], none⟩, [(.exit 0, ⟨[(4, .c (.view 31000 [])), (5, .c (.view 5 []))], [(5, true, .list true 3 (.int .i64)), (31000, true, .list true 3 (.int .i64))], none⟩)], L38_8⟩
noncomputable def F38 (n : Nat) (k_0 : ((List (Int × (Int × (Int × (List Int))))) × (Int × (List (List Int))))) (seen_1 : (List (List Int))) : Option (((List Int) × (List Int) × Int × Unit) × (Unit)) :=
  derefK (g48 (k_0, ())) fun y1 => cond (!y1.1.2.1) (some ((([] : List Int), ([] : List Int), 80, ()), ())) (cond ((seen_1.length : Int) != (k_0.2.2.length : Int)) (some ((([] : List Int), ([] : List Int), 1, ()), ())) (derefK (g71 (seen_1, (fun v2 => derefK (g72 (v2, ())) fun y3 => some y3.1.1), ())) fun y4 => cond y4.1.1 (some ((([] : List Int), ([] : List Int), 1, ()), ())) (derefK y1.1.1 fun q5 => derefK (g51 (q5, (fun v6 => derefK (g73 (v6, seen_1, ())) fun y7 => some y7.1.1), ())) fun y8 => derefK (L38_8 n ((seen_1, (seen_1.length : Int), 0, ()), (k_0, ([] : List Int), y8.1.1, ()), ())) fun o12 => some ((o12.2.1.2.1, o12.2.1.1, 0, ()), ()))))
noncomputable def g38 (d : ((List (Int × (Int × (Int × (List Int))))) × (Int × (List (List Int)))) × (List (List Int)) × Unit) : Option (((List Int) × (List Int) × Int × Unit) × (Unit)) := F38 fuel d.1 d.2.1
noncomputable def p38 : Prim := ⟨[.v (.str (.pair (.list false 38 (.str (.pair (.int .i64) (.pair (.int .i64) (.pair (.int .i64) (.list false 3 (.int .i64))))))) (.pair (.int .i64) (.list false 26 (.list false 3 (.int .i64)))))), .v (.list false 26 (.list false 3 (.int .i64)))], [.own 3 (.int .i64), .own 3 (.int .i64), .v (.int .i64)], g38⟩
noncomputable def c38 : Cfg := ⟨53, tyT, [], [(48, p48), (51, p51), (71, p71), (72, p72), (73, p73), (76, p76)], [(8, l38_8)], [], []⟩
theorem F38_eq (n : Nat) (d) : absFn c38 n Try.f38 (body Try.f38) [.v (.str (.pair (.list false 38 (.str (.pair (.int .i64) (.pair (.int .i64) (.pair (.int .i64) (.list false 3 (.int .i64))))))) (.pair (.int .i64) (.list false 26 (.list false 3 (.int .i64)))))), .v (.list false 26 (.list false 3 (.int .i64)))] [.own 3 (.int .i64), .own 3 (.int .i64), .v (.int .i64)] d = F38 n d.1 d.2.1 := by kernel_rfl
theorem L38_8_eq (n : Nat) (d) : (l38_8).g (n + 1) d = run c38 n (nth 0 (loopsOf (body Try.f38))) ((l38_8).ins.fill d) (roundK (l38_8) n) := by kernel_rfl
theorem ls38 : loopsOf (body Try.f38) = [nth 0 (loopsOf (body Try.f38))] := by kernel_rfl
theorem d38 : drawOK c38 (body Try.f38) = true := by kernel_rfl
theorem h38 : GoodF Try.prog 38 p38 := fn_done mixed (cfg := c38) (cfg_ok tyT_ok (goodCons h48 (goodCons h51 (goodCons h71 (goodCons h72 (goodCons h73 (goodCons h76 goodNil)))))) rfl (by kernel_rfl)) Try.func38 rfl rfl (by kernel_rfl) rfl (by rw [ls38]; simp only [List.forall_mem_cons]; exact ⟨loopHas (key := 8) (li := l38_8) (by kernel_rfl) rfl (fun _ => rfl) (L38_8_eq), fun _ h => by cases h⟩) d38 (fun d y h => ⟨fuel, (F38_eq fuel d).trans h⟩)
-- function 77
noncomputable def B77_4 (n : Nat) (L : ((List Int) × (List Int) × Int × Unit) × (Unit) × Unit → Option (((Bool × Unit) × (Unit) × Unit) ⊕ ((Unit) × (Unit) × Unit))) (a_0 : List Int) (b_1 : List Int) (i_5 : Int) : Option (((Bool × Unit) × (Unit) × Unit) ⊕ ((Unit) × (Unit) × Unit)) :=
  cond (decide (i_5 < (a_0.length : Int))) (getI a_0 i_5 fun e1 => getI b_1 i_5 fun e2 => cond (e1 != e2) (some (.inl ((false, ()), (), ()))) (L ((a_0, b_1, (IntKind.wrap .i64 (i_5 + 1)), ()), (), ()))) (some (.inr ((), (), ())))
noncomputable def L77_4 : Nat → ((List Int) × (List Int) × Int × Unit) × (Unit) × Unit → Option (((Bool × Unit) × (Unit) × Unit) ⊕ ((Unit) × (Unit) × Unit))
  | 0, _ => none
  | n + 1, d => B77_4 n (L77_4 n) d.1.1 d.1.2.1 d.1.2.2.1
noncomputable def l77_4 : LoopI := ⟨⟨[(0, .v (.list false 3 (.int .i64))), (1, .v (.list false 3 (.int .i64))), (5, .v (.int .i64))], [], none⟩, [(.ret, ⟨[(4, .v .bool)], [], none⟩), (.exit 0, ⟨[], [], none⟩)], L77_4⟩
noncomputable def F77 (n : Nat) (a_0 : (List Int)) (b_1 : (List Int)) : Option ((Bool × Unit) × (Unit)) :=
  cond ((a_0.length : Int) != (b_1.length : Int)) (some ((false, ()), ())) (derefK (L77_4 n ((a_0, b_1, 0, ()), (), ())) fun o3 => sumK o3 (fun d4 => some ((d4.1.1, ()), ())) (fun d5 => some ((true, ()), ())))
noncomputable def g77 (d : (List Int) × (List Int) × Unit) : Option ((Bool × Unit) × (Unit)) := F77 fuel d.1 d.2.1
noncomputable def p77 : Prim := ⟨[.v (.list false 3 (.int .i64)), .v (.list false 3 (.int .i64))], [.v .bool], g77⟩
noncomputable def c77 : Cfg := ⟨26, tyT, [], [], [(4, l77_4)], [], []⟩
theorem F77_eq (n : Nat) (d) : absFn c77 n Try.f77 (body Try.f77) [.v (.list false 3 (.int .i64)), .v (.list false 3 (.int .i64))] [.v .bool] d = F77 n d.1 d.2.1 := by kernel_rfl
theorem L77_4_eq (n : Nat) (d) : (l77_4).g (n + 1) d = run c77 n (nth 0 (loopsOf (body Try.f77))) ((l77_4).ins.fill d) (roundK (l77_4) n) := by kernel_rfl
theorem ls77 : loopsOf (body Try.f77) = [nth 0 (loopsOf (body Try.f77))] := by kernel_rfl
theorem d77 : drawOK c77 (body Try.f77) = true := by kernel_rfl
theorem h77 : GoodF Try.prog 77 p77 := fn_done mixed (cfg := c77) (cfg_ok tyT_ok (goodNil) rfl (by kernel_rfl)) Try.func77 rfl rfl (by kernel_rfl) rfl (by rw [ls77]; simp only [List.forall_mem_cons]; exact ⟨loopHas (key := 4) (li := l77_4) (by kernel_rfl) rfl (fun _ => rfl) (L77_4_eq), fun _ h => by cases h⟩) d77 (fun d y h => ⟨fuel, (F77_eq fuel d).trans h⟩)
end Go.Proofs.Try.V
