/- The contracts of functions of the program, printed by program from the interpreter: each says what a call returns. No condition beyond those typed in each theorem. -/
import Derived.Test.YtjhphibadndkcaaFn2
namespace Go.Proofs.Try.V
open Go.Vi
set_option maxRecDepth 100000
-- function 29
noncomputable def F29 (_n : Nat) (k_0 : zTb) (l_1 : (List (Int × Int))) : Option ((Int × Int × Unit) × (Unit)) :=
  derefK (g33 (k_0, ())) fun y1 => cond (y1.1.1 != 0) (some ((0, y1.1.1, ()), ())) (cond (decide ((l_1.length : Int) > 300)) (some ((0, 2, ()), ())) (derefK (g62 (k_0, l_1, ())) fun y2 => cond (decide (y2.1.1 ≥ 0)) (some ((y2.1.1, 81, ()), ())) (some ((0, 0, ()), ()))))
noncomputable def g29 (d : zTb × (List (Int × Int)) × Unit) : Option ((Int × Int × Unit) × (Unit)) := F29 fuel d.1 d.2.1
noncomputable def p29 : Prim := ⟨[.v (.str zTa), .v zTh], [.v (.int .i64), .v (.int .i64)], g29⟩
noncomputable def c29 : Cfg := ⟨28, tyT, [], [(33, p33), (62, p62)], [], [], [], [], [], [], [], [], [], []⟩
theorem F29_eq (n : Nat) (d) : absFn c29 n Try.f29 (body Try.f29) [.v (.str zTa), .v zTh] [.v (.int .i64), .v (.int .i64)] d = F29 n d.1 d.2.1 := by kernel_rfl
theorem d29 : drawOK c29 (body Try.f29) = true := by kernel_rfl
theorem h29 : GoodF Try.prog 29 p29 := fn_done mixed (cfg := c29) (cfg_ok tyT_ok (goodCons h33 (goodCons h62 goodNil)) rfl (by kernel_rfl)) Try.func29 rfl rfl (by kernel_rfl) rfl (noLoops (by kernel_rfl)) d29 (fun d y h => ⟨fuel, (F29_eq fuel d).trans h⟩)
-- function 64
noncomputable def F64 (_n : Nat) (n_0 : Int) : Option ((Bool × Unit) × (Unit)) :=
  some (((decide (n_0 > 0)), ()), ())
noncomputable def g64 (d : Int × Unit) : Option ((Bool × Unit) × (Unit)) := F64 fuel d.1
noncomputable def p64 : Prim := ⟨[.v (.int .i64)], [.v .bool], g64⟩
noncomputable def c64 : Cfg := ⟨5, tyT, [], [], [], [], [], [], [], [], [], [], [], []⟩
theorem F64_eq (n : Nat) (d) : absFn c64 n Try.f64 (body Try.f64) [.v (.int .i64)] [.v .bool] d = F64 n d.1 := by kernel_rfl
theorem d64 : drawOK c64 (body Try.f64) = true := by kernel_rfl
theorem h64 : GoodF Try.prog 64 p64 := fn_done mixed (cfg := c64) (cfg_ok tyT_ok (goodNil) rfl (by kernel_rfl)) Try.func64 rfl rfl (by kernel_rfl) rfl (noLoops (by kernel_rfl)) d64 (fun d y h => ⟨fuel, (F64_eq fuel d).trans h⟩)
-- function 30
noncomputable def F30 (_n : Nat) (k_0 : zTb) (l_1 : (List (Int × Int))) : Option ((Bool × (List Int) × Int × Unit) × (Unit)) :=
  derefK (g61 (k_0, l_1, ())) fun y1 => cond (y1.1.2.2.2.1 != 0) (some ((false, ([] : List Int), y1.1.2.2.2.1, ()), ())) (derefK (g55 (y1.1.1, false, ())) fun y2 => cond (!y2.1.1) (derefK (g63 (y1.1.2.1, (fun v3 => derefK (g64 (v3, ())) fun y4 => some y4.1.1), ())) fun y5 => some (((!y5.1.1), y1.1.2.1, 0, ()), ())) (some ((false, y1.1.2.1, 0, ()), ())))
noncomputable def g30 (d : zTb × (List (Int × Int)) × Unit) : Option ((Bool × (List Int) × Int × Unit) × (Unit)) := F30 fuel d.1 d.2.1
noncomputable def p30 : Prim := ⟨[.v (.str zTa), .v zTh], [.v .bool, .v (.list false 3 (.int .i64)), .v (.int .i64)], g30⟩
noncomputable def c30 : Cfg := ⟨31, tyT, [], [(55, p55), (61, p61), (63, p63), (64, p64)], [], [], [], [], [], [], [], [], [], []⟩
theorem F30_eq (n : Nat) (d) : absFn c30 n Try.f30 (body Try.f30) [.v (.str zTa), .v zTh] [.v .bool, .v (.list false 3 (.int .i64)), .v (.int .i64)] d = F30 n d.1 d.2.1 := by kernel_rfl
theorem d30 : drawOK c30 (body Try.f30) = true := by kernel_rfl
theorem h30 : GoodF Try.prog 30 p30 := fn_done mixed (cfg := c30) (cfg_ok tyT_ok (goodCons h55 (goodCons h61 (goodCons h63 (goodCons h64 goodNil)))) rfl (by kernel_rfl)) Try.func30 rfl rfl (by kernel_rfl) rfl (noLoops (by kernel_rfl)) d30 (fun d y h => ⟨fuel, (F30_eq fuel d).trans h⟩)
-- function 31
noncomputable def B31_7 (_n : Nat) (L : (Bool × Int × Unit) × ((List Bool) × (List Int) × Unit) × Unit → Option (((Bool × Unit) × ((List Int) × Unit) × Unit))) (is_12 : Bool) (p_13 : Int) (o_27001 : List Bool) (o_27002 : List Int) : Option (((Bool × Unit) × ((List Int) × Unit) × Unit)) :=
  cond (decide (p_13 < (o_27001.length : Int))) (cond is_12 (inR p_13 o_27001.length (getI o_27001 p_13 fun e3 => cond e3 (inR p_13 o_27002.length (getI o_27002 p_13 fun e4 => L (((e4 == 0), (IntKind.wrap .i64 (p_13 + 1)), ()), (o_27001, o_27002, ()), ()))) (L ((false, (IntKind.wrap .i64 (p_13 + 1)), ()), (o_27001, o_27002, ()), ())))) (L ((false, (IntKind.wrap .i64 (p_13 + 1)), ()), (o_27001, o_27002, ()), ()))) (some ((is_12, ()), (o_27002, ()), ()))
noncomputable def L31_7 : Nat → (Bool × Int × Unit) × ((List Bool) × (List Int) × Unit) × Unit → Option (((Bool × Unit) × ((List Int) × Unit) × Unit))
  | 0, _ => none
  | n + 1, d => B31_7 n (L31_7 n) d.1.1 d.1.2.1 d.2.1.1 d.2.1.2.1
noncomputable def l31_7 : LoopI := ⟨⟨[(10, .c (.view 27001 [])), (11, .c (.view 27002 [])), (12, .v .bool), (13, .v (.int .i64))], [(27001, true, .list true 4 .bool), (27002, true, .list true 3 (.int .i64))], none⟩, [(.exit 0, ⟨[(11, .c (.view 27002 [])), (12, .v .bool)], [(27002, true, .list true 3 (.int .i64))], none⟩)], L31_7⟩
noncomputable def F31 (n : Nat) (k_0 : zTb) (l_1 : (List (Int × Int))) : Option ((Bool × (List Int) × Int × Unit) × (Unit)) :=
  derefK (g29 (k_0, l_1, ())) fun y1 => cond (y1.1.2.1 != 0) (some ((false, ([] : List Int), y1.1.2.1, ()), ())) (derefK (g62 (k_0, l_1, ())) fun y2 => derefK (L31_7 n ((true, 0, ()), (y2.1.2.1, y2.1.2.2.1, ()), ())) fun o5 => some ((o5.1.1, o5.2.1.1, 0, ()), ()))
noncomputable def g31 (d : zTb × (List (Int × Int)) × Unit) : Option ((Bool × (List Int) × Int × Unit) × (Unit)) := F31 fuel d.1 d.2.1
noncomputable def p31 : Prim := ⟨[.v (.str zTa), .v zTh], [.v .bool, .own 3 (.int .i64), .v (.int .i64)], g31⟩
noncomputable def c31 : Cfg := ⟨52, tyT, [], [(29, p29), (62, p62)], [(7, l31_7)], [], [], [], [], [], [], [], [], []⟩
theorem F31_eq (n : Nat) (d) : absFn c31 n Try.f31 (body Try.f31) [.v (.str zTa), .v zTh] [.v .bool, .own 3 (.int .i64), .v (.int .i64)] d = F31 n d.1 d.2.1 := by kernel_rfl
theorem L31_7_eq (n : Nat) (d) : (l31_7).g (n + 1) d = run c31 n (nth 0 (loopsOf (body Try.f31))) ((l31_7).ins.fill d) (roundK (l31_7) n) := by kernel_rfl
theorem ls31 : loopsOf (body Try.f31) = [nth 0 (loopsOf (body Try.f31))] := by kernel_rfl
theorem d31 : drawOK c31 (body Try.f31) = true := by kernel_rfl
theorem h31 : GoodF Try.prog 31 p31 := fn_done mixed (cfg := c31) (cfg_ok tyT_ok (goodCons h29 (goodCons h62 goodNil)) rfl (by kernel_rfl)) Try.func31 rfl rfl (by kernel_rfl) rfl (by rw [ls31]; simp only [List.forall_mem_cons]; exact ⟨loopHas (key := 7) (li := l31_7) (by kernel_rfl) rfl (fun _ => rfl) (L31_7_eq), fun _ h => by cases h⟩) d31 (fun d y h => ⟨fuel, (F31_eq fuel d).trans h⟩)
-- function 7
noncomputable def F7 (_n : Nat) (k_0 : zTb) (l_1 : (List (Int × Int))) : Option ((Bool × Unit) × (Unit)) :=
  derefK (g28 (k_0, l_1, ())) fun y1 => derefK (g29 (k_0, l_1, ())) fun y2 => cond (y1.1.1 != y2.1.1) (some ((false, ()), ())) (cond (y1.1.2.1 != y2.1.2.1) (some ((false, ()), ())) (derefK (g30 (k_0, l_1, ())) fun y3 => derefK (g31 (k_0, l_1, ())) fun y4 => cond (y3.1.1 == y4.1.1) (cond (y3.1.2.2.1 == y4.1.2.2.1) (derefK (g18 (y3.1.2.1, y4.1.2.1, ())) fun y5 => cond y5.1.1 (derefK (g21 ()) fun y6 => some ((y6.1.1, ()), ())) (some ((false, ()), ()))) (some ((false, ()), ()))) (some ((false, ()), ()))))
noncomputable def g7 (d : zTb × (List (Int × Int)) × Unit) : Option ((Bool × Unit) × (Unit)) := F7 fuel d.1 d.2.1
noncomputable def p7 : Prim := ⟨[.v (.str zTa), .v zTh], [.v .bool], g7⟩
noncomputable def c7 : Cfg := ⟨63, tyT, [], [(18, p18), (21, p21), (28, p28), (29, p29), (30, p30), (31, p31)], [], [], [], [], [], [], [], [], [], []⟩
theorem F7_eq (n : Nat) (d) : absFn c7 n Try.f7 (body Try.f7) [.v (.str zTa), .v zTh] [.v .bool] d = F7 n d.1 d.2.1 := by kernel_rfl
theorem d7 : drawOK c7 (body Try.f7) = true := by kernel_rfl
theorem h7 : GoodF Try.prog 7 p7 := fn_done mixed (cfg := c7) (cfg_ok tyT_ok (goodCons h18 (goodCons h21 (goodCons h28 (goodCons h29 (goodCons h30 (goodCons h31 goodNil)))))) rfl (by kernel_rfl)) Try.func7 rfl rfl (by kernel_rfl) rfl (noLoops (by kernel_rfl)) d7 (fun d y h => ⟨fuel, (F7_eq fuel d).trans h⟩)
-- function 32
noncomputable def F32 (_n : Nat) (k_0 : zTb) : Option ((Int × Unit) × (Unit)) :=
  derefK (g48 (k_0, ())) fun y1 => cond (!y1.1.2.1) (some ((80, ()), ())) (some ((0, ()), ()))
noncomputable def g32 (d : zTb × Unit) : Option ((Int × Unit) × (Unit)) := F32 fuel d.1
noncomputable def p32 : Prim := ⟨[.v (.str zTa)], [.v (.int .i64)], g32⟩
noncomputable def c32 : Cfg := ⟨12, tyT, [], [(48, p48)], [], [], [], [], [], [], [], [], [], []⟩
theorem F32_eq (n : Nat) (d) : absFn c32 n Try.f32 (body Try.f32) [.v (.str zTa)] [.v (.int .i64)] d = F32 n d.1 := by kernel_rfl
theorem d32 : drawOK c32 (body Try.f32) = true := by kernel_rfl
theorem h32 : GoodF Try.prog 32 p32 := fn_done mixed (cfg := c32) (cfg_ok tyT_ok (goodCons h48 goodNil) rfl (by kernel_rfl)) Try.func32 rfl rfl (by kernel_rfl) rfl (noLoops (by kernel_rfl)) d32 (fun d y h => ⟨fuel, (F32_eq fuel d).trans h⟩)
-- function 65
noncomputable def F65 (_n : Nat) (k_0 : zTb) (s_1 : (List Bool)) : Option (((Option zTe) × Int × Unit) × (Unit)) :=
  derefK (g48 (k_0, ())) fun y1 => cond (!y1.1.2.1) (some ((none, 80, ()), ())) (cond ((s_1.length : Int) != (k_0.1.length : Int)) (some ((none, 1, ()), ())) (some ((y1.1.1, 0, ()), ())))
noncomputable def g65 (d : zTb × (List Bool) × Unit) : Option (((Option zTe) × Int × Unit) × (Unit)) := F65 fuel d.1 d.2.1
noncomputable def p65 : Prim := ⟨[.v (.str zTa), .v (.list false 4 .bool)], [.v (.ptr (.str (.pair (.str zTa) (.pair zTc zTc)))), .v (.int .i64)], g65⟩
noncomputable def c65 : Cfg := ⟨24, tyT, [], [(48, p48)], [], [], [], [], [], [], [], [], [], []⟩
theorem F65_eq (n : Nat) (d) : absFn c65 n Try.f65 (body Try.f65) [.v (.str zTa), .v (.list false 4 .bool)] [.v (.ptr (.str (.pair (.str zTa) (.pair zTc zTc)))), .v (.int .i64)] d = F65 n d.1 d.2.1 := by kernel_rfl
theorem d65 : drawOK c65 (body Try.f65) = true := by kernel_rfl
theorem h65 : GoodF Try.prog 65 p65 := fn_done mixed (cfg := c65) (cfg_ok tyT_ok (goodCons h48 goodNil) rfl (by kernel_rfl)) Try.func65 rfl rfl (by kernel_rfl) rfl (noLoops (by kernel_rfl)) d65 (fun d y h => ⟨fuel, (F65_eq fuel d).trans h⟩)
-- function 66
noncomputable def F66 (_n : Nat) (p_0 : Int) (t_1 : (Option zTe)) (t_2 : (List Bool)) : Option ((Bool × Unit) × (Unit)) :=
  derefK t_1 fun q1 => derefK (g56 (q1, t_2, p_0, ())) fun y2 => some ((y2.1.1, ()), ())
noncomputable def g66 (d : Int × (Option zTe) × (List Bool) × Unit) : Option ((Bool × Unit) × (Unit)) := F66 fuel d.1 d.2.1 d.2.2.1
noncomputable def p66 : Prim := ⟨[.v (.int .i64), .r (.ptr (.str (.pair (.str zTa) (.pair zTc zTc)))), .r (.list false 4 .bool)], [.v .bool], g66⟩
noncomputable def c66 : Cfg := ⟨9, tyT, [], [(56, p56)], [], [], [], [], [], [], [], [], [], []⟩
theorem F66_eq (n : Nat) (d) : absFn c66 n Try.f66 (body Try.f66) [.v (.int .i64), .r (.ptr (.str (.pair (.str zTa) (.pair zTc zTc)))), .r (.list false 4 .bool)] [.v .bool] d = F66 n d.1 d.2.1 d.2.2.1 := by kernel_rfl
theorem d66 : drawOK c66 (body Try.f66) = true := by kernel_rfl
theorem h66 : GoodF Try.prog 66 p66 := fn_done mixed (cfg := c66) (cfg_ok tyT_ok (goodCons h56 goodNil) rfl (by kernel_rfl)) Try.func66 rfl rfl (by kernel_rfl) rfl (noLoops (by kernel_rfl)) d66 (fun d y h => ⟨fuel, (F66_eq fuel d).trans h⟩)
-- function 34
noncomputable def F34 (_n : Nat) (k_0 : zTb) (stands_1 : (List Bool)) : Option (((List Int) × Int × Unit) × (Unit)) :=
  derefK (g65 (k_0, stands_1, ())) fun y1 => cond (y1.1.2.1 != 0) (some ((([] : List Int), y1.1.2.1, ()), ())) (derefK y1.1.1 fun q2 => derefK (g51 (q2, (fun v3 => derefK (g66 (v3, y1.1.1, stands_1, ())) fun y4 => some y4.1.1), ())) fun y5 => some ((y5.1.1, 0, ()), ()))
noncomputable def g34 (d : zTb × (List Bool) × Unit) : Option (((List Int) × Int × Unit) × (Unit)) := F34 fuel d.1 d.2.1
noncomputable def p34 : Prim := ⟨[.v (.str zTa), .v (.list false 4 .bool)], [.own 3 (.int .i64), .v (.int .i64)], g34⟩
noncomputable def c34 : Cfg := ⟨20, tyT, [], [(51, p51), (65, p65), (66, p66)], [], [], [], [], [], [], [], [], [], []⟩
theorem F34_eq (n : Nat) (d) : absFn c34 n Try.f34 (body Try.f34) [.v (.str zTa), .v (.list false 4 .bool)] [.own 3 (.int .i64), .v (.int .i64)] d = F34 n d.1 d.2.1 := by kernel_rfl
theorem d34 : drawOK c34 (body Try.f34) = true := by kernel_rfl
theorem h34 : GoodF Try.prog 34 p34 := fn_done mixed (cfg := c34) (cfg_ok tyT_ok (goodCons h51 (goodCons h65 (goodCons h66 goodNil))) rfl (by kernel_rfl)) Try.func34 rfl rfl (by kernel_rfl) rfl (noLoops (by kernel_rfl)) d34 (fun d y h => ⟨fuel, (F34_eq fuel d).trans h⟩)
-- function 67
noncomputable def F67 (_n : Nat) (k_0 : zTb) (stands_1 : (List Bool)) : Option ((Int × Unit) × (Unit)) :=
  derefK (g33 (k_0, ())) fun y1 => cond (y1.1.1 != 0) (some ((y1.1.1, ()), ())) (cond ((stands_1.length : Int) != (k_0.1.length : Int)) (some ((1, ()), ())) (some ((0, ()), ())))
noncomputable def g67 (d : zTb × (List Bool) × Unit) : Option ((Int × Unit) × (Unit)) := F67 fuel d.1 d.2.1
noncomputable def p67 : Prim := ⟨[.v (.str zTa), .v (.list false 4 .bool)], [.v (.int .i64)], g67⟩
noncomputable def c67 : Cfg := ⟨17, tyT, [], [(33, p33)], [], [], [], [], [], [], [], [], [], []⟩
theorem F67_eq (n : Nat) (d) : absFn c67 n Try.f67 (body Try.f67) [.v (.str zTa), .v (.list false 4 .bool)] [.v (.int .i64)] d = F67 n d.1 d.2.1 := by kernel_rfl
theorem d67 : drawOK c67 (body Try.f67) = true := by kernel_rfl
theorem h67 : GoodF Try.prog 67 p67 := fn_done mixed (cfg := c67) (cfg_ok tyT_ok (goodCons h33 goodNil) rfl (by kernel_rfl)) Try.func67 rfl rfl (by kernel_rfl) rfl (noLoops (by kernel_rfl)) d67 (fun d y h => ⟨fuel, (F67_eq fuel d).trans h⟩)
-- function 35
noncomputable def B35_6 (_n : Nat) (L : ((List Bool) × Int × Unit) × (zTb × (List Int) × Unit) × Unit → Option (((Unit) × ((List Int) × Unit) × Unit))) (stands_1 : List Bool) (p_8 : Int) (o_2 : zTd × (Int × (List (List Int)))) (o_7 : List Int) : Option (((Unit) × ((List Int) × Unit) × Unit)) :=
  cond (decide (p_8 < (stands_1.length : Int))) (derefK (g58 (o_2, stands_1, p_8, ())) fun y2 => cond y2.1.1 (lenK ((o_7.length : Int) + [p_8].length) (L ((stands_1, (IntKind.wrap .i64 (p_8 + 1)), ()), (o_2, (o_7 ++ [p_8]), ()), ()))) (L ((stands_1, (IntKind.wrap .i64 (p_8 + 1)), ()), (o_2, o_7, ()), ()))) (some ((), (o_7, ()), ()))
noncomputable def L35_6 : Nat → ((List Bool) × Int × Unit) × (zTb × (List Int) × Unit) × Unit → Option (((Unit) × ((List Int) × Unit) × Unit))
  | 0, _ => none
  | n + 1, d => B35_6 n (L35_6 n) d.1.1 d.1.2.1 d.2.1.1 d.2.1.2.1
noncomputable def l35_6 : LoopI := ⟨⟨[(1, .v (.list false 4 .bool)), (2, .c (.ptr 2 [])), (7, .c (.view 7 [])), (8, .v (.int .i64))], [(2, false, .str zTa), (7, true, .list true 3 (.int .i64))], none⟩, [(.exit 0, ⟨[(7, .c (.view 7 []))], [(7, true, .list true 3 (.int .i64))], none⟩)], L35_6⟩
noncomputable def F35 (n : Nat) (k_0 : zTb) (stands_1 : (List Bool)) : Option (((List Int) × Int × Unit) × (Unit)) :=
  derefK (g67 (k_0, stands_1, ())) fun y1 => cond (y1.1.1 != 0) (some ((([] : List Int), y1.1.1, ()), ())) (derefK (L35_6 n ((stands_1, 0, ()), (k_0, ([] : List Int), ()), ())) fun o3 => some ((o3.2.1.1, 0, ()), ()))
noncomputable def g35 (d : zTb × (List Bool) × Unit) : Option (((List Int) × Int × Unit) × (Unit)) := F35 fuel d.1 d.2.1
noncomputable def p35 : Prim := ⟨[.v (.str zTa), .v (.list false 4 .bool)], [.own 3 (.int .i64), .v (.int .i64)], g35⟩
noncomputable def c35 : Cfg := ⟨30, tyT, [], [(58, p58), (67, p67)], [(6, l35_6)], [], [], [], [], [], [], [], [], []⟩
theorem F35_eq (n : Nat) (d) : absFn c35 n Try.f35 (body Try.f35) [.v (.str zTa), .v (.list false 4 .bool)] [.own 3 (.int .i64), .v (.int .i64)] d = F35 n d.1 d.2.1 := by kernel_rfl
theorem L35_6_eq (n : Nat) (d) : (l35_6).g (n + 1) d = run c35 n (nth 0 (loopsOf (body Try.f35))) ((l35_6).ins.fill d) (roundK (l35_6) n) := by kernel_rfl
theorem ls35 : loopsOf (body Try.f35) = [nth 0 (loopsOf (body Try.f35))] := by kernel_rfl
theorem d35 : drawOK c35 (body Try.f35) = true := by kernel_rfl
theorem h35 : GoodF Try.prog 35 p35 := fn_done mixed (cfg := c35) (cfg_ok tyT_ok (goodCons h58 (goodCons h67 goodNil)) rfl (by kernel_rfl)) Try.func35 rfl rfl (by kernel_rfl) rfl (by rw [ls35]; simp only [List.forall_mem_cons]; exact ⟨loopHas (key := 6) (li := l35_6) (by kernel_rfl) rfl (fun _ => rfl) (L35_6_eq), fun _ h => by cases h⟩) d35 (fun d y h => ⟨fuel, (F35_eq fuel d).trans h⟩)
-- function 68
noncomputable def F68 (_n : Nat) (p_0 : Int) (t_1 : (List Bool)) (t_2 : (Option zTe)) : Option ((Bool × Unit) × (Unit)) :=
  getI t_1 p_0 fun e1 => cond e1 (derefK t_2 fun q2 => getI q2.1.1 p_0 fun e3 => derefK (g69 (t_1, e3.2.2.2, ())) fun y4 => some (((!y4.1.1), ()), ())) (some ((false, ()), ()))
noncomputable def g68 (d : Int × (List Bool) × (Option zTe) × Unit) : Option ((Bool × Unit) × (Unit)) := F68 fuel d.1 d.2.1 d.2.2.1
noncomputable def p68 : Prim := ⟨[.v (.int .i64), .r (.list false 4 .bool), .r (.ptr (.str (.pair (.str zTa) (.pair zTc zTc))))], [.v .bool], g68⟩
noncomputable def c68 : Cfg := ⟨23, tyT, [], [(69, p69)], [], [], [], [], [], [], [], [], [], []⟩
theorem F68_eq (n : Nat) (d) : absFn c68 n Try.f68 (body Try.f68) [.v (.int .i64), .r (.list false 4 .bool), .r (.ptr (.str (.pair (.str zTa) (.pair zTc zTc))))] [.v .bool] d = F68 n d.1 d.2.1 d.2.2.1 := by kernel_rfl
theorem d68 : drawOK c68 (body Try.f68) = true := by kernel_rfl
theorem h68 : GoodF Try.prog 68 p68 := fn_done mixed (cfg := c68) (cfg_ok tyT_ok (goodCons h69 goodNil) rfl (by kernel_rfl)) Try.func68 rfl rfl (by kernel_rfl) rfl (noLoops (by kernel_rfl)) d68 (fun d y h => ⟨fuel, (F68_eq fuel d).trans h⟩)
-- function 36
noncomputable def F36 (_n : Nat) (k_0 : zTb) (stands_1 : (List Bool)) : Option (((List Int) × Int × Unit) × (Unit)) :=
  derefK (g65 (k_0, stands_1, ())) fun y1 => cond (y1.1.2.1 != 0) (some ((([] : List Int), y1.1.2.1, ()), ())) (derefK y1.1.1 fun q2 => derefK (g51 (q2, (fun v3 => derefK (g68 (v3, stands_1, y1.1.1, ())) fun y4 => some y4.1.1), ())) fun y5 => some ((y5.1.1, 0, ()), ()))
noncomputable def g36 (d : zTb × (List Bool) × Unit) : Option (((List Int) × Int × Unit) × (Unit)) := F36 fuel d.1 d.2.1
noncomputable def p36 : Prim := ⟨[.v (.str zTa), .v (.list false 4 .bool)], [.own 3 (.int .i64), .v (.int .i64)], g36⟩
noncomputable def c36 : Cfg := ⟨20, tyT, [], [(51, p51), (65, p65), (68, p68)], [], [], [], [], [], [], [], [], [], []⟩
theorem F36_eq (n : Nat) (d) : absFn c36 n Try.f36 (body Try.f36) [.v (.str zTa), .v (.list false 4 .bool)] [.own 3 (.int .i64), .v (.int .i64)] d = F36 n d.1 d.2.1 := by kernel_rfl
theorem d36 : drawOK c36 (body Try.f36) = true := by kernel_rfl
theorem h36 : GoodF Try.prog 36 p36 := fn_done mixed (cfg := c36) (cfg_ok tyT_ok (goodCons h51 (goodCons h65 (goodCons h68 goodNil))) rfl (by kernel_rfl)) Try.func36 rfl rfl (by kernel_rfl) rfl (noLoops (by kernel_rfl)) d36 (fun d y h => ⟨fuel, (F36_eq fuel d).trans h⟩)
-- function 37
noncomputable def B37_6 (_n : Nat) (L : ((List Bool) × Int × Unit) × (zTb × (List Int) × Unit) × Unit → Option (((Unit) × ((List Int) × Unit) × Unit))) (stands_1 : List Bool) (p_8 : Int) (o_2 : zTd × (Int × (List (List Int)))) (o_7 : List Int) : Option (((Unit) × ((List Int) × Unit) × Unit)) :=
  cond (decide (p_8 < (stands_1.length : Int))) (getI stands_1 p_8 fun e2 => cond e2 (derefK (g70 (o_2, stands_1, p_8, ())) fun y3 => cond (!y3.1.1) (lenK ((o_7.length : Int) + [p_8].length) (L ((stands_1, (IntKind.wrap .i64 (p_8 + 1)), ()), (o_2, (o_7 ++ [p_8]), ()), ()))) (L ((stands_1, (IntKind.wrap .i64 (p_8 + 1)), ()), (o_2, o_7, ()), ()))) (L ((stands_1, (IntKind.wrap .i64 (p_8 + 1)), ()), (o_2, o_7, ()), ()))) (some ((), (o_7, ()), ()))
noncomputable def L37_6 : Nat → ((List Bool) × Int × Unit) × (zTb × (List Int) × Unit) × Unit → Option (((Unit) × ((List Int) × Unit) × Unit))
  | 0, _ => none
  | n + 1, d => B37_6 n (L37_6 n) d.1.1 d.1.2.1 d.2.1.1 d.2.1.2.1
noncomputable def l37_6 : LoopI := ⟨⟨[(1, .v (.list false 4 .bool)), (2, .c (.ptr 2 [])), (7, .c (.view 7 [])), (8, .v (.int .i64))], [(2, false, .str zTa), (7, true, .list true 3 (.int .i64))], none⟩, [(.exit 0, ⟨[(7, .c (.view 7 []))], [(7, true, .list true 3 (.int .i64))], none⟩)], L37_6⟩
noncomputable def F37 (n : Nat) (k_0 : zTb) (stands_1 : (List Bool)) : Option (((List Int) × Int × Unit) × (Unit)) :=
  derefK (g67 (k_0, stands_1, ())) fun y1 => cond (y1.1.1 != 0) (some ((([] : List Int), y1.1.1, ()), ())) (derefK (L37_6 n ((stands_1, 0, ()), (k_0, ([] : List Int), ()), ())) fun o4 => some ((o4.2.1.1, 0, ()), ()))
noncomputable def g37 (d : zTb × (List Bool) × Unit) : Option (((List Int) × Int × Unit) × (Unit)) := F37 fuel d.1 d.2.1
noncomputable def p37 : Prim := ⟨[.v (.str zTa), .v (.list false 4 .bool)], [.own 3 (.int .i64), .v (.int .i64)], g37⟩
noncomputable def c37 : Cfg := ⟨37, tyT, [], [(67, p67), (70, p70)], [(6, l37_6)], [], [], [], [], [], [], [], [], []⟩
theorem F37_eq (n : Nat) (d) : absFn c37 n Try.f37 (body Try.f37) [.v (.str zTa), .v (.list false 4 .bool)] [.own 3 (.int .i64), .v (.int .i64)] d = F37 n d.1 d.2.1 := by kernel_rfl
theorem L37_6_eq (n : Nat) (d) : (l37_6).g (n + 1) d = run c37 n (nth 0 (loopsOf (body Try.f37))) ((l37_6).ins.fill d) (roundK (l37_6) n) := by kernel_rfl
theorem ls37 : loopsOf (body Try.f37) = [nth 0 (loopsOf (body Try.f37))] := by kernel_rfl
theorem d37 : drawOK c37 (body Try.f37) = true := by kernel_rfl
theorem h37 : GoodF Try.prog 37 p37 := fn_done mixed (cfg := c37) (cfg_ok tyT_ok (goodCons h67 (goodCons h70 goodNil)) rfl (by kernel_rfl)) Try.func37 rfl rfl (by kernel_rfl) rfl (by rw [ls37]; simp only [List.forall_mem_cons]; exact ⟨loopHas (key := 6) (li := l37_6) (by kernel_rfl) rfl (fun _ => rfl) (L37_6_eq), fun _ h => by cases h⟩) d37 (fun d y h => ⟨fuel, (F37_eq fuel d).trans h⟩)
-- function 8
noncomputable def F8 (_n : Nat) (k_0 : zTb) (stands_1 : (List Bool)) : Option ((Bool × Unit) × (Unit)) :=
  derefK (g32 (k_0, ())) fun y1 => derefK (g33 (k_0, ())) fun y2 => cond (y1.1.1 != y2.1.1) (some ((false, ()), ())) (derefK (g34 (k_0, stands_1, ())) fun y3 => derefK (g35 (k_0, stands_1, ())) fun y4 => cond (y3.1.2.1 != y4.1.2.1) (some ((false, ()), ())) (derefK (g18 (y3.1.1, y4.1.1, ())) fun y5 => cond (!y5.1.1) (some ((false, ()), ())) (derefK (g36 (k_0, stands_1, ())) fun y6 => derefK (g37 (k_0, stands_1, ())) fun y7 => cond (y6.1.2.1 == y7.1.2.1) (derefK (g18 (y6.1.1, y7.1.1, ())) fun y8 => cond y8.1.1 (derefK (g21 ()) fun y9 => some ((y9.1.1, ()), ())) (some ((false, ()), ()))) (some ((false, ()), ())))))
noncomputable def g8 (d : zTb × (List Bool) × Unit) : Option ((Bool × Unit) × (Unit)) := F8 fuel d.1 d.2.1
noncomputable def p8 : Prim := ⟨[.v (.str zTa), .v (.list false 4 .bool)], [.v .bool], g8⟩
noncomputable def c8 : Cfg := ⟨58, tyT, [], [(18, p18), (21, p21), (32, p32), (33, p33), (34, p34), (35, p35), (36, p36), (37, p37)], [], [], [], [], [], [], [], [], [], []⟩
theorem F8_eq (n : Nat) (d) : absFn c8 n Try.f8 (body Try.f8) [.v (.str zTa), .v (.list false 4 .bool)] [.v .bool] d = F8 n d.1 d.2.1 := by kernel_rfl
theorem d8 : drawOK c8 (body Try.f8) = true := by kernel_rfl
theorem h8 : GoodF Try.prog 8 p8 := fn_done mixed (cfg := c8) (cfg_ok tyT_ok (goodCons h18 (goodCons h21 (goodCons h32 (goodCons h33 (goodCons h34 (goodCons h35 (goodCons h36 (goodCons h37 goodNil)))))))) rfl (by kernel_rfl)) Try.func8 rfl rfl (by kernel_rfl) rfl (noLoops (by kernel_rfl)) d8 (fun d y h => ⟨fuel, (F8_eq fuel d).trans h⟩)
-- function 91
noncomputable def B91_2 (_n : Nat) (L : ((List (List Int)) × ((List Int) → Option Bool) × Int × Int × Unit) × (Unit) × Unit → Option (zTj ⊕ ((Unit) × (Unit) × Unit))) (s_0 : List (List Int)) (f_1 : (List Int) → Option Bool) (t_7 : Int) (t_8 : Int) : Option (zTj ⊕ ((Unit) × (Unit) × Unit)) :=
  cond (decide (t_8 < t_7)) (getI s_0 t_8 fun e1 => derefK (f_1 e1) fun y2 => cond y2 (some (.inl ((t_8, ()), (), ()))) (L ((s_0, f_1, t_7, (IntKind.wrap .i64 (t_8 + 1)), ()), (), ()))) (some (.inr ((), (), ())))
noncomputable def L91_2 : Nat → ((List (List Int)) × ((List Int) → Option Bool) × Int × Int × Unit) × (Unit) × Unit → Option (zTj ⊕ ((Unit) × (Unit) × Unit))
  | 0, _ => none
  | n + 1, d => B91_2 n (L91_2 n) d.1.1 d.1.2.1 d.1.2.2.1 d.1.2.2.2.1
noncomputable def l91_2 : LoopI := ⟨⟨[(0, .v zTc), (1, .v (.fn (.list false 3 (.int .i64)) .bool)), (7, .v (.int .i64)), (8, .v (.int .i64))], [], none⟩, [(.ret, ⟨[(4, .v (.int .i64))], [], none⟩), (.exit 0, ⟨[], [], none⟩)], L91_2⟩
noncomputable def F91 (n : Nat) (s_0 : (List (List Int))) (f_1 : ((List Int) → Option Bool)) : Option ((Int × Unit) × (Unit)) :=
  derefK (L91_2 n ((s_0, f_1, (s_0.length : Int), 0, ()), (), ())) fun o3 => sumK o3 (fun d4 => some ((d4.1.1, ()), ())) (fun _ => some (((-1), ()), ()))
noncomputable def g91 (d : (List (List Int)) × ((List Int) → Option Bool) × Unit) : Option ((Int × Unit) × (Unit)) := F91 fuel d.1 d.2.1
noncomputable def p91 : Prim := ⟨[.v zTc, .v (.fn (.list false 3 (.int .i64)) .bool)], [.v (.int .i64)], g91⟩
noncomputable def c91 : Cfg := ⟨19, tyT, [], [], [(2, l91_2)], [], [], [], [], [], [], [], [], []⟩
theorem F91_eq (n : Nat) (d) : absFn c91 n Try.f91 (body Try.f91) [.v zTc, .v (.fn (.list false 3 (.int .i64)) .bool)] [.v (.int .i64)] d = F91 n d.1 d.2.1 := by kernel_rfl
theorem L91_2_eq (n : Nat) (d) : (l91_2).g (n + 1) d = run c91 n (nth 0 (loopsOf (body Try.f91))) ((l91_2).ins.fill d) (roundK (l91_2) n) := by kernel_rfl
theorem ls91 : loopsOf (body Try.f91) = [nth 0 (loopsOf (body Try.f91))] := by kernel_rfl
theorem d91 : drawOK c91 (body Try.f91) = true := by kernel_rfl
theorem h91 : GoodF Try.prog 91 p91 := fn_done mixed (cfg := c91) (cfg_ok tyT_ok (goodNil) rfl (by kernel_rfl)) Try.func91 rfl rfl (by kernel_rfl) rfl (by rw [ls91]; simp only [List.forall_mem_cons]; exact ⟨loopHas (key := 2) (li := l91_2) (by kernel_rfl) rfl (fun _ => rfl) (L91_2_eq), fun _ h => by cases h⟩) d91 (fun d y h => ⟨fuel, (F91_eq fuel d).trans h⟩)
-- function 71
noncomputable def F71 (_n : Nat) (s_0 : (List (List Int))) (f_1 : ((List Int) → Option Bool)) : Option ((Bool × Unit) × (Unit)) :=
  derefK (g91 (s_0, f_1, ())) fun y1 => some (((decide (y1.1.1 ≥ 0)), ()), ())
noncomputable def g71 (d : (List (List Int)) × ((List Int) → Option Bool) × Unit) : Option ((Bool × Unit) × (Unit)) := F71 fuel d.1 d.2.1
noncomputable def p71 : Prim := ⟨[.v zTc, .v (.fn (.list false 3 (.int .i64)) .bool)], [.v .bool], g71⟩
noncomputable def c71 : Cfg := ⟨9, tyT, [], [(91, p91)], [], [], [], [], [], [], [], [], [], []⟩
theorem F71_eq (n : Nat) (d) : absFn c71 n Try.f71 (body Try.f71) [.v zTc, .v (.fn (.list false 3 (.int .i64)) .bool)] [.v .bool] d = F71 n d.1 d.2.1 := by kernel_rfl
theorem d71 : drawOK c71 (body Try.f71) = true := by kernel_rfl
theorem h71 : GoodF Try.prog 71 p71 := fn_done mixed (cfg := c71) (cfg_ok tyT_ok (goodCons h91 goodNil) rfl (by kernel_rfl)) Try.func71 rfl rfl (by kernel_rfl) rfl (noLoops (by kernel_rfl)) d71 (fun d y h => ⟨fuel, (F71_eq fuel d).trans h⟩)
-- function 72
noncomputable def F72 (_n : Nat) (l_0 : (List Int)) : Option ((Bool × Unit) × (Unit)) :=
  some (((decide ((l_0.length : Int) > 100)), ()), ())
noncomputable def g72 (d : (List Int) × Unit) : Option ((Bool × Unit) × (Unit)) := F72 fuel d.1
noncomputable def p72 : Prim := ⟨[.v (.list false 3 (.int .i64))], [.v .bool], g72⟩
noncomputable def c72 : Cfg := ⟨6, tyT, [], [], [], [], [], [], [], [], [], [], [], []⟩
theorem F72_eq (n : Nat) (d) : absFn c72 n Try.f72 (body Try.f72) [.v (.list false 3 (.int .i64))] [.v .bool] d = F72 n d.1 := by kernel_rfl
theorem d72 : drawOK c72 (body Try.f72) = true := by kernel_rfl
theorem h72 : GoodF Try.prog 72 p72 := fn_done mixed (cfg := c72) (cfg_ok tyT_ok (goodNil) rfl (by kernel_rfl)) Try.func72 rfl rfl (by kernel_rfl) rfl (noLoops (by kernel_rfl)) d72 (fun d y h => ⟨fuel, (F72_eq fuel d).trans h⟩)
-- function 92
noncomputable def B92_2 (_n : Nat) (L : ((List Int) × Int × Int × Int × Unit) × (Unit) × Unit → Option (zTj ⊕ ((Unit) × (Unit) × Unit))) (s_0 : List Int) (v_1 : Int) (t_7 : Int) (t_8 : Int) : Option (zTj ⊕ ((Unit) × (Unit) × Unit)) :=
  cond (decide (t_8 < t_7)) (getI s_0 t_8 fun e1 => cond (v_1 == e1) (some (.inl ((t_8, ()), (), ()))) (L ((s_0, v_1, t_7, (IntKind.wrap .i64 (t_8 + 1)), ()), (), ()))) (some (.inr ((), (), ())))
noncomputable def L92_2 : Nat → ((List Int) × Int × Int × Int × Unit) × (Unit) × Unit → Option (zTj ⊕ ((Unit) × (Unit) × Unit))
  | 0, _ => none
  | n + 1, d => B92_2 n (L92_2 n) d.1.1 d.1.2.1 d.1.2.2.1 d.1.2.2.2.1
noncomputable def l92_2 : LoopI := ⟨⟨[(0, .v (.list false 3 (.int .i64))), (1, .v (.int .i64)), (7, .v (.int .i64)), (8, .v (.int .i64))], [], none⟩, [(.ret, ⟨[(4, .v (.int .i64))], [], none⟩), (.exit 0, ⟨[], [], none⟩)], L92_2⟩
noncomputable def F92 (n : Nat) (s_0 : (List Int)) (v_1 : Int) : Option ((Int × Unit) × (Unit)) :=
  derefK (L92_2 n ((s_0, v_1, (s_0.length : Int), 0, ()), (), ())) fun o2 => sumK o2 (fun d3 => some ((d3.1.1, ()), ())) (fun _ => some (((-1), ()), ()))
noncomputable def g92 (d : (List Int) × Int × Unit) : Option ((Int × Unit) × (Unit)) := F92 fuel d.1 d.2.1
noncomputable def p92 : Prim := ⟨[.v (.list false 3 (.int .i64)), .v (.int .i64)], [.v (.int .i64)], g92⟩
noncomputable def c92 : Cfg := ⟨19, tyT, [], [], [(2, l92_2)], [], [], [], [], [], [], [], [], []⟩
theorem F92_eq (n : Nat) (d) : absFn c92 n Try.f92 (body Try.f92) [.v (.list false 3 (.int .i64)), .v (.int .i64)] [.v (.int .i64)] d = F92 n d.1 d.2.1 := by kernel_rfl
theorem L92_2_eq (n : Nat) (d) : (l92_2).g (n + 1) d = run c92 n (nth 0 (loopsOf (body Try.f92))) ((l92_2).ins.fill d) (roundK (l92_2) n) := by kernel_rfl
theorem ls92 : loopsOf (body Try.f92) = [nth 0 (loopsOf (body Try.f92))] := by kernel_rfl
theorem d92 : drawOK c92 (body Try.f92) = true := by kernel_rfl
theorem h92 : GoodF Try.prog 92 p92 := fn_done mixed (cfg := c92) (cfg_ok tyT_ok (goodNil) rfl (by kernel_rfl)) Try.func92 rfl rfl (by kernel_rfl) rfl (by rw [ls92]; simp only [List.forall_mem_cons]; exact ⟨loopHas (key := 2) (li := l92_2) (by kernel_rfl) rfl (fun _ => rfl) (L92_2_eq), fun _ h => by cases h⟩) d92 (fun d y h => ⟨fuel, (F92_eq fuel d).trans h⟩)
-- function 75
noncomputable def F75 (_n : Nat) (s_0 : (List Int)) (v_1 : Int) : Option ((Bool × Unit) × (Unit)) :=
  derefK (g92 (s_0, v_1, ())) fun y1 => some (((decide (y1.1.1 ≥ 0)), ()), ())
noncomputable def g75 (d : (List Int) × Int × Unit) : Option ((Bool × Unit) × (Unit)) := F75 fuel d.1 d.2.1
noncomputable def p75 : Prim := ⟨[.v (.list false 3 (.int .i64)), .v (.int .i64)], [.v .bool], g75⟩
noncomputable def c75 : Cfg := ⟨9, tyT, [], [(92, p92)], [], [], [], [], [], [], [], [], [], []⟩
theorem F75_eq (n : Nat) (d) : absFn c75 n Try.f75 (body Try.f75) [.v (.list false 3 (.int .i64)), .v (.int .i64)] [.v .bool] d = F75 n d.1 d.2.1 := by kernel_rfl
theorem d75 : drawOK c75 (body Try.f75) = true := by kernel_rfl
theorem h75 : GoodF Try.prog 75 p75 := fn_done mixed (cfg := c75) (cfg_ok tyT_ok (goodCons h92 goodNil) rfl (by kernel_rfl)) Try.func75 rfl rfl (by kernel_rfl) rfl (noLoops (by kernel_rfl)) d75 (fun d y h => ⟨fuel, (F75_eq fuel d).trans h⟩)
-- function 74
noncomputable def F74 (_n : Nat) (l_0 : (List Int)) (t_1 : Int) : Option ((Bool × Unit) × (Unit)) :=
  derefK (g75 (l_0, t_1, ())) fun y1 => some ((y1.1.1, ()), ())
noncomputable def g74 (d : (List Int) × Int × Unit) : Option ((Bool × Unit) × (Unit)) := F74 fuel d.1 d.2.1
noncomputable def p74 : Prim := ⟨[.v (.list false 3 (.int .i64)), .r (.int .i64)], [.v .bool], g74⟩
noncomputable def c74 : Cfg := ⟨7, tyT, [], [(75, p75)], [], [], [], [], [], [], [], [], [], []⟩
theorem F74_eq (n : Nat) (d) : absFn c74 n Try.f74 (body Try.f74) [.v (.list false 3 (.int .i64)), .r (.int .i64)] [.v .bool] d = F74 n d.1 d.2.1 := by kernel_rfl
theorem d74 : drawOK c74 (body Try.f74) = true := by kernel_rfl
theorem h74 : GoodF Try.prog 74 p74 := fn_done mixed (cfg := c74) (cfg_ok tyT_ok (goodCons h75 goodNil) rfl (by kernel_rfl)) Try.func74 rfl rfl (by kernel_rfl) rfl (noLoops (by kernel_rfl)) d74 (fun d y h => ⟨fuel, (F74_eq fuel d).trans h⟩)
-- function 73
noncomputable def F73 (_n : Nat) (p_0 : Int) (t_1 : (List (List Int))) : Option ((Bool × Unit) × (Unit)) :=
  derefK (g71 (t_1, (fun v1 => derefK (g74 (v1, p_0, ())) fun y2 => some y2.1.1), ())) fun y3 => some (((!y3.1.1), ()), ())
noncomputable def g73 (d : Int × (List (List Int)) × Unit) : Option ((Bool × Unit) × (Unit)) := F73 fuel d.1 d.2.1
noncomputable def p73 : Prim := ⟨[.v (.int .i64), .r zTc], [.v .bool], g73⟩
noncomputable def c73 : Cfg := ⟨8, tyT, [], [(71, p71), (74, p74)], [], [], [], [], [], [], [], [], [], []⟩
theorem F73_eq (n : Nat) (d) : absFn c73 n Try.f73 (body Try.f73) [.v (.int .i64), .r zTc] [.v .bool] d = F73 n d.1 d.2.1 := by kernel_rfl
theorem d73 : drawOK c73 (body Try.f73) = true := by kernel_rfl
theorem h73 : GoodF Try.prog 73 p73 := fn_done mixed (cfg := c73) (cfg_ok tyT_ok (goodCons h71 (goodCons h74 goodNil)) rfl (by kernel_rfl)) Try.func73 rfl rfl (by kernel_rfl) rfl (noLoops (by kernel_rfl)) d73 (fun d y h => ⟨fuel, (F73_eq fuel d).trans h⟩)
-- function 76
noncomputable def B76_4 (_n : Nat) (L : ((List Int) × (List Int) × Int × Int × Unit) × (Unit) × Unit → Option (zTg ⊕ ((Unit) × (Unit) × Unit))) (s1_0 : List Int) (s2_1 : List Int) (t_12 : Int) (t_13 : Int) : Option (zTg ⊕ ((Unit) × (Unit) × Unit)) :=
  cond (decide (t_13 < t_12)) (getI s1_0 t_13 fun e1 => getI s2_1 t_13 fun e2 => cond (e1 != e2) (some (.inl ((false, ()), (), ()))) (L ((s1_0, s2_1, t_12, (IntKind.wrap .i64 (t_13 + 1)), ()), (), ()))) (some (.inr ((), (), ())))
noncomputable def L76_4 : Nat → ((List Int) × (List Int) × Int × Int × Unit) × (Unit) × Unit → Option (zTg ⊕ ((Unit) × (Unit) × Unit))
  | 0, _ => none
  | n + 1, d => B76_4 n (L76_4 n) d.1.1 d.1.2.1 d.1.2.2.1 d.1.2.2.2.1
noncomputable def l76_4 : LoopI := ⟨⟨[(0, .v (.list false 3 (.int .i64))), (1, .v (.list false 3 (.int .i64))), (12, .v (.int .i64)), (13, .v (.int .i64))], [], none⟩, [(.ret, ⟨[(4, .v .bool)], [], none⟩), (.exit 0, ⟨[], [], none⟩)], L76_4⟩
noncomputable def F76 (n : Nat) (s1_0 : (List Int)) (s2_1 : (List Int)) : Option ((Bool × Unit) × (Unit)) :=
  cond ((s1_0.length : Int) != (s2_1.length : Int)) (some ((false, ()), ())) (derefK (L76_4 n ((s1_0, s2_1, (s1_0.length : Int), 0, ()), (), ())) fun o3 => sumK o3 (fun d4 => some ((d4.1.1, ()), ())) (fun _ => some ((true, ()), ())))
noncomputable def g76 (d : (List Int) × (List Int) × Unit) : Option ((Bool × Unit) × (Unit)) := F76 fuel d.1 d.2.1
noncomputable def p76 : Prim := ⟨[.v (.list false 3 (.int .i64)), .v (.list false 3 (.int .i64))], [.v .bool], g76⟩
noncomputable def c76 : Cfg := ⟨26, tyT, [], [], [(4, l76_4)], [], [], [], [], [], [], [], [], []⟩
theorem F76_eq (n : Nat) (d) : absFn c76 n Try.f76 (body Try.f76) [.v (.list false 3 (.int .i64)), .v (.list false 3 (.int .i64))] [.v .bool] d = F76 n d.1 d.2.1 := by kernel_rfl
theorem L76_4_eq (n : Nat) (d) : (l76_4).g (n + 1) d = run c76 n (nth 0 (loopsOf (body Try.f76))) ((l76_4).ins.fill d) (roundK (l76_4) n) := by kernel_rfl
theorem ls76 : loopsOf (body Try.f76) = [nth 0 (loopsOf (body Try.f76))] := by kernel_rfl
theorem d76 : drawOK c76 (body Try.f76) = true := by kernel_rfl
theorem h76 : GoodF Try.prog 76 p76 := fn_done mixed (cfg := c76) (cfg_ok tyT_ok (goodNil) rfl (by kernel_rfl)) Try.func76 rfl rfl (by kernel_rfl) rfl (by rw [ls76]; simp only [List.forall_mem_cons]; exact ⟨loopHas (key := 4) (li := l76_4) (by kernel_rfl) rfl (fun _ => rfl) (L76_4_eq), fun _ h => by cases h⟩) d76 (fun d y h => ⟨fuel, (F76_eq fuel d).trans h⟩)
-- function 38
noncomputable def B38_8 (_n : Nat) (L : ((List (List Int)) × Int × Int × Unit) × zTk × Unit → Option (((Unit) × ((List Int) × (List Int) × Unit) × Unit))) (t_31 : List (List Int)) (t_32 : Int) (t_33 : Int) (o_2 : zTd × (Int × (List (List Int)))) (o_5 : List Int) (o_31000 : List Int) : Option (((Unit) × ((List Int) × (List Int) × Unit) × Unit)) :=
  cond (decide (t_33 < t_32)) (getI t_31 t_33 fun e9 => getI o_2.2.2 t_33 fun e10 => derefK (g76 (e9, e10, ())) fun y11 => cond (!y11.1.1) (lenK ((o_5.length : Int) + [t_33].length) (L ((t_31, t_32, (IntKind.wrap .i64 (t_33 + 1)), ()), (o_2, (o_5 ++ [t_33]), o_31000, ()), ()))) (L ((t_31, t_32, (IntKind.wrap .i64 (t_33 + 1)), ()), (o_2, o_5, o_31000, ()), ()))) (some ((), (o_5, o_31000, ()), ()))
noncomputable def L38_8 : Nat → ((List (List Int)) × Int × Int × Unit) × zTk × Unit → Option (((Unit) × ((List Int) × (List Int) × Unit) × Unit))
  | 0, _ => none
  | n + 1, d => B38_8 n (L38_8 n) d.1.1 d.1.2.1 d.1.2.2.1 d.2.1.1 d.2.1.2.1 d.2.1.2.2.1
noncomputable def l38_8 : LoopI := ⟨⟨[(2, .c (.ptr 2 [])), (4, .c (.view 31000 [])), (5, .c (.view 5 [])), (31, .v zTc), (32, .v (.int .i64)), (33, .v (.int .i64))], [(2, false, .str zTa), (5, true, .list true 3 (.int .i64)), (31000, true, .list true 3 (.int .i64))], none⟩, [(.exit 0, ⟨[(4, .c (.view 31000 [])), (5, .c (.view 5 []))], [(5, true, .list true 3 (.int .i64)), (31000, true, .list true 3 (.int .i64))], none⟩)], L38_8⟩
noncomputable def F38 (n : Nat) (k_0 : zTb) (seen_1 : (List (List Int))) : Option (((List Int) × (List Int) × Int × Unit) × (Unit)) :=
  derefK (g48 (k_0, ())) fun y1 => cond (!y1.1.2.1) (some ((([] : List Int), ([] : List Int), 80, ()), ())) (cond ((seen_1.length : Int) != (k_0.2.2.length : Int)) (some ((([] : List Int), ([] : List Int), 1, ()), ())) (derefK (g71 (seen_1, (fun v2 => derefK (g72 (v2, ())) fun y3 => some y3.1.1), ())) fun y4 => cond y4.1.1 (some ((([] : List Int), ([] : List Int), 1, ()), ())) (derefK y1.1.1 fun q5 => derefK (g51 (q5, (fun v6 => derefK (g73 (v6, seen_1, ())) fun y7 => some y7.1.1), ())) fun y8 => derefK (L38_8 n ((seen_1, (seen_1.length : Int), 0, ()), (k_0, ([] : List Int), y8.1.1, ()), ())) fun o12 => some ((o12.2.1.2.1, o12.2.1.1, 0, ()), ()))))
noncomputable def g38 (d : zTb × (List (List Int)) × Unit) : Option (((List Int) × (List Int) × Int × Unit) × (Unit)) := F38 fuel d.1 d.2.1
noncomputable def p38 : Prim := ⟨[.v (.str zTa), .v zTc], [.own 3 (.int .i64), .own 3 (.int .i64), .v (.int .i64)], g38⟩
noncomputable def c38 : Cfg := ⟨53, tyT, [], [(48, p48), (51, p51), (71, p71), (72, p72), (73, p73), (76, p76)], [(8, l38_8)], [], [], [], [], [], [], [], [], []⟩
theorem F38_eq (n : Nat) (d) : absFn c38 n Try.f38 (body Try.f38) [.v (.str zTa), .v zTc] [.own 3 (.int .i64), .own 3 (.int .i64), .v (.int .i64)] d = F38 n d.1 d.2.1 := by kernel_rfl
theorem L38_8_eq (n : Nat) (d) : (l38_8).g (n + 1) d = run c38 n (nth 0 (loopsOf (body Try.f38))) ((l38_8).ins.fill d) (roundK (l38_8) n) := by kernel_rfl
theorem ls38 : loopsOf (body Try.f38) = [nth 0 (loopsOf (body Try.f38))] := by kernel_rfl
theorem d38 : drawOK c38 (body Try.f38) = true := by kernel_rfl
theorem h38 : GoodF Try.prog 38 p38 := fn_done mixed (cfg := c38) (cfg_ok tyT_ok (goodCons h48 (goodCons h51 (goodCons h71 (goodCons h72 (goodCons h73 (goodCons h76 goodNil)))))) rfl (by kernel_rfl)) Try.func38 rfl rfl (by kernel_rfl) rfl (by rw [ls38]; simp only [List.forall_mem_cons]; exact ⟨loopHas (key := 8) (li := l38_8) (by kernel_rfl) rfl (fun _ => rfl) (L38_8_eq), fun _ h => by cases h⟩) d38 (fun d y h => ⟨fuel, (F38_eq fuel d).trans h⟩)
-- function 77
noncomputable def B77_4 (_n : Nat) (L : ((List Int) × (List Int) × Int × Unit) × (Unit) × Unit → Option (zTg ⊕ ((Unit) × (Unit) × Unit))) (a_0 : List Int) (b_1 : List Int) (i_5 : Int) : Option (zTg ⊕ ((Unit) × (Unit) × Unit)) :=
  cond (decide (i_5 < (a_0.length : Int))) (getI a_0 i_5 fun e1 => getI b_1 i_5 fun e2 => cond (e1 != e2) (some (.inl ((false, ()), (), ()))) (L ((a_0, b_1, (IntKind.wrap .i64 (i_5 + 1)), ()), (), ()))) (some (.inr ((), (), ())))
noncomputable def L77_4 : Nat → ((List Int) × (List Int) × Int × Unit) × (Unit) × Unit → Option (zTg ⊕ ((Unit) × (Unit) × Unit))
  | 0, _ => none
  | n + 1, d => B77_4 n (L77_4 n) d.1.1 d.1.2.1 d.1.2.2.1
noncomputable def l77_4 : LoopI := ⟨⟨[(0, .v (.list false 3 (.int .i64))), (1, .v (.list false 3 (.int .i64))), (5, .v (.int .i64))], [], none⟩, [(.ret, ⟨[(4, .v .bool)], [], none⟩), (.exit 0, ⟨[], [], none⟩)], L77_4⟩
noncomputable def F77 (n : Nat) (a_0 : (List Int)) (b_1 : (List Int)) : Option ((Bool × Unit) × (Unit)) :=
  cond ((a_0.length : Int) != (b_1.length : Int)) (some ((false, ()), ())) (derefK (L77_4 n ((a_0, b_1, 0, ()), (), ())) fun o3 => sumK o3 (fun d4 => some ((d4.1.1, ()), ())) (fun _ => some ((true, ()), ())))
noncomputable def g77 (d : (List Int) × (List Int) × Unit) : Option ((Bool × Unit) × (Unit)) := F77 fuel d.1 d.2.1
noncomputable def p77 : Prim := ⟨[.v (.list false 3 (.int .i64)), .v (.list false 3 (.int .i64))], [.v .bool], g77⟩
noncomputable def c77 : Cfg := ⟨26, tyT, [], [], [(4, l77_4)], [], [], [], [], [], [], [], [], []⟩
theorem F77_eq (n : Nat) (d) : absFn c77 n Try.f77 (body Try.f77) [.v (.list false 3 (.int .i64)), .v (.list false 3 (.int .i64))] [.v .bool] d = F77 n d.1 d.2.1 := by kernel_rfl
theorem L77_4_eq (n : Nat) (d) : (l77_4).g (n + 1) d = run c77 n (nth 0 (loopsOf (body Try.f77))) ((l77_4).ins.fill d) (roundK (l77_4) n) := by kernel_rfl
theorem ls77 : loopsOf (body Try.f77) = [nth 0 (loopsOf (body Try.f77))] := by kernel_rfl
theorem d77 : drawOK c77 (body Try.f77) = true := by kernel_rfl
theorem h77 : GoodF Try.prog 77 p77 := fn_done mixed (cfg := c77) (cfg_ok tyT_ok (goodNil) rfl (by kernel_rfl)) Try.func77 rfl rfl (by kernel_rfl) rfl (by rw [ls77]; simp only [List.forall_mem_cons]; exact ⟨loopHas (key := 4) (li := l77_4) (by kernel_rfl) rfl (fun _ => rfl) (L77_4_eq), fun _ h => by cases h⟩) d77 (fun d y h => ⟨fuel, (F77_eq fuel d).trans h⟩)
-- function 39
noncomputable def B39_9 (_n : Nat) (L : ((List (List Int)) × Int × Unit) × (zTb × (List Int) × (List Int) × (List Bool) × Unit) × Unit → Option (((Int × Unit) × ((List Int) × (List Int) × Unit) × Unit) ⊕ (((List (List Int)) × Unit) × (zTb × (List Int) × (List Int) × (List Bool) × Unit) × Unit))) (seen_1 : List (List Int)) (v_11 : Int) (o_2 : zTd × (Int × (List (List Int)))) (o_9 : List Int) (o_10 : List Int) (o_29 : List Bool) : Option (((Int × Unit) × ((List Int) × (List Int) × Unit) × Unit) ⊕ (((List (List Int)) × Unit) × (zTb × (List Int) × (List Int) × (List Bool) × Unit) × Unit)) :=
  cond (decide (v_11 < (seen_1.length : Int))) (getI seen_1 v_11 fun e2 => cond (decide ((e2.length : Int) > 100)) (some (.inl ((1, ()), (([] : List Int), ([] : List Int), ()), ()))) (L ((seen_1, (IntKind.wrap .i64 (v_11 + 1)), ()), (o_2, o_9, o_10, o_29, ()), ()))) (some (.inr ((seen_1, ()), (o_2, o_9, o_10, o_29, ()), ())))
noncomputable def L39_9 : Nat → ((List (List Int)) × Int × Unit) × (zTb × (List Int) × (List Int) × (List Bool) × Unit) × Unit → Option (((Int × Unit) × ((List Int) × (List Int) × Unit) × Unit) ⊕ (((List (List Int)) × Unit) × (zTb × (List Int) × (List Int) × (List Bool) × Unit) × Unit))
  | 0, _ => none
  | n + 1, d => B39_9 n (L39_9 n) d.1.1 d.1.2.1 d.2.1.1 d.2.1.2.1 d.2.1.2.2.1 d.2.1.2.2.2.1
noncomputable def l39_9 : LoopI := ⟨⟨[(1, .v zTc), (2, .c (.ptr 2 [])), (8, .c (.view 29 [])), (9, .c (.view 9 [])), (10, .c (.view 10 [])), (11, .v (.int .i64))], [(2, false, .str zTa), (9, true, .list true 3 (.int .i64)), (10, true, .list true 3 (.int .i64)), (29, true, .list true 4 .bool)], none⟩, [(.ret, ⟨[(4, .c (.view 4 [])), (5, .c (.view 5 [])), (6, .v (.int .i64))], [(4, true, .list true 3 (.int .i64)), (5, true, .list true 3 (.int .i64))], none⟩), (.exit 0, ⟨[(1, .v zTc), (2, .c (.ptr 2 [])), (8, .c (.view 29 [])), (9, .c (.view 9 [])), (10, .c (.view 10 []))], [(2, false, .str zTa), (9, true, .list true 3 (.int .i64)), (10, true, .list true 3 (.int .i64)), (29, true, .list true 4 .bool)], none⟩)], L39_9⟩
noncomputable def B39_19 (_n : Nat) (L : ((List (List Int)) × Int × Int × Unit) × (zTb × (List Int) × (List Int) × (List Bool) × Unit) × Unit → Option ((((List (List Int)) × Int × Unit) × (zTb × (List Int) × (List Int) × (List Bool) × Unit) × Unit))) (seen_1 : List (List Int)) (v_12 : Int) (i_13 : Int) (o_2 : zTd × (Int × (List (List Int)))) (o_9 : List Int) (o_10 : List Int) (o_29 : List Bool) : Option ((((List (List Int)) × Int × Unit) × (zTb × (List Int) × (List Int) × (List Bool) × Unit) × Unit)) :=
  getI seen_1 v_12 fun e9 => cond (decide (i_13 < (e9.length : Int))) (getI seen_1 v_12 fun e10 => getI e10 i_13 fun e11 => derefK (g57 (e11, 0, (IntKind.wrap .i64 ((o_29.length : Int) - 1)), ())) fun y12 => cond y12.1.1 (getI seen_1 v_12 fun e13 => getI e13 i_13 fun e14 => inR e14 o_29.length (getI o_29 e14 fun _ => L ((seen_1, v_12, (IntKind.wrap .i64 (i_13 + 1)), ()), (o_2, o_9, o_10, (o_29.set e14.toNat true), ()), ()))) (L ((seen_1, v_12, (IntKind.wrap .i64 (i_13 + 1)), ()), (o_2, o_9, o_10, o_29, ()), ()))) (some ((seen_1, v_12, ()), (o_2, o_9, o_10, o_29, ()), ()))
noncomputable def L39_19 : Nat → ((List (List Int)) × Int × Int × Unit) × (zTb × (List Int) × (List Int) × (List Bool) × Unit) × Unit → Option ((((List (List Int)) × Int × Unit) × (zTb × (List Int) × (List Int) × (List Bool) × Unit) × Unit))
  | 0, _ => none
  | n + 1, d => B39_19 n (L39_19 n) d.1.1 d.1.2.1 d.1.2.2.1 d.2.1.1 d.2.1.2.1 d.2.1.2.2.1 d.2.1.2.2.2.1
noncomputable def l39_19 : LoopI := ⟨⟨[(1, .v zTc), (2, .c (.ptr 2 [])), (8, .c (.view 29 [])), (9, .c (.view 9 [])), (10, .c (.view 10 [])), (12, .v (.int .i64)), (13, .v (.int .i64))], [(2, false, .str zTa), (9, true, .list true 3 (.int .i64)), (10, true, .list true 3 (.int .i64)), (29, true, .list true 4 .bool)], none⟩, [(.exit 4, ⟨[(1, .v zTc), (2, .c (.ptr 2 [])), (8, .c (.view 29 [])), (9, .c (.view 9 [])), (10, .c (.view 10 [])), (12, .v (.int .i64))], [(2, false, .str zTa), (9, true, .list true 3 (.int .i64)), (10, true, .list true 3 (.int .i64)), (29, true, .list true 4 .bool)], none⟩)], L39_19⟩
noncomputable def B39_14 (n : Nat) (L : ((List (List Int)) × Int × Unit) × (zTb × (List Int) × (List Int) × (List Bool) × Unit) × Unit → Option (((Unit) × ((List Int) × (List Int) × (List Bool) × Unit) × Unit))) (seen_1 : List (List Int)) (v_12 : Int) (o_2 : zTd × (Int × (List (List Int)))) (o_9 : List Int) (o_10 : List Int) (o_29 : List Bool) : Option (((Unit) × ((List Int) × (List Int) × (List Bool) × Unit) × Unit)) :=
  cond (decide (v_12 < (seen_1.length : Int))) (getI seen_1 v_12 fun e6 => getI o_2.2.2 v_12 fun e7 => derefK (g77 (e6, e7, ())) fun y8 => cond (!y8.1.1) (lenK ((o_10.length : Int) + [v_12].length) (derefK (L39_19 n ((seen_1, v_12, 0, ()), (o_2, o_9, (o_10 ++ [v_12]), o_29, ()), ())) fun o16 => L ((o16.1.1, (IntKind.wrap .i64 (o16.1.2.1 + 1)), ()), (o16.2.1.1, o16.2.1.2.1, o16.2.1.2.2.1, o16.2.1.2.2.2.1, ()), ()))) (derefK (L39_19 n ((seen_1, v_12, 0, ()), (o_2, o_9, o_10, o_29, ()), ())) fun o17 => L ((o17.1.1, (IntKind.wrap .i64 (o17.1.2.1 + 1)), ()), (o17.2.1.1, o17.2.1.2.1, o17.2.1.2.2.1, o17.2.1.2.2.2.1, ()), ()))) (some ((), (o_9, o_10, o_29, ()), ()))
noncomputable def L39_14 : Nat → ((List (List Int)) × Int × Unit) × (zTb × (List Int) × (List Int) × (List Bool) × Unit) × Unit → Option (((Unit) × ((List Int) × (List Int) × (List Bool) × Unit) × Unit))
  | 0, _ => none
  | n + 1, d => B39_14 n (L39_14 n) d.1.1 d.1.2.1 d.2.1.1 d.2.1.2.1 d.2.1.2.2.1 d.2.1.2.2.2.1
noncomputable def l39_14 : LoopI := ⟨⟨[(1, .v zTc), (2, .c (.ptr 2 [])), (8, .c (.view 29 [])), (9, .c (.view 9 [])), (10, .c (.view 10 [])), (12, .v (.int .i64))], [(2, false, .str zTa), (9, true, .list true 3 (.int .i64)), (10, true, .list true 3 (.int .i64)), (29, true, .list true 4 .bool)], none⟩, [(.exit 2, ⟨[(8, .c (.view 29 [])), (9, .c (.view 9 [])), (10, .c (.view 10 []))], [(9, true, .list true 3 (.int .i64)), (10, true, .list true 3 (.int .i64)), (29, true, .list true 4 .bool)], none⟩)], L39_14⟩
noncomputable def B39_24 (_n : Nat) (L : (Int × Unit) × ((List Int) × (List Int) × (List Bool) × Unit) × Unit → Option (((Unit) × ((List Int) × (List Int) × Unit) × Unit))) (p_14 : Int) (o_9 : List Int) (o_10 : List Int) (o_29 : List Bool) : Option (((Unit) × ((List Int) × (List Int) × Unit) × Unit)) :=
  cond (decide (p_14 < (o_29.length : Int))) (inR p_14 o_29.length (getI o_29 p_14 fun e19 => cond (!e19) (lenK ((o_9.length : Int) + [p_14].length) (L (((IntKind.wrap .i64 (p_14 + 1)), ()), ((o_9 ++ [p_14]), o_10, o_29, ()), ()))) (L (((IntKind.wrap .i64 (p_14 + 1)), ()), (o_9, o_10, o_29, ()), ())))) (some ((), (o_9, o_10, ()), ()))
noncomputable def L39_24 : Nat → (Int × Unit) × ((List Int) × (List Int) × (List Bool) × Unit) × Unit → Option (((Unit) × ((List Int) × (List Int) × Unit) × Unit))
  | 0, _ => none
  | n + 1, d => B39_24 n (L39_24 n) d.1.1 d.2.1.1 d.2.1.2.1 d.2.1.2.2.1
noncomputable def l39_24 : LoopI := ⟨⟨[(8, .c (.view 29 [])), (9, .c (.view 9 [])), (10, .c (.view 10 [])), (14, .v (.int .i64))], [(9, true, .list true 3 (.int .i64)), (10, true, .list true 3 (.int .i64)), (29, true, .list true 4 .bool)], none⟩, [(.exit 6, ⟨[(9, .c (.view 9 [])), (10, .c (.view 10 []))], [(9, true, .list true 3 (.int .i64)), (10, true, .list true 3 (.int .i64))], none⟩)], L39_24⟩
noncomputable def F39 (n : Nat) (k_0 : zTb) (seen_1 : (List (List Int))) : Option (((List Int) × (List Int) × Int × Unit) × (Unit)) :=
  derefK (g33 (k_0, ())) fun y1 => cond (y1.1.1 != 0) (some ((([] : List Int), ([] : List Int), y1.1.1, ()), ())) (cond ((seen_1.length : Int) != (k_0.2.2.length : Int)) (some ((([] : List Int), ([] : List Int), 1, ()), ())) (leK 0 (k_0.1.length : Int) (leK (k_0.1.length : Int) (k_0.1.length : Int) (lenK (k_0.1.length : Int) (derefK (L39_9 n ((seen_1, 0, ()), (k_0, ([] : List Int), ([] : List Int), (List.replicate (k_0.1.length : Int).toNat false), ()), ())) fun o3 => sumK o3 (fun d4 => some ((d4.2.1.1, d4.2.1.2.1, d4.1.1, ()), ())) (fun d5 => derefK (L39_14 n ((d5.1.1, 0, ()), (d5.2.1.1, d5.2.1.2.1, d5.2.1.2.2.1, d5.2.1.2.2.2.1, ()), ())) fun o18 => derefK (L39_24 n ((0, ()), (o18.2.1.1, o18.2.1.2.1, o18.2.1.2.2.1, ()), ())) fun o20 => some ((o20.2.1.1, o20.2.1.2.1, 0, ()), ())))))))
noncomputable def g39 (d : zTb × (List (List Int)) × Unit) : Option (((List Int) × (List Int) × Int × Unit) × (Unit)) := F39 fuel d.1 d.2.1
noncomputable def p39 : Prim := ⟨[.v (.str zTa), .v zTc], [.own 3 (.int .i64), .own 3 (.int .i64), .v (.int .i64)], g39⟩
noncomputable def c39 : Cfg := ⟨109, tyT, [], [(33, p33), (57, p57), (77, p77)], [(9, l39_9), (19, l39_19), (14, l39_14), (24, l39_24)], [], [], [], [], [], [], [], [], []⟩
theorem F39_eq (n : Nat) (d) : absFn c39 n Try.f39 (body Try.f39) [.v (.str zTa), .v zTc] [.own 3 (.int .i64), .own 3 (.int .i64), .v (.int .i64)] d = F39 n d.1 d.2.1 := by kernel_rfl
theorem L39_9_eq (n : Nat) (d) : (l39_9).g (n + 1) d = run c39 n (nth 0 (loopsOf (body Try.f39))) ((l39_9).ins.fill d) (roundK (l39_9) n) := by kernel_rfl
theorem L39_14_eq (n : Nat) (d) : (l39_14).g (n + 1) d = run c39 n (nth 1 (loopsOf (body Try.f39))) ((l39_14).ins.fill d) (roundK (l39_14) n) := by kernel_rfl
theorem L39_19_eq (n : Nat) (d) : (l39_19).g (n + 1) d = run c39 n (nth 2 (loopsOf (body Try.f39))) ((l39_19).ins.fill d) (roundK (l39_19) n) := by kernel_rfl
theorem L39_24_eq (n : Nat) (d) : (l39_24).g (n + 1) d = run c39 n (nth 3 (loopsOf (body Try.f39))) ((l39_24).ins.fill d) (roundK (l39_24) n) := by kernel_rfl
theorem ls39 : loopsOf (body Try.f39) = [nth 0 (loopsOf (body Try.f39)), nth 1 (loopsOf (body Try.f39)), nth 2 (loopsOf (body Try.f39)), nth 3 (loopsOf (body Try.f39))] := by kernel_rfl
theorem d39 : drawOK c39 (body Try.f39) = true := by kernel_rfl
theorem h39 : GoodF Try.prog 39 p39 := fn_done mixed (cfg := c39) (cfg_ok tyT_ok (goodCons h33 (goodCons h57 (goodCons h77 goodNil))) rfl (by kernel_rfl)) Try.func39 rfl rfl (by kernel_rfl) rfl (by rw [ls39]; simp only [List.forall_mem_cons]; exact ⟨loopHas (key := 9) (li := l39_9) (by kernel_rfl) rfl (fun _ => rfl) (L39_9_eq), loopHas (key := 14) (li := l39_14) (by kernel_rfl) rfl (fun _ => rfl) (L39_14_eq), loopHas (key := 19) (li := l39_19) (by kernel_rfl) rfl (fun _ => rfl) (L39_19_eq), loopHas (key := 24) (li := l39_24) (by kernel_rfl) rfl (fun _ => rfl) (L39_24_eq), fun _ h => by cases h⟩) d39 (fun d y h => ⟨fuel, (F39_eq fuel d).trans h⟩)
-- function 9
noncomputable def F9 (_n : Nat) (k_0 : zTb) (seen_1 : (List (List Int))) : Option ((Bool × Unit) × (Unit)) :=
  derefK (g38 (k_0, seen_1, ())) fun y1 => derefK (g39 (k_0, seen_1, ())) fun y2 => cond (y1.1.2.2.1 != y2.1.2.2.1) (some ((false, ()), ())) (derefK (g18 (y1.1.1, y2.1.1, ())) fun y3 => cond (!y3.1.1) (some ((false, ()), ())) (derefK (g18 (y1.1.2.1, y2.1.2.1, ())) fun y4 => cond (!y4.1.1) (some ((false, ()), ())) (derefK (g32 (k_0, ())) fun y5 => cond (y5.1.1 != 0) (derefK (g21 ()) fun y6 => some ((y6.1.1, ()), ())) (derefK (g38 (k_0, k_0.2.2, ())) fun y7 => cond (y7.1.2.2.1 == 0) (cond ((IntKind.wrap .i64 ((y7.1.1.length : Int) + (y7.1.2.1.length : Int))) == 0) (derefK (g21 ()) fun y8 => some ((y8.1.1, ()), ())) (some ((false, ()), ()))) (some ((false, ()), ()))))))
noncomputable def g9 (d : zTb × (List (List Int)) × Unit) : Option ((Bool × Unit) × (Unit)) := F9 fuel d.1 d.2.1
noncomputable def p9 : Prim := ⟨[.v (.str zTa), .v zTc], [.v .bool], g9⟩
noncomputable def c9 : Cfg := ⟨65, tyT, [], [(18, p18), (21, p21), (32, p32), (38, p38), (39, p39)], [], [], [], [], [], [], [], [], [], []⟩
theorem F9_eq (n : Nat) (d) : absFn c9 n Try.f9 (body Try.f9) [.v (.str zTa), .v zTc] [.v .bool] d = F9 n d.1 d.2.1 := by kernel_rfl
theorem d9 : drawOK c9 (body Try.f9) = true := by kernel_rfl
theorem h9 : GoodF Try.prog 9 p9 := fn_done mixed (cfg := c9) (cfg_ok tyT_ok (goodCons h18 (goodCons h21 (goodCons h32 (goodCons h38 (goodCons h39 goodNil))))) rfl (by kernel_rfl)) Try.func9 rfl rfl (by kernel_rfl) rfl (noLoops (by kernel_rfl)) d9 (fun d y h => ⟨fuel, (F9_eq fuel d).trans h⟩)
-- function 10
noncomputable def B10_16 (_n : Nat) (L : ((List Int) × (List Int) × Int × Int × Unit) × (zTb × (List Bool) × (List Int) × Unit) × Unit → Option (zTg ⊕ (((List Int) × Int × Unit) × (zTb × (List Bool) × (List Int) × Unit) × Unit))) (order_1 : List Int) (could_8 : List Int) (i_9 : Int) (n_14 : Int) (o_2 : zTd × (Int × (List (List Int)))) (o_31 : List Bool) (o_48000 : List Int) : Option (zTg ⊕ (((List Int) × Int × Unit) × (zTb × (List Bool) × (List Int) × Unit) × Unit)) :=
  cond (decide (n_14 < (could_8.length : Int))) (getI could_8 n_14 fun e6 => cond (decide (e6 < 0)) (some (.inl ((false, ()), (), ()))) (getI could_8 n_14 fun e7 => cond (decide (e7 ≥ (o_31.length : Int))) (some (.inl ((false, ()), (), ()))) (getI could_8 n_14 fun e8 => inR e8 o_31.length (getI o_31 e8 fun e9 => cond (!e9) (getI could_8 n_14 fun e10 => derefK (g27 (o_48000, e10, ())) fun y11 => cond (!y11.1.1) (some (.inl ((false, ()), (), ()))) (L ((order_1, could_8, i_9, (IntKind.wrap .i64 (n_14 + 1)), ()), (o_2, o_31, o_48000, ()), ()))) (L ((order_1, could_8, i_9, (IntKind.wrap .i64 (n_14 + 1)), ()), (o_2, o_31, o_48000, ()), ())))))) (some (.inr ((order_1, i_9, ()), (o_2, o_31, o_48000, ()), ())))
noncomputable def L10_16 : Nat → ((List Int) × (List Int) × Int × Int × Unit) × (zTb × (List Bool) × (List Int) × Unit) × Unit → Option (zTg ⊕ (((List Int) × Int × Unit) × (zTb × (List Bool) × (List Int) × Unit) × Unit))
  | 0, _ => none
  | n + 1, d => B10_16 n (L10_16 n) d.1.1 d.1.2.1 d.1.2.2.1 d.1.2.2.2.1 d.2.1.1 d.2.1.2.1 d.2.1.2.2.1
noncomputable def l10_16 : LoopI := ⟨⟨[(1, .v (.list false 3 (.int .i64))), (2, .c (.ptr 2 [])), (7, .c (.view 31 [])), (8, .v (.list false 3 (.int .i64))), (9, .v (.int .i64)), (12, .c (.view 48000 [])), (14, .v (.int .i64))], [(2, false, .str zTa), (31, true, .list true 4 .bool), (48000, true, .list true 3 (.int .i64))], none⟩, [(.ret, ⟨[(4, .v .bool)], [], none⟩), (.exit 2, ⟨[(1, .v (.list false 3 (.int .i64))), (2, .c (.ptr 2 [])), (7, .c (.view 31 [])), (9, .v (.int .i64)), (12, .c (.view 48000 []))], [(2, false, .str zTa), (31, true, .list true 4 .bool), (48000, true, .list true 3 (.int .i64))], none⟩)], L10_16⟩
noncomputable def B10_9 (n : Nat) (L : ((List Int) × (List Int) × Int × Unit) × (zTb × (List Bool) × Unit) × Unit → Option (zTg ⊕ ((Unit) × (Unit) × Unit))) (order_1 : List Int) (could_8 : List Int) (i_9 : Int) (o_2 : zTd × (Int × (List (List Int)))) (o_31 : List Bool) : Option (zTg ⊕ ((Unit) × (Unit) × Unit)) :=
  cond (decide (i_9 ≤ (order_1.length : Int))) (derefK (g36 (o_2, o_31, ())) fun y4 => derefK (g34 (o_2, o_31, ())) fun y5 => cond (y4.1.2.1 != 0) (some (.inl ((false, ()), (), ()))) (cond (y5.1.2.1 != 0) (some (.inl ((false, ()), (), ()))) (cond (decide ((y4.1.1.length : Int) > 0)) (some (.inl ((false, ()), (), ()))) (derefK (L10_16 n ((order_1, could_8, i_9, 0, ()), (o_2, o_31, y5.1.1, ()), ())) fun o12 => sumK o12 (fun d13 => some (.inl ((d13.1.1, ()), (), ()))) (fun d14 => cond (decide (d14.1.2.1 < (d14.1.1.length : Int))) (getI d14.1.1 d14.1.2.1 fun e15 => cond (decide (e15 < 0)) (some (.inl ((false, ()), (), ()))) (getI d14.1.1 d14.1.2.1 fun e16 => cond (decide (e16 ≥ (d14.2.1.2.1.length : Int))) (some (.inl ((false, ()), (), ()))) (getI d14.1.1 d14.1.2.1 fun e17 => derefK (g27 (d14.2.1.2.2.1, e17, ())) fun y18 => cond (!y18.1.1) (some (.inl ((false, ()), (), ()))) (getI d14.1.1 d14.1.2.1 fun e19 => inR e19 d14.2.1.2.1.length (getI d14.2.1.2.1 e19 fun _ => L ((d14.1.1, d14.2.1.2.2.1, (IntKind.wrap .i64 (d14.1.2.1 + 1)), ()), (d14.2.1.1, (d14.2.1.2.1.set e19.toNat true), ()), ())))))) (L ((d14.1.1, d14.2.1.2.2.1, (IntKind.wrap .i64 (d14.1.2.1 + 1)), ()), (d14.2.1.1, d14.2.1.2.1, ()), ()))))))) (some (.inr ((), (), ())))
noncomputable def L10_9 : Nat → ((List Int) × (List Int) × Int × Unit) × (zTb × (List Bool) × Unit) × Unit → Option (zTg ⊕ ((Unit) × (Unit) × Unit))
  | 0, _ => none
  | n + 1, d => B10_9 n (L10_9 n) d.1.1 d.1.2.1 d.1.2.2.1 d.2.1.1 d.2.1.2.1
noncomputable def l10_9 : LoopI := ⟨⟨[(1, .v (.list false 3 (.int .i64))), (2, .c (.ptr 2 [])), (7, .c (.view 31 [])), (8, .v (.list false 3 (.int .i64))), (9, .v (.int .i64))], [(2, false, .str zTa), (31, true, .list true 4 .bool)], none⟩, [(.ret, ⟨[(4, .v .bool)], [], none⟩), (.exit 0, ⟨[], [], none⟩)], L10_9⟩
noncomputable def F10 (n : Nat) (k_0 : zTb) (order_1 : (List Int)) : Option ((Bool × Unit) × (Unit)) :=
  cond (decide ((order_1.length : Int) > 16)) (derefK (g21 ()) fun y1 => some ((y1.1.1, ()), ())) (derefK (g26 (k_0, order_1, ())) fun y2 => cond (y2.1.2.1 != 0) (derefK (g21 ()) fun y3 => some ((y3.1.1, ()), ())) (leK 0 (k_0.1.length : Int) (leK (k_0.1.length : Int) (k_0.1.length : Int) (lenK (k_0.1.length : Int) (derefK (L10_9 n ((order_1, [], 0, ()), (k_0, (List.replicate (k_0.1.length : Int).toNat false), ()), ())) fun o21 => sumK o21 (fun d22 => some ((d22.1.1, ()), ())) (fun _ => derefK (g21 ()) fun y24 => some ((y24.1.1, ()), ())))))))
noncomputable def g10 (d : zTb × (List Int) × Unit) : Option ((Bool × Unit) × (Unit)) := F10 fuel d.1 d.2.1
noncomputable def p10 : Prim := ⟨[.v (.str zTa), .v (.list false 3 (.int .i64))], [.v .bool], g10⟩
noncomputable def c10 : Cfg := ⟨135, tyT, [(8, .list false 3 (.int .i64))], [(21, p21), (26, p26), (27, p27), (34, p34), (36, p36)], [(16, l10_16), (9, l10_9)], [], [], [], [], [], [], [], [], []⟩
theorem F10_eq (n : Nat) (d) : absFn c10 n Try.f10 (body Try.f10) [.v (.str zTa), .v (.list false 3 (.int .i64))] [.v .bool] d = F10 n d.1 d.2.1 := by kernel_rfl
theorem L10_9_eq (n : Nat) (d) : (l10_9).g (n + 1) d = run c10 n (nth 0 (loopsOf (body Try.f10))) ((l10_9).ins.fill d) (roundK (l10_9) n) := by kernel_rfl
theorem L10_16_eq (n : Nat) (d) : (l10_16).g (n + 1) d = run c10 n (nth 1 (loopsOf (body Try.f10))) ((l10_16).ins.fill d) (roundK (l10_16) n) := by kernel_rfl
theorem ls10 : loopsOf (body Try.f10) = [nth 0 (loopsOf (body Try.f10)), nth 1 (loopsOf (body Try.f10))] := by kernel_rfl
theorem d10 : drawOK c10 (body Try.f10) = true := by kernel_rfl
theorem h10 : GoodF Try.prog 10 p10 := fn_done mixed (cfg := c10) (cfg_ok tyT_ok (goodCons h21 (goodCons h26 (goodCons h27 (goodCons h34 (goodCons h36 goodNil))))) rfl (by kernel_rfl)) Try.func10 rfl rfl (by kernel_rfl) rfl (by rw [ls10]; simp only [List.forall_mem_cons]; exact ⟨loopHas (key := 9) (li := l10_9) (by kernel_rfl) rfl (fun _ => rfl) (L10_9_eq), loopHas (key := 16) (li := l10_16) (by kernel_rfl) rfl (fun _ => rfl) (L10_16_eq), fun _ h => by cases h⟩) d10 (fun d y h => ⟨fuel, (F10_eq fuel d).trans h⟩)
-- function 11
noncomputable def B11_7 (_n : Nat) (L : ((List (Int × Int)) × Bool × (List Int) × Int × Int × Int × Unit) × (zTb × (List Int) × Unit) × Unit → Option ((((List (Int × Int)) × Bool × (List Int) × Int × Int × Unit) × (zTb × (List Int) × Unit) × Unit))) (l_1 : List (Int × Int)) (ready_5 : Bool) (left_6 : List Int) (all_9 : Int) (set_10 : Int) (p_11 : Int) (o_2 : zTd × (Int × (List (List Int)))) (o_37 : List Int) : Option ((((List (Int × Int)) × Bool × (List Int) × Int × Int × Unit) × (zTb × (List Int) × Unit) × Unit)) :=
  cond (decide (p_11 < (o_2.1.length : Int))) (getI o_2.1 p_11 fun e5 => L ((l_1, ready_5, left_6, (IntKind.wrap .i64 (all_9 + e5.2.2.1)), set_10, (IntKind.wrap .i64 (p_11 + 1)), ()), (o_2, o_37, ()), ())) (some ((l_1, ready_5, left_6, all_9, set_10, ()), (o_2, o_37, ()), ()))
noncomputable def L11_7 : Nat → ((List (Int × Int)) × Bool × (List Int) × Int × Int × Int × Unit) × (zTb × (List Int) × Unit) × Unit → Option ((((List (Int × Int)) × Bool × (List Int) × Int × Int × Unit) × (zTb × (List Int) × Unit) × Unit))
  | 0, _ => none
  | n + 1, d => B11_7 n (L11_7 n) d.1.1 d.1.2.1 d.1.2.2.1 d.1.2.2.2.1 d.1.2.2.2.2.1 d.1.2.2.2.2.2.1 d.2.1.1 d.2.1.2.1
noncomputable def l11_7 : LoopI := ⟨⟨[(1, .v zTh), (2, .c (.ptr 2 [])), (5, .v .bool), (6, .v (.list false 3 (.int .i64))), (8, .c (.view 37 [])), (9, .v (.int .i64)), (10, .v (.int .i64)), (11, .v (.int .i64))], [(2, false, .str zTa), (37, true, .list true 3 (.int .i64))], none⟩, [(.exit 0, ⟨[(1, .v zTh), (2, .c (.ptr 2 [])), (5, .v .bool), (6, .v (.list false 3 (.int .i64))), (8, .c (.view 37 [])), (9, .v (.int .i64)), (10, .v (.int .i64))], [(2, false, .str zTa), (37, true, .list true 3 (.int .i64))], none⟩)], L11_7⟩
noncomputable def B11_21 (_n : Nat) (L : ((List (Int × Int)) × Bool × (List Int) × Int × Int × Int × Int × Int × Unit) × zTk × Unit → Option (zTg ⊕ (((List (Int × Int)) × Bool × (List Int) × Int × Int × Int × Int × Unit) × zTk × Unit))) (l_1 : List (Int × Int)) (ready_5 : Bool) (left_6 : List Int) (all_9 : Int) (set_10 : Int) (i_13 : Int) (p_14 : Int) (n_15 : Int) (o_2 : zTd × (Int × (List (List Int)))) (o_12 : List Int) (o_37 : List Int) : Option (zTg ⊕ (((List (Int × Int)) × Bool × (List Int) × Int × Int × Int × Int × Unit) × zTk × Unit)) :=
  getI o_2.1 p_14 fun e11 => cond (decide (n_15 < (e11.2.2.2.length : Int))) (getI o_2.1 p_14 fun e12 => getI e12.2.2.2 n_15 fun e13 => inR e13 o_37.length (getI o_37 e13 fun e14 => getI o_2.1 p_14 fun e15 => getI e15.2.2.2 n_15 fun e16 => getI o_2.1 e16 fun e17 => cond (e14 != e17.2.2.1) (some (.inl ((false, ()), (), ()))) (L ((l_1, ready_5, left_6, all_9, set_10, i_13, p_14, (IntKind.wrap .i64 (n_15 + 1)), ()), (o_2, o_12, o_37, ()), ())))) (some (.inr ((l_1, ready_5, left_6, all_9, set_10, i_13, p_14, ()), (o_2, o_12, o_37, ()), ())))
noncomputable def L11_21 : Nat → ((List (Int × Int)) × Bool × (List Int) × Int × Int × Int × Int × Int × Unit) × zTk × Unit → Option (zTg ⊕ (((List (Int × Int)) × Bool × (List Int) × Int × Int × Int × Int × Unit) × zTk × Unit))
  | 0, _ => none
  | n + 1, d => B11_21 n (L11_21 n) d.1.1 d.1.2.1 d.1.2.2.1 d.1.2.2.2.1 d.1.2.2.2.2.1 d.1.2.2.2.2.2.1 d.1.2.2.2.2.2.2.1 d.1.2.2.2.2.2.2.2.1 d.2.1.1 d.2.1.2.1 d.2.1.2.2.1
noncomputable def l11_21 : LoopI := ⟨⟨[(1, .v zTh), (2, .c (.ptr 2 [])), (5, .v .bool), (6, .v (.list false 3 (.int .i64))), (8, .c (.view 37 [])), (9, .v (.int .i64)), (10, .v (.int .i64)), (12, .c (.view 12 [])), (13, .v (.int .i64)), (14, .v (.int .i64)), (15, .v (.int .i64))], [(2, false, .str zTa), (12, true, .list true 3 (.int .i64)), (37, true, .list true 3 (.int .i64))], none⟩, [(.ret, ⟨[(4, .v .bool)], [], none⟩), (.exit 4, ⟨[(1, .v zTh), (2, .c (.ptr 2 [])), (5, .v .bool), (6, .v (.list false 3 (.int .i64))), (8, .c (.view 37 [])), (9, .v (.int .i64)), (10, .v (.int .i64)), (12, .c (.view 12 [])), (13, .v (.int .i64)), (14, .v (.int .i64))], [(2, false, .str zTa), (12, true, .list true 3 (.int .i64)), (37, true, .list true 3 (.int .i64))], none⟩)], L11_21⟩
noncomputable def B11_12 (n : Nat) (L : ((List (Int × Int)) × Bool × (List Int) × Int × Int × Int × Unit) × zTk × Unit → Option (zTg ⊕ ((Bool × (List Int) × Int × Int × Unit) × zTk × Unit))) (l_1 : List (Int × Int)) (ready_5 : Bool) (left_6 : List Int) (all_9 : Int) (set_10 : Int) (i_13 : Int) (o_2 : zTd × (Int × (List (List Int)))) (o_12 : List Int) (o_37 : List Int) : Option (zTg ⊕ ((Bool × (List Int) × Int × Int × Unit) × zTk × Unit)) :=
  cond (decide (i_13 < (l_1.length : Int))) (getI l_1 i_13 fun e7 => cond (decide (e7.2 < 0)) (some (.inl ((false, ()), (), ()))) (cond (decide (e7.2 ≥ (o_37.length : Int))) (some (.inl ((false, ()), (), ()))) (getI l_1 i_13 fun e8 => cond (e8.1 == 2) (inR e7.2 o_37.length (getI o_37 e7.2 fun e9 => inR e7.2 o_37.length (getI o_37 e7.2 fun _ => L ((l_1, ready_5, left_6, all_9, (IntKind.wrap .i64 (set_10 + 1)), (IntKind.wrap .i64 (i_13 + 1)), ()), (o_2, o_12, (o_37.set e7.2.toNat (IntKind.wrap .i64 (e9 + 1))), ()), ())))) (derefK (L11_21 n ((l_1, ready_5, left_6, all_9, set_10, i_13, e7.2, 0, ()), (o_2, o_12, o_37, ()), ())) fun o18 => sumK o18 (fun d19 => some (.inl ((d19.1.1, ()), (), ()))) (fun d20 => lenK ((d20.2.1.2.1.length : Int) + [d20.1.2.2.2.2.2.2.1].length) (L ((d20.1.1, d20.1.2.1, d20.1.2.2.1, d20.1.2.2.2.1, d20.1.2.2.2.2.1, (IntKind.wrap .i64 (d20.1.2.2.2.2.2.1 + 1)), ()), (d20.2.1.1, (d20.2.1.2.1 ++ [d20.1.2.2.2.2.2.2.1]), d20.2.1.2.2.1, ()), ()))))))) (some (.inr ((ready_5, left_6, all_9, set_10, ()), (o_2, o_12, o_37, ()), ())))
noncomputable def L11_12 : Nat → ((List (Int × Int)) × Bool × (List Int) × Int × Int × Int × Unit) × zTk × Unit → Option (zTg ⊕ ((Bool × (List Int) × Int × Int × Unit) × zTk × Unit))
  | 0, _ => none
  | n + 1, d => B11_12 n (L11_12 n) d.1.1 d.1.2.1 d.1.2.2.1 d.1.2.2.2.1 d.1.2.2.2.2.1 d.1.2.2.2.2.2.1 d.2.1.1 d.2.1.2.1 d.2.1.2.2.1
noncomputable def l11_12 : LoopI := ⟨⟨[(1, .v zTh), (2, .c (.ptr 2 [])), (5, .v .bool), (6, .v (.list false 3 (.int .i64))), (8, .c (.view 37 [])), (9, .v (.int .i64)), (10, .v (.int .i64)), (12, .c (.view 12 [])), (13, .v (.int .i64))], [(2, false, .str zTa), (12, true, .list true 3 (.int .i64)), (37, true, .list true 3 (.int .i64))], none⟩, [(.ret, ⟨[(4, .v .bool)], [], none⟩), (.exit 2, ⟨[(2, .c (.ptr 2 [])), (5, .v .bool), (6, .v (.list false 3 (.int .i64))), (8, .c (.view 37 [])), (9, .v (.int .i64)), (10, .v (.int .i64)), (12, .c (.view 12 []))], [(2, false, .str zTa), (12, true, .list true 3 (.int .i64)), (37, true, .list true 3 (.int .i64))], none⟩)], L11_12⟩
noncomputable def B11_29 (_n : Nat) (L : (Bool × (List Int) × Int × Int × Int × Unit) × zTk × Unit → Option (zTg ⊕ ((Bool × Int × Int × Unit) × (zTb × (List Int) × Unit) × Unit))) (ready_5 : Bool) (left_6 : List Int) (all_9 : Int) (set_10 : Int) (p_16 : Int) (o_2 : zTd × (Int × (List (List Int)))) (o_12 : List Int) (o_37 : List Int) : Option (zTg ⊕ ((Bool × Int × Int × Unit) × (zTb × (List Int) × Unit) × Unit)) :=
  cond (decide (p_16 < (o_37.length : Int))) (getI left_6 p_16 fun e24 => getI o_2.1 p_16 fun e25 => inR p_16 o_37.length (getI o_37 p_16 fun e26 => cond (e24 != (IntKind.wrap .i64 (e25.2.2.1 - e26))) (some (.inl ((false, ()), (), ()))) (L ((ready_5, left_6, all_9, set_10, (IntKind.wrap .i64 (p_16 + 1)), ()), (o_2, o_12, o_37, ()), ())))) (some (.inr ((ready_5, all_9, set_10, ()), (o_2, o_12, ()), ())))
noncomputable def L11_29 : Nat → (Bool × (List Int) × Int × Int × Int × Unit) × zTk × Unit → Option (zTg ⊕ ((Bool × Int × Int × Unit) × (zTb × (List Int) × Unit) × Unit))
  | 0, _ => none
  | n + 1, d => B11_29 n (L11_29 n) d.1.1 d.1.2.1 d.1.2.2.1 d.1.2.2.2.1 d.1.2.2.2.2.1 d.2.1.1 d.2.1.2.1 d.2.1.2.2.1
noncomputable def l11_29 : LoopI := ⟨⟨[(2, .c (.ptr 2 [])), (5, .v .bool), (6, .v (.list false 3 (.int .i64))), (8, .c (.view 37 [])), (9, .v (.int .i64)), (10, .v (.int .i64)), (12, .c (.view 12 [])), (16, .v (.int .i64))], [(2, false, .str zTa), (12, true, .list true 3 (.int .i64)), (37, true, .list true 3 (.int .i64))], none⟩, [(.ret, ⟨[(4, .v .bool)], [], none⟩), (.exit 6, ⟨[(2, .c (.ptr 2 [])), (5, .v .bool), (9, .v (.int .i64)), (10, .v (.int .i64)), (12, .c (.view 12 []))], [(2, false, .str zTa), (12, true, .list true 3 (.int .i64))], none⟩)], L11_29⟩
noncomputable def F11 (n : Nat) (k_0 : zTb) (l_1 : (List (Int × Int))) : Option ((Bool × Unit) × (Unit)) :=
  derefK (g30 (k_0, l_1, ())) fun y1 => cond (y1.1.2.2.1 != 0) (derefK (g21 ()) fun y2 => some ((y2.1.1, ()), ())) (derefK (g33 (k_0, ())) fun y3 => cond (y3.1.1 != 0) (derefK (g21 ()) fun y4 => some ((y4.1.1, ()), ())) (leK 0 (k_0.1.length : Int) (leK (k_0.1.length : Int) (k_0.1.length : Int) (lenK (k_0.1.length : Int) (derefK (L11_7 n ((l_1, y1.1.1, y1.1.2.1, 0, 0, 0, ()), (k_0, (List.replicate (k_0.1.length : Int).toNat (0 : Int)), ()), ())) fun o6 => derefK (L11_12 n ((o6.1.1, o6.1.2.1, o6.1.2.2.1, o6.1.2.2.2.1, o6.1.2.2.2.2.1, 0, ()), (o6.2.1.1, ([] : List Int), o6.2.1.2.1, ()), ())) fun o21 => sumK o21 (fun d22 => some ((d22.1.1, ()), ())) (fun d23 => cond ((d23.1.2.1.length : Int) != (d23.2.1.2.2.1.length : Int)) (some ((false, ()), ())) (derefK (L11_29 n ((d23.1.1, d23.1.2.1, d23.1.2.2.1, d23.1.2.2.2.1, 0, ()), (d23.2.1.1, d23.2.1.2.1, d23.2.1.2.2.1, ()), ())) fun o27 => sumK o27 (fun d28 => some ((d28.1.1, ()), ())) (fun d29 => derefK (g26 (d29.2.1.1, d29.2.1.2.1, ())) fun y30 => cond (y30.1.2.1 != 0) (some ((false, ()), ())) (cond (d29.1.2.2.1 == d29.1.2.1) (cond (d29.1.1 == ((d29.2.1.2.1.length : Int) == (d29.2.1.1.1.length : Int))) (derefK (g21 ()) fun y31 => some ((y31.1.1, ()), ())) (some ((false, ()), ()))) (cond (d29.1.1 == false) (derefK (g21 ()) fun y32 => some ((y32.1.1, ()), ())) (some ((false, ()), ()))))))))))))
noncomputable def g11 (d : zTb × (List (Int × Int)) × Unit) : Option ((Bool × Unit) × (Unit)) := F11 fuel d.1 d.2.1
noncomputable def p11 : Prim := ⟨[.v (.str zTa), .v zTh], [.v .bool], g11⟩
noncomputable def c11 : Cfg := ⟨179, tyT, [], [(21, p21), (26, p26), (30, p30), (33, p33)], [(7, l11_7), (21, l11_21), (12, l11_12), (29, l11_29)], [], [], [], [], [], [], [], [], []⟩
theorem F11_eq (n : Nat) (d) : absFn c11 n Try.f11 (body Try.f11) [.v (.str zTa), .v zTh] [.v .bool] d = F11 n d.1 d.2.1 := by kernel_rfl
theorem L11_7_eq (n : Nat) (d) : (l11_7).g (n + 1) d = run c11 n (nth 0 (loopsOf (body Try.f11))) ((l11_7).ins.fill d) (roundK (l11_7) n) := by kernel_rfl
theorem L11_12_eq (n : Nat) (d) : (l11_12).g (n + 1) d = run c11 n (nth 1 (loopsOf (body Try.f11))) ((l11_12).ins.fill d) (roundK (l11_12) n) := by kernel_rfl
theorem L11_21_eq (n : Nat) (d) : (l11_21).g (n + 1) d = run c11 n (nth 2 (loopsOf (body Try.f11))) ((l11_21).ins.fill d) (roundK (l11_21) n) := by kernel_rfl
theorem L11_29_eq (n : Nat) (d) : (l11_29).g (n + 1) d = run c11 n (nth 3 (loopsOf (body Try.f11))) ((l11_29).ins.fill d) (roundK (l11_29) n) := by kernel_rfl
theorem ls11 : loopsOf (body Try.f11) = [nth 0 (loopsOf (body Try.f11)), nth 1 (loopsOf (body Try.f11)), nth 2 (loopsOf (body Try.f11)), nth 3 (loopsOf (body Try.f11))] := by kernel_rfl
theorem d11 : drawOK c11 (body Try.f11) = true := by kernel_rfl
theorem h11 : GoodF Try.prog 11 p11 := fn_done mixed (cfg := c11) (cfg_ok tyT_ok (goodCons h21 (goodCons h26 (goodCons h30 (goodCons h33 goodNil)))) rfl (by kernel_rfl)) Try.func11 rfl rfl (by kernel_rfl) rfl (by rw [ls11]; simp only [List.forall_mem_cons]; exact ⟨loopHas (key := 7) (li := l11_7) (by kernel_rfl) rfl (fun _ => rfl) (L11_7_eq), loopHas (key := 12) (li := l11_12) (by kernel_rfl) rfl (fun _ => rfl) (L11_12_eq), loopHas (key := 21) (li := l11_21) (by kernel_rfl) rfl (fun _ => rfl) (L11_21_eq), loopHas (key := 29) (li := l11_29) (by kernel_rfl) rfl (fun _ => rfl) (L11_29_eq), fun _ h => by cases h⟩) d11 (fun d y h => ⟨fuel, (F11_eq fuel d).trans h⟩)
-- function 95
noncomputable def B95_2 (_n : Nat) (L : (zTd × ((Int × (Int × (Int × (List Int)))) → Option Bool) × Int × Int × Unit) × (Unit) × Unit → Option (zTj ⊕ ((Unit) × (Unit) × Unit))) (s_0 : List (Int × (Int × (Int × (List Int))))) (f_1 : (Int × (Int × (Int × (List Int)))) → Option Bool) (t_7 : Int) (t_8 : Int) : Option (zTj ⊕ ((Unit) × (Unit) × Unit)) :=
  cond (decide (t_8 < t_7)) (getI s_0 t_8 fun e1 => derefK (f_1 e1) fun y2 => cond y2 (some (.inl ((t_8, ()), (), ()))) (L ((s_0, f_1, t_7, (IntKind.wrap .i64 (t_8 + 1)), ()), (), ()))) (some (.inr ((), (), ())))
noncomputable def L95_2 : Nat → (zTd × ((Int × (Int × (Int × (List Int)))) → Option Bool) × Int × Int × Unit) × (Unit) × Unit → Option (zTj ⊕ ((Unit) × (Unit) × Unit))
  | 0, _ => none
  | n + 1, d => B95_2 n (L95_2 n) d.1.1 d.1.2.1 d.1.2.2.1 d.1.2.2.2.1
noncomputable def l95_2 : LoopI := ⟨⟨[(0, .v (.list false 38 zTf)), (1, .v (.fn zTf .bool)), (7, .v (.int .i64)), (8, .v (.int .i64))], [], none⟩, [(.ret, ⟨[(4, .v (.int .i64))], [], none⟩), (.exit 0, ⟨[], [], none⟩)], L95_2⟩
noncomputable def F95 (n : Nat) (s_0 : zTd) (f_1 : ((Int × (Int × (Int × (List Int)))) → Option Bool)) : Option ((Int × Unit) × (Unit)) :=
  derefK (L95_2 n ((s_0, f_1, (s_0.length : Int), 0, ()), (), ())) fun o3 => sumK o3 (fun d4 => some ((d4.1.1, ()), ())) (fun _ => some (((-1), ()), ()))
noncomputable def g95 (d : zTd × ((Int × (Int × (Int × (List Int)))) → Option Bool) × Unit) : Option ((Int × Unit) × (Unit)) := F95 fuel d.1 d.2.1
noncomputable def p95 : Prim := ⟨[.v (.list false 38 zTf), .v (.fn zTf .bool)], [.v (.int .i64)], g95⟩
noncomputable def c95 : Cfg := ⟨19, tyT, [], [], [(2, l95_2)], [], [], [], [], [], [], [], [], []⟩
theorem F95_eq (n : Nat) (d) : absFn c95 n Try.f95 (body Try.f95) [.v (.list false 38 zTf), .v (.fn zTf .bool)] [.v (.int .i64)] d = F95 n d.1 d.2.1 := by kernel_rfl
theorem L95_2_eq (n : Nat) (d) : (l95_2).g (n + 1) d = run c95 n (nth 0 (loopsOf (body Try.f95))) ((l95_2).ins.fill d) (roundK (l95_2) n) := by kernel_rfl
theorem ls95 : loopsOf (body Try.f95) = [nth 0 (loopsOf (body Try.f95))] := by kernel_rfl
theorem d95 : drawOK c95 (body Try.f95) = true := by kernel_rfl
theorem h95 : GoodF Try.prog 95 p95 := fn_done mixed (cfg := c95) (cfg_ok tyT_ok (goodNil) rfl (by kernel_rfl)) Try.func95 rfl rfl (by kernel_rfl) rfl (by rw [ls95]; simp only [List.forall_mem_cons]; exact ⟨loopHas (key := 2) (li := l95_2) (by kernel_rfl) rfl (fun _ => rfl) (L95_2_eq), fun _ h => by cases h⟩) d95 (fun d y h => ⟨fuel, (F95_eq fuel d).trans h⟩)
-- function 79
noncomputable def F79 (_n : Nat) (s_0 : zTd) (f_1 : ((Int × (Int × (Int × (List Int)))) → Option Bool)) : Option ((Bool × Unit) × (Unit)) :=
  derefK (g95 (s_0, f_1, ())) fun y1 => some (((decide (y1.1.1 ≥ 0)), ()), ())
noncomputable def g79 (d : zTd × ((Int × (Int × (Int × (List Int)))) → Option Bool) × Unit) : Option ((Bool × Unit) × (Unit)) := F79 fuel d.1 d.2.1
noncomputable def p79 : Prim := ⟨[.v (.list false 38 zTf), .v (.fn zTf .bool)], [.v .bool], g79⟩
noncomputable def c79 : Cfg := ⟨9, tyT, [], [(95, p95)], [], [], [], [], [], [], [], [], [], []⟩
theorem F79_eq (n : Nat) (d) : absFn c79 n Try.f79 (body Try.f79) [.v (.list false 38 zTf), .v (.fn zTf .bool)] [.v .bool] d = F79 n d.1 d.2.1 := by kernel_rfl
theorem d79 : drawOK c79 (body Try.f79) = true := by kernel_rfl
theorem h79 : GoodF Try.prog 79 p79 := fn_done mixed (cfg := c79) (cfg_ok tyT_ok (goodCons h95 goodNil) rfl (by kernel_rfl)) Try.func79 rfl rfl (by kernel_rfl) rfl (noLoops (by kernel_rfl)) d79 (fun d y h => ⟨fuel, (F79_eq fuel d).trans h⟩)
-- function 80
noncomputable def F80 (_n : Nat) (p_0 : (Int × (Int × (Int × (List Int))))) (t_1 : Int) : Option ((Bool × Unit) × (Unit)) :=
  some (((decide (p_0.1 > t_1)), ()), ())
noncomputable def g80 (d : (Int × (Int × (Int × (List Int)))) × Int × Unit) : Option ((Bool × Unit) × (Unit)) := F80 fuel d.1 d.2.1
noncomputable def p80 : Prim := ⟨[.v zTf, .r (.int .i64)], [.v .bool], g80⟩
noncomputable def c80 : Cfg := ⟨8, tyT, [], [], [], [], [], [], [], [], [], [], [], []⟩
theorem F80_eq (n : Nat) (d) : absFn c80 n Try.f80 (body Try.f80) [.v zTf, .r (.int .i64)] [.v .bool] d = F80 n d.1 d.2.1 := by kernel_rfl
theorem d80 : drawOK c80 (body Try.f80) = true := by kernel_rfl
theorem h80 : GoodF Try.prog 80 p80 := fn_done mixed (cfg := c80) (cfg_ok tyT_ok (goodNil) rfl (by kernel_rfl)) Try.func80 rfl rfl (by kernel_rfl) rfl (noLoops (by kernel_rfl)) d80 (fun d y h => ⟨fuel, (F80_eq fuel d).trans h⟩)
-- function 81
noncomputable def B81_5 (rec : zTi × Unit → Option ((Bool × Unit) × (zTi × Unit))) (_n : Nat) (L : (Int × Int × Int × Unit) × (zTi × Unit) × Unit → Option (((Bool × Unit) × (zTi × Unit) × Unit) ⊕ ((Unit) × (zTi × Unit) × Unit))) (w_3 : Int) (t_33 : Int) (t_34 : Int) (o_0p : zTd × (Int × ((List Int) × (List Int)))) : Option (((Bool × Unit) × (zTi × Unit) × Unit) ⊕ ((Unit) × (zTi × Unit) × Unit)) :=
  cond (decide (t_34 < t_33)) (inR t_34 o_0p.2.2.1.length (getI o_0p.2.2.1 t_34 fun e2 => cond (decide ((IntKind.wrap .i64 (e2 + w_3)) > o_0p.2.1)) (L ((w_3, t_33, (IntKind.wrap .i64 (t_34 + 1)), ()), (o_0p, ()), ())) (inR t_34 o_0p.2.2.1.length (getI o_0p.2.2.1 t_34 fun e3 => inR t_34 o_0p.2.2.1.length (getI o_0p.2.2.1 t_34 fun _ => bindV (o_0p.1, (o_0p.2.1, ((o_0p.2.2.1.set t_34.toNat (IntKind.wrap .i64 (e3 + w_3))), o_0p.2.2.2))) fun z5 => lenK ((z5.2.2.2.length : Int) + [t_34].length) (derefK (rec ((z5.1, (z5.2.1, (z5.2.2.1, (z5.2.2.2 ++ [t_34])))), ())) fun y6 => cond y6.1.1 (some (.inl ((true, ()), (y6.2.1, ()), ()))) (leK 0 (IntKind.wrap .i64 ((y6.2.1.2.2.2.length : Int) - 1)) (leK (IntKind.wrap .i64 ((y6.2.1.2.2.2.length : Int) - 1)) (y6.2.1.2.2.2.length : Int) (bindV (y6.2.1.1, (y6.2.1.2.1, (y6.2.1.2.2.1, (y6.2.1.2.2.2.take (IntKind.wrap .i64 ((y6.2.1.2.2.2.length : Int) - 1)).toNat)))) fun z7 => inR t_34 z7.2.2.1.length (getI z7.2.2.1 t_34 fun e8 => inR t_34 z7.2.2.1.length (getI z7.2.2.1 t_34 fun _ => bindV (z7.1, (z7.2.1, ((z7.2.2.1.set t_34.toNat (IntKind.wrap .i64 (e8 - w_3))), z7.2.2.2))) fun z10 => L ((w_3, t_33, (IntKind.wrap .i64 (t_34 + 1)), ()), (z10, ()), ())))))))))))) (some (.inr ((), (o_0p, ()), ())))
noncomputable def L81_5 (rec : zTi × Unit → Option ((Bool × Unit) × (zTi × Unit))) : Nat → (Int × Int × Int × Unit) × (zTi × Unit) × Unit → Option (((Bool × Unit) × (zTi × Unit) × Unit) ⊕ ((Unit) × (zTi × Unit) × Unit))
  | 0, _ => none
  | n + 1, d => B81_5 rec n (L81_5 rec n) d.1.1 d.1.2.1 d.1.2.2.1 d.2.1.1
noncomputable def l81_5 (rec : zTi × Unit → Option ((Bool × Unit) × (zTi × Unit))) : LoopI := ⟨⟨[(0, .c (.ptr 10000000 [])), (3, .v (.int .i64)), (32, .c (.view 10000000 [.R, .R, .L])), (33, .v (.int .i64)), (34, .v (.int .i64)), (3000000, .c (.gh 0 (.view 10000000 [.R, .R, .L])))], [(10000000, false, .str (.pair (.list false 38 zTf) zTm))], none⟩, [(.ret, ⟨[(2, .v .bool), (3000000, .c (.gh 0 (.view 10000000 [.R, .R, .L])))], [(10000000, false, .str (.pair (.list false 38 zTf) zTm))], none⟩), (.exit 0, ⟨[(3000000, .c (.gh 0 (.view 10000000 [.R, .R, .L])))], [(10000000, false, .str (.pair (.list false 38 zTf) zTm))], none⟩)], L81_5 rec⟩
noncomputable def F81 (rec : zTi × Unit → Option ((Bool × Unit) × (zTi × Unit))) (n : Nat) (x_0 : zTi) : Option ((Bool × Unit) × (zTi × Unit)) :=
  cond ((x_0.2.2.2.length : Int) == (x_0.1.length : Int)) (some ((true, ()), (x_0, ()))) (getI x_0.1 (x_0.2.2.2.length : Int) fun e1 => derefK (L81_5 rec n ((e1.1, (x_0.2.2.1.length : Int), 0, ()), (x_0, ()), ())) fun o11 => sumK o11 (fun d12 => some ((d12.1.1, ()), (d12.2.1.1, ()))) (fun d13 => some ((false, ()), (d13.2.1.1, ()))))
noncomputable def G81 : Nat → zTi × Unit → Option ((Bool × Unit) × (zTi × Unit))
  | 0, _ => none
  | m + 1, d => F81 (G81 m) fuel d.1
noncomputable def g81 : zTi × Unit → Option ((Bool × Unit) × (zTi × Unit)) := G81 fuel
noncomputable def p81 : Prim := ⟨[.m (.str (.pair (.list false 38 zTf) zTm))], [.v .bool], g81⟩
noncomputable def c81 (rec : zTi × Unit → Option ((Bool × Unit) × (zTi × Unit))) : Cfg := ⟨94, tyT, [], [], [(5, l81_5 rec)], [], [], [], [], [], [], [(81, ⟨.str (.pair (.list false 38 zTf) zTm), [.v .bool], rec, [.R, .R, .L], [32, 3000000]⟩)], [], []⟩
theorem F81_eq (rec : zTi × Unit → Option ((Bool × Unit) × (zTi × Unit))) (n : Nat) (d) : absFnK (c81 rec) n Try.f81 (body Try.f81) ⟨.str (.pair (.list false 38 zTf) zTm), [.v .bool], rec, [.R, .R, .L], [32, 3000000]⟩ d = F81 rec n d.1 := by kernel_rfl
theorem L81_5_eq (rec : zTi × Unit → Option ((Bool × Unit) × (zTi × Unit))) (n : Nat) (d) : (l81_5 rec).g (n + 1) d = run (c81 rec) n (nth 0 (loopsOf (body Try.f81))) ((l81_5 rec).ins.fill d) (roundK (l81_5 rec) n) := by kernel_rfl
theorem ls81 : loopsOf (body Try.f81) = [nth 0 (loopsOf (body Try.f81))] := by kernel_rfl
theorem d81 (rec : zTi × Unit → Option ((Bool × Unit) × (zTi × Unit))) : drawOK (c81 rec) (body Try.f81) = true := by kernel_rfl
theorem hm81 : ∀ m, GoodK Try.prog 81 ⟨.str (.pair (.list false 38 zTf) zTm), [.v .bool], (G81 m), [.R, .R, .L], [32, 3000000]⟩
  | 0 => ⟨callable_of Try.func81 rfl (by kernel_rfl), fun d y h => by cases h⟩
  | m + 1 => by
    have ih := hm81 m
    exact fn_doneK mixed (cfg := c81 (G81 m)) (cfg_ok tyT_ok (goodNil) rfl (by kernel_rfl) (hkp := keepOne ih)) Try.func81 rfl rfl (by kernel_rfl) rfl rfl rfl (by rw [ls81]; simp only [List.forall_mem_cons]; exact ⟨loopHas (key := 5) (li := l81_5 (G81 m)) (by kernel_rfl) rfl (fun _ => rfl) (L81_5_eq (G81 m)), fun _ h => by cases h⟩) (d81 (G81 m)) (fun d y h => ⟨fuel, (F81_eq (G81 m) fuel d).trans h⟩)
theorem h81 : GoodF Try.prog 81 p81 := (hm81 fuel).good
end Go.Proofs.Try.V
