/- The contracts of functions of the program, printed by program from the interpreter: each says what a call returns. No condition beyond those typed in each theorem. -/
import Derived.Test.YtjhphibadndkcaaFn4
namespace Go.Proofs.Try.V
open Go.Vi
set_option maxRecDepth 100000
-- function 99
noncomputable def F99 (_n : Nat) (x_0 : Int) (y_1 : Int) : Option ((Int × Int × Unit) × (Unit)) :=
  negK 32 (negK 32 (bindV (IntKind.wrap .u64 ((bitsI .and .u64 x_0 4294967295) * (bitsI .and .u64 y_1 4294967295))) fun z1 => negK 32 (bindV (IntKind.wrap .u64 ((IntKind.wrap .u64 ((shrI .u64 x_0 32) * (bitsI .and .u64 y_1 4294967295))) + (shrI .u64 z1 32))) fun z2 => negK 32 (bindV (IntKind.wrap .u64 ((bitsI .and .u64 z2 4294967295) + (IntKind.wrap .u64 ((bitsI .and .u64 x_0 4294967295) * (shrI .u64 y_1 32))))) fun z3 => negK 32 (bindV (IntKind.wrap .u64 ((IntKind.wrap .u64 ((IntKind.wrap .u64 ((shrI .u64 x_0 32) * (shrI .u64 y_1 32))) + (shrI .u64 z2 32))) + (shrI .u64 z3 32))) fun z4 => some ((z4, (IntKind.wrap .u64 (x_0 * y_1)), ()), ()))))))
noncomputable def g99 (d : Int × Int × Unit) : Option ((Int × Int × Unit) × (Unit)) := F99 fuel d.1 d.2.1
noncomputable def p99 : Prim := ⟨[.v (.int .u64), .v (.int .u64)], [.v (.int .u64), .v (.int .u64)], g99⟩
noncomputable def c99 : Cfg := ⟨51, tyT, [], [], [], [], [], [], [], [], [], [], [], []⟩
theorem F99_eq (n : Nat) (d) : absFn c99 n Try.f99 (body Try.f99) [.v (.int .u64), .v (.int .u64)] [.v (.int .u64), .v (.int .u64)] d = F99 n d.1 d.2.1 := by kernel_rfl
theorem d99 : drawOK c99 (body Try.f99) = true := by kernel_rfl
theorem h99 : GoodF Try.prog 99 p99 := fn_done mixed (cfg := c99) (cfg_ok tyT_ok (goodNil) rfl (by kernel_rfl)) Try.func99 rfl rfl (by kernel_rfl) rfl (noLoops (by kernel_rfl)) d99 (fun d y h => ⟨fuel, (F99_eq fuel d).trans h⟩)
-- function 96
noncomputable def F96 (_n : Nat) (x_0 : Int) (y_1 : Int) : Option ((Int × Int × Unit) × (Unit)) :=
  derefK (g99 (x_0, y_1, ())) fun y1 => some ((y1.1.1, y1.1.2.1, ()), ())
noncomputable def g96 (d : Int × Int × Unit) : Option ((Int × Int × Unit) × (Unit)) := F96 fuel d.1 d.2.1
noncomputable def p96 : Prim := ⟨[.v (.int .u64), .v (.int .u64)], [.v (.int .u64), .v (.int .u64)], g96⟩
noncomputable def c96 : Cfg := ⟨30, tyT, [], [(99, p99)], [], [], [], [], [], [], [], [], [], []⟩
theorem F96_eq (n : Nat) (d) : absFn c96 n Try.f96 (body Try.f96) [.v (.int .u64), .v (.int .u64)] [.v (.int .u64), .v (.int .u64)] d = F96 n d.1 d.2.1 := by kernel_rfl
theorem d96 : drawOK c96 (body Try.f96) = true := by kernel_rfl
theorem h96 : GoodF Try.prog 96 p96 := fn_done mixed (cfg := c96) (cfg_ok tyT_ok (goodCons h99 goodNil) rfl (by kernel_rfl)) Try.func96 rfl rfl (by kernel_rfl) rfl (noLoops (by kernel_rfl)) d96 (fun d y h => ⟨fuel, (F96_eq fuel d).trans h⟩)
-- function 83
noncomputable def B83_8 (_n : Nat) (L : (Int × Unit) × ((List Bool) × Unit) × Unit → Option (((Unit) × ((List Bool) × Unit) × Unit))) (n_8 : Int) (o_30 : List Bool) : Option (((Unit) × ((List Bool) × Unit) × Unit)) :=
  cond (decide (n_8 < (o_30.length : Int))) (enumK (L (((IntKind.wrap .i64 (n_8 + ((min (o_30.take n_8.toNat).length (o_30.length - n_8.toNat) : Nat) : Int))), ()), ((overL o_30 (o_30.take n_8.toNat) n_8.toNat), ()), ())) fun E => agreeK [leK 0 n_8 (leK n_8 (o_30.length : Int) (leK 0 n_8 (leK n_8 (o_30.length : Int) (E)))), leK 0 n_8 (leK n_8 (o_30.length : Int) (leK 0 n_8 (leK n_8 (o_30.length : Int) (E))))]) (some ((), (o_30, ()), ()))
noncomputable def L83_8 : Nat → (Int × Unit) × ((List Bool) × Unit) × Unit → Option (((Unit) × ((List Bool) × Unit) × Unit))
  | 0, _ => none
  | n + 1, d => B83_8 n (L83_8 n) d.1.1 d.2.1.1
noncomputable def l83_8 : LoopI := ⟨⟨[(7, .c (.view 30 [])), (8, .v (.int .i64))], [(30, true, .list true 4 .bool)], none⟩, [(.exit 0, ⟨[(7, .c (.view 30 []))], [(30, true, .list true 4 .bool)], none⟩)], L83_8⟩
noncomputable def F83 (n : Nat) (x_0 : (List Bool)) (count_1 : Int) : Option (((List Bool) × Unit) × (Unit)) :=
  cond (decide (count_1 < 0)) (none) (derefK (g96 ((IntKind.wrap .u64 (x_0.length : Int)), (IntKind.wrap .u64 count_1), ())) fun y1 => cond (decide (y1.1.1 > 0)) (none) (cond (decide (y1.1.2.1 > 9223372036854775807)) (none) (leK 0 (IntKind.wrap .i64 y1.1.2.1) (leK (IntKind.wrap .i64 y1.1.2.1) (IntKind.wrap .i64 y1.1.2.1) (lenK (IntKind.wrap .i64 y1.1.2.1) (bindV ((min x_0.length ((List.replicate (IntKind.wrap .i64 y1.1.2.1).toNat false).length - (0 : Int).toNat) : Nat) : Int) fun z2 => derefK (L83_8 n ((z2, ()), ((overL (List.replicate (IntKind.wrap .i64 y1.1.2.1).toNat false) x_0 (0 : Int).toNat), ()), ())) fun o3 => some ((o3.2.1.1, ()), ())))))))
noncomputable def g83 (d : (List Bool) × Int × Unit) : Option (((List Bool) × Unit) × (Unit)) := F83 fuel d.1 d.2.1
noncomputable def p83 : Prim := ⟨[.v (.list false 4 .bool), .v (.int .i64)], [.own 4 .bool], g83⟩
noncomputable def c83 : Cfg := ⟨48, tyT, [], [(96, p96)], [(8, l83_8)], [], [9], [], [], [], [], [], [], []⟩
theorem F83_eq (n : Nat) (d) : absFn c83 n Try.f83 (body Try.f83) [.v (.list false 4 .bool), .v (.int .i64)] [.own 4 .bool] d = F83 n d.1 d.2.1 := by kernel_rfl
theorem L83_8_eq (n : Nat) (d) : (l83_8).g (n + 1) d = run c83 n (nth 0 (loopsOf (body Try.f83))) ((l83_8).ins.fill d) (roundK (l83_8) n) := by kernel_rfl
theorem ls83 : loopsOf (body Try.f83) = [nth 0 (loopsOf (body Try.f83))] := by kernel_rfl
theorem d83 : drawOK c83 (body Try.f83) = true := by kernel_rfl
theorem h83 : GoodF Try.prog 83 p83 := fn_done mixed (cfg := c83) (cfg_ok tyT_ok (goodCons h96 goodNil) rfl (by kernel_rfl)) Try.func83 rfl rfl (by kernel_rfl) rfl (by rw [ls83]; simp only [List.forall_mem_cons]; exact ⟨loopHas (key := 8) (li := l83_8) (by kernel_rfl) rfl (fun _ => rfl) (L83_8_eq), fun _ h => by cases h⟩) d83 (fun d y h => ⟨fuel, (F83_eq fuel d).trans h⟩)
-- function 97
noncomputable def F97 (_n : Nat) (b_0 : Int) (t_1 : (List Bool)) : Option ((Bool × Unit) × (Unit)) :=
  getI t_1 b_0 fun e1 => some ((e1, ()), ())
noncomputable def g97 (d : Int × (List Bool) × Unit) : Option ((Bool × Unit) × (Unit)) := F97 fuel d.1 d.2.1
noncomputable def p97 : Prim := ⟨[.v (.int .i64), .r (.list false 4 .bool)], [.v .bool], g97⟩
noncomputable def c97 : Cfg := ⟨8, tyT, [], [], [], [], [], [], [], [], [], [], [], []⟩
theorem F97_eq (n : Nat) (d) : absFn c97 n Try.f97 (body Try.f97) [.v (.int .i64), .r (.list false 4 .bool)] [.v .bool] d = F97 n d.1 d.2.1 := by kernel_rfl
theorem d97 : drawOK c97 (body Try.f97) = true := by kernel_rfl
theorem h97 : GoodF Try.prog 97 p97 := fn_done mixed (cfg := c97) (cfg_ok tyT_ok (goodNil) rfl (by kernel_rfl)) Try.func97 rfl rfl (by kernel_rfl) rfl (noLoops (by kernel_rfl)) d97 (fun d y h => ⟨fuel, (F97_eq fuel d).trans h⟩)
-- function 84
noncomputable def B84_2 (_n : Nat) (L : (zTe × Int × zTd × Int × Int × Unit) × ((List Bool) × Unit) × Unit → Option (zTg ⊕ ((zTe × Int × Unit) × ((List Bool) × Unit) × Unit))) (y_0 : zTb × ((List (List Int)) × (List (List Int)))) (p_2 : Int) (t_13 : List (Int × (Int × (Int × (List Int))))) (t_14 : Int) (t_15 : Int) (o_4 : List Bool) : Option (zTg ⊕ ((zTe × Int × Unit) × ((List Bool) × Unit) × Unit)) :=
  cond (decide (t_15 < t_14)) (getI t_13 t_15 fun e1 => getI o_4 t_15 fun e2 => cond e2 (derefK (g75 (e1.2.2.2, p_2, ())) fun y3 => cond y3.1.1 (some (.inl ((false, ()), (), ()))) (L ((y_0, p_2, t_13, t_14, (IntKind.wrap .i64 (t_15 + 1)), ()), (o_4, ()), ()))) (L ((y_0, p_2, t_13, t_14, (IntKind.wrap .i64 (t_15 + 1)), ()), (o_4, ()), ()))) (some (.inr ((y_0, p_2, ()), (o_4, ()), ())))
noncomputable def L84_2 : Nat → (zTe × Int × zTd × Int × Int × Unit) × ((List Bool) × Unit) × Unit → Option (zTg ⊕ ((zTe × Int × Unit) × ((List Bool) × Unit) × Unit))
  | 0, _ => none
  | n + 1, d => B84_2 n (L84_2 n) d.1.1 d.1.2.1 d.1.2.2.1 d.1.2.2.2.1 d.1.2.2.2.2.1 d.2.1.1
noncomputable def l84_2 : LoopI := ⟨⟨[(0, .r (.str (.pair (.str zTa) (.pair zTc zTc)))), (2, .v (.int .i64)), (4, .c (.ptr 4 [])), (13, .v (.list false 38 zTf)), (14, .v (.int .i64)), (15, .v (.int .i64))], [(4, false, .list false 4 .bool)], none⟩, [(.ret, ⟨[(6, .v .bool)], [], none⟩), (.exit 0, ⟨[(0, .r (.str (.pair (.str zTa) (.pair zTc zTc)))), (2, .v (.int .i64)), (4, .c (.ptr 4 []))], [(4, false, .list false 4 .bool)], none⟩)], L84_2⟩
noncomputable def F84 (n : Nat) (y_0 : zTe) (s_1 : (List Bool)) (p_2 : Int) : Option ((Bool × Unit) × (Unit)) :=
  derefK (L84_2 n ((y_0, p_2, y_0.1.1, (y_0.1.1.length : Int), 0, ()), (s_1, ()), ())) fun o4 => sumK o4 (fun d5 => some ((d5.1.1, ()), ())) (fun d6 => getI d6.2.1.1 d6.1.2.1 fun e7 => cond e7 (getI d6.1.1.1.1 d6.1.2.1 fun e8 => cond (decide (e8.1 ≤ d6.1.1.1.2.1)) (getI d6.1.1.2.2 d6.1.2.1 fun e9 => derefK (g63 (e9, (fun v10 => derefK (g97 (v10, d6.2.1.1, ())) fun y11 => some y11.1.1), ())) fun y12 => some (((!y12.1.1), ()), ())) (some ((false, ()), ()))) (some ((false, ()), ())))
noncomputable def g84 (d : zTe × (List Bool) × Int × Unit) : Option ((Bool × Unit) × (Unit)) := F84 fuel d.1 d.2.1 d.2.2.1
noncomputable def p84 : Prim := ⟨[.r (.str (.pair (.str zTa) (.pair zTc zTc))), .v (.list false 4 .bool), .v (.int .i64)], [.v .bool], g84⟩
noncomputable def c84 : Cfg := ⟨64, tyT, [], [(63, p63), (75, p75), (97, p97)], [(2, l84_2)], [], [], [], [], [], [], [], [], []⟩
theorem F84_eq (n : Nat) (d) : absFn c84 n Try.f84 (body Try.f84) [.r (.str (.pair (.str zTa) (.pair zTc zTc))), .v (.list false 4 .bool), .v (.int .i64)] [.v .bool] d = F84 n d.1 d.2.1 d.2.2.1 := by kernel_rfl
theorem L84_2_eq (n : Nat) (d) : (l84_2).g (n + 1) d = run c84 n (nth 0 (loopsOf (body Try.f84))) ((l84_2).ins.fill d) (roundK (l84_2) n) := by kernel_rfl
theorem ls84 : loopsOf (body Try.f84) = [nth 0 (loopsOf (body Try.f84))] := by kernel_rfl
theorem d84 : drawOK c84 (body Try.f84) = true := by kernel_rfl
theorem h84 : GoodF Try.prog 84 p84 := fn_done mixed (cfg := c84) (cfg_ok tyT_ok (goodCons h63 (goodCons h75 (goodCons h97 goodNil))) rfl (by kernel_rfl)) Try.func84 rfl rfl (by kernel_rfl) rfl (by rw [ls84]; simp only [List.forall_mem_cons]; exact ⟨loopHas (key := 2) (li := l84_2) (by kernel_rfl) rfl (fun _ => rfl) (L84_2_eq), fun _ h => by cases h⟩) d84 (fun d y h => ⟨fuel, (F84_eq fuel d).trans h⟩)
-- function 45
noncomputable def F45 (_n : Nat) (k_0 : zTb) (order_1 : (List Int)) : Option ((Int × Int × Unit) × (Unit)) :=
  derefK (g48 (k_0, ())) fun y1 => cond (!y1.1.2.1) (some ((0, 80, ()), ())) (derefK (g83 ([true], (k_0.1.length : Int), ())) fun y2 => derefK y1.1.1 fun q3 => derefK (g60 (q3, order_1, y2.1.1, (fun v4 v5 => derefK y1.1.1 fun q7 => derefK (g84 (q7, v4, v5, ())) fun y6 => some y6.1.1), ())) fun y8 => some ((y8.1.1, y8.1.2.1, ()), ()))
noncomputable def g45 (d : zTb × (List Int) × Unit) : Option ((Int × Int × Unit) × (Unit)) := F45 fuel d.1 d.2.1
noncomputable def p45 : Prim := ⟨[.v (.str zTa), .v (.list false 3 (.int .i64))], [.v (.int .i64), .v (.int .i64)], g45⟩
noncomputable def c45 : Cfg := ⟨27, tyT, [], [(48, p48), (60, p60), (83, p83), (84, p84)], [], [], [], [], [], [], [], [], [], []⟩
theorem F45_eq (n : Nat) (d) : absFn c45 n Try.f45 (body Try.f45) [.v (.str zTa), .v (.list false 3 (.int .i64))] [.v (.int .i64), .v (.int .i64)] d = F45 n d.1 d.2.1 := by kernel_rfl
theorem d45 : drawOK c45 (body Try.f45) = true := by kernel_rfl
theorem h45 : GoodF Try.prog 45 p45 := fn_done mixed (cfg := c45) (cfg_ok tyT_ok (goodCons h48 (goodCons h60 (goodCons h83 (goodCons h84 goodNil)))) rfl (by kernel_rfl)) Try.func45 rfl rfl (by kernel_rfl) rfl (noLoops (by kernel_rfl)) d45 (fun d y h => ⟨fuel, (F45_eq fuel d).trans h⟩)
-- function 14
noncomputable def F14 (_n : Nat) (k_0 : zTb) (order_1 : (List Int)) : Option ((Bool × Unit) × (Unit)) :=
  cond (decide ((order_1.length : Int) > 100)) (derefK (g21 ()) fun y1 => some ((y1.1.1, ()), ())) (derefK (g26 (k_0, order_1, ())) fun y2 => derefK (g44 (k_0, order_1, ())) fun y3 => cond (y2.1.1 != y3.1.1) (some ((false, ()), ())) (cond (y2.1.2.1 != y3.1.2.1) (some ((false, ()), ())) (derefK (g45 (k_0, order_1, ())) fun y4 => derefK (g46 (k_0, order_1, ())) fun y5 => cond (y4.1.1 == y5.1.1) (cond (y4.1.2.1 == y5.1.2.1) (derefK (g21 ()) fun y6 => some ((y6.1.1, ()), ())) (some ((false, ()), ()))) (some ((false, ()), ())))))
noncomputable def g14 (d : zTb × (List Int) × Unit) : Option ((Bool × Unit) × (Unit)) := F14 fuel d.1 d.2.1
noncomputable def p14 : Prim := ⟨[.v (.str zTa), .v (.list false 3 (.int .i64))], [.v .bool], g14⟩
noncomputable def c14 : Cfg := ⟨56, tyT, [], [(21, p21), (26, p26), (44, p44), (45, p45), (46, p46)], [], [], [], [], [], [], [], [], [], []⟩
theorem F14_eq (n : Nat) (d) : absFn c14 n Try.f14 (body Try.f14) [.v (.str zTa), .v (.list false 3 (.int .i64))] [.v .bool] d = F14 n d.1 d.2.1 := by kernel_rfl
theorem d14 : drawOK c14 (body Try.f14) = true := by kernel_rfl
theorem h14 : GoodF Try.prog 14 p14 := fn_done mixed (cfg := c14) (cfg_ok tyT_ok (goodCons h21 (goodCons h26 (goodCons h44 (goodCons h45 (goodCons h46 goodNil))))) rfl (by kernel_rfl)) Try.func14 rfl rfl (by kernel_rfl) rfl (noLoops (by kernel_rfl)) d14 (fun d y h => ⟨fuel, (F14_eq fuel d).trans h⟩)
-- function 15
noncomputable def B15_12 (_n : Nat) (L : ((List Int) × Int × Unit) × (zTb × (List Bool) × Unit) × Unit → Option ((((List Int) × Unit) × (zTb × (List Bool) × Unit) × Unit))) (order_1 : List Int) (i_10 : Int) (o_2 : zTd × (Int × (List (List Int)))) (o_56 : List Bool) : Option ((((List Int) × Unit) × (zTb × (List Bool) × Unit) × Unit)) :=
  cond (decide (i_10 < (o_56.length : Int))) (inR i_10 o_56.length (getI o_56 i_10 fun _ => L ((order_1, (IntKind.wrap .i64 (i_10 + 1)), ()), (o_2, (o_56.set i_10.toNat true), ()), ()))) (some ((order_1, ()), (o_2, o_56, ()), ()))
noncomputable def L15_12 : Nat → ((List Int) × Int × Unit) × (zTb × (List Bool) × Unit) × Unit → Option ((((List Int) × Unit) × (zTb × (List Bool) × Unit) × Unit))
  | 0, _ => none
  | n + 1, d => B15_12 n (L15_12 n) d.1.1 d.1.2.1 d.2.1.1 d.2.1.2.1
noncomputable def l15_12 : LoopI := ⟨⟨[(1, .v (.list false 3 (.int .i64))), (2, .c (.ptr 2 [])), (9, .c (.view 56 [])), (10, .v (.int .i64))], [(2, false, .str zTa), (56, true, .list true 4 .bool)], none⟩, [(.exit 0, ⟨[(1, .v (.list false 3 (.int .i64))), (2, .c (.ptr 2 [])), (9, .c (.view 56 []))], [(2, false, .str zTa), (56, true, .list true 4 .bool)], none⟩)], L15_12⟩
noncomputable def B15_16 (_n : Nat) (L : ((List Int) × Int × Unit) × (zTb × (List Bool) × Unit) × Unit → Option (zTg ⊕ ((Unit) × (Unit) × Unit))) (order_1 : List Int) (i_11 : Int) (o_2 : zTd × (Int × (List (List Int)))) (o_56 : List Bool) : Option (zTg ⊕ ((Unit) × (Unit) × Unit)) :=
  cond (decide (i_11 < (order_1.length : Int))) (getI order_1 i_11 fun e11 => cond (decide (e11 < 0)) (some (.inl ((false, ()), (), ()))) (getI order_1 i_11 fun e12 => cond (decide (e12 ≥ (o_56.length : Int))) (some (.inl ((false, ()), (), ()))) (getI order_1 i_11 fun e13 => inR e13 o_56.length (getI o_56 e13 fun _ => derefK (g36 (o_2, (o_56.set e13.toNat false), ())) fun y15 => cond (y15.1.2.1 != 0) (some (.inl ((false, ()), (), ()))) (cond (decide ((y15.1.1.length : Int) > 0)) (some (.inl ((false, ()), (), ()))) (L ((order_1, (IntKind.wrap .i64 (i_11 + 1)), ()), (o_2, (o_56.set e13.toNat false), ()), ()))))))) (some (.inr ((), (), ())))
noncomputable def L15_16 : Nat → ((List Int) × Int × Unit) × (zTb × (List Bool) × Unit) × Unit → Option (zTg ⊕ ((Unit) × (Unit) × Unit))
  | 0, _ => none
  | n + 1, d => B15_16 n (L15_16 n) d.1.1 d.1.2.1 d.2.1.1 d.2.1.2.1
noncomputable def l15_16 : LoopI := ⟨⟨[(1, .v (.list false 3 (.int .i64))), (2, .c (.ptr 2 [])), (9, .c (.view 56 [])), (11, .v (.int .i64))], [(2, false, .str zTa), (56, true, .list true 4 .bool)], none⟩, [(.ret, ⟨[(4, .v .bool)], [], none⟩), (.exit 2, ⟨[], [], none⟩)], L15_16⟩
noncomputable def F15 (n : Nat) (k_0 : zTb) (order_1 : (List Int)) : Option ((Bool × Unit) × (Unit)) :=
  derefK (g32 (k_0, ())) fun y1 => cond (y1.1.1 != 0) (derefK (g21 ()) fun y2 => some ((y2.1.1, ()), ())) (cond ((order_1.length : Int) != (k_0.1.length : Int)) (derefK (g21 ()) fun y3 => some ((y3.1.1, ()), ())) (derefK (g26 (k_0, order_1, ())) fun y4 => enumK (fun (y6 : (Int × Int × Unit) × (Unit)) (y5 : ((List Int) × Unit) × (Unit)) => cond (!((y4.1.2.1 == 0) == (y6.1.2.1 == 0))) (some ((false, ()), ())) (derefK (g45 (k_0, order_1, ())) fun y7 => cond (y7.1.2.1 != 0) (derefK (g21 ()) fun y8 => some ((y8.1.1, ()), ())) (leK 0 (k_0.1.length : Int) (leK (k_0.1.length : Int) (k_0.1.length : Int) (lenK (k_0.1.length : Int) (derefK (L15_12 n ((order_1, 0, ()), (k_0, (List.replicate (k_0.1.length : Int).toNat false), ()), ())) fun o10 => derefK (L15_16 n ((o10.1.1, 0, ()), (o10.2.1.1, o10.2.1.2.1, ()), ())) fun o16 => sumK o16 (fun d17 => some ((d17.1.1, ()), ())) (fun _ => derefK (g21 ()) fun y19 => some ((y19.1.1, ()), ())))))))) fun E => agreeK [derefK (g47 (order_1, ())) fun y5 => derefK (g45 (k_0, y5.1.1, ())) fun y6 => agreeK [agreeK [E y6 y5, E y6 y5], E y6 y5], derefK (g47 (order_1, ())) fun y20 => derefK (g45 (k_0, y20.1.1, ())) fun y21 => agreeK [agreeK [E y21 y20, E y21 y20], E y21 y20]]))
noncomputable def g15 (d : zTb × (List Int) × Unit) : Option ((Bool × Unit) × (Unit)) := F15 fuel d.1 d.2.1
noncomputable def p15 : Prim := ⟨[.v (.str zTa), .v (.list false 3 (.int .i64))], [.v .bool], g15⟩
noncomputable def c15 : Cfg := ⟨106, tyT, [], [(21, p21), (26, p26), (32, p32), (36, p36), (45, p45), (47, p47)], [(12, l15_12), (16, l15_16)], [], [4], [], [], [], [], [], [], []⟩
theorem F15_eq (n : Nat) (d) : absFn c15 n Try.f15 (body Try.f15) [.v (.str zTa), .v (.list false 3 (.int .i64))] [.v .bool] d = F15 n d.1 d.2.1 := by kernel_rfl
theorem L15_12_eq (n : Nat) (d) : (l15_12).g (n + 1) d = run c15 n (nth 0 (loopsOf (body Try.f15))) ((l15_12).ins.fill d) (roundK (l15_12) n) := by kernel_rfl
theorem L15_16_eq (n : Nat) (d) : (l15_16).g (n + 1) d = run c15 n (nth 1 (loopsOf (body Try.f15))) ((l15_16).ins.fill d) (roundK (l15_16) n) := by kernel_rfl
theorem ls15 : loopsOf (body Try.f15) = [nth 0 (loopsOf (body Try.f15)), nth 1 (loopsOf (body Try.f15))] := by kernel_rfl
theorem d15 : drawOK c15 (body Try.f15) = true := by kernel_rfl
theorem h15 : GoodF Try.prog 15 p15 := fn_done mixed (cfg := c15) (cfg_ok tyT_ok (goodCons h21 (goodCons h26 (goodCons h32 (goodCons h36 (goodCons h45 (goodCons h47 goodNil)))))) rfl (by kernel_rfl)) Try.func15 rfl rfl (by kernel_rfl) rfl (by rw [ls15]; simp only [List.forall_mem_cons]; exact ⟨loopHas (key := 12) (li := l15_12) (by kernel_rfl) rfl (fun _ => rfl) (L15_12_eq), loopHas (key := 16) (li := l15_16) (by kernel_rfl) rfl (fun _ => rfl) (L15_16_eq), fun _ h => by cases h⟩) d15 (fun d y h => ⟨fuel, (F15_eq fuel d).trans h⟩)
-- function 98
noncomputable def F98 (_n : Nat) (x_0 : Int) (y_1 : Int) : Option ((Int × Int × Unit) × (Unit)) :=
  bindV (IntKind.wrap .u64 ((IntKind.wrap .u64 x_0) * (IntKind.wrap .u64 y_1))) fun z1 => negK 32 (some (((IntKind.wrap .u32 (shrI .u64 z1 32)), (IntKind.wrap .u32 z1), ()), ()))
noncomputable def g98 (d : Int × Int × Unit) : Option ((Int × Int × Unit) × (Unit)) := F98 fuel d.1 d.2.1
noncomputable def p98 : Prim := ⟨[.v (.int .u32), .v (.int .u32)], [.v (.int .u32), .v (.int .u32)], g98⟩
noncomputable def c98 : Cfg := ⟨17, tyT, [], [], [], [], [], [], [], [], [], [], [], []⟩
theorem F98_eq (n : Nat) (d) : absFn c98 n Try.f98 (body Try.f98) [.v (.int .u32), .v (.int .u32)] [.v (.int .u32), .v (.int .u32)] d = F98 n d.1 d.2.1 := by kernel_rfl
theorem d98 : drawOK c98 (body Try.f98) = true := by kernel_rfl
theorem h98 : GoodF Try.prog 98 p98 := fn_done mixed (cfg := c98) (cfg_ok tyT_ok (goodNil) rfl (by kernel_rfl)) Try.func98 rfl rfl (by kernel_rfl) rfl (noLoops (by kernel_rfl)) d98 (fun d y h => ⟨fuel, (F98_eq fuel d).trans h⟩)
end Go.Proofs.Try.V
