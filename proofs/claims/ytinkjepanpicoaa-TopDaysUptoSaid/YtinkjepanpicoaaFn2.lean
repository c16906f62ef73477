/- The contracts of functions of the program, printed by program from the interpreter: each says what a call returns. No condition beyond those typed in each theorem. -/
import Derived.Test.YtinkjepanpicoaaFn1
namespace Go.Proofs.Try.V
open Go.Vi
set_option maxRecDepth 100000
-- function 34
noncomputable def B34_4 (_n : Nat) (L : (Int × Unit) × (zTe × Unit) × Unit → Option (zTn ⊕ ((Unit) × (zTe × Unit) × Unit))) (i_3 : Int) (o_1 : (List (Int × (Int × (Int × Bool)))) × ((List Int) × (List Int))) : Option (zTn ⊕ ((Unit) × (zTe × Unit) × Unit)) :=
  cond (decide (i_3 < (o_1.1.length : Int))) (getI o_1.1 i_3 fun e1 => derefK (g54 (e1.1, 0, (IntKind.wrap .i64 ((o_1.2.2.length : Int) - 1)), ())) fun y2 => cond (!y2.1.1) (some (.inl ((100, ()), (), ()))) (derefK (g54 (e1.2.1, 1, 10000, ())) fun y3 => cond (!y3.1.1) (some (.inl ((100, ()), (), ()))) (derefK (g54 (e1.2.2.1, 0, 9, ())) fun y4 => cond (!y4.1.1) (some (.inl ((100, ()), (), ()))) (L (((IntKind.wrap .i64 (i_3 + 1)), ()), (o_1, ()), ()))))) (some (.inr ((), (o_1, ()), ())))
noncomputable def L34_4 : Nat → (Int × Unit) × (zTe × Unit) × Unit → Option (zTn ⊕ ((Unit) × (zTe × Unit) × Unit))
  | 0, _ => none
  | n + 1, d => B34_4 n (L34_4 n) d.1.1 d.2.1.1
noncomputable def l34_4 : LoopI := ⟨⟨[(1, .c (.ptr 1 [])), (3, .v (.int .i64))], [(1, false, .str zTb)], none⟩, [(.ret, ⟨[(2, .v (.int .i64))], [], none⟩), (.exit 0, ⟨[(1, .c (.ptr 1 []))], [(1, false, .str zTb)], none⟩)], L34_4⟩
noncomputable def B34_10 (_n : Nat) (L : (Int × Unit) × (zTe × Unit) × Unit → Option (zTn ⊕ ((Unit) × (zTe × Unit) × Unit))) (i_5 : Int) (o_1 : (List (Int × (Int × (Int × Bool)))) × ((List Int) × (List Int))) : Option (zTn ⊕ ((Unit) × (zTe × Unit) × Unit)) :=
  cond (decide (i_5 < (o_1.2.1.length : Int))) (getI o_1.2.1 i_5 fun e8 => derefK (g54 (e8, 0, 9, ())) fun y9 => cond (!y9.1.1) (some (.inl ((100, ()), (), ()))) (L (((IntKind.wrap .i64 (i_5 + 1)), ()), (o_1, ()), ()))) (some (.inr ((), (o_1, ()), ())))
noncomputable def L34_10 : Nat → (Int × Unit) × (zTe × Unit) × Unit → Option (zTn ⊕ ((Unit) × (zTe × Unit) × Unit))
  | 0, _ => none
  | n + 1, d => B34_10 n (L34_10 n) d.1.1 d.2.1.1
noncomputable def l34_10 : LoopI := ⟨⟨[(1, .c (.ptr 1 [])), (5, .v (.int .i64))], [(1, false, .str zTb)], none⟩, [(.ret, ⟨[(2, .v (.int .i64))], [], none⟩), (.exit 2, ⟨[(1, .c (.ptr 1 []))], [(1, false, .str zTb)], none⟩)], L34_10⟩
noncomputable def B34_15 (_n : Nat) (L : (Int × Unit) × (zTe × Unit) × Unit → Option (zTn ⊕ ((Unit) × (Unit) × Unit))) (i_6 : Int) (o_1 : (List (Int × (Int × (Int × Bool)))) × ((List Int) × (List Int))) : Option (zTn ⊕ ((Unit) × (Unit) × Unit)) :=
  cond (decide (i_6 < (o_1.2.2.length : Int))) (getI o_1.2.2 i_6 fun e13 => derefK (g54 (e13, 0, 10000, ())) fun y14 => cond (!y14.1.1) (some (.inl ((100, ()), (), ()))) (L (((IntKind.wrap .i64 (i_6 + 1)), ()), (o_1, ()), ()))) (some (.inr ((), (), ())))
noncomputable def L34_15 : Nat → (Int × Unit) × (zTe × Unit) × Unit → Option (zTn ⊕ ((Unit) × (Unit) × Unit))
  | 0, _ => none
  | n + 1, d => B34_15 n (L34_15 n) d.1.1 d.2.1.1
noncomputable def l34_15 : LoopI := ⟨⟨[(1, .c (.ptr 1 [])), (6, .v (.int .i64))], [(1, false, .str zTb)], none⟩, [(.ret, ⟨[(2, .v (.int .i64))], [], none⟩), (.exit 4, ⟨[], [], none⟩)], L34_15⟩
noncomputable def F34 (n : Nat) (b_0 : zTe) : Option ((Int × Unit) × (Unit)) :=
  cond (decide ((b_0.1.length : Int) > 20)) (some ((100, ()), ())) (cond (decide ((b_0.2.1.length : Int) > 8)) (some ((100, ()), ())) (cond (decide ((b_0.2.2.length : Int) > 10)) (some ((100, ()), ())) (derefK (L34_4 n ((0, ()), (b_0, ()), ())) fun o5 => sumK o5 (fun d6 => some ((d6.1.1, ()), ())) (fun d7 => derefK (L34_10 n ((0, ()), (d7.2.1.1, ()), ())) fun o10 => sumK o10 (fun d11 => some ((d11.1.1, ()), ())) (fun d12 => derefK (L34_15 n ((0, ()), (d12.2.1.1, ()), ())) fun o15 => sumK o15 (fun d16 => some ((d16.1.1, ()), ())) (fun _ => some ((0, ()), ())))))))
noncomputable def g34 (d : zTe × Unit) : Option ((Int × Unit) × (Unit)) := F34 fuel d.1
noncomputable def p34 : Prim := ⟨[.v (.str zTb)], [.v (.int .i64)], g34⟩
noncomputable def c34 : Cfg := ⟨83, tyT, [], [(54, p54)], [(4, l34_4), (10, l34_10), (15, l34_15)], [], [], [], [], [], [], [], [], [], none⟩
theorem F34_eq (n : Nat) (d) : absFn c34 n Try.f34 (body Try.f34) [.v (.str zTb)] [.v (.int .i64)] d = F34 n d.1 := by kernel_rfl
theorem L34_4_eq (n : Nat) (d) : (l34_4).g (n + 1) d = run c34 n (nth 0 (loopsOf (body Try.f34))) ((l34_4).ins.fill d) (roundK (l34_4) n) := by kernel_rfl
theorem L34_10_eq (n : Nat) (d) : (l34_10).g (n + 1) d = run c34 n (nth 1 (loopsOf (body Try.f34))) ((l34_10).ins.fill d) (roundK (l34_10) n) := by kernel_rfl
theorem L34_15_eq (n : Nat) (d) : (l34_15).g (n + 1) d = run c34 n (nth 2 (loopsOf (body Try.f34))) ((l34_15).ins.fill d) (roundK (l34_15) n) := by kernel_rfl
theorem ls34 : loopsOf (body Try.f34) = [nth 0 (loopsOf (body Try.f34)), nth 1 (loopsOf (body Try.f34)), nth 2 (loopsOf (body Try.f34))] := by kernel_rfl
theorem d34 : drawOK c34 (body Try.f34) = true := by kernel_rfl
theorem h34 : GoodF Try.prog 34 p34 := fn_done mixed (cfg := c34) (cfg_ok tyT_ok (goodCons h54 goodNil) rfl (by kernel_rfl)) Try.func34 rfl rfl (by kernel_rfl) rfl (by rw [ls34]; simp only [List.forall_mem_cons]; exact ⟨loopHas (key := 4) (li := l34_4) (by kernel_rfl) rfl (fun _ => rfl) (L34_4_eq), loopHas (key := 10) (li := l34_10) (by kernel_rfl) rfl (fun _ => rfl) (L34_10_eq), loopHas (key := 15) (li := l34_15) (by kernel_rfl) rfl (fun _ => rfl) (L34_15_eq), fun _ h => by cases h⟩) d34 (fun d y h => ⟨fuel, (F34_eq fuel d).trans h⟩)
-- function 55
noncomputable def F55 (_n : Nat) (b_0 : zTe) (rule_1 : Int) (first_2 : Int) (second_3 : Int) : Option ((Bool × Unit) × (Unit)) :=
  getI b_0.1 rule_1 fun e1 => derefK (g54 (first_2, 0, (IntKind.wrap .i64 ((b_0.2.1.length : Int) - 1)), ())) fun y2 => cond (!y2.1.1) (some ((false, ()), ())) (getI b_0.2.1 first_2 fun e3 => cond (decide (e3 < e1.2.2.1)) (some ((false, ()), ())) (cond (!e1.2.2.2) (some (((second_3 == (-1)), ()), ())) (derefK (g54 (second_3, 0, (IntKind.wrap .i64 ((b_0.2.1.length : Int) - 1)), ())) fun y4 => cond y4.1.1 (cond (second_3 != first_2) (getI b_0.2.1 second_3 fun e5 => some (((decide (e5 ≥ e1.2.2.1)), ()), ())) (some ((false, ()), ()))) (some ((false, ()), ())))))
noncomputable def g55 (d : zTe × Int × Int × Int × Unit) : Option ((Bool × Unit) × (Unit)) := F55 fuel d.1 d.2.1 d.2.2.1 d.2.2.2.1
noncomputable def p55 : Prim := ⟨[.v (.str zTb), .v (.int .i64), .v (.int .i64), .v (.int .i64)], [.v .bool], g55⟩
noncomputable def c55 : Cfg := ⟨58, tyT, [], [(54, p54)], [], [], [], [], [], [], [], [], [], [], none⟩
theorem F55_eq (n : Nat) (d) : absFn c55 n Try.f55 (body Try.f55) [.v (.str zTb), .v (.int .i64), .v (.int .i64), .v (.int .i64)] [.v .bool] d = F55 n d.1 d.2.1 d.2.2.1 d.2.2.2.1 := by kernel_rfl
theorem d55 : drawOK c55 (body Try.f55) = true := by kernel_rfl
theorem h55 : GoodF Try.prog 55 p55 := fn_done mixed (cfg := c55) (cfg_ok tyT_ok (goodCons h54 goodNil) rfl (by kernel_rfl)) Try.func55 rfl rfl (by kernel_rfl) rfl (noLoops (by kernel_rfl)) d55 (fun d y h => ⟨fuel, (F55_eq fuel d).trans h⟩)
-- function 56
noncomputable def B56_4 (_n : Nat) (L : ((List zTf) × Int × Int × Unit) × (Unit) × Unit → Option (((Bool × Unit) × (Unit) × Unit) ⊕ ((Unit) × (Unit) × Unit))) (l_0 : List zTf) (n_1 : Int) (i_5 : Int) : Option (((Bool × Unit) × (Unit) × Unit) ⊕ ((Unit) × (Unit) × Unit)) :=
  cond (decide (i_5 < (l_0.length : Int))) (getI l_0 i_5 fun e3 => cond (e3.2.1 == 3) (getI l_0 i_5 fun e4 => cond (e4.2.2.1 == n_1) (some (.inl ((false, ()), (), ()))) (L ((l_0, n_1, (IntKind.wrap .i64 (i_5 + 1)), ()), (), ()))) (L ((l_0, n_1, (IntKind.wrap .i64 (i_5 + 1)), ()), (), ()))) (some (.inr ((), (), ())))
noncomputable def L56_4 : Nat → ((List zTf) × Int × Int × Unit) × (Unit) × Unit → Option (((Bool × Unit) × (Unit) × Unit) ⊕ ((Unit) × (Unit) × Unit))
  | 0, _ => none
  | n + 1, d => B56_4 n (L56_4 n) d.1.1 d.1.2.1 d.1.2.2.1
noncomputable def l56_4 : LoopI := ⟨⟨[(0, .v (.list false 48 (.str (.pair (.int .i64) zTa)))), (1, .v (.int .i64)), (5, .v (.int .i64))], [], none⟩, [(.ret, ⟨[(4, .v .bool)], [], none⟩), (.exit 0, ⟨[], [], none⟩)], L56_4⟩
noncomputable def F56 (n : Nat) (l_0 : (List zTf)) (n_1 : Int) : Option ((Bool × Unit) × (Unit)) :=
  derefK (g54 (n_1, 0, (IntKind.wrap .i64 ((l_0.length : Int) - 1)), ())) fun y1 => cond (!y1.1.1) (some ((false, ()), ())) (getI l_0 n_1 fun e2 => cond (e2.2.1 != 2) (some ((false, ()), ())) (derefK (L56_4 n ((l_0, n_1, 0, ()), (), ())) fun o5 => sumK o5 (fun d6 => some ((d6.1.1, ()), ())) (fun _ => some ((true, ()), ()))))
noncomputable def g56 (d : (List zTf) × Int × Unit) : Option ((Bool × Unit) × (Unit)) := F56 fuel d.1 d.2.1
noncomputable def p56 : Prim := ⟨[.v (.list false 48 (.str (.pair (.int .i64) zTa))), .v (.int .i64)], [.v .bool], g56⟩
noncomputable def c56 : Cfg := ⟨41, tyT, [], [(54, p54)], [(4, l56_4)], [], [], [], [], [], [], [], [], [], none⟩
theorem F56_eq (n : Nat) (d) : absFn c56 n Try.f56 (body Try.f56) [.v (.list false 48 (.str (.pair (.int .i64) zTa))), .v (.int .i64)] [.v .bool] d = F56 n d.1 d.2.1 := by kernel_rfl
theorem L56_4_eq (n : Nat) (d) : (l56_4).g (n + 1) d = run c56 n (nth 0 (loopsOf (body Try.f56))) ((l56_4).ins.fill d) (roundK (l56_4) n) := by kernel_rfl
theorem ls56 : loopsOf (body Try.f56) = [nth 0 (loopsOf (body Try.f56))] := by kernel_rfl
theorem d56 : drawOK c56 (body Try.f56) = true := by kernel_rfl
theorem h56 : GoodF Try.prog 56 p56 := fn_done mixed (cfg := c56) (cfg_ok tyT_ok (goodCons h54 goodNil) rfl (by kernel_rfl)) Try.func56 rfl rfl (by kernel_rfl) rfl (by rw [ls56]; simp only [List.forall_mem_cons]; exact ⟨loopHas (key := 4) (li := l56_4) (by kernel_rfl) rfl (fun _ => rfl) (L56_4_eq), fun _ h => by cases h⟩) d56 (fun d y h => ⟨fuel, (F56_eq fuel d).trans h⟩)
-- function 35
noncomputable def F35 (_n : Nat) (b_0 : zTe) (before_1 : (List zTf)) (x_2 : zTf) : Option ((Bool × Unit) × (Unit)) :=
  cond (decide ((before_1.length : Int) > 0)) (getI before_1 (IntKind.wrap .i64 ((before_1.length : Int) - 1)) fun e1 => derefK (g54 (x_2.1, e1.1, 10000, ())) fun y2 => cond (!y2.1.1) (some ((false, ()), ())) (derefK (g54 (x_2.2.2.1, 0, (IntKind.wrap .i64 ((b_0.2.2.length : Int) - 1)), ())) fun y3 => derefK (g54 (x_2.2.2.2.1, 0, (IntKind.wrap .i64 ((b_0.2.1.length : Int) - 1)), ())) fun y4 => cond (x_2.2.1 == 1) (derefK (g54 (x_2.2.2.1, 0, (IntKind.wrap .i64 ((b_0.1.length : Int) - 1)), ())) fun y5 => cond y5.1.1 (derefK (g55 (b_0, x_2.2.2.1, x_2.2.2.2.1, x_2.2.2.2.2, ())) fun y6 => some ((y6.1.1, ()), ())) (some ((false, ()), ()))) (cond (x_2.2.1 == 2) (cond y3.1.1 (derefK (g54 (x_2.2.2.2.1, 1, 3, ())) fun y7 => cond y7.1.1 (some (((x_2.2.2.2.2 == 0), ()), ())) (some ((false, ()), ()))) (some ((false, ()), ()))) (cond (x_2.2.1 == 3) (derefK (g56 (before_1, x_2.2.2.1, ())) fun y8 => cond y8.1.1 (cond y4.1.1 (some (((x_2.2.2.2.2 == 0), ()), ())) (some ((false, ()), ()))) (some ((false, ()), ()))) (cond (x_2.2.1 == 4) (cond y3.1.1 (cond y4.1.1 (some (((x_2.2.2.2.2 == 0), ()), ())) (some ((false, ()), ()))) (some ((false, ()), ()))) (cond (x_2.2.1 == 5) (cond y3.1.1 (derefK (g54 (x_2.2.2.2.1, 0, 10000, ())) fun y9 => cond y9.1.1 (some (((x_2.2.2.2.2 == 0), ()), ())) (some ((false, ()), ()))) (some ((false, ()), ()))) (cond (x_2.2.1 == 6) (cond y3.1.1 (cond (x_2.2.2.2.1 == 0) (some (((x_2.2.2.2.2 == 0), ()), ())) (some ((false, ()), ()))) (some ((false, ()), ()))) (some ((false, ()), ()))))))))) (derefK (g54 (x_2.1, 0, 10000, ())) fun y10 => cond (!y10.1.1) (some ((false, ()), ())) (derefK (g54 (x_2.2.2.1, 0, (IntKind.wrap .i64 ((b_0.2.2.length : Int) - 1)), ())) fun y11 => derefK (g54 (x_2.2.2.2.1, 0, (IntKind.wrap .i64 ((b_0.2.1.length : Int) - 1)), ())) fun y12 => cond (x_2.2.1 == 1) (derefK (g54 (x_2.2.2.1, 0, (IntKind.wrap .i64 ((b_0.1.length : Int) - 1)), ())) fun y13 => cond y13.1.1 (derefK (g55 (b_0, x_2.2.2.1, x_2.2.2.2.1, x_2.2.2.2.2, ())) fun y14 => some ((y14.1.1, ()), ())) (some ((false, ()), ()))) (cond (x_2.2.1 == 2) (cond y11.1.1 (derefK (g54 (x_2.2.2.2.1, 1, 3, ())) fun y15 => cond y15.1.1 (some (((x_2.2.2.2.2 == 0), ()), ())) (some ((false, ()), ()))) (some ((false, ()), ()))) (cond (x_2.2.1 == 3) (derefK (g56 (before_1, x_2.2.2.1, ())) fun y16 => cond y16.1.1 (cond y12.1.1 (some (((x_2.2.2.2.2 == 0), ()), ())) (some ((false, ()), ()))) (some ((false, ()), ()))) (cond (x_2.2.1 == 4) (cond y11.1.1 (cond y12.1.1 (some (((x_2.2.2.2.2 == 0), ()), ())) (some ((false, ()), ()))) (some ((false, ()), ()))) (cond (x_2.2.1 == 5) (cond y11.1.1 (derefK (g54 (x_2.2.2.2.1, 0, 10000, ())) fun y17 => cond y17.1.1 (some (((x_2.2.2.2.2 == 0), ()), ())) (some ((false, ()), ()))) (some ((false, ()), ()))) (cond (x_2.2.1 == 6) (cond y11.1.1 (cond (x_2.2.2.2.1 == 0) (some (((x_2.2.2.2.2 == 0), ()), ())) (some ((false, ()), ()))) (some ((false, ()), ()))) (some ((false, ()), ())))))))))
noncomputable def g35 (d : zTe × (List zTf) × zTf × Unit) : Option ((Bool × Unit) × (Unit)) := F35 fuel d.1 d.2.1 d.2.2.1
noncomputable def p35 : Prim := ⟨[.v (.str zTb), .v (.list false 48 (.str (.pair (.int .i64) zTa))), .v (.str (.pair (.int .i64) zTa))], [.v .bool], g35⟩
noncomputable def c35 : Cfg := ⟨124, tyT, [], [(54, p54), (55, p55), (56, p56)], [], [], [], [], [], [], [], [], [], [], none⟩
theorem F35_eq (n : Nat) (d) : absFn c35 n Try.f35 (body Try.f35) [.v (.str zTb), .v (.list false 48 (.str (.pair (.int .i64) zTa))), .v (.str (.pair (.int .i64) zTa))] [.v .bool] d = F35 n d.1 d.2.1 d.2.2.1 := by kernel_rfl
theorem d35 : drawOK c35 (body Try.f35) = true := by kernel_rfl
theorem h35 : GoodF Try.prog 35 p35 := fn_done mixed (cfg := c35) (cfg_ok tyT_ok (goodCons h54 (goodCons h55 (goodCons h56 goodNil))) rfl (by kernel_rfl)) Try.func35 rfl rfl (by kernel_rfl) rfl (noLoops (by kernel_rfl)) d35 (fun d y h => ⟨fuel, (F35_eq fuel d).trans h⟩)
-- function 17
noncomputable def B17_7 (_n : Nat) (L : ((List zTf) × Int × Unit) × (zTe × Unit) × Unit → Option (((Int × Int × Unit) × (Unit) × Unit) ⊕ ((Unit) × (Unit) × Unit))) (l_1 : List zTf) (i_7 : Int) (o_2 : (List (Int × (Int × (Int × Bool)))) × ((List Int) × (List Int))) : Option (((Int × Int × Unit) × (Unit) × Unit) ⊕ ((Unit) × (Unit) × Unit)) :=
  cond (decide (i_7 < (l_1.length : Int))) (leK 0 i_7 (leK i_7 (l_1.length : Int) (getI l_1 i_7 fun e2 => derefK (g35 (o_2, (l_1.take i_7.toNat), e2, ())) fun y3 => cond (!y3.1.1) (some (.inl ((i_7, 101, ()), (), ()))) (L ((l_1, (IntKind.wrap .i64 (i_7 + 1)), ()), (o_2, ()), ()))))) (some (.inr ((), (), ())))
noncomputable def L17_7 : Nat → ((List zTf) × Int × Unit) × (zTe × Unit) × Unit → Option (((Int × Int × Unit) × (Unit) × Unit) ⊕ ((Unit) × (Unit) × Unit))
  | 0, _ => none
  | n + 1, d => B17_7 n (L17_7 n) d.1.1 d.1.2.1 d.2.1.1
noncomputable def l17_7 : LoopI := ⟨⟨[(1, .v (.list false 48 (.str (.pair (.int .i64) zTa)))), (2, .c (.ptr 2 [])), (7, .v (.int .i64))], [(2, false, .str zTb)], none⟩, [(.ret, ⟨[(4, .v (.int .i64)), (5, .v (.int .i64))], [], none⟩), (.exit 0, ⟨[], [], none⟩)], L17_7⟩
noncomputable def F17 (n : Nat) (b_0 : zTe) (l_1 : (List zTf)) : Option ((Int × Int × Unit) × (Unit)) :=
  derefK (g34 (b_0, ())) fun y1 => cond (y1.1.1 != 0) (some ((0, y1.1.1, ()), ())) (cond (decide ((l_1.length : Int) > 100)) (some ((0, 2, ()), ())) (derefK (L17_7 n ((l_1, 0, ()), (b_0, ()), ())) fun o4 => sumK o4 (fun d5 => some ((d5.1.1, d5.1.2.1, ()), ())) (fun _ => some ((0, 0, ()), ()))))
noncomputable def g17 (d : zTe × (List zTf) × Unit) : Option ((Int × Int × Unit) × (Unit)) := F17 fuel d.1 d.2.1
noncomputable def p17 : Prim := ⟨[.v (.str zTb), .v (.list false 48 (.str (.pair (.int .i64) zTa)))], [.v (.int .i64), .v (.int .i64)], g17⟩
noncomputable def c17 : Cfg := ⟨33, tyT, [], [(34, p34), (35, p35)], [(7, l17_7)], [], [], [], [], [], [], [], [], [], none⟩
theorem F17_eq (n : Nat) (d) : absFn c17 n Try.f17 (body Try.f17) [.v (.str zTb), .v (.list false 48 (.str (.pair (.int .i64) zTa)))] [.v (.int .i64), .v (.int .i64)] d = F17 n d.1 d.2.1 := by kernel_rfl
theorem L17_7_eq (n : Nat) (d) : (l17_7).g (n + 1) d = run c17 n (nth 0 (loopsOf (body Try.f17))) ((l17_7).ins.fill d) (roundK (l17_7) n) := by kernel_rfl
theorem ls17 : loopsOf (body Try.f17) = [nth 0 (loopsOf (body Try.f17))] := by kernel_rfl
theorem d17 : drawOK c17 (body Try.f17) = true := by kernel_rfl
theorem h17 : GoodF Try.prog 17 p17 := fn_done mixed (cfg := c17) (cfg_ok tyT_ok (goodCons h34 (goodCons h35 goodNil)) rfl (by kernel_rfl)) Try.func17 rfl rfl (by kernel_rfl) rfl (by rw [ls17]; simp only [List.forall_mem_cons]; exact ⟨loopHas (key := 7) (li := l17_7) (by kernel_rfl) rfl (fun _ => rfl) (L17_7_eq), fun _ h => by cases h⟩) d17 (fun d y h => ⟨fuel, (F17_eq fuel d).trans h⟩)
-- function 36
noncomputable def F36 (_n : Nat) (n_0 : Int) (low_1 : Int) (high_2 : Int) : Option ((Bool × Unit) × (Unit)) :=
  cond (decide (n_0 ≥ low_1)) (some (((decide (n_0 ≤ high_2)), ()), ())) (some ((false, ()), ()))
noncomputable def g36 (d : Int × Int × Int × Unit) : Option ((Bool × Unit) × (Unit)) := F36 fuel d.1 d.2.1 d.2.2.1
noncomputable def p36 : Prim := ⟨[.v (.int .i64), .v (.int .i64), .v (.int .i64)], [.v .bool], g36⟩
noncomputable def c36 : Cfg := ⟨15, tyT, [], [], [], [], [], [], [], [], [], [], [], [], none⟩
theorem F36_eq (n : Nat) (d) : absFn c36 n Try.f36 (body Try.f36) [.v (.int .i64), .v (.int .i64), .v (.int .i64)] [.v .bool] d = F36 n d.1 d.2.1 d.2.2.1 := by kernel_rfl
theorem d36 : drawOK c36 (body Try.f36) = true := by kernel_rfl
theorem h36 : GoodF Try.prog 36 p36 := fn_done mixed (cfg := c36) (cfg_ok tyT_ok (goodNil) rfl (by kernel_rfl)) Try.func36 rfl rfl (by kernel_rfl) rfl (noLoops (by kernel_rfl)) d36 (fun d y h => ⟨fuel, (F36_eq fuel d).trans h⟩)
-- function 18
noncomputable def B18_4 (_n : Nat) (L : (Int × Unit) × (zTg × Unit) × Unit → Option (zTn ⊕ ((Unit) × (zTg × Unit) × Unit))) (i_3 : Int) (o_1 : (List (Int × (Int × (Int × Int)))) × ((List (Int × (Int × (Int × Int)))) × (Int × (Int × Int)))) : Option (zTn ⊕ ((Unit) × (zTg × Unit) × Unit)) :=
  cond (decide (i_3 < (o_1.1.length : Int))) (getI o_1.1 i_3 fun e4 => derefK (g36 (e4.1, (-1), (IntKind.wrap .i64 (i_3 - 1)), ())) fun y5 => cond (!y5.1.1) (some (.inl ((50, ()), (), ()))) (derefK (g36 (e4.2.1, 1, 1000, ())) fun y6 => cond (!y6.1.1) (some (.inl ((50, ()), (), ()))) (derefK (g36 (e4.2.2.1, 0, 20, ())) fun y7 => cond (!y7.1.1) (some (.inl ((50, ()), (), ()))) (derefK (g36 (e4.2.2.2, 1, 10000, ())) fun y8 => cond (!y8.1.1) (some (.inl ((50, ()), (), ()))) (L (((IntKind.wrap .i64 (i_3 + 1)), ()), (o_1, ()), ())))))) (some (.inr ((), (o_1, ()), ())))
noncomputable def L18_4 : Nat → (Int × Unit) × (zTg × Unit) × Unit → Option (zTn ⊕ ((Unit) × (zTg × Unit) × Unit))
  | 0, _ => none
  | n + 1, d => B18_4 n (L18_4 n) d.1.1 d.2.1.1
noncomputable def l18_4 : LoopI := ⟨⟨[(1, .c (.ptr 1 [])), (3, .v (.int .i64))], [(1, false, .str (.pair (.list false 46 (.str zTa)) (.pair (.list false 44 (.str zTa)) zTh)))], none⟩, [(.ret, ⟨[(2, .v (.int .i64))], [], none⟩), (.exit 0, ⟨[(1, .c (.ptr 1 []))], [(1, false, .str (.pair (.list false 46 (.str zTa)) (.pair (.list false 44 (.str zTa)) zTh)))], none⟩)], L18_4⟩
noncomputable def B18_10 (_n : Nat) (L : (Int × Unit) × (zTg × Unit) × Unit → Option (zTn ⊕ ((Unit) × (Unit) × Unit))) (i_5 : Int) (o_1 : (List (Int × (Int × (Int × Int)))) × ((List (Int × (Int × (Int × Int)))) × (Int × (Int × Int)))) : Option (zTn ⊕ ((Unit) × (Unit) × Unit)) :=
  cond (decide (i_5 < (o_1.2.1.length : Int))) (getI o_1.2.1 i_5 fun e12 => derefK (g36 (e12.1, 0, (IntKind.wrap .i64 ((o_1.1.length : Int) - 1)), ())) fun y13 => cond (!y13.1.1) (some (.inl ((50, ()), (), ()))) (derefK (g36 (e12.2.1, 0, 2, ())) fun y14 => cond (!y14.1.1) (some (.inl ((50, ()), (), ()))) (derefK (g36 (e12.2.2.1, 1, 1000, ())) fun y15 => cond (!y15.1.1) (some (.inl ((50, ()), (), ()))) (derefK (g36 (e12.2.2.2, 0, 1000, ())) fun y16 => cond (!y16.1.1) (some (.inl ((50, ()), (), ()))) (L (((IntKind.wrap .i64 (i_5 + 1)), ()), (o_1, ()), ())))))) (some (.inr ((), (), ())))
noncomputable def L18_10 : Nat → (Int × Unit) × (zTg × Unit) × Unit → Option (zTn ⊕ ((Unit) × (Unit) × Unit))
  | 0, _ => none
  | n + 1, d => B18_10 n (L18_10 n) d.1.1 d.2.1.1
noncomputable def l18_10 : LoopI := ⟨⟨[(1, .c (.ptr 1 [])), (5, .v (.int .i64))], [(1, false, .str (.pair (.list false 46 (.str zTa)) (.pair (.list false 44 (.str zTa)) zTh)))], none⟩, [(.ret, ⟨[(2, .v (.int .i64))], [], none⟩), (.exit 2, ⟨[], [], none⟩)], L18_10⟩
noncomputable def F18 (n : Nat) (s_0 : zTg) : Option ((Int × Unit) × (Unit)) :=
  cond (decide ((s_0.1.length : Int) > 10)) (some ((50, ()), ())) (cond (decide ((s_0.2.1.length : Int) > 16)) (some ((50, ()), ())) (derefK (g36 (s_0.2.2.1, 1, 1000, ())) fun y1 => cond (!y1.1.1) (some ((50, ()), ())) (derefK (g36 (s_0.2.2.2.1, 0, 20, ())) fun y2 => cond (!y2.1.1) (some ((50, ()), ())) (derefK (g36 (s_0.2.2.2.2, 1, 1000, ())) fun y3 => cond (!y3.1.1) (some ((50, ()), ())) (derefK (L18_4 n ((0, ()), (s_0, ()), ())) fun o9 => sumK o9 (fun d10 => some ((d10.1.1, ()), ())) (fun d11 => derefK (L18_10 n ((0, ()), (d11.2.1.1, ()), ())) fun o17 => sumK o17 (fun d18 => some ((d18.1.1, ()), ())) (fun _ => some ((0, ()), ()))))))))
noncomputable def g18 (d : zTg × Unit) : Option ((Int × Unit) × (Unit)) := F18 fuel d.1
noncomputable def p18 : Prim := ⟨[.v (.str (.pair (.list false 46 (.str zTa)) (.pair (.list false 44 (.str zTa)) zTh)))], [.v (.int .i64)], g18⟩
noncomputable def c18 : Cfg := ⟨109, tyT, [], [(36, p36)], [(4, l18_4), (10, l18_10)], [], [], [], [], [], [], [], [], [], none⟩
theorem F18_eq (n : Nat) (d) : absFn c18 n Try.f18 (body Try.f18) [.v (.str (.pair (.list false 46 (.str zTa)) (.pair (.list false 44 (.str zTa)) zTh)))] [.v (.int .i64)] d = F18 n d.1 := by kernel_rfl
theorem L18_4_eq (n : Nat) (d) : (l18_4).g (n + 1) d = run c18 n (nth 0 (loopsOf (body Try.f18))) ((l18_4).ins.fill d) (roundK (l18_4) n) := by kernel_rfl
theorem L18_10_eq (n : Nat) (d) : (l18_10).g (n + 1) d = run c18 n (nth 1 (loopsOf (body Try.f18))) ((l18_10).ins.fill d) (roundK (l18_10) n) := by kernel_rfl
theorem ls18 : loopsOf (body Try.f18) = [nth 0 (loopsOf (body Try.f18)), nth 1 (loopsOf (body Try.f18))] := by kernel_rfl
theorem d18 : drawOK c18 (body Try.f18) = true := by kernel_rfl
theorem h18 : GoodF Try.prog 18 p18 := fn_done mixed (cfg := c18) (cfg_ok tyT_ok (goodCons h36 goodNil) rfl (by kernel_rfl)) Try.func18 rfl rfl (by kernel_rfl) rfl (by rw [ls18]; simp only [List.forall_mem_cons]; exact ⟨loopHas (key := 4) (li := l18_4) (by kernel_rfl) rfl (fun _ => rfl) (L18_4_eq), loopHas (key := 10) (li := l18_10) (by kernel_rfl) rfl (fun _ => rfl) (L18_10_eq), fun _ h => by cases h⟩) d18 (fun d y h => ⟨fuel, (F18_eq fuel d).trans h⟩)
-- function 19
noncomputable def F19 (_n : Nat) (n_0 : Int) (low_1 : Int) (high_2 : Int) : Option ((Bool × Unit) × (Unit)) :=
  cond (decide (n_0 ≥ low_1)) (some (((decide (n_0 ≤ high_2)), ()), ())) (some ((false, ()), ()))
noncomputable def g19 (d : Int × Int × Int × Unit) : Option ((Bool × Unit) × (Unit)) := F19 fuel d.1 d.2.1 d.2.2.1
noncomputable def p19 : Prim := ⟨[.v (.int .i64), .v (.int .i64), .v (.int .i64)], [.v .bool], g19⟩
noncomputable def c19 : Cfg := ⟨15, tyT, [], [], [], [], [], [], [], [], [], [], [], [], none⟩
theorem F19_eq (n : Nat) (d) : absFn c19 n Try.f19 (body Try.f19) [.v (.int .i64), .v (.int .i64), .v (.int .i64)] [.v .bool] d = F19 n d.1 d.2.1 d.2.2.1 := by kernel_rfl
theorem d19 : drawOK c19 (body Try.f19) = true := by kernel_rfl
theorem h19 : GoodF Try.prog 19 p19 := fn_done mixed (cfg := c19) (cfg_ok tyT_ok (goodNil) rfl (by kernel_rfl)) Try.func19 rfl rfl (by kernel_rfl) rfl (noLoops (by kernel_rfl)) d19 (fun d y h => ⟨fuel, (F19_eq fuel d).trans h⟩)
-- function 8
noncomputable def B8_14 (_n : Nat) (L : (Int × Int × Unit) × (zTc × Unit) × Unit → Option (zTn ⊕ ((Unit) × (Unit) × Unit))) (n_4 : Int) (i_5 : Int) (o_1 : ((List zTm) × Int) × (zTe × ((List zTf) × (Int × (zTg × ((List Int) × (List Int))))))) : Option (zTn ⊕ ((Unit) × (Unit) × Unit)) :=
  cond (decide (i_5 < n_4)) (getI o_1.2.2.2.2.2.1 i_5 fun e5 => derefK (g19 (e5, 0, 200, ())) fun y6 => cond (!y6.1.1) (some (.inl ((120, ()), (), ()))) (getI o_1.2.2.2.2.2.2 i_5 fun e7 => derefK (g19 (e7, 0, 100, ())) fun y8 => cond (!y8.1.1) (some (.inl ((120, ()), (), ()))) (L ((n_4, (IntKind.wrap .i64 (i_5 + 1)), ()), (o_1, ()), ())))) (some (.inr ((), (), ())))
noncomputable def L8_14 : Nat → (Int × Int × Unit) × (zTc × Unit) × Unit → Option (zTn ⊕ ((Unit) × (Unit) × Unit))
  | 0, _ => none
  | n + 1, d => B8_14 n (L8_14 n) d.1.1 d.1.2.1 d.2.1.1
noncomputable def l8_14 : LoopI := ⟨⟨[(1, .c (.ptr 1 [])), (4, .v (.int .i64)), (5, .v (.int .i64))], [(1, false, .str (.pair (.str zTd) (.pair (.str zTb) (.pair (.list false 48 (.str (.pair (.int .i64) zTa))) (.pair (.int .i64) (.pair (.str (.pair (.list false 46 (.str zTa)) (.pair (.list false 44 (.str zTa)) zTh))) zTk))))))], none⟩, [(.ret, ⟨[(2, .v (.int .i64))], [], none⟩), (.exit 0, ⟨[], [], none⟩)], L8_14⟩
noncomputable def F8 (n : Nat) (g_0 : zTc) : Option ((Int × Unit) × (Unit)) :=
  derefK (g16 (g_0.1, [], ())) fun y1 => cond (y1.1.1 != 0) (some ((y1.1.1, ()), ())) (derefK (g17 (g_0.2.1, g_0.2.2.1, ())) fun y2 => cond (y2.1.2.1 != 0) (some ((y2.1.2.1, ()), ())) (derefK (g18 (g_0.2.2.2.2.1, ())) fun y3 => cond (y3.1.1 != 0) (some ((y3.1.1, ()), ())) (cond ((g_0.2.1.2.2.length : Int) != (g_0.1.1.length : Int)) (some ((120, ()), ())) (cond ((g_0.2.2.2.2.1.2.1.length : Int) != (g_0.1.1.length : Int)) (some ((120, ()), ())) (cond ((g_0.2.2.2.2.2.1.length : Int) != (g_0.1.1.length : Int)) (some ((120, ()), ())) (cond ((g_0.2.2.2.2.2.2.length : Int) != (g_0.1.1.length : Int)) (some ((120, ()), ())) (derefK (g19 (g_0.2.2.2.1, 0, 10000, ())) fun y4 => cond (!y4.1.1) (some ((120, ()), ())) (derefK (L8_14 n (((g_0.1.1.length : Int), 0, ()), (g_0, ()), ())) fun o9 => sumK o9 (fun d10 => some ((d10.1.1, ()), ())) (fun _ => some ((0, ()), ()))))))))))
noncomputable def g8 (d : zTc × Unit) : Option ((Int × Unit) × (Unit)) := F8 fuel d.1
noncomputable def p8 : Prim := ⟨[.v (.str (.pair (.str zTd) (.pair (.str zTb) (.pair (.list false 48 (.str (.pair (.int .i64) zTa))) (.pair (.int .i64) (.pair (.str (.pair (.list false 46 (.str zTa)) (.pair (.list false 44 (.str zTa)) zTh))) zTk))))))], [.v (.int .i64)], g8⟩
noncomputable def c8 : Cfg := ⟨88, tyT, [], [(16, p16), (17, p17), (18, p18), (19, p19)], [(14, l8_14)], [], [], [], [], [], [], [], [], [], none⟩
theorem F8_eq (n : Nat) (d) : absFn c8 n Try.f8 (body Try.f8) [.v (.str (.pair (.str zTd) (.pair (.str zTb) (.pair (.list false 48 (.str (.pair (.int .i64) zTa))) (.pair (.int .i64) (.pair (.str (.pair (.list false 46 (.str zTa)) (.pair (.list false 44 (.str zTa)) zTh))) zTk))))))] [.v (.int .i64)] d = F8 n d.1 := by kernel_rfl
theorem L8_14_eq (n : Nat) (d) : (l8_14).g (n + 1) d = run c8 n (nth 0 (loopsOf (body Try.f8))) ((l8_14).ins.fill d) (roundK (l8_14) n) := by kernel_rfl
theorem ls8 : loopsOf (body Try.f8) = [nth 0 (loopsOf (body Try.f8))] := by kernel_rfl
theorem d8 : drawOK c8 (body Try.f8) = true := by kernel_rfl
theorem h8 : GoodF Try.prog 8 p8 := fn_done mixed (cfg := c8) (cfg_ok tyT_ok (goodCons h16 (goodCons h17 (goodCons h18 (goodCons h19 goodNil)))) rfl (by kernel_rfl)) Try.func8 rfl rfl (by kernel_rfl) rfl (by rw [ls8]; simp only [List.forall_mem_cons]; exact ⟨loopHas (key := 14) (li := l8_14) (by kernel_rfl) rfl (fun _ => rfl) (L8_14_eq), fun _ h => by cases h⟩) d8 (fun d y h => ⟨fuel, (F8_eq fuel d).trans h⟩)
-- function 27
noncomputable def F27 (_n : Nat) (n_0 : Int) (low_1 : Int) (high_2 : Int) : Option ((Bool × Unit) × (Unit)) :=
  cond (decide (n_0 ≥ low_1)) (some (((decide (n_0 ≤ high_2)), ()), ())) (some ((false, ()), ()))
noncomputable def g27 (d : Int × Int × Int × Unit) : Option ((Bool × Unit) × (Unit)) := F27 fuel d.1 d.2.1 d.2.2.1
noncomputable def p27 : Prim := ⟨[.v (.int .i64), .v (.int .i64), .v (.int .i64)], [.v .bool], g27⟩
noncomputable def c27 : Cfg := ⟨15, tyT, [], [], [], [], [], [], [], [], [], [], [], [], none⟩
theorem F27_eq (n : Nat) (d) : absFn c27 n Try.f27 (body Try.f27) [.v (.int .i64), .v (.int .i64), .v (.int .i64)] [.v .bool] d = F27 n d.1 d.2.1 d.2.2.1 := by kernel_rfl
theorem d27 : drawOK c27 (body Try.f27) = true := by kernel_rfl
theorem h27 : GoodF Try.prog 27 p27 := fn_done mixed (cfg := c27) (cfg_ok tyT_ok (goodNil) rfl (by kernel_rfl)) Try.func27 rfl rfl (by kernel_rfl) rfl (noLoops (by kernel_rfl)) d27 (fun d y h => ⟨fuel, (F27_eq fuel d).trans h⟩)
-- function 26
noncomputable def F26 (_n : Nat) (l_0 : (zTe × (List zTf))) (n_1 : Int) : Option ((Bool × Unit) × (Unit)) :=
  derefK (g27 (n_1, 0, (IntKind.wrap .i64 ((l_0.1.2.2.length : Int) - 1)), ())) fun y1 => some ((y1.1.1, ()), ())
noncomputable def g26 (d : (zTe × (List zTf)) × Int × Unit) : Option ((Bool × Unit) × (Unit)) := F26 fuel d.1 d.2.1
noncomputable def p26 : Prim := ⟨[.v (.str (.pair (.str zTb) (.list false 48 (.str (.pair (.int .i64) zTa))))), .v (.int .i64)], [.v .bool], g26⟩
noncomputable def c26 : Cfg := ⟨12, tyT, [], [(27, p27)], [], [], [], [], [], [], [], [], [], [], none⟩
theorem F26_eq (n : Nat) (d) : absFn c26 n Try.f26 (body Try.f26) [.v (.str (.pair (.str zTb) (.list false 48 (.str (.pair (.int .i64) zTa))))), .v (.int .i64)] [.v .bool] d = F26 n d.1 d.2.1 := by kernel_rfl
theorem d26 : drawOK c26 (body Try.f26) = true := by kernel_rfl
theorem h26 : GoodF Try.prog 26 p26 := fn_done mixed (cfg := c26) (cfg_ok tyT_ok (goodCons h27 goodNil) rfl (by kernel_rfl)) Try.func26 rfl rfl (by kernel_rfl) rfl (noLoops (by kernel_rfl)) d26 (fun d y h => ⟨fuel, (F26_eq fuel d).trans h⟩)
-- function 72
noncomputable def B72_2 (_n : Nat) (L : ((List (Int × (Int × (Int × Bool)))) × ((Int × (Int × (Int × Bool))) → Option Bool) × Int × Int × Unit) × (Unit) × Unit → Option (zTn ⊕ ((Unit) × (Unit) × Unit))) (s_0 : List (Int × (Int × (Int × Bool)))) (f_1 : (Int × (Int × (Int × Bool))) → Option Bool) (t_7 : Int) (t_8 : Int) : Option (zTn ⊕ ((Unit) × (Unit) × Unit)) :=
  cond (decide (t_8 < t_7)) (getI s_0 t_8 fun e1 => derefK (f_1 e1) fun y2 => cond y2 (some (.inl ((t_8, ()), (), ()))) (L ((s_0, f_1, t_7, (IntKind.wrap .i64 (t_8 + 1)), ()), (), ()))) (some (.inr ((), (), ())))
noncomputable def L72_2 : Nat → ((List (Int × (Int × (Int × Bool)))) × ((Int × (Int × (Int × Bool))) → Option Bool) × Int × Int × Unit) × (Unit) × Unit → Option (zTn ⊕ ((Unit) × (Unit) × Unit))
  | 0, _ => none
  | n + 1, d => B72_2 n (L72_2 n) d.1.1 d.1.2.1 d.1.2.2.1 d.1.2.2.2.1
noncomputable def l72_2 : LoopI := ⟨⟨[(0, .v (.list false 56 (.str zTj))), (1, .v (.fn (.str zTj) .bool)), (7, .v (.int .i64)), (8, .v (.int .i64))], [], none⟩, [(.ret, ⟨[(4, .v (.int .i64))], [], none⟩), (.exit 0, ⟨[], [], none⟩)], L72_2⟩
noncomputable def F72 (n : Nat) (s_0 : (List (Int × (Int × (Int × Bool))))) (f_1 : ((Int × (Int × (Int × Bool))) → Option Bool)) : Option ((Int × Unit) × (Unit)) :=
  derefK (L72_2 n ((s_0, f_1, (s_0.length : Int), 0, ()), (), ())) fun o3 => sumK o3 (fun d4 => some ((d4.1.1, ()), ())) (fun _ => some (((-1), ()), ()))
noncomputable def g72 (d : (List (Int × (Int × (Int × Bool)))) × ((Int × (Int × (Int × Bool))) → Option Bool) × Unit) : Option ((Int × Unit) × (Unit)) := F72 fuel d.1 d.2.1
noncomputable def p72 : Prim := ⟨[.v (.list false 56 (.str zTj)), .v (.fn (.str zTj) .bool)], [.v (.int .i64)], g72⟩
noncomputable def c72 : Cfg := ⟨19, tyT, [], [], [(2, l72_2)], [], [], [], [], [], [], [], [], [], none⟩
theorem F72_eq (n : Nat) (d) : absFn c72 n Try.f72 (body Try.f72) [.v (.list false 56 (.str zTj)), .v (.fn (.str zTj) .bool)] [.v (.int .i64)] d = F72 n d.1 d.2.1 := by kernel_rfl
theorem L72_2_eq (n : Nat) (d) : (l72_2).g (n + 1) d = run c72 n (nth 0 (loopsOf (body Try.f72))) ((l72_2).ins.fill d) (roundK (l72_2) n) := by kernel_rfl
theorem ls72 : loopsOf (body Try.f72) = [nth 0 (loopsOf (body Try.f72))] := by kernel_rfl
theorem d72 : drawOK c72 (body Try.f72) = true := by kernel_rfl
theorem h72 : GoodF Try.prog 72 p72 := fn_done mixed (cfg := c72) (cfg_ok tyT_ok (goodNil) rfl (by kernel_rfl)) Try.func72 rfl rfl (by kernel_rfl) rfl (by rw [ls72]; simp only [List.forall_mem_cons]; exact ⟨loopHas (key := 2) (li := l72_2) (by kernel_rfl) rfl (fun _ => rfl) (L72_2_eq), fun _ h => by cases h⟩) d72 (fun d y h => ⟨fuel, (F72_eq fuel d).trans h⟩)
-- function 43
noncomputable def F43 (_n : Nat) (s_0 : (List (Int × (Int × (Int × Bool))))) (f_1 : ((Int × (Int × (Int × Bool))) → Option Bool)) : Option ((Bool × Unit) × (Unit)) :=
  derefK (g72 (s_0, f_1, ())) fun y1 => some (((decide (y1.1.1 ≥ 0)), ()), ())
noncomputable def g43 (d : (List (Int × (Int × (Int × Bool)))) × ((Int × (Int × (Int × Bool))) → Option Bool) × Unit) : Option ((Bool × Unit) × (Unit)) := F43 fuel d.1 d.2.1
noncomputable def p43 : Prim := ⟨[.v (.list false 56 (.str zTj)), .v (.fn (.str zTj) .bool)], [.v .bool], g43⟩
noncomputable def c43 : Cfg := ⟨9, tyT, [], [(72, p72)], [], [], [], [], [], [], [], [], [], [], none⟩
theorem F43_eq (n : Nat) (d) : absFn c43 n Try.f43 (body Try.f43) [.v (.list false 56 (.str zTj)), .v (.fn (.str zTj) .bool)] [.v .bool] d = F43 n d.1 d.2.1 := by kernel_rfl
theorem d43 : drawOK c43 (body Try.f43) = true := by kernel_rfl
theorem h43 : GoodF Try.prog 43 p43 := fn_done mixed (cfg := c43) (cfg_ok tyT_ok (goodCons h72 goodNil) rfl (by kernel_rfl)) Try.func43 rfl rfl (by kernel_rfl) rfl (noLoops (by kernel_rfl)) d43 (fun d y h => ⟨fuel, (F43_eq fuel d).trans h⟩)
-- function 44
noncomputable def F44 (_n : Nat) (r_0 : (Int × (Int × (Int × Bool)))) (t_1 : zTe) : Option ((Bool × Unit) × (Unit)) :=
  derefK (g27 (r_0.1, 0, (IntKind.wrap .i64 ((t_1.2.2.length : Int) - 1)), ())) fun y1 => cond (!y1.1.1) (some ((true, ()), ())) (derefK (g27 (r_0.2.1, 1, 10000, ())) fun y2 => cond (!y2.1.1) (some ((true, ()), ())) (derefK (g27 (r_0.2.2.1, 0, 9, ())) fun y3 => some (((!y3.1.1), ()), ())))
noncomputable def g44 (d : (Int × (Int × (Int × Bool))) × zTe × Unit) : Option ((Bool × Unit) × (Unit)) := F44 fuel d.1 d.2.1
noncomputable def p44 : Prim := ⟨[.v (.str zTj), .r (.str zTb)], [.v .bool], g44⟩
noncomputable def c44 : Cfg := ⟨24, tyT, [], [(27, p27)], [], [], [], [], [], [], [], [], [], [], none⟩
theorem F44_eq (n : Nat) (d) : absFn c44 n Try.f44 (body Try.f44) [.v (.str zTj), .r (.str zTb)] [.v .bool] d = F44 n d.1 d.2.1 := by kernel_rfl
theorem d44 : drawOK c44 (body Try.f44) = true := by kernel_rfl
theorem h44 : GoodF Try.prog 44 p44 := fn_done mixed (cfg := c44) (cfg_ok tyT_ok (goodCons h27 goodNil) rfl (by kernel_rfl)) Try.func44 rfl rfl (by kernel_rfl) rfl (noLoops (by kernel_rfl)) d44 (fun d y h => ⟨fuel, (F44_eq fuel d).trans h⟩)
-- function 46
noncomputable def F46 (_n : Nat) (n_0 : Int) : Option ((Bool × Unit) × (Unit)) :=
  derefK (g27 (n_0, 0, 9, ())) fun y1 => some (((!y1.1.1), ()), ())
noncomputable def g46 (d : Int × Unit) : Option ((Bool × Unit) × (Unit)) := F46 fuel d.1
noncomputable def p46 : Prim := ⟨[.v (.int .i64)], [.v .bool], g46⟩
noncomputable def c46 : Cfg := ⟨6, tyT, [], [(27, p27)], [], [], [], [], [], [], [], [], [], [], none⟩
theorem F46_eq (n : Nat) (d) : absFn c46 n Try.f46 (body Try.f46) [.v (.int .i64)] [.v .bool] d = F46 n d.1 := by kernel_rfl
theorem d46 : drawOK c46 (body Try.f46) = true := by kernel_rfl
theorem h46 : GoodF Try.prog 46 p46 := fn_done mixed (cfg := c46) (cfg_ok tyT_ok (goodCons h27 goodNil) rfl (by kernel_rfl)) Try.func46 rfl rfl (by kernel_rfl) rfl (noLoops (by kernel_rfl)) d46 (fun d y h => ⟨fuel, (F46_eq fuel d).trans h⟩)
-- function 47
noncomputable def F47 (_n : Nat) (n_0 : Int) : Option ((Bool × Unit) × (Unit)) :=
  derefK (g27 (n_0, 0, 10000, ())) fun y1 => some (((!y1.1.1), ()), ())
noncomputable def g47 (d : Int × Unit) : Option ((Bool × Unit) × (Unit)) := F47 fuel d.1
noncomputable def p47 : Prim := ⟨[.v (.int .i64)], [.v .bool], g47⟩
noncomputable def c47 : Cfg := ⟨6, tyT, [], [(27, p27)], [], [], [], [], [], [], [], [], [], [], none⟩
theorem F47_eq (n : Nat) (d) : absFn c47 n Try.f47 (body Try.f47) [.v (.int .i64)] [.v .bool] d = F47 n d.1 := by kernel_rfl
theorem d47 : drawOK c47 (body Try.f47) = true := by kernel_rfl
theorem h47 : GoodF Try.prog 47 p47 := fn_done mixed (cfg := c47) (cfg_ok tyT_ok (goodCons h27 goodNil) rfl (by kernel_rfl)) Try.func47 rfl rfl (by kernel_rfl) rfl (noLoops (by kernel_rfl)) d47 (fun d y h => ⟨fuel, (F47_eq fuel d).trans h⟩)
-- function 25
noncomputable def F25 (_n : Nat) (b_0 : zTe) : Option ((Int × Unit) × (Unit)) :=
  cond (decide ((b_0.1.length : Int) > 20)) (some ((100, ()), ())) (cond (decide ((b_0.2.1.length : Int) > 8)) (some ((100, ()), ())) (cond (decide ((b_0.2.2.length : Int) > 10)) (some ((100, ()), ())) (derefK (g43 (b_0.1, (fun v1 => derefK (g44 (v1, b_0, ())) fun y2 => some y2.1.1), ())) fun y3 => cond y3.1.1 (some ((100, ()), ())) (derefK (g45 (b_0.2.1, (fun v4 => derefK (g46 (v4, ())) fun y5 => some y5.1.1), ())) fun y6 => cond y6.1.1 (some ((100, ()), ())) (derefK (g45 (b_0.2.2, (fun v7 => derefK (g47 (v7, ())) fun y8 => some y8.1.1), ())) fun y9 => cond y9.1.1 (some ((100, ()), ())) (some ((0, ()), ())))))))
noncomputable def g25 (d : zTe × Unit) : Option ((Int × Unit) × (Unit)) := F25 fuel d.1
noncomputable def p25 : Prim := ⟨[.v (.str zTb)], [.v (.int .i64)], g25⟩
noncomputable def c25 : Cfg := ⟨39, tyT, [], [(43, p43), (44, p44), (45, p45), (46, p46), (47, p47)], [], [], [], [], [], [], [], [], [], [], none⟩
theorem F25_eq (n : Nat) (d) : absFn c25 n Try.f25 (body Try.f25) [.v (.str zTb)] [.v (.int .i64)] d = F25 n d.1 := by kernel_rfl
theorem d25 : drawOK c25 (body Try.f25) = true := by kernel_rfl
theorem h25 : GoodF Try.prog 25 p25 := fn_done mixed (cfg := c25) (cfg_ok tyT_ok (goodCons h43 (goodCons h44 (goodCons h45 (goodCons h46 (goodCons h47 goodNil))))) rfl (by kernel_rfl)) Try.func25 rfl rfl (by kernel_rfl) rfl (noLoops (by kernel_rfl)) d25 (fun d y h => ⟨fuel, (F25_eq fuel d).trans h⟩)
-- function 74
noncomputable def F74 (_n : Nat) (l_0 : (zTe × (List zTf))) (n_1 : Int) : Option ((Bool × Unit) × (Unit)) :=
  derefK (g27 (n_1, 0, (IntKind.wrap .i64 ((l_0.1.2.1.length : Int) - 1)), ())) fun y1 => some ((y1.1.1, ()), ())
noncomputable def g74 (d : (zTe × (List zTf)) × Int × Unit) : Option ((Bool × Unit) × (Unit)) := F74 fuel d.1 d.2.1
noncomputable def p74 : Prim := ⟨[.v (.str (.pair (.str zTb) (.list false 48 (.str (.pair (.int .i64) zTa))))), .v (.int .i64)], [.v .bool], g74⟩
noncomputable def c74 : Cfg := ⟨12, tyT, [], [(27, p27)], [], [], [], [], [], [], [], [], [], [], none⟩
theorem F74_eq (n : Nat) (d) : absFn c74 n Try.f74 (body Try.f74) [.v (.str (.pair (.str zTb) (.list false 48 (.str (.pair (.int .i64) zTa))))), .v (.int .i64)] [.v .bool] d = F74 n d.1 d.2.1 := by kernel_rfl
theorem d74 : drawOK c74 (body Try.f74) = true := by kernel_rfl
theorem h74 : GoodF Try.prog 74 p74 := fn_done mixed (cfg := c74) (cfg_ok tyT_ok (goodCons h27 goodNil) rfl (by kernel_rfl)) Try.func74 rfl rfl (by kernel_rfl) rfl (noLoops (by kernel_rfl)) d74 (fun d y h => ⟨fuel, (F74_eq fuel d).trans h⟩)
-- function 48
noncomputable def F48 (_n : Nat) (l_0 : (zTe × (List zTf))) (rule_1 : Int) (n_2 : Int) : Option ((Bool × Unit) × (Unit)) :=
  derefK (g74 (l_0, n_2, ())) fun y1 => cond y1.1.1 (getI l_0.1.2.1 n_2 fun e2 => getI l_0.1.1 rule_1 fun e3 => some (((decide (e2 ≥ e3.2.2.1)), ()), ())) (some ((false, ()), ()))
noncomputable def g48 (d : (zTe × (List zTf)) × Int × Int × Unit) : Option ((Bool × Unit) × (Unit)) := F48 fuel d.1 d.2.1 d.2.2.1
noncomputable def p48 : Prim := ⟨[.v (.str (.pair (.str zTb) (.list false 48 (.str (.pair (.int .i64) zTa))))), .v (.int .i64), .v (.int .i64)], [.v .bool], g48⟩
noncomputable def c48 : Cfg := ⟨26, tyT, [], [(74, p74)], [], [], [], [], [], [], [], [], [], [], none⟩
theorem F48_eq (n : Nat) (d) : absFn c48 n Try.f48 (body Try.f48) [.v (.str (.pair (.str zTb) (.list false 48 (.str (.pair (.int .i64) zTa))))), .v (.int .i64), .v (.int .i64)] [.v .bool] d = F48 n d.1 d.2.1 d.2.2.1 := by kernel_rfl
theorem d48 : drawOK c48 (body Try.f48) = true := by kernel_rfl
theorem h48 : GoodF Try.prog 48 p48 := fn_done mixed (cfg := c48) (cfg_ok tyT_ok (goodCons h74 goodNil) rfl (by kernel_rfl)) Try.func48 rfl rfl (by kernel_rfl) rfl (noLoops (by kernel_rfl)) d48 (fun d y h => ⟨fuel, (F48_eq fuel d).trans h⟩)
-- function 28
noncomputable def F28 (_n : Nat) (l_0 : (zTe × (List zTf))) (rule_1 : Int) (a_2 : Int) (b_3 : Int) : Option ((Bool × Unit) × (Unit)) :=
  getI l_0.1.1 rule_1 fun e1 => cond (!e1.2.2.2) (derefK (g48 (l_0, rule_1, a_2, ())) fun y2 => cond y2.1.1 (some (((b_3 == (-1)), ()), ())) (some ((false, ()), ()))) (derefK (g48 (l_0, rule_1, a_2, ())) fun y3 => cond y3.1.1 (derefK (g48 (l_0, rule_1, b_3, ())) fun y4 => cond y4.1.1 (some (((a_2 != b_3), ()), ())) (some ((false, ()), ()))) (some ((false, ()), ())))
noncomputable def g28 (d : (zTe × (List zTf)) × Int × Int × Int × Unit) : Option ((Bool × Unit) × (Unit)) := F28 fuel d.1 d.2.1 d.2.2.1 d.2.2.2.1
noncomputable def p28 : Prim := ⟨[.v (.str (.pair (.str zTb) (.list false 48 (.str (.pair (.int .i64) zTa))))), .v (.int .i64), .v (.int .i64), .v (.int .i64)], [.v .bool], g28⟩
noncomputable def c28 : Cfg := ⟨40, tyT, [], [(48, p48)], [], [], [], [], [], [], [], [], [], [], none⟩
theorem F28_eq (n : Nat) (d) : absFn c28 n Try.f28 (body Try.f28) [.v (.str (.pair (.str zTb) (.list false 48 (.str (.pair (.int .i64) zTa))))), .v (.int .i64), .v (.int .i64), .v (.int .i64)] [.v .bool] d = F28 n d.1 d.2.1 d.2.2.1 d.2.2.2.1 := by kernel_rfl
theorem d28 : drawOK c28 (body Try.f28) = true := by kernel_rfl
theorem h28 : GoodF Try.prog 28 p28 := fn_done mixed (cfg := c28) (cfg_ok tyT_ok (goodCons h48 goodNil) rfl (by kernel_rfl)) Try.func28 rfl rfl (by kernel_rfl) rfl (noLoops (by kernel_rfl)) d28 (fun d y h => ⟨fuel, (F28_eq fuel d).trans h⟩)
-- function 78
noncomputable def B78_2 (_n : Nat) (L : ((List zTf) × (zTf → Option Bool) × Int × Int × Unit) × (Unit) × Unit → Option (zTn ⊕ ((Unit) × (Unit) × Unit))) (s_0 : List zTf) (f_1 : zTf → Option Bool) (t_7 : Int) (t_8 : Int) : Option (zTn ⊕ ((Unit) × (Unit) × Unit)) :=
  cond (decide (t_8 < t_7)) (getI s_0 t_8 fun e1 => derefK (f_1 e1) fun y2 => cond y2 (some (.inl ((t_8, ()), (), ()))) (L ((s_0, f_1, t_7, (IntKind.wrap .i64 (t_8 + 1)), ()), (), ()))) (some (.inr ((), (), ())))
noncomputable def L78_2 : Nat → ((List zTf) × (zTf → Option Bool) × Int × Int × Unit) × (Unit) × Unit → Option (zTn ⊕ ((Unit) × (Unit) × Unit))
  | 0, _ => none
  | n + 1, d => B78_2 n (L78_2 n) d.1.1 d.1.2.1 d.1.2.2.1 d.1.2.2.2.1
noncomputable def l78_2 : LoopI := ⟨⟨[(0, .v (.list false 48 (.str (.pair (.int .i64) zTa)))), (1, .v (.fn (.str (.pair (.int .i64) zTa)) .bool)), (7, .v (.int .i64)), (8, .v (.int .i64))], [], none⟩, [(.ret, ⟨[(4, .v (.int .i64))], [], none⟩), (.exit 0, ⟨[], [], none⟩)], L78_2⟩
noncomputable def F78 (n : Nat) (s_0 : (List zTf)) (f_1 : (zTf → Option Bool)) : Option ((Int × Unit) × (Unit)) :=
  derefK (L78_2 n ((s_0, f_1, (s_0.length : Int), 0, ()), (), ())) fun o3 => sumK o3 (fun d4 => some ((d4.1.1, ()), ())) (fun _ => some (((-1), ()), ()))
noncomputable def g78 (d : (List zTf) × (zTf → Option Bool) × Unit) : Option ((Int × Unit) × (Unit)) := F78 fuel d.1 d.2.1
noncomputable def p78 : Prim := ⟨[.v (.list false 48 (.str (.pair (.int .i64) zTa))), .v (.fn (.str (.pair (.int .i64) zTa)) .bool)], [.v (.int .i64)], g78⟩
noncomputable def c78 : Cfg := ⟨19, tyT, [], [], [(2, l78_2)], [], [], [], [], [], [], [], [], [], none⟩
theorem F78_eq (n : Nat) (d) : absFn c78 n Try.f78 (body Try.f78) [.v (.list false 48 (.str (.pair (.int .i64) zTa))), .v (.fn (.str (.pair (.int .i64) zTa)) .bool)] [.v (.int .i64)] d = F78 n d.1 d.2.1 := by kernel_rfl
theorem L78_2_eq (n : Nat) (d) : (l78_2).g (n + 1) d = run c78 n (nth 0 (loopsOf (body Try.f78))) ((l78_2).ins.fill d) (roundK (l78_2) n) := by kernel_rfl
theorem ls78 : loopsOf (body Try.f78) = [nth 0 (loopsOf (body Try.f78))] := by kernel_rfl
theorem d78 : drawOK c78 (body Try.f78) = true := by kernel_rfl
theorem h78 : GoodF Try.prog 78 p78 := fn_done mixed (cfg := c78) (cfg_ok tyT_ok (goodNil) rfl (by kernel_rfl)) Try.func78 rfl rfl (by kernel_rfl) rfl (by rw [ls78]; simp only [List.forall_mem_cons]; exact ⟨loopHas (key := 2) (li := l78_2) (by kernel_rfl) rfl (fun _ => rfl) (L78_2_eq), fun _ h => by cases h⟩) d78 (fun d y h => ⟨fuel, (F78_eq fuel d).trans h⟩)
-- function 81
noncomputable def F81 (_n : Nat) (s_0 : (List zTf)) (f_1 : (zTf → Option Bool)) : Option ((Bool × Unit) × (Unit)) :=
  derefK (g78 (s_0, f_1, ())) fun y1 => some (((decide (y1.1.1 ≥ 0)), ()), ())
noncomputable def g81 (d : (List zTf) × (zTf → Option Bool) × Unit) : Option ((Bool × Unit) × (Unit)) := F81 fuel d.1 d.2.1
noncomputable def p81 : Prim := ⟨[.v (.list false 48 (.str (.pair (.int .i64) zTa))), .v (.fn (.str (.pair (.int .i64) zTa)) .bool)], [.v .bool], g81⟩
noncomputable def c81 : Cfg := ⟨9, tyT, [], [(78, p78)], [], [], [], [], [], [], [], [], [], [], none⟩
theorem F81_eq (n : Nat) (d) : absFn c81 n Try.f81 (body Try.f81) [.v (.list false 48 (.str (.pair (.int .i64) zTa))), .v (.fn (.str (.pair (.int .i64) zTa)) .bool)] [.v .bool] d = F81 n d.1 d.2.1 := by kernel_rfl
theorem d81 : drawOK c81 (body Try.f81) = true := by kernel_rfl
theorem h81 : GoodF Try.prog 81 p81 := fn_done mixed (cfg := c81) (cfg_ok tyT_ok (goodCons h78 goodNil) rfl (by kernel_rfl)) Try.func81 rfl rfl (by kernel_rfl) rfl (noLoops (by kernel_rfl)) d81 (fun d y h => ⟨fuel, (F81_eq fuel d).trans h⟩)
-- function 82
noncomputable def F82 (_n : Nat) (x_0 : zTf) (t_1 : Int) : Option ((Bool × Unit) × (Unit)) :=
  cond (x_0.2.1 == 3) (some (((x_0.2.2.1 == t_1), ()), ())) (some ((false, ()), ()))
noncomputable def g82 (d : zTf × Int × Unit) : Option ((Bool × Unit) × (Unit)) := F82 fuel d.1 d.2.1
noncomputable def p82 : Prim := ⟨[.v (.str (.pair (.int .i64) zTa)), .r (.int .i64)], [.v .bool], g82⟩
noncomputable def c82 : Cfg := ⟨13, tyT, [], [], [], [], [], [], [], [], [], [], [], [], none⟩
theorem F82_eq (n : Nat) (d) : absFn c82 n Try.f82 (body Try.f82) [.v (.str (.pair (.int .i64) zTa)), .r (.int .i64)] [.v .bool] d = F82 n d.1 d.2.1 := by kernel_rfl
theorem d82 : drawOK c82 (body Try.f82) = true := by kernel_rfl
theorem h82 : GoodF Try.prog 82 p82 := fn_done mixed (cfg := c82) (cfg_ok tyT_ok (goodNil) rfl (by kernel_rfl)) Try.func82 rfl rfl (by kernel_rfl) rfl (noLoops (by kernel_rfl)) d82 (fun d y h => ⟨fuel, (F82_eq fuel d).trans h⟩)
-- function 63
noncomputable def F63 (_n : Nat) (l_0 : (zTe × (List zTf))) (n_1 : Int) : Option ((Bool × Unit) × (Unit)) :=
  derefK (g81 (l_0.2, (fun v1 => derefK (g82 (v1, n_1, ())) fun y2 => some y2.1.1), ())) fun y3 => some ((y3.1.1, ()), ())
noncomputable def g63 (d : (zTe × (List zTf)) × Int × Unit) : Option ((Bool × Unit) × (Unit)) := F63 fuel d.1 d.2.1
noncomputable def p63 : Prim := ⟨[.v (.str (.pair (.str zTb) (.list false 48 (.str (.pair (.int .i64) zTa))))), .v (.int .i64)], [.v .bool], g63⟩
noncomputable def c63 : Cfg := ⟨9, tyT, [], [(81, p81), (82, p82)], [], [], [], [], [], [], [], [], [], [], none⟩
theorem F63_eq (n : Nat) (d) : absFn c63 n Try.f63 (body Try.f63) [.v (.str (.pair (.str zTb) (.list false 48 (.str (.pair (.int .i64) zTa))))), .v (.int .i64)] [.v .bool] d = F63 n d.1 d.2.1 := by kernel_rfl
theorem d63 : drawOK c63 (body Try.f63) = true := by kernel_rfl
theorem h63 : GoodF Try.prog 63 p63 := fn_done mixed (cfg := c63) (cfg_ok tyT_ok (goodCons h81 (goodCons h82 goodNil)) rfl (by kernel_rfl)) Try.func63 rfl rfl (by kernel_rfl) rfl (noLoops (by kernel_rfl)) d63 (fun d y h => ⟨fuel, (F63_eq fuel d).trans h⟩)
-- function 77
noncomputable def F77 (_n : Nat) (l_0 : (zTe × (List zTf))) (x_1 : zTf) : Option ((Bool × Unit) × (Unit)) :=
  cond (decide ((l_0.2.length : Int) > 0)) (getI l_0.2 (IntKind.wrap .i64 ((l_0.2.length : Int) - 1)) fun e1 => derefK (g27 (x_1.1, e1.1, 10000, ())) fun y2 => cond (!y2.1.1) (some ((false, ()), ())) (cond (x_1.2.1 == 1) (derefK (g27 (x_1.2.2.1, 0, (IntKind.wrap .i64 ((l_0.1.1.length : Int) - 1)), ())) fun y3 => cond y3.1.1 (derefK (g28 (l_0, x_1.2.2.1, x_1.2.2.2.1, x_1.2.2.2.2, ())) fun y4 => some ((y4.1.1, ()), ())) (some ((false, ()), ()))) (cond (x_1.2.1 == 2) (derefK (g26 (l_0, x_1.2.2.1, ())) fun y5 => cond y5.1.1 (derefK (g27 (x_1.2.2.2.1, 1, 3, ())) fun y6 => cond y6.1.1 (some (((x_1.2.2.2.2 == 0), ()), ())) (some ((false, ()), ()))) (some ((false, ()), ()))) (cond (x_1.2.1 == 3) (derefK (g27 (x_1.2.2.1, 0, (IntKind.wrap .i64 ((l_0.2.length : Int) - 1)), ())) fun y7 => cond y7.1.1 (getI l_0.2 x_1.2.2.1 fun e8 => cond (e8.2.1 == 2) (derefK (g63 (l_0, x_1.2.2.1, ())) fun y9 => cond (!y9.1.1) (derefK (g74 (l_0, x_1.2.2.2.1, ())) fun y10 => cond y10.1.1 (some (((x_1.2.2.2.2 == 0), ()), ())) (some ((false, ()), ()))) (some ((false, ()), ()))) (some ((false, ()), ()))) (some ((false, ()), ()))) (cond (x_1.2.1 == 4) (derefK (g26 (l_0, x_1.2.2.1, ())) fun y11 => cond y11.1.1 (derefK (g74 (l_0, x_1.2.2.2.1, ())) fun y12 => cond y12.1.1 (some (((x_1.2.2.2.2 == 0), ()), ())) (some ((false, ()), ()))) (some ((false, ()), ()))) (cond (x_1.2.1 == 5) (derefK (g26 (l_0, x_1.2.2.1, ())) fun y13 => cond y13.1.1 (derefK (g27 (x_1.2.2.2.1, 0, 10000, ())) fun y14 => cond y14.1.1 (some (((x_1.2.2.2.2 == 0), ()), ())) (some ((false, ()), ()))) (some ((false, ()), ()))) (cond (x_1.2.1 == 6) (derefK (g26 (l_0, x_1.2.2.1, ())) fun y15 => cond y15.1.1 (cond (x_1.2.2.2.1 == 0) (some (((x_1.2.2.2.2 == 0), ()), ())) (some ((false, ()), ()))) (some ((false, ()), ()))) (some ((false, ()), ()))))))))) (derefK (g27 (x_1.1, 0, 10000, ())) fun y16 => cond (!y16.1.1) (some ((false, ()), ())) (cond (x_1.2.1 == 1) (derefK (g27 (x_1.2.2.1, 0, (IntKind.wrap .i64 ((l_0.1.1.length : Int) - 1)), ())) fun y17 => cond y17.1.1 (derefK (g28 (l_0, x_1.2.2.1, x_1.2.2.2.1, x_1.2.2.2.2, ())) fun y18 => some ((y18.1.1, ()), ())) (some ((false, ()), ()))) (cond (x_1.2.1 == 2) (derefK (g26 (l_0, x_1.2.2.1, ())) fun y19 => cond y19.1.1 (derefK (g27 (x_1.2.2.2.1, 1, 3, ())) fun y20 => cond y20.1.1 (some (((x_1.2.2.2.2 == 0), ()), ())) (some ((false, ()), ()))) (some ((false, ()), ()))) (cond (x_1.2.1 == 3) (derefK (g27 (x_1.2.2.1, 0, (IntKind.wrap .i64 ((l_0.2.length : Int) - 1)), ())) fun y21 => cond y21.1.1 (getI l_0.2 x_1.2.2.1 fun e22 => cond (e22.2.1 == 2) (derefK (g63 (l_0, x_1.2.2.1, ())) fun y23 => cond (!y23.1.1) (derefK (g74 (l_0, x_1.2.2.2.1, ())) fun y24 => cond y24.1.1 (some (((x_1.2.2.2.2 == 0), ()), ())) (some ((false, ()), ()))) (some ((false, ()), ()))) (some ((false, ()), ()))) (some ((false, ()), ()))) (cond (x_1.2.1 == 4) (derefK (g26 (l_0, x_1.2.2.1, ())) fun y25 => cond y25.1.1 (derefK (g74 (l_0, x_1.2.2.2.1, ())) fun y26 => cond y26.1.1 (some (((x_1.2.2.2.2 == 0), ()), ())) (some ((false, ()), ()))) (some ((false, ()), ()))) (cond (x_1.2.1 == 5) (derefK (g26 (l_0, x_1.2.2.1, ())) fun y27 => cond y27.1.1 (derefK (g27 (x_1.2.2.2.1, 0, 10000, ())) fun y28 => cond y28.1.1 (some (((x_1.2.2.2.2 == 0), ()), ())) (some ((false, ()), ()))) (some ((false, ()), ()))) (cond (x_1.2.1 == 6) (derefK (g26 (l_0, x_1.2.2.1, ())) fun y29 => cond y29.1.1 (cond (x_1.2.2.2.1 == 0) (some (((x_1.2.2.2.2 == 0), ()), ())) (some ((false, ()), ()))) (some ((false, ()), ()))) (some ((false, ()), ())))))))))
noncomputable def g77 (d : (zTe × (List zTf)) × zTf × Unit) : Option ((Bool × Unit) × (Unit)) := F77 fuel d.1 d.2.1
noncomputable def p77 : Prim := ⟨[.v (.str (.pair (.str zTb) (.list false 48 (.str (.pair (.int .i64) zTa))))), .v (.str (.pair (.int .i64) zTa))], [.v .bool], g77⟩
noncomputable def c77 : Cfg := ⟨148, tyT, [], [(26, p26), (27, p27), (28, p28), (63, p63), (74, p74)], [], [], [], [], [], [], [], [], [], [], none⟩
theorem F77_eq (n : Nat) (d) : absFn c77 n Try.f77 (body Try.f77) [.v (.str (.pair (.str zTb) (.list false 48 (.str (.pair (.int .i64) zTa))))), .v (.str (.pair (.int .i64) zTa))] [.v .bool] d = F77 n d.1 d.2.1 := by kernel_rfl
theorem d77 : drawOK c77 (body Try.f77) = true := by kernel_rfl
theorem h77 : GoodF Try.prog 77 p77 := fn_done mixed (cfg := c77) (cfg_ok tyT_ok (goodCons h26 (goodCons h27 (goodCons h28 (goodCons h63 (goodCons h74 goodNil))))) rfl (by kernel_rfl)) Try.func77 rfl rfl (by kernel_rfl) rfl (noLoops (by kernel_rfl)) d77 (fun d y h => ⟨fuel, (F77_eq fuel d).trans h⟩)
-- function 57
noncomputable def B57_8 (_n : Nat) (L : ((List zTf) × Int × Int × Unit) × ((zTe × (List zTf)) × Unit) × Unit → Option (((Int × Int × Unit) × ((zTe × (List zTf)) × Unit) × Unit) ⊕ ((Unit) × ((zTe × (List zTf)) × Unit) × Unit))) (t_22 : List zTf) (t_23 : Int) (t_24 : Int) (o_4 : zTe × (List zTf)) : Option (((Int × Int × Unit) × ((zTe × (List zTf)) × Unit) × Unit) ⊕ ((Unit) × ((zTe × (List zTf)) × Unit) × Unit)) :=
  cond (decide (t_24 < t_23)) (getI t_22 t_24 fun e2 => derefK (g77 (o_4, e2, ())) fun y3 => cond (!y3.1.1) (some (.inl ((t_24, 101, ()), (o_4, ()), ()))) (lenK ((o_4.2.length : Int) + [e2].length) (L ((t_22, t_23, (IntKind.wrap .i64 (t_24 + 1)), ()), ((o_4.1, (o_4.2 ++ [e2])), ()), ())))) (some (.inr ((), (o_4, ()), ())))
noncomputable def L57_8 : Nat → ((List zTf) × Int × Int × Unit) × ((zTe × (List zTf)) × Unit) × Unit → Option (((Int × Int × Unit) × ((zTe × (List zTf)) × Unit) × Unit) ⊕ ((Unit) × ((zTe × (List zTf)) × Unit) × Unit))
  | 0, _ => none
  | n + 1, d => B57_8 n (L57_8 n) d.1.1 d.1.2.1 d.1.2.2.1 d.2.1.1
noncomputable def l57_8 : LoopI := ⟨⟨[(4, .c (.ptr 4 [])), (22, .v (.list false 48 (.str (.pair (.int .i64) zTa)))), (23, .v (.int .i64)), (24, .v (.int .i64))], [(4, false, .str (.pair (.str zTb) (.list true 48 (.str (.pair (.int .i64) zTa)))))], none⟩, [(.ret, ⟨[(4, .c (.ptr 4 [])), (5, .v (.int .i64)), (6, .v (.int .i64))], [(4, false, .str (.pair (.str zTb) (.list true 48 (.str (.pair (.int .i64) zTa)))))], none⟩), (.exit 0, ⟨[(4, .c (.ptr 4 []))], [(4, false, .str (.pair (.str zTb) (.list true 48 (.str (.pair (.int .i64) zTa)))))], none⟩)], L57_8⟩
noncomputable def F57 (n : Nat) (b_0 : zTe) (entries_1 : (List zTf)) : Option (((zTe × (List zTf)) × Int × Int × Unit) × (Unit)) :=
  derefK (g25 (b_0, ())) fun y1 => cond (y1.1.1 != 0) (some ((((([] : List (Int × (Int × (Int × Bool)))), (([] : List Int), ([] : List Int))), ([] : List zTf)), 0, y1.1.1, ()), ())) (cond (decide ((entries_1.length : Int) > 100)) (some ((((([] : List (Int × (Int × (Int × Bool)))), (([] : List Int), ([] : List Int))), ([] : List zTf)), 0, 2, ()), ())) (derefK (L57_8 n ((entries_1, (entries_1.length : Int), 0, ()), ((b_0, ([] : List zTf)), ()), ())) fun o4 => sumK o4 (fun d5 => some ((d5.2.1.1, d5.1.1, d5.1.2.1, ()), ())) (fun d6 => some ((d6.2.1.1, 0, 0, ()), ()))))
noncomputable def g57 (d : zTe × (List zTf) × Unit) : Option (((zTe × (List zTf)) × Int × Int × Unit) × (Unit)) := F57 fuel d.1 d.2.1
noncomputable def p57 : Prim := ⟨[.v (.str zTb), .v (.list false 48 (.str (.pair (.int .i64) zTa)))], [.v (.str (.pair (.str zTb) (.list false 48 (.str (.pair (.int .i64) zTa))))), .v (.int .i64), .v (.int .i64)], g57⟩
noncomputable def c57 : Cfg := ⟨43, tyT, [(4, .str (.pair (.str zTb) (.list true 48 (.str (.pair (.int .i64) zTa))))), (21, .str (.pair (.str zTb) (.list true 48 (.str (.pair (.int .i64) zTa)))))], [(25, p25), (77, p77)], [(8, l57_8)], [], [], [], [], [], [], [], [], [], none⟩
theorem F57_eq (n : Nat) (d) : absFn c57 n Try.f57 (body Try.f57) [.v (.str zTb), .v (.list false 48 (.str (.pair (.int .i64) zTa)))] [.v (.str (.pair (.str zTb) (.list false 48 (.str (.pair (.int .i64) zTa))))), .v (.int .i64), .v (.int .i64)] d = F57 n d.1 d.2.1 := by kernel_rfl
theorem L57_8_eq (n : Nat) (d) : (l57_8).g (n + 1) d = run c57 n (nth 0 (loopsOf (body Try.f57))) ((l57_8).ins.fill d) (roundK (l57_8) n) := by kernel_rfl
theorem ls57 : loopsOf (body Try.f57) = [nth 0 (loopsOf (body Try.f57))] := by kernel_rfl
theorem d57 : drawOK c57 (body Try.f57) = true := by kernel_rfl
theorem h57 : GoodF Try.prog 57 p57 := fn_done mixed (cfg := c57) (cfg_ok tyT_ok (goodCons h25 (goodCons h77 goodNil)) rfl (by kernel_rfl)) Try.func57 rfl rfl (by kernel_rfl) rfl (by rw [ls57]; simp only [List.forall_mem_cons]; exact ⟨loopHas (key := 8) (li := l57_8) (by kernel_rfl) rfl (fun _ => rfl) (L57_8_eq), fun _ h => by cases h⟩) d57 (fun d y h => ⟨fuel, (F57_eq fuel d).trans h⟩)
-- function 79
noncomputable def F79 (_n : Nat) (x_0 : zTf) (t_1 : Int) : Option ((Bool × Unit) × (Unit)) :=
  some (((decide (x_0.1 > t_1)), ()), ())
noncomputable def g79 (d : zTf × Int × Unit) : Option ((Bool × Unit) × (Unit)) := F79 fuel d.1 d.2.1
noncomputable def p79 : Prim := ⟨[.v (.str (.pair (.int .i64) zTa)), .r (.int .i64)], [.v .bool], g79⟩
noncomputable def c79 : Cfg := ⟨8, tyT, [], [], [], [], [], [], [], [], [], [], [], [], none⟩
theorem F79_eq (n : Nat) (d) : absFn c79 n Try.f79 (body Try.f79) [.v (.str (.pair (.int .i64) zTa)), .r (.int .i64)] [.v .bool] d = F79 n d.1 d.2.1 := by kernel_rfl
theorem d79 : drawOK c79 (body Try.f79) = true := by kernel_rfl
theorem h79 : GoodF Try.prog 79 p79 := fn_done mixed (cfg := c79) (cfg_ok tyT_ok (goodNil) rfl (by kernel_rfl)) Try.func79 rfl rfl (by kernel_rfl) rfl (noLoops (by kernel_rfl)) d79 (fun d y h => ⟨fuel, (F79_eq fuel d).trans h⟩)
-- function 58
noncomputable def F58 (_n : Nat) (l_0 : (zTe × (List zTf))) (day_1 : Int) : Option (((zTe × (List zTf)) × Unit) × (Unit)) :=
  derefK (g78 (l_0.2, (fun v1 => derefK (g79 (v1, day_1, ())) fun y2 => some y2.1.1), ())) fun y3 => cond (decide (y3.1.1 ≥ 0)) (leK 0 y3.1.1 (leK y3.1.1 (l_0.2.length : Int) (some (((l_0.1, (l_0.2.take y3.1.1.toNat)), ()), ())))) (some ((l_0, ()), ()))
noncomputable def g58 (d : (zTe × (List zTf)) × Int × Unit) : Option (((zTe × (List zTf)) × Unit) × (Unit)) := F58 fuel d.1 d.2.1
noncomputable def p58 : Prim := ⟨[.v (.str (.pair (.str zTb) (.list false 48 (.str (.pair (.int .i64) zTa))))), .v (.int .i64)], [.v (.str (.pair (.str zTb) (.list false 48 (.str (.pair (.int .i64) zTa)))))], g58⟩
noncomputable def c58 : Cfg := ⟨18, tyT, [], [(78, p78), (79, p79)], [], [], [], [], [], [], [], [], [], [], none⟩
theorem F58_eq (n : Nat) (d) : absFn c58 n Try.f58 (body Try.f58) [.v (.str (.pair (.str zTb) (.list false 48 (.str (.pair (.int .i64) zTa))))), .v (.int .i64)] [.v (.str (.pair (.str zTb) (.list false 48 (.str (.pair (.int .i64) zTa)))))] d = F58 n d.1 d.2.1 := by kernel_rfl
theorem d58 : drawOK c58 (body Try.f58) = true := by kernel_rfl
theorem h58 : GoodF Try.prog 58 p58 := fn_done mixed (cfg := c58) (cfg_ok tyT_ok (goodCons h78 (goodCons h79 goodNil)) rfl (by kernel_rfl)) Try.func58 rfl rfl (by kernel_rfl) rfl (noLoops (by kernel_rfl)) d58 (fun d y h => ⟨fuel, (F58_eq fuel d).trans h⟩)
-- function 37
noncomputable def F37 (_n : Nat) (b_0 : zTe) (entries_1 : (List zTf)) (day_2 : Int) : Option (((zTe × (List zTf)) × Int × Unit) × (Unit)) :=
  derefK (g57 (b_0, entries_1, ())) fun y1 => cond (y1.1.2.2.1 != 0) (some ((y1.1.1, y1.1.2.2.1, ()), ())) (derefK (g27 (day_2, 0, 10000, ())) fun y2 => cond (!y2.1.1) (some ((y1.1.1, 1, ()), ())) (derefK (g58 (y1.1.1, day_2, ())) fun y3 => some ((y3.1.1, 0, ()), ())))
noncomputable def g37 (d : zTe × (List zTf) × Int × Unit) : Option (((zTe × (List zTf)) × Int × Unit) × (Unit)) := F37 fuel d.1 d.2.1 d.2.2.1
noncomputable def p37 : Prim := ⟨[.v (.str zTb), .v (.list false 48 (.str (.pair (.int .i64) zTa))), .v (.int .i64)], [.v (.str (.pair (.str zTb) (.list false 48 (.str (.pair (.int .i64) zTa))))), .v (.int .i64)], g37⟩
noncomputable def c37 : Cfg := ⟨31, tyT, [], [(27, p27), (57, p57), (58, p58)], [], [], [], [], [], [], [], [], [], [], none⟩
theorem F37_eq (n : Nat) (d) : absFn c37 n Try.f37 (body Try.f37) [.v (.str zTb), .v (.list false 48 (.str (.pair (.int .i64) zTa))), .v (.int .i64)] [.v (.str (.pair (.str zTb) (.list false 48 (.str (.pair (.int .i64) zTa))))), .v (.int .i64)] d = F37 n d.1 d.2.1 d.2.2.1 := by kernel_rfl
theorem d37 : drawOK c37 (body Try.f37) = true := by kernel_rfl
theorem h37 : GoodF Try.prog 37 p37 := fn_done mixed (cfg := c37) (cfg_ok tyT_ok (goodCons h27 (goodCons h57 (goodCons h58 goodNil))) rfl (by kernel_rfl)) Try.func37 rfl rfl (by kernel_rfl) rfl (noLoops (by kernel_rfl)) d37 (fun d y h => ⟨fuel, (F37_eq fuel d).trans h⟩)
-- function 20
noncomputable def F20 (_n : Nat) (b_0 : zTe) (entries_1 : (List zTf)) (ride_2 : Int) (day_3 : Int) : Option (((zTe × (List zTf)) × Int × Unit) × (Unit)) :=
  derefK (g37 (b_0, entries_1, day_3, ())) fun y1 => cond (y1.1.2.1 == 0) (derefK (g26 (y1.1.1, ride_2, ())) fun y2 => cond (!y2.1.1) (some ((y1.1.1, 1, ()), ())) (some ((y1.1.1, y1.1.2.1, ()), ()))) (some ((y1.1.1, y1.1.2.1, ()), ()))
noncomputable def g20 (d : zTe × (List zTf) × Int × Int × Unit) : Option (((zTe × (List zTf)) × Int × Unit) × (Unit)) := F20 fuel d.1 d.2.1 d.2.2.1 d.2.2.2.1
noncomputable def p20 : Prim := ⟨[.v (.str zTb), .v (.list false 48 (.str (.pair (.int .i64) zTa))), .v (.int .i64), .v (.int .i64)], [.v (.str (.pair (.str zTb) (.list false 48 (.str (.pair (.int .i64) zTa))))), .v (.int .i64)], g20⟩
noncomputable def c20 : Cfg := ⟨30, tyT, [], [(26, p26), (37, p37)], [], [], [], [], [], [], [], [], [], [], none⟩
theorem F20_eq (n : Nat) (d) : absFn c20 n Try.f20 (body Try.f20) [.v (.str zTb), .v (.list false 48 (.str (.pair (.int .i64) zTa))), .v (.int .i64), .v (.int .i64)] [.v (.str (.pair (.str zTb) (.list false 48 (.str (.pair (.int .i64) zTa))))), .v (.int .i64)] d = F20 n d.1 d.2.1 d.2.2.1 d.2.2.2.1 := by kernel_rfl
theorem d20 : drawOK c20 (body Try.f20) = true := by kernel_rfl
theorem h20 : GoodF Try.prog 20 p20 := fn_done mixed (cfg := c20) (cfg_ok tyT_ok (goodCons h26 (goodCons h37 goodNil)) rfl (by kernel_rfl)) Try.func20 rfl rfl (by kernel_rfl) rfl (noLoops (by kernel_rfl)) d20 (fun d y h => ⟨fuel, (F20_eq fuel d).trans h⟩)
-- function 59
noncomputable def Q59_2 (_n : Nat) (L : (Int × (zTf → Option Bool) × Int × Unit) → Option (X × (Int × Unit))) (t_10 : zTf) (ride_4 : Int) (wanted_5 : (zTf → Option Bool)) (t_6 : Int) : Option (X × (Int × Unit)) :=
  derefK (wanted_5 t_10) fun y2 => cond y2 (some (.ret, (t_10.1, ()))) (cond (t_10.2.1 == 6) (cond (t_10.2.2.1 == ride_4) (some (.ret, ((-1), ()))) (L (ride_4, wanted_5, t_6, ()))) (L (ride_4, wanted_5, t_6, ())))
noncomputable def R59_2 (n : Nat) : List zTf → (Int × (zTf → Option Bool) × Int × Unit) → Option (X × (Int × Unit))
  | [], d => some (.norm, (d.2.2.1, ()))
  | x :: r, d => Q59_2 n (R59_2 n r) x d.1 d.2.1 d.2.2.1
noncomputable def r59_2 : RLoopI := ⟨.str (.pair (.int .i64) zTa), [4, 5, 6], [.r (.int .i64), .r (.fn (.str (.pair (.int .i64) zTa)) .bool), .m (.int .i64)], [.norm, .ret], R59_2⟩
noncomputable def F59 (n : Nat) (l_0 : (zTe × (List zTf))) (ride_1 : Int) (wanted_2 : (zTf → Option Bool)) : Option ((Int × Unit) × (Unit)) :=
  derefK (Ib.m39.p.g (l_0, ())) fun y1 => derefK y1.1.1 fun q3 => derefK (Ib.it61.g (q3, ())) fun l5 => derefK (R59_2 n l5 (ride_1, wanted_2, (0 : Int), ())) fun o4 => cond (X.same .norm o4.1) (some (((-1), ()), ())) (cond (X.same .ret o4.1) (some ((o4.2.1, ()), ())) (none))
noncomputable def g59 (d : (zTe × (List zTf)) × Int × (zTf → Option Bool) × Unit) : Option ((Int × Unit) × (Unit)) := F59 fuel d.1 d.2.1 d.2.2.1
noncomputable def p59 : Prim := ⟨[.v (.str (.pair (.str zTb) (.list false 48 (.str (.pair (.int .i64) zTa))))), .v (.int .i64), .v (.fn (.str (.pair (.int .i64) zTa)) .bool)], [.v (.int .i64)], g59⟩
noncomputable def c59 : Cfg := ⟨27, tyT, [], [], [], [], [], [(61, Ib.it61)], [(2, r59_2)], [(39, Ib.m39)], [], [], [], [], none⟩
theorem F59_eq (n : Nat) (d) : absFn c59 n Try.f59 (body Try.f59) [.v (.str (.pair (.str zTb) (.list false 48 (.str (.pair (.int .i64) zTa))))), .v (.int .i64), .v (.fn (.str (.pair (.int .i64) zTa)) .bool)] [.v (.int .i64)] d = F59 n d.1 d.2.1 d.2.2.1 := by kernel_rfl
theorem R59_2_eq (n : Nat) (x r d) : (r59_2).g n (x :: r) d = run c59 n (asR (nth 0 (rangesOf (body Try.f59)))) (innerSt r59_2 10 d x) (thenK (bodyK c59 r59_2 n (bdR (nth 0 (rangesOf (body Try.f59)))) r d) failK) := by kernel_rfl
theorem rs59 : rangesOf (body Try.f59) = [nth 0 (rangesOf (body Try.f59))] := by kernel_rfl
theorem d59 : drawD c59 (body Try.f59) = true := by kernel_rfl
theorem h59 : GoodF Try.prog 59 p59 := fn_doneR mixed (cfg := c59) (cfg_ok tyT_ok (goodNil) rfl (by kernel_rfl) (mk_ok (mkCons Ib.k39 mkNil))) (itCons Ib.it61_ok itNil) Try.func59 rfl rfl (by kernel_rfl) rfl (noLoops (by kernel_rfl)) (by rw [rs59]; simp only [List.forall_mem_cons]; exact ⟨rangeHas (key := 2) (li := r59_2) (p := 10) (by kernel_rfl) rfl (by kernel_rfl) (by kernel_rfl) (noLoops (by kernel_rfl)) (fun _ _ => rfl) R59_2_eq, fun _ h => by cases h⟩) d59 (fun d y h => ⟨fuel, (F59_eq fuel d).trans h⟩)
-- function 60
noncomputable def F60 (_n : Nat) (x_0 : zTf) (t_1 : Int) : Option ((Bool × Unit) × (Unit)) :=
  cond (x_0.2.1 == 1) (some (((x_0.2.2.1 == t_1), ()), ())) (some ((false, ()), ()))
noncomputable def g60 (d : zTf × Int × Unit) : Option ((Bool × Unit) × (Unit)) := F60 fuel d.1 d.2.1
noncomputable def p60 : Prim := ⟨[.v (.str (.pair (.int .i64) zTa)), .r (.int .i64)], [.v .bool], g60⟩
noncomputable def c60 : Cfg := ⟨13, tyT, [], [], [], [], [], [], [], [], [], [], [], [], none⟩
theorem F60_eq (n : Nat) (d) : absFn c60 n Try.f60 (body Try.f60) [.v (.str (.pair (.int .i64) zTa)), .r (.int .i64)] [.v .bool] d = F60 n d.1 d.2.1 := by kernel_rfl
theorem d60 : drawOK c60 (body Try.f60) = true := by kernel_rfl
theorem h60 : GoodF Try.prog 60 p60 := fn_done mixed (cfg := c60) (cfg_ok tyT_ok (goodNil) rfl (by kernel_rfl)) Try.func60 rfl rfl (by kernel_rfl) rfl (noLoops (by kernel_rfl)) d60 (fun d y h => ⟨fuel, (F60_eq fuel d).trans h⟩)
-- function 38
noncomputable def F38 (_n : Nat) (l_0 : (zTe × (List zTf))) (rule_1 : Int) : Option ((Int × Unit) × (Unit)) :=
  getI l_0.1.1 rule_1 fun e1 => derefK (g59 (l_0, e1.1, (fun v2 => derefK (g60 (v2, rule_1, ())) fun y3 => some y3.1.1), ())) fun y4 => cond (decide (y4.1.1 < 0)) (some (((-1), ()), ())) (getI l_0.1.1 rule_1 fun e5 => some (((IntKind.wrap .i64 ((IntKind.wrap .i64 (y4.1.1 + e5.2.1)) - 1)), ()), ()))
noncomputable def g38 (d : (zTe × (List zTf)) × Int × Unit) : Option ((Int × Unit) × (Unit)) := F38 fuel d.1 d.2.1
noncomputable def p38 : Prim := ⟨[.v (.str (.pair (.str zTb) (.list false 48 (.str (.pair (.int .i64) zTa))))), .v (.int .i64)], [.v (.int .i64)], g38⟩
noncomputable def c38 : Cfg := ⟨28, tyT, [], [(59, p59), (60, p60)], [], [], [], [], [], [], [], [], [], [], none⟩
theorem F38_eq (n : Nat) (d) : absFn c38 n Try.f38 (body Try.f38) [.v (.str (.pair (.str zTb) (.list false 48 (.str (.pair (.int .i64) zTa))))), .v (.int .i64)] [.v (.int .i64)] d = F38 n d.1 d.2.1 := by kernel_rfl
theorem d38 : drawOK c38 (body Try.f38) = true := by kernel_rfl
theorem h38 : GoodF Try.prog 38 p38 := fn_done mixed (cfg := c38) (cfg_ok tyT_ok (goodCons h59 (goodCons h60 goodNil)) rfl (by kernel_rfl)) Try.func38 rfl rfl (by kernel_rfl) rfl (noLoops (by kernel_rfl)) d38 (fun d y h => ⟨fuel, (F38_eq fuel d).trans h⟩)
-- function 21
noncomputable def B21_3 (_n : Nat) (L : (Int × Int × (List (Int × (Int × (Int × Bool)))) × Int × Int × Unit) × ((zTe × (List zTf)) × Unit) × Unit → Option (zTn)) (ride_1 : Int) (day_5 : Int) (t_10 : List (Int × (Int × (Int × Bool)))) (t_11 : Int) (t_12 : Int) (o_2 : zTe × (List zTf)) : Option (zTn) :=
  cond (decide (t_12 < t_11)) (getI t_10 t_12 fun e1 => cond (e1.1 == ride_1) (derefK (g38 (o_2, t_12, ())) fun y2 => L ((ride_1, (min day_5 y2.1.1), t_10, t_11, (IntKind.wrap .i64 (t_12 + 1)), ()), (o_2, ()), ())) (L ((ride_1, day_5, t_10, t_11, (IntKind.wrap .i64 (t_12 + 1)), ()), (o_2, ()), ()))) (some ((day_5, ()), (), ()))
noncomputable def L21_3 : Nat → (Int × Int × (List (Int × (Int × (Int × Bool)))) × Int × Int × Unit) × ((zTe × (List zTf)) × Unit) × Unit → Option (zTn)
  | 0, _ => none
  | n + 1, d => B21_3 n (L21_3 n) d.1.1 d.1.2.1 d.1.2.2.1 d.1.2.2.2.1 d.1.2.2.2.2.1 d.2.1.1
noncomputable def l21_3 : LoopI := ⟨⟨[(1, .v (.int .i64)), (2, .c (.ptr 2 [])), (5, .v (.int .i64)), (10, .v (.list false 56 (.str zTj))), (11, .v (.int .i64)), (12, .v (.int .i64))], [(2, false, .str (.pair (.str zTb) (.list false 48 (.str (.pair (.int .i64) zTa)))))], none⟩, [(.exit 0, ⟨[(5, .v (.int .i64))], [], none⟩)], L21_3⟩
noncomputable def F21 (n : Nat) (l_0 : (zTe × (List zTf))) (ride_1 : Int) : Option ((Int × Unit) × (Unit)) :=
  derefK (L21_3 n ((ride_1, 10000, l_0.1.1, (l_0.1.1.length : Int), 0, ()), (l_0, ()), ())) fun o3 => some ((o3.1.1, ()), ())
noncomputable def g21 (d : (zTe × (List zTf)) × Int × Unit) : Option ((Int × Unit) × (Unit)) := F21 fuel d.1 d.2.1
noncomputable def p21 : Prim := ⟨[.v (.str (.pair (.str zTb) (.list false 48 (.str (.pair (.int .i64) zTa))))), .v (.int .i64)], [.v (.int .i64)], g21⟩
noncomputable def c21 : Cfg := ⟨28, tyT, [], [(38, p38)], [(3, l21_3)], [], [], [], [], [], [], [], [], [], none⟩
theorem F21_eq (n : Nat) (d) : absFn c21 n Try.f21 (body Try.f21) [.v (.str (.pair (.str zTb) (.list false 48 (.str (.pair (.int .i64) zTa))))), .v (.int .i64)] [.v (.int .i64)] d = F21 n d.1 d.2.1 := by kernel_rfl
theorem L21_3_eq (n : Nat) (d) : (l21_3).g (n + 1) d = run c21 n (nth 0 (loopsOf (body Try.f21))) ((l21_3).ins.fill d) (roundK (l21_3) n) := by kernel_rfl
theorem ls21 : loopsOf (body Try.f21) = [nth 0 (loopsOf (body Try.f21))] := by kernel_rfl
theorem d21 : drawOK c21 (body Try.f21) = true := by kernel_rfl
theorem h21 : GoodF Try.prog 21 p21 := fn_done mixed (cfg := c21) (cfg_ok tyT_ok (goodCons h38 goodNil) rfl (by kernel_rfl)) Try.func21 rfl rfl (by kernel_rfl) rfl (by rw [ls21]; simp only [List.forall_mem_cons]; exact ⟨loopHas (key := 3) (li := l21_3) (by kernel_rfl) rfl (fun _ => rfl) (L21_3_eq), fun _ h => by cases h⟩) d21 (fun d y h => ⟨fuel, (F21_eq fuel d).trans h⟩)
-- function 22
noncomputable def Q22_2 (_n : Nat) (L : (Int × Int × Unit) → Option (X × (Int × Unit))) (t_8 : zTf) (ride_3 : Int) (t_4 : Int) : Option (X × (Int × Unit)) :=
  cond (t_8.2.1 == 5) (cond (t_8.2.2.1 == ride_3) (some (.ret, (t_8.2.2.2.1, ()))) (L (ride_3, t_4, ()))) (L (ride_3, t_4, ()))
noncomputable def R22_2 (n : Nat) : List zTf → (Int × Int × Unit) → Option (X × (Int × Unit))
  | [], d => some (.norm, (d.2.1, ()))
  | x :: r, d => Q22_2 n (R22_2 n r) x d.1 d.2.1
noncomputable def r22_2 : RLoopI := ⟨.str (.pair (.int .i64) zTa), [3, 4], [.r (.int .i64), .m (.int .i64)], [.norm, .ret], R22_2⟩
noncomputable def F22 (n : Nat) (l_0 : (zTe × (List zTf))) (ride_1 : Int) : Option ((Int × Unit) × (Unit)) :=
  derefK (Ib.m39.p.g (l_0, ())) fun y1 => derefK y1.1.1 fun q2 => derefK (Ib.it61.g (q2, ())) fun l4 => derefK (R22_2 n l4 (ride_1, (0 : Int), ())) fun o3 => cond (X.same .norm o3.1) (getI l_0.1.2.2 ride_1 fun e5 => some ((e5, ()), ())) (cond (X.same .ret o3.1) (some ((o3.2.1, ()), ())) (none))
noncomputable def g22 (d : (zTe × (List zTf)) × Int × Unit) : Option ((Int × Unit) × (Unit)) := F22 fuel d.1 d.2.1
noncomputable def p22 : Prim := ⟨[.v (.str (.pair (.str zTb) (.list false 48 (.str (.pair (.int .i64) zTa))))), .v (.int .i64)], [.v (.int .i64)], g22⟩
noncomputable def c22 : Cfg := ⟨26, tyT, [], [], [], [], [], [(61, Ib.it61)], [(2, r22_2)], [(39, Ib.m39)], [], [], [], [], none⟩
theorem F22_eq (n : Nat) (d) : absFn c22 n Try.f22 (body Try.f22) [.v (.str (.pair (.str zTb) (.list false 48 (.str (.pair (.int .i64) zTa))))), .v (.int .i64)] [.v (.int .i64)] d = F22 n d.1 d.2.1 := by kernel_rfl
theorem R22_2_eq (n : Nat) (x r d) : (r22_2).g n (x :: r) d = run c22 n (asR (nth 0 (rangesOf (body Try.f22)))) (innerSt r22_2 8 d x) (thenK (bodyK c22 r22_2 n (bdR (nth 0 (rangesOf (body Try.f22)))) r d) failK) := by kernel_rfl
theorem rs22 : rangesOf (body Try.f22) = [nth 0 (rangesOf (body Try.f22))] := by kernel_rfl
theorem d22 : drawD c22 (body Try.f22) = true := by kernel_rfl
theorem h22 : GoodF Try.prog 22 p22 := fn_doneR mixed (cfg := c22) (cfg_ok tyT_ok (goodNil) rfl (by kernel_rfl) (mk_ok (mkCons Ib.k39 mkNil))) (itCons Ib.it61_ok itNil) Try.func22 rfl rfl (by kernel_rfl) rfl (noLoops (by kernel_rfl)) (by rw [rs22]; simp only [List.forall_mem_cons]; exact ⟨rangeHas (key := 2) (li := r22_2) (p := 8) (by kernel_rfl) rfl (by kernel_rfl) (by kernel_rfl) (noLoops (by kernel_rfl)) (fun _ _ => rfl) R22_2_eq, fun _ h => by cases h⟩) d22 (fun d y h => ⟨fuel, (F22_eq fuel d).trans h⟩)
-- function 40
noncomputable def B40_2 (_n : Nat) (L : ((List zTf) × Int × Int × Unit) × ((zTe × (List zTf)) × (List Int) × Unit) × Unit → Option (((Unit) × ((List Int) × Unit) × Unit))) (t_6 : List zTf) (t_7 : Int) (t_8 : Int) (o_1 : zTe × (List zTf)) (o_2 : List Int) : Option (((Unit) × ((List Int) × Unit) × Unit)) :=
  cond (decide (t_8 < t_7)) (getI t_6 t_8 fun e1 => cond (e1.2.1 == 2) (derefK (g63 (o_1, t_8, ())) fun y2 => cond (!y2.1.1) (lenK ((o_2.length : Int) + [t_8].length) (L ((t_6, t_7, (IntKind.wrap .i64 (t_8 + 1)), ()), (o_1, (o_2 ++ [t_8]), ()), ()))) (L ((t_6, t_7, (IntKind.wrap .i64 (t_8 + 1)), ()), (o_1, o_2, ()), ()))) (L ((t_6, t_7, (IntKind.wrap .i64 (t_8 + 1)), ()), (o_1, o_2, ()), ()))) (some ((), (o_2, ()), ()))
noncomputable def L40_2 : Nat → ((List zTf) × Int × Int × Unit) × ((zTe × (List zTf)) × (List Int) × Unit) × Unit → Option (((Unit) × ((List Int) × Unit) × Unit))
  | 0, _ => none
  | n + 1, d => B40_2 n (L40_2 n) d.1.1 d.1.2.1 d.1.2.2.1 d.2.1.1 d.2.1.2.1
noncomputable def l40_2 : LoopI := ⟨⟨[(1, .c (.ptr 1 [])), (2, .c (.view 2 [])), (6, .v (.list false 48 (.str (.pair (.int .i64) zTa)))), (7, .v (.int .i64)), (8, .v (.int .i64))], [(1, false, .str (.pair (.str zTb) (.list false 48 (.str (.pair (.int .i64) zTa))))), (2, true, .list true 3 (.int .i64))], none⟩, [(.exit 0, ⟨[(2, .c (.view 2 []))], [(2, true, .list true 3 (.int .i64))], none⟩)], L40_2⟩
noncomputable def F40 (n : Nat) (l_0 : (zTe × (List zTf))) : Option (((List Int) × Unit) × (Unit)) :=
  derefK (L40_2 n ((l_0.2, (l_0.2.length : Int), 0, ()), (l_0, ([] : List Int), ()), ())) fun o3 => some ((o3.2.1.1, ()), ())
noncomputable def g40 (d : (zTe × (List zTf)) × Unit) : Option (((List Int) × Unit) × (Unit)) := F40 fuel d.1
noncomputable def p40 : Prim := ⟨[.v (.str (.pair (.str zTb) (.list false 48 (.str (.pair (.int .i64) zTa)))))], [.own 3 (.int .i64)], g40⟩
noncomputable def c40 : Cfg := ⟨28, tyT, [], [(63, p63)], [(2, l40_2)], [], [], [], [], [], [], [], [], [], none⟩
theorem F40_eq (n : Nat) (d) : absFn c40 n Try.f40 (body Try.f40) [.v (.str (.pair (.str zTb) (.list false 48 (.str (.pair (.int .i64) zTa)))))] [.own 3 (.int .i64)] d = F40 n d.1 := by kernel_rfl
theorem L40_2_eq (n : Nat) (d) : (l40_2).g (n + 1) d = run c40 n (nth 0 (loopsOf (body Try.f40))) ((l40_2).ins.fill d) (roundK (l40_2) n) := by kernel_rfl
theorem ls40 : loopsOf (body Try.f40) = [nth 0 (loopsOf (body Try.f40))] := by kernel_rfl
theorem d40 : drawOK c40 (body Try.f40) = true := by kernel_rfl
theorem h40 : GoodF Try.prog 40 p40 := fn_done mixed (cfg := c40) (cfg_ok tyT_ok (goodCons h63 goodNil) rfl (by kernel_rfl)) Try.func40 rfl rfl (by kernel_rfl) rfl (by rw [ls40]; simp only [List.forall_mem_cons]; exact ⟨loopHas (key := 2) (li := l40_2) (by kernel_rfl) rfl (fun _ => rfl) (L40_2_eq), fun _ h => by cases h⟩) d40 (fun d y h => ⟨fuel, (F40_eq fuel d).trans h⟩)
-- function 23
noncomputable def B23_3 (_n : Nat) (L : (Int × Int × Int × Unit) × ((zTe × (List zTf)) × (List Int) × (List Int) × Unit) × Unit → Option (((Unit) × ((List Int) × Unit) × Unit))) (ride_1 : Int) (t_11 : Int) (t_12 : Int) (o_2 : zTe × (List zTf)) (o_5 : List Int) (o_11000 : List Int) : Option (((Unit) × ((List Int) × Unit) × Unit)) :=
  cond (decide (t_12 < t_11)) (inR t_12 o_11000.length (getI o_11000 t_12 fun e2 => getI o_2.2 e2 fun e3 => cond (e3.2.2.1 == ride_1) (inR e3.2.2.2.1 4 (getI o_5 e3.2.2.2.1 fun e4 => inR e3.2.2.2.1 4 (getI o_5 e3.2.2.2.1 fun _ => L ((ride_1, t_11, (IntKind.wrap .i64 (t_12 + 1)), ()), (o_2, (o_5.set e3.2.2.2.1.toNat (IntKind.wrap .i64 (e4 + 1))), o_11000, ()), ())))) (L ((ride_1, t_11, (IntKind.wrap .i64 (t_12 + 1)), ()), (o_2, o_5, o_11000, ()), ())))) (some ((), (o_5, ()), ()))
noncomputable def L23_3 : Nat → (Int × Int × Int × Unit) × ((zTe × (List zTf)) × (List Int) × (List Int) × Unit) × Unit → Option (((Unit) × ((List Int) × Unit) × Unit))
  | 0, _ => none
  | n + 1, d => B23_3 n (L23_3 n) d.1.1 d.1.2.1 d.1.2.2.1 d.2.1.1 d.2.1.2.1 d.2.1.2.2.1
noncomputable def l23_3 : LoopI := ⟨⟨[(1, .v (.int .i64)), (2, .c (.ptr 2 [])), (5, .c (.ptr 5 [])), (10, .c (.view 11000 [])), (11, .v (.int .i64)), (12, .v (.int .i64))], [(2, false, .str (.pair (.str zTb) (.list false 48 (.str (.pair (.int .i64) zTa))))), (5, false, .arr 4 (.int .i64)), (11000, true, .list true 3 (.int .i64))], none⟩, [(.exit 0, ⟨[(5, .c (.ptr 5 []))], [(5, false, .arr 4 (.int .i64))], none⟩)], L23_3⟩
noncomputable def F23 (n : Nat) (l_0 : (zTe × (List zTf))) (ride_1 : Int) : Option ((Bool × Unit) × (Unit)) :=
  derefK (g40 (l_0, ())) fun y1 => derefK (L23_3 n ((ride_1, (y1.1.1.length : Int), 0, ()), (l_0, (List.replicate 4 (0 : Int)), y1.1.1, ()), ())) fun o6 => inR 3 4 (getI o6.2.1.1 3 fun e7 => cond (e7 == 0) (inR 2 4 (getI o6.2.1.1 2 fun e8 => some (((decide (e8 ≤ 1)), ()), ()))) (some ((false, ()), ())))
noncomputable def g23 (d : (zTe × (List zTf)) × Int × Unit) : Option ((Bool × Unit) × (Unit)) := F23 fuel d.1 d.2.1
noncomputable def p23 : Prim := ⟨[.v (.str (.pair (.str zTb) (.list false 48 (.str (.pair (.int .i64) zTa))))), .v (.int .i64)], [.v .bool], g23⟩
noncomputable def c23 : Cfg := ⟨40, tyT, [], [(40, p40)], [(3, l23_3)], [], [], [], [], [], [], [], [], [], none⟩
theorem F23_eq (n : Nat) (d) : absFn c23 n Try.f23 (body Try.f23) [.v (.str (.pair (.str zTb) (.list false 48 (.str (.pair (.int .i64) zTa))))), .v (.int .i64)] [.v .bool] d = F23 n d.1 d.2.1 := by kernel_rfl
theorem L23_3_eq (n : Nat) (d) : (l23_3).g (n + 1) d = run c23 n (nth 0 (loopsOf (body Try.f23))) ((l23_3).ins.fill d) (roundK (l23_3) n) := by kernel_rfl
theorem ls23 : loopsOf (body Try.f23) = [nth 0 (loopsOf (body Try.f23))] := by kernel_rfl
theorem d23 : drawOK c23 (body Try.f23) = true := by kernel_rfl
theorem h23 : GoodF Try.prog 23 p23 := fn_done mixed (cfg := c23) (cfg_ok tyT_ok (goodCons h40 goodNil) rfl (by kernel_rfl)) Try.func23 rfl rfl (by kernel_rfl) rfl (by rw [ls23]; simp only [List.forall_mem_cons]; exact ⟨loopHas (key := 3) (li := l23_3) (by kernel_rfl) rfl (fun _ => rfl) (L23_3_eq), fun _ h => by cases h⟩) d23 (fun d y h => ⟨fuel, (F23_eq fuel d).trans h⟩)
end Go.Proofs.Try.V
