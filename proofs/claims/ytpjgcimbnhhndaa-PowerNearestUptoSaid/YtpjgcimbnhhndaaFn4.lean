/- The contracts of functions of the program, printed by program from the interpreter: each says what a call returns. No condition beyond those typed in each theorem. -/
import Derived.Test.YtpjgcimbnhhndaaFn3
namespace Go.Proofs.Try.V
open Go.Vi
set_option maxRecDepth 100000
-- function 74
noncomputable def F74 (_n : Nat) (b_0 : Int) (t_1 : zTb) : Option ((Bool × Unit) × (Unit)) :=
  getI t_1.1 b_0 fun e1 => cond (decide (e1.1 ≥ 0)) (getI t_1.1 e1.1 fun e2 => getI t_1.1 b_0 fun e3 => some (((decide (e3.2.2.1 ≥ e2.2.2.1)), ()), ())) (getI t_1.1 b_0 fun e4 => some (((decide (e4.2.2.1 ≥ t_1.2.2.2.1)), ()), ()))
noncomputable def g74 (d : Int × zTb × Unit) : Option ((Bool × Unit) × (Unit)) := F74 fuel d.1 d.2.1
noncomputable def p74 : Prim := ⟨[.v (.int .i64), .r (.str zTa)], [.v .bool], g74⟩
noncomputable def c74 : Cfg := ⟨30, tyT, [], [], [], [], [], [], [], [], []⟩
theorem F74_eq (n : Nat) (d) : absFn c74 n Try.f74 (body Try.f74) [.v (.int .i64), .r (.str zTa)] [.v .bool] d = F74 n d.1 d.2.1 := by kernel_rfl
theorem d74 : drawOK c74 (body Try.f74) = true := by kernel_rfl
theorem h74 : GoodF Try.prog 74 p74 := fn_done mixed (cfg := c74) (cfg_ok tyT_ok (goodNil) rfl (by kernel_rfl)) Try.func74 rfl rfl (by kernel_rfl) rfl (noLoops (by kernel_rfl)) d74 (fun d y h => ⟨fuel, (F74_eq fuel d).trans h⟩)
-- function 44
noncomputable def F44 (_n : Nat) (s_0 : zTb) : Option (((List Int) × Int × Unit) × (Unit)) :=
  derefK (g27 (s_0, ())) fun y1 => cond (y1.1.1 != 0) (some ((([] : List Int), y1.1.1, ()), ())) (derefK (g73 (s_0, (fun v2 => derefK (g74 (v2, s_0, ())) fun y3 => some y3.1.1), ())) fun y4 => some ((y4.1.1, 0, ()), ()))
noncomputable def g44 (d : zTb × Unit) : Option (((List Int) × Int × Unit) × (Unit)) := F44 fuel d.1
noncomputable def p44 : Prim := ⟨[.v (.str zTa)], [.own 3 (.int .i64), .v (.int .i64)], g44⟩
noncomputable def c44 : Cfg := ⟨13, tyT, [], [(27, p27), (73, p73), (74, p74)], [], [], [], [], [], [], []⟩
theorem F44_eq (n : Nat) (d) : absFn c44 n Try.f44 (body Try.f44) [.v (.str zTa)] [.own 3 (.int .i64), .v (.int .i64)] d = F44 n d.1 := by kernel_rfl
theorem d44 : drawOK c44 (body Try.f44) = true := by kernel_rfl
theorem h44 : GoodF Try.prog 44 p44 := fn_done mixed (cfg := c44) (cfg_ok tyT_ok (goodCons h27 (goodCons h73 (goodCons h74 goodNil))) rfl (by kernel_rfl)) Try.func44 rfl rfl (by kernel_rfl) rfl (noLoops (by kernel_rfl)) d44 (fun d y h => ⟨fuel, (F44_eq fuel d).trans h⟩)
-- function 75
noncomputable def F75 (_n : Nat) (s_0 : zTb) (board_1 : Int) : Option ((Int × Unit) × (Unit)) :=
  cond (decide (board_1 < 0)) (some ((s_0.2.2.2.1, ()), ())) (getI s_0.1 board_1 fun e1 => some ((e1.2.2.1, ()), ()))
noncomputable def g75 (d : zTb × Int × Unit) : Option ((Int × Unit) × (Unit)) := F75 fuel d.1 d.2.1
noncomputable def p75 : Prim := ⟨[.v (.str zTa), .v (.int .i64)], [.v (.int .i64)], g75⟩
noncomputable def c75 : Cfg := ⟨15, tyT, [], [], [], [], [], [], [], [], []⟩
theorem F75_eq (n : Nat) (d) : absFn c75 n Try.f75 (body Try.f75) [.v (.str zTa), .v (.int .i64)] [.v (.int .i64)] d = F75 n d.1 d.2.1 := by kernel_rfl
theorem d75 : drawOK c75 (body Try.f75) = true := by kernel_rfl
theorem h75 : GoodF Try.prog 75 p75 := fn_done mixed (cfg := c75) (cfg_ok tyT_ok (goodNil) rfl (by kernel_rfl)) Try.func75 rfl rfl (by kernel_rfl) rfl (noLoops (by kernel_rfl)) d75 (fun d y h => ⟨fuel, (F75_eq fuel d).trans h⟩)
-- function 45
noncomputable def B45_6 (_n : Nat) (L : (Int × Unit) × (zTb × (List Int) × Unit) × Unit → Option (((Unit) × ((List Int) × Unit) × Unit))) (b_6 : Int) (o_1 : zTd × (zTd × (Int × (Int × Int)))) (o_5 : List Int) : Option (((Unit) × ((List Int) × Unit) × Unit)) :=
  cond (decide (b_6 < (o_1.1.length : Int))) (getI o_1.1 b_6 fun e2 => getI o_1.1 b_6 fun e3 => derefK (g75 (o_1, e3.1, ())) fun y4 => cond (decide (e2.2.2.1 ≥ y4.1.1)) (lenK ((o_5.length : Int) + [b_6].length) (L (((IntKind.wrap .i64 (b_6 + 1)), ()), (o_1, (o_5 ++ [b_6]), ()), ()))) (L (((IntKind.wrap .i64 (b_6 + 1)), ()), (o_1, o_5, ()), ()))) (some ((), (o_5, ()), ()))
noncomputable def L45_6 : Nat → (Int × Unit) × (zTb × (List Int) × Unit) × Unit → Option (((Unit) × ((List Int) × Unit) × Unit))
  | 0, _ => none
  | n + 1, d => B45_6 n (L45_6 n) d.1.1 d.2.1.1 d.2.1.2.1
noncomputable def l45_6 : LoopI := ⟨⟨[(1, .c (.ptr 1 [])), (5, .c (.view 5 [])), (6, .v (.int .i64))], [(1, false, .str zTa), (5, true, .list true 3 (.int .i64))], none⟩, [(.exit 0, ⟨[(5, .c (.view 5 []))], [(5, true, .list true 3 (.int .i64))], none⟩)], L45_6⟩
noncomputable def F45 (n : Nat) (s_0 : zTb) : Option (((List Int) × Int × Unit) × (Unit)) :=
  derefK (g28 (s_0, ())) fun y1 => cond (y1.1.1 != 0) (some ((([] : List Int), y1.1.1, ()), ())) (derefK (L45_6 n ((0, ()), (s_0, ([] : List Int), ()), ())) fun o5 => some ((o5.2.1.1, 0, ()), ()))
noncomputable def g45 (d : zTb × Unit) : Option (((List Int) × Int × Unit) × (Unit)) := F45 fuel d.1
noncomputable def p45 : Prim := ⟨[.v (.str zTa)], [.own 3 (.int .i64), .v (.int .i64)], g45⟩
noncomputable def c45 : Cfg := ⟨39, tyT, [], [(28, p28), (75, p75)], [(6, l45_6)], [], [], [], [], [], []⟩
theorem F45_eq (n : Nat) (d) : absFn c45 n Try.f45 (body Try.f45) [.v (.str zTa)] [.own 3 (.int .i64), .v (.int .i64)] d = F45 n d.1 := by kernel_rfl
theorem L45_6_eq (n : Nat) (d) : (l45_6).g (n + 1) d = run c45 n (nth 0 (loopsOf (body Try.f45))) ((l45_6).ins.fill d) (roundK (l45_6) n) := by kernel_rfl
theorem ls45 : loopsOf (body Try.f45) = [nth 0 (loopsOf (body Try.f45))] := by kernel_rfl
theorem d45 : drawOK c45 (body Try.f45) = true := by kernel_rfl
theorem h45 : GoodF Try.prog 45 p45 := fn_done mixed (cfg := c45) (cfg_ok tyT_ok (goodCons h28 (goodCons h75 goodNil)) rfl (by kernel_rfl)) Try.func45 rfl rfl (by kernel_rfl) rfl (by rw [ls45]; simp only [List.forall_mem_cons]; exact ⟨loopHas (key := 6) (li := l45_6) (by kernel_rfl) rfl (fun _ => rfl) (L45_6_eq), fun _ h => by cases h⟩) d45 (fun d y h => ⟨fuel, (F45_eq fuel d).trans h⟩)
-- function 76
noncomputable def Q76_3 (_n : Nat) (L : (zTb × Int × Unit) → Option (X × (Int × Unit))) (t_9 : Int) (t_1 : zTb) (loop_4 : Int) : Option (X × (Int × Unit)) :=
  cond (t_9 != (-1)) (enumK (fun (e2 : Int × (Int × (Int × Int))) => L (t_1, (IntKind.wrap .i64 (loop_4 + e2.2.2.2)), ())) fun E => agreeK [getI t_1.1 t_9 fun e2 => E e2, getI t_1.1 t_9 fun e3 => E e3]) (L (t_1, loop_4, ()))
noncomputable def R76_3 (n : Nat) : List Int → (zTb × Int × Unit) → Option (X × (Int × Unit))
  | [], d => some (.norm, (d.2.1, ()))
  | x :: r, d => Q76_3 n (R76_3 n r) x d.1 d.2.1
noncomputable def r76_3 : RLoopI := ⟨.int .i64, [1, 4], [.r (.str zTa), .m (.int .i64)], [.norm], R76_3⟩
noncomputable def F76 (n : Nat) (board_0 : Int) (t_1 : zTb) : Option ((Bool × Unit) × (Unit)) :=
  derefK (It.m65.p.g (t_1, board_0, ())) fun y1 => derefK y1.1.2.1 fun q4 => derefK (It.it95.g (y1.1.1, q4, ())) fun l6 => derefK (R76_3 n l6 (t_1, 0, ())) fun o5 => cond (X.same .norm o5.1) (nzK o5.2.1 (getI t_1.1 board_0 fun e7 => bindV (decide ((IntKind.wrap .i64 (Int.tdiv (IntKind.wrap .i64 (t_1.2.2.2.2 * 1000)) o5.2.1)) < (IntKind.wrap .i64 (5 * e7.2.1)))) fun z8 => some ((z8, ()), ()))) (none)
noncomputable def g76 (d : Int × zTb × Unit) : Option ((Bool × Unit) × (Unit)) := F76 fuel d.1 d.2.1
noncomputable def p76 : Prim := ⟨[.v (.int .i64), .r (.str zTa)], [.v .bool], g76⟩
noncomputable def c76 : Cfg := ⟨33, tyT, [], [], [], [], [5], [(95, It.it95)], [(3, r76_3)], [(65, It.m65)], []⟩
theorem F76_eq (n : Nat) (d) : absFn c76 n Try.f76 (body Try.f76) [.v (.int .i64), .r (.str zTa)] [.v .bool] d = F76 n d.1 d.2.1 := by kernel_rfl
theorem R76_3_eq (n : Nat) (x r d) : (r76_3).g n (x :: r) d = run c76 n (asR (nth 0 (rangesOf (body Try.f76)))) (innerSt r76_3 9 d x) (thenK (bodyK c76 r76_3 n (bdR (nth 0 (rangesOf (body Try.f76)))) r d) failK) := by kernel_rfl
theorem rs76 : rangesOf (body Try.f76) = [nth 0 (rangesOf (body Try.f76))] := by kernel_rfl
theorem d76 : drawD c76 (body Try.f76) = true := by kernel_rfl
theorem h76 : GoodF Try.prog 76 p76 := fn_doneR mixed (cfg := c76) (cfg_ok tyT_ok (goodNil) rfl (by kernel_rfl) (mk_ok (mkCons It.k65 mkNil))) (itCons It.it95_ok itNil) Try.func76 rfl rfl (by kernel_rfl) rfl (noLoops (by kernel_rfl)) (by rw [rs76]; simp only [List.forall_mem_cons]; exact ⟨rangeHas (key := 3) (li := r76_3) (p := 9) (by kernel_rfl) rfl (by kernel_rfl) (by kernel_rfl) (noLoops (by kernel_rfl)) (fun _ _ => rfl) R76_3_eq, fun _ h => by cases h⟩) d76 (fun d y h => ⟨fuel, (F76_eq fuel d).trans h⟩)
-- function 46
noncomputable def F46 (_n : Nat) (s_0 : zTb) : Option (((List Int) × Int × Unit) × (Unit)) :=
  derefK (g27 (s_0, ())) fun y1 => cond (y1.1.1 != 0) (some ((([] : List Int), y1.1.1, ()), ())) (derefK (g73 (s_0, (fun v2 => derefK (g76 (v2, s_0, ())) fun y3 => some y3.1.1), ())) fun y4 => some ((y4.1.1, 0, ()), ()))
noncomputable def g46 (d : zTb × Unit) : Option (((List Int) × Int × Unit) × (Unit)) := F46 fuel d.1
noncomputable def p46 : Prim := ⟨[.v (.str zTa)], [.own 3 (.int .i64), .v (.int .i64)], g46⟩
noncomputable def c46 : Cfg := ⟨13, tyT, [], [(27, p27), (73, p73), (76, p76)], [], [], [], [], [], [], []⟩
theorem F46_eq (n : Nat) (d) : absFn c46 n Try.f46 (body Try.f46) [.v (.str zTa)] [.own 3 (.int .i64), .v (.int .i64)] d = F46 n d.1 := by kernel_rfl
theorem d46 : drawOK c46 (body Try.f46) = true := by kernel_rfl
theorem h46 : GoodF Try.prog 46 p46 := fn_done mixed (cfg := c46) (cfg_ok tyT_ok (goodCons h27 (goodCons h73 (goodCons h76 goodNil))) rfl (by kernel_rfl)) Try.func46 rfl rfl (by kernel_rfl) rfl (noLoops (by kernel_rfl)) d46 (fun d y h => ⟨fuel, (F46_eq fuel d).trans h⟩)
-- function 47
noncomputable def B47_10 (_n : Nat) (L : (Int × Int × Int × Unit) × (zTb × (List Int) × Unit) × Unit → Option (((Int × Int × Unit) × (zTb × (List Int) × Unit) × Unit))) (b_6 : Int) (loop_7 : Int) (k_8 : Int) (o_1 : zTd × (zTd × (Int × (Int × Int)))) (o_5 : List Int) : Option (((Int × Int × Unit) × (zTb × (List Int) × Unit) × Unit)) :=
  cond (decide (k_8 ≥ 0)) (getI o_1.1 k_8 fun e2 => getI o_1.1 k_8 fun e3 => L ((b_6, (IntKind.wrap .i64 (loop_7 + e2.2.2.2)), e3.1, ()), (o_1, o_5, ()), ())) (some ((b_6, loop_7, ()), (o_1, o_5, ()), ()))
noncomputable def L47_10 : Nat → (Int × Int × Int × Unit) × (zTb × (List Int) × Unit) × Unit → Option (((Int × Int × Unit) × (zTb × (List Int) × Unit) × Unit))
  | 0, _ => none
  | n + 1, d => B47_10 n (L47_10 n) d.1.1 d.1.2.1 d.1.2.2.1 d.2.1.1 d.2.1.2.1
noncomputable def l47_10 : LoopI := ⟨⟨[(1, .c (.ptr 1 [])), (5, .c (.view 5 [])), (6, .v (.int .i64)), (7, .v (.int .i64)), (8, .v (.int .i64))], [(1, false, .str zTa), (5, true, .list true 3 (.int .i64))], none⟩, [(.exit 2, ⟨[(1, .c (.ptr 1 [])), (5, .c (.view 5 [])), (6, .v (.int .i64)), (7, .v (.int .i64))], [(1, false, .str zTa), (5, true, .list true 3 (.int .i64))], none⟩)], L47_10⟩
noncomputable def B47_6 (n : Nat) (L : (Int × Unit) × (zTb × (List Int) × Unit) × Unit → Option (((Unit) × ((List Int) × Unit) × Unit))) (b_6 : Int) (o_1 : zTd × (zTd × (Int × (Int × Int)))) (o_5 : List Int) : Option (((Unit) × ((List Int) × Unit) × Unit)) :=
  cond (decide (b_6 < (o_1.1.length : Int))) (derefK (L47_10 n ((b_6, 0, b_6, ()), (o_1, o_5, ()), ())) fun o4 => nzK o4.1.2.1 (getI o4.2.1.1.1 o4.1.1 fun e5 => cond (decide ((IntKind.wrap .i64 (Int.tdiv (IntKind.wrap .i64 (o4.2.1.1.2.2.2.2 * 1000)) o4.1.2.1)) < (IntKind.wrap .i64 (5 * e5.2.1)))) (lenK ((o4.2.1.2.1.length : Int) + [o4.1.1].length) (L (((IntKind.wrap .i64 (o4.1.1 + 1)), ()), (o4.2.1.1, (o4.2.1.2.1 ++ [o4.1.1]), ()), ()))) (L (((IntKind.wrap .i64 (o4.1.1 + 1)), ()), (o4.2.1.1, o4.2.1.2.1, ()), ())))) (some ((), (o_5, ()), ()))
noncomputable def L47_6 : Nat → (Int × Unit) × (zTb × (List Int) × Unit) × Unit → Option (((Unit) × ((List Int) × Unit) × Unit))
  | 0, _ => none
  | n + 1, d => B47_6 n (L47_6 n) d.1.1 d.2.1.1 d.2.1.2.1
noncomputable def l47_6 : LoopI := ⟨⟨[(1, .c (.ptr 1 [])), (5, .c (.view 5 [])), (6, .v (.int .i64))], [(1, false, .str zTa), (5, true, .list true 3 (.int .i64))], none⟩, [(.exit 0, ⟨[(5, .c (.view 5 []))], [(5, true, .list true 3 (.int .i64))], none⟩)], L47_6⟩
noncomputable def F47 (n : Nat) (s_0 : zTb) : Option (((List Int) × Int × Unit) × (Unit)) :=
  derefK (g28 (s_0, ())) fun y1 => cond (y1.1.1 != 0) (some ((([] : List Int), y1.1.1, ()), ())) (derefK (L47_6 n ((0, ()), (s_0, ([] : List Int), ()), ())) fun o6 => some ((o6.2.1.1, 0, ()), ()))
noncomputable def g47 (d : zTb × Unit) : Option (((List Int) × Int × Unit) × (Unit)) := F47 fuel d.1
noncomputable def p47 : Prim := ⟨[.v (.str zTa)], [.own 3 (.int .i64), .v (.int .i64)], g47⟩
noncomputable def c47 : Cfg := ⟨56, tyT, [], [(28, p28)], [(10, l47_10), (6, l47_6)], [], [], [], [], [], []⟩
theorem F47_eq (n : Nat) (d) : absFn c47 n Try.f47 (body Try.f47) [.v (.str zTa)] [.own 3 (.int .i64), .v (.int .i64)] d = F47 n d.1 := by kernel_rfl
theorem L47_6_eq (n : Nat) (d) : (l47_6).g (n + 1) d = run c47 n (nth 0 (loopsOf (body Try.f47))) ((l47_6).ins.fill d) (roundK (l47_6) n) := by kernel_rfl
theorem L47_10_eq (n : Nat) (d) : (l47_10).g (n + 1) d = run c47 n (nth 1 (loopsOf (body Try.f47))) ((l47_10).ins.fill d) (roundK (l47_10) n) := by kernel_rfl
theorem ls47 : loopsOf (body Try.f47) = [nth 0 (loopsOf (body Try.f47)), nth 1 (loopsOf (body Try.f47))] := by kernel_rfl
theorem d47 : drawOK c47 (body Try.f47) = true := by kernel_rfl
theorem h47 : GoodF Try.prog 47 p47 := fn_done mixed (cfg := c47) (cfg_ok tyT_ok (goodCons h28 goodNil) rfl (by kernel_rfl)) Try.func47 rfl rfl (by kernel_rfl) rfl (by rw [ls47]; simp only [List.forall_mem_cons]; exact ⟨loopHas (key := 6) (li := l47_6) (by kernel_rfl) rfl (fun _ => rfl) (L47_6_eq), loopHas (key := 10) (li := l47_10) (by kernel_rfl) rfl (fun _ => rfl) (L47_10_eq), fun _ h => by cases h⟩) d47 (fun d y h => ⟨fuel, (F47_eq fuel d).trans h⟩)
-- function 14
noncomputable def F14 (_n : Nat) (s_0 : zTb) : Option ((Bool × Unit) × (Unit)) :=
  derefK (g44 (s_0, ())) fun y1 => derefK (g45 (s_0, ())) fun y2 => cond (y1.1.2.1 != y2.1.2.1) (some ((false, ()), ())) (derefK (g30 (y1.1.1, y2.1.1, ())) fun y3 => cond (!y3.1.1) (some ((false, ()), ())) (derefK (g46 (s_0, ())) fun y4 => derefK (g47 (s_0, ())) fun y5 => cond (y4.1.2.1 == y5.1.2.1) (derefK (g30 (y4.1.1, y5.1.1, ())) fun y6 => cond y6.1.1 (derefK (g18 ()) fun y7 => some ((y7.1.1, ()), ())) (some ((false, ()), ()))) (some ((false, ()), ()))))
noncomputable def g14 (d : zTb × Unit) : Option ((Bool × Unit) × (Unit)) := F14 fuel d.1
noncomputable def p14 : Prim := ⟨[.v (.str zTa)], [.v .bool], g14⟩
noncomputable def c14 : Cfg := ⟨47, tyT, [], [(18, p18), (30, p30), (44, p44), (45, p45), (46, p46), (47, p47)], [], [], [], [], [], [], []⟩
theorem F14_eq (n : Nat) (d) : absFn c14 n Try.f14 (body Try.f14) [.v (.str zTa)] [.v .bool] d = F14 n d.1 := by kernel_rfl
theorem d14 : drawOK c14 (body Try.f14) = true := by kernel_rfl
theorem h14 : GoodF Try.prog 14 p14 := fn_done mixed (cfg := c14) (cfg_ok tyT_ok (goodCons h18 (goodCons h30 (goodCons h44 (goodCons h45 (goodCons h46 (goodCons h47 goodNil)))))) rfl (by kernel_rfl)) Try.func14 rfl rfl (by kernel_rfl) rfl (noLoops (by kernel_rfl)) d14 (fun d y h => ⟨fuel, (F14_eq fuel d).trans h⟩)
-- function 96
noncomputable def B96_2 (_n : Nat) (L : ((List Int) × (Int → Option Bool) × Int × Int × Unit) × (Unit) × Unit → Option (zTh ⊕ ((Unit) × (Unit) × Unit))) (s_0 : List Int) (f_1 : Int → Option Bool) (t_7 : Int) (t_8 : Int) : Option (zTh ⊕ ((Unit) × (Unit) × Unit)) :=
  cond (decide (t_8 < t_7)) (getI s_0 t_8 fun e1 => derefK (f_1 e1) fun y2 => cond y2 (some (.inl ((t_8, ()), (), ()))) (L ((s_0, f_1, t_7, (IntKind.wrap .i64 (t_8 + 1)), ()), (), ()))) (some (.inr ((), (), ())))
noncomputable def L96_2 : Nat → ((List Int) × (Int → Option Bool) × Int × Int × Unit) × (Unit) × Unit → Option (zTh ⊕ ((Unit) × (Unit) × Unit))
  | 0, _ => none
  | n + 1, d => B96_2 n (L96_2 n) d.1.1 d.1.2.1 d.1.2.2.1 d.1.2.2.2.1
noncomputable def l96_2 : LoopI := ⟨⟨[(0, .v (.list false 3 (.int .i64))), (1, .v (.fn (.int .i64) .bool)), (7, .v (.int .i64)), (8, .v (.int .i64))], [], none⟩, [(.ret, ⟨[(4, .v (.int .i64))], [], none⟩), (.exit 0, ⟨[], [], none⟩)], L96_2⟩
noncomputable def F96 (n : Nat) (s_0 : (List Int)) (f_1 : (Int → Option Bool)) : Option ((Int × Unit) × (Unit)) :=
  derefK (L96_2 n ((s_0, f_1, (s_0.length : Int), 0, ()), (), ())) fun o3 => sumK o3 (fun d4 => some ((d4.1.1, ()), ())) (fun _ => some (((-1), ()), ()))
noncomputable def g96 (d : (List Int) × (Int → Option Bool) × Unit) : Option ((Int × Unit) × (Unit)) := F96 fuel d.1 d.2.1
noncomputable def p96 : Prim := ⟨[.v (.list false 3 (.int .i64)), .v (.fn (.int .i64) .bool)], [.v (.int .i64)], g96⟩
noncomputable def c96 : Cfg := ⟨19, tyT, [], [], [(2, l96_2)], [], [], [], [], [], []⟩
theorem F96_eq (n : Nat) (d) : absFn c96 n Try.f96 (body Try.f96) [.v (.list false 3 (.int .i64)), .v (.fn (.int .i64) .bool)] [.v (.int .i64)] d = F96 n d.1 d.2.1 := by kernel_rfl
theorem L96_2_eq (n : Nat) (d) : (l96_2).g (n + 1) d = run c96 n (nth 0 (loopsOf (body Try.f96))) ((l96_2).ins.fill d) (roundK (l96_2) n) := by kernel_rfl
theorem ls96 : loopsOf (body Try.f96) = [nth 0 (loopsOf (body Try.f96))] := by kernel_rfl
theorem d96 : drawOK c96 (body Try.f96) = true := by kernel_rfl
theorem h96 : GoodF Try.prog 96 p96 := fn_done mixed (cfg := c96) (cfg_ok tyT_ok (goodNil) rfl (by kernel_rfl)) Try.func96 rfl rfl (by kernel_rfl) rfl (by rw [ls96]; simp only [List.forall_mem_cons]; exact ⟨loopHas (key := 2) (li := l96_2) (by kernel_rfl) rfl (fun _ => rfl) (L96_2_eq), fun _ h => by cases h⟩) d96 (fun d y h => ⟨fuel, (F96_eq fuel d).trans h⟩)
-- function 67
noncomputable def F67 (_n : Nat) (s_0 : (List Int)) (f_1 : (Int → Option Bool)) : Option ((Bool × Unit) × (Unit)) :=
  derefK (g96 (s_0, f_1, ())) fun y1 => some (((decide (y1.1.1 ≥ 0)), ()), ())
noncomputable def g67 (d : (List Int) × (Int → Option Bool) × Unit) : Option ((Bool × Unit) × (Unit)) := F67 fuel d.1 d.2.1
noncomputable def p67 : Prim := ⟨[.v (.list false 3 (.int .i64)), .v (.fn (.int .i64) .bool)], [.v .bool], g67⟩
noncomputable def c67 : Cfg := ⟨9, tyT, [], [(96, p96)], [], [], [], [], [], [], []⟩
theorem F67_eq (n : Nat) (d) : absFn c67 n Try.f67 (body Try.f67) [.v (.list false 3 (.int .i64)), .v (.fn (.int .i64) .bool)] [.v .bool] d = F67 n d.1 d.2.1 := by kernel_rfl
theorem d67 : drawOK c67 (body Try.f67) = true := by kernel_rfl
theorem h67 : GoodF Try.prog 67 p67 := fn_done mixed (cfg := c67) (cfg_ok tyT_ok (goodCons h96 goodNil) rfl (by kernel_rfl)) Try.func67 rfl rfl (by kernel_rfl) rfl (noLoops (by kernel_rfl)) d67 (fun d y h => ⟨fuel, (F67_eq fuel d).trans h⟩)
-- function 78
noncomputable def F78 (_n : Nat) (n_0 : Int) (t_1 : Int) (t_2 : Int) : Option ((Bool × Unit) × (Unit)) :=
  derefK (g62 (n_0, t_1, t_2, ())) fun y1 => some (((!y1.1.1), ()), ())
noncomputable def g78 (d : Int × Int × Int × Unit) : Option ((Bool × Unit) × (Unit)) := F78 fuel d.1 d.2.1 d.2.2.1
noncomputable def p78 : Prim := ⟨[.v (.int .i64), .r (.int .i64), .r (.int .i64)], [.v .bool], g78⟩
noncomputable def c78 : Cfg := ⟨10, tyT, [], [(62, p62)], [], [], [], [], [], [], []⟩
theorem F78_eq (n : Nat) (d) : absFn c78 n Try.f78 (body Try.f78) [.v (.int .i64), .r (.int .i64), .r (.int .i64)] [.v .bool] d = F78 n d.1 d.2.1 d.2.2.1 := by kernel_rfl
theorem d78 : drawOK c78 (body Try.f78) = true := by kernel_rfl
theorem h78 : GoodF Try.prog 78 p78 := fn_done mixed (cfg := c78) (cfg_ok tyT_ok (goodCons h62 goodNil) rfl (by kernel_rfl)) Try.func78 rfl rfl (by kernel_rfl) rfl (noLoops (by kernel_rfl)) d78 (fun d y h => ⟨fuel, (F78_eq fuel d).trans h⟩)
-- function 79
noncomputable def B79_2 (_n : Nat) (L : (Int × Int × Unit) × ((List Int) × Unit) × Unit → Option (((Unit) × ((List Int) × Unit) × Unit))) (set_0 : Int) (i_3 : Int) (o_2 : List Int) : Option (((Unit) × ((List Int) × Unit) × Unit)) :=
  negK i_3 (cond (decide ((shrI .i64 set_0 i_3) > 0)) (negK i_3 (cond ((bitsI .and .i64 (shrI .i64 set_0 i_3) 1) == 1) (lenK ((o_2.length : Int) + [i_3].length) (L ((set_0, (IntKind.wrap .i64 (i_3 + 1)), ()), ((o_2 ++ [i_3]), ()), ()))) (L ((set_0, (IntKind.wrap .i64 (i_3 + 1)), ()), (o_2, ()), ())))) (some ((), (o_2, ()), ())))
noncomputable def L79_2 : Nat → (Int × Int × Unit) × ((List Int) × Unit) × Unit → Option (((Unit) × ((List Int) × Unit) × Unit))
  | 0, _ => none
  | n + 1, d => B79_2 n (L79_2 n) d.1.1 d.1.2.1 d.2.1.1
noncomputable def l79_2 : LoopI := ⟨⟨[(0, .v (.int .i64)), (2, .c (.view 2 [])), (3, .v (.int .i64))], [(2, true, .list true 3 (.int .i64))], none⟩, [(.exit 0, ⟨[(2, .c (.view 2 []))], [(2, true, .list true 3 (.int .i64))], none⟩)], L79_2⟩
noncomputable def F79 (n : Nat) (set_0 : Int) : Option (((List Int) × Unit) × (Unit)) :=
  derefK (L79_2 n ((set_0, 0, ()), (([] : List Int), ()), ())) fun o1 => some ((o1.2.1.1, ()), ())
noncomputable def g79 (d : Int × Unit) : Option (((List Int) × Unit) × (Unit)) := F79 fuel d.1
noncomputable def p79 : Prim := ⟨[.v (.int .i64)], [.own 3 (.int .i64)], g79⟩
noncomputable def c79 : Cfg := ⟨20, tyT, [], [], [(2, l79_2)], [], [], [], [], [], []⟩
theorem F79_eq (n : Nat) (d) : absFn c79 n Try.f79 (body Try.f79) [.v (.int .i64)] [.own 3 (.int .i64)] d = F79 n d.1 := by kernel_rfl
theorem L79_2_eq (n : Nat) (d) : (l79_2).g (n + 1) d = run c79 n (nth 0 (loopsOf (body Try.f79))) ((l79_2).ins.fill d) (roundK (l79_2) n) := by kernel_rfl
theorem ls79 : loopsOf (body Try.f79) = [nth 0 (loopsOf (body Try.f79))] := by kernel_rfl
theorem d79 : drawOK c79 (body Try.f79) = true := by kernel_rfl
theorem h79 : GoodF Try.prog 79 p79 := fn_done mixed (cfg := c79) (cfg_ok tyT_ok (goodNil) rfl (by kernel_rfl)) Try.func79 rfl rfl (by kernel_rfl) rfl (by rw [ls79]; simp only [List.forall_mem_cons]; exact ⟨loopHas (key := 2) (li := l79_2) (by kernel_rfl) rfl (fun _ => rfl) (L79_2_eq), fun _ h => by cases h⟩) d79 (fun d y h => ⟨fuel, (F79_eq fuel d).trans h⟩)
-- function 102
noncomputable def F102 (_n : Nat) (x_0 : Int) : Option ((Bool × Unit) × (Unit)) :=
  some (((x_0 != x_0), ()), ())
noncomputable def g102 (d : Int × Unit) : Option ((Bool × Unit) × (Unit)) := F102 fuel d.1
noncomputable def p102 : Prim := ⟨[.v (.int .i64)], [.v .bool], g102⟩
noncomputable def c102 : Cfg := ⟨6, tyT, [], [], [], [], [], [], [], [], []⟩
theorem F102_eq (n : Nat) (d) : absFn c102 n Try.f102 (body Try.f102) [.v (.int .i64)] [.v .bool] d = F102 n d.1 := by kernel_rfl
theorem d102 : drawOK c102 (body Try.f102) = true := by kernel_rfl
theorem h102 : GoodF Try.prog 102 p102 := fn_done mixed (cfg := c102) (cfg_ok tyT_ok (goodNil) rfl (by kernel_rfl)) Try.func102 rfl rfl (by kernel_rfl) rfl (noLoops (by kernel_rfl)) d102 (fun d y h => ⟨fuel, (F102_eq fuel d).trans h⟩)
-- function 97
noncomputable def F97 (_n : Nat) (x_0 : Int) (y_1 : Int) : Option ((Int × Unit) × (Unit)) :=
  derefK (g102 (x_0, ())) fun y1 => derefK (g102 (y_1, ())) fun y2 => cond y1.1.1 (cond y2.1.1 (some ((0, ()), ())) (some (((-1), ()), ()))) (cond y2.1.1 (some ((1, ()), ())) (cond (decide (x_0 < y_1)) (some (((-1), ()), ())) (cond (decide (x_0 > y_1)) (some ((1, ()), ())) (some ((0, ()), ())))))
noncomputable def g97 (d : Int × Int × Unit) : Option ((Int × Unit) × (Unit)) := F97 fuel d.1 d.2.1
noncomputable def p97 : Prim := ⟨[.v (.int .i64), .v (.int .i64)], [.v (.int .i64)], g97⟩
noncomputable def c97 : Cfg := ⟨20, tyT, [], [(102, p102)], [], [], [], [], [], [], []⟩
theorem F97_eq (n : Nat) (d) : absFn c97 n Try.f97 (body Try.f97) [.v (.int .i64), .v (.int .i64)] [.v (.int .i64)] d = F97 n d.1 d.2.1 := by kernel_rfl
theorem d97 : drawOK c97 (body Try.f97) = true := by kernel_rfl
theorem h97 : GoodF Try.prog 97 p97 := fn_done mixed (cfg := c97) (cfg_ok tyT_ok (goodCons h102 goodNil) rfl (by kernel_rfl)) Try.func97 rfl rfl (by kernel_rfl) rfl (noLoops (by kernel_rfl)) d97 (fun d y h => ⟨fuel, (F97_eq fuel d).trans h⟩)
-- function 80
noncomputable def B80_2 (_n : Nat) (L : ((List Int) × (List Int) × (List Int) × Int × Int × Unit) × (Unit) × Unit → Option (zTh ⊕ (((List Int) × (List Int) × Unit) × (Unit) × Unit))) (s1_0 : List Int) (s2_1 : List Int) (t_9 : List Int) (t_10 : Int) (t_11 : Int) : Option (zTh ⊕ (((List Int) × (List Int) × Unit) × (Unit) × Unit)) :=
  cond (decide (t_11 < t_10)) (getI t_9 t_11 fun e1 => cond (decide (t_11 ≥ (s2_1.length : Int))) (some (.inl ((1, ()), (), ()))) (getI s2_1 t_11 fun e2 => derefK (g97 (e1, e2, ())) fun y3 => cond (y3.1.1 != 0) (some (.inl ((y3.1.1, ()), (), ()))) (L ((s1_0, s2_1, t_9, t_10, (IntKind.wrap .i64 (t_11 + 1)), ()), (), ())))) (some (.inr ((s1_0, s2_1, ()), (), ())))
noncomputable def L80_2 : Nat → ((List Int) × (List Int) × (List Int) × Int × Int × Unit) × (Unit) × Unit → Option (zTh ⊕ (((List Int) × (List Int) × Unit) × (Unit) × Unit))
  | 0, _ => none
  | n + 1, d => B80_2 n (L80_2 n) d.1.1 d.1.2.1 d.1.2.2.1 d.1.2.2.2.1 d.1.2.2.2.2.1
noncomputable def l80_2 : LoopI := ⟨⟨[(0, .v (.list false 3 (.int .i64))), (1, .v (.list false 3 (.int .i64))), (9, .v (.list false 3 (.int .i64))), (10, .v (.int .i64)), (11, .v (.int .i64))], [], none⟩, [(.ret, ⟨[(4, .v (.int .i64))], [], none⟩), (.exit 0, ⟨[(0, .v (.list false 3 (.int .i64))), (1, .v (.list false 3 (.int .i64)))], [], none⟩)], L80_2⟩
noncomputable def F80 (n : Nat) (s1_0 : (List Int)) (s2_1 : (List Int)) : Option ((Int × Unit) × (Unit)) :=
  derefK (L80_2 n ((s1_0, s2_1, s1_0, (s1_0.length : Int), 0, ()), (), ())) fun o4 => sumK o4 (fun d5 => some ((d5.1.1, ()), ())) (fun d6 => cond (decide ((d6.1.1.length : Int) < (d6.1.2.1.length : Int))) (some (((-1), ()), ())) (some ((0, ()), ())))
noncomputable def g80 (d : (List Int) × (List Int) × Unit) : Option ((Int × Unit) × (Unit)) := F80 fuel d.1 d.2.1
noncomputable def p80 : Prim := ⟨[.v (.list false 3 (.int .i64)), .v (.list false 3 (.int .i64))], [.v (.int .i64)], g80⟩
noncomputable def c80 : Cfg := ⟨36, tyT, [], [(97, p97)], [(2, l80_2)], [], [], [], [], [], []⟩
theorem F80_eq (n : Nat) (d) : absFn c80 n Try.f80 (body Try.f80) [.v (.list false 3 (.int .i64)), .v (.list false 3 (.int .i64))] [.v (.int .i64)] d = F80 n d.1 d.2.1 := by kernel_rfl
theorem L80_2_eq (n : Nat) (d) : (l80_2).g (n + 1) d = run c80 n (nth 0 (loopsOf (body Try.f80))) ((l80_2).ins.fill d) (roundK (l80_2) n) := by kernel_rfl
theorem ls80 : loopsOf (body Try.f80) = [nth 0 (loopsOf (body Try.f80))] := by kernel_rfl
theorem d80 : drawOK c80 (body Try.f80) = true := by kernel_rfl
theorem h80 : GoodF Try.prog 80 p80 := fn_done mixed (cfg := c80) (cfg_ok tyT_ok (goodCons h97 goodNil) rfl (by kernel_rfl)) Try.func80 rfl rfl (by kernel_rfl) rfl (by rw [ls80]; simp only [List.forall_mem_cons]; exact ⟨loopHas (key := 2) (li := l80_2) (by kernel_rfl) rfl (fun _ => rfl) (L80_2_eq), fun _ h => by cases h⟩) d80 (fun d y h => ⟨fuel, (F80_eq fuel d).trans h⟩)
-- function 48
noncomputable def B48_13 (_n : Nat) (L : ((List Int) × (List Int) × Int × (List Int) × Int × Bool × Int × Int × Int × Int × Int × Int × Unit) × ((List Int) × Unit) × Unit → Option ((((List Int) × (List Int) × Int × (List Int) × Int × Bool × Int × Int × Int × Int × Unit) × ((List Int) × Unit) × Unit))) (power_0 : List Int) (price_1 : List Int) (need_2 : Int) (which_6 : List Int) (sum_7 : Int) (found_10 : Bool) (amps_13 : Int) (cents_14 : Int) (t_44 : Int) (t_45 : Int) (t_51 : Int) (t_52 : Int) (o_50000 : List Int) : Option ((((List Int) × (List Int) × Int × (List Int) × Int × Bool × Int × Int × Int × Int × Unit) × ((List Int) × Unit) × Unit)) :=
  cond (decide (t_52 < t_51)) (inR t_52 o_50000.length (getI o_50000 t_52 fun e15 => getI power_0 e15 fun e16 => getI price_1 e15 fun e17 => L ((power_0, price_1, need_2, which_6, sum_7, found_10, (IntKind.wrap .i64 (amps_13 + e16)), (IntKind.wrap .i64 (cents_14 + e17)), t_44, t_45, t_51, (IntKind.wrap .i64 (t_52 + 1)), ()), (o_50000, ()), ()))) (some ((power_0, price_1, need_2, which_6, sum_7, found_10, amps_13, cents_14, t_44, t_45, ()), (o_50000, ()), ()))
noncomputable def L48_13 : Nat → ((List Int) × (List Int) × Int × (List Int) × Int × Bool × Int × Int × Int × Int × Int × Int × Unit) × ((List Int) × Unit) × Unit → Option ((((List Int) × (List Int) × Int × (List Int) × Int × Bool × Int × Int × Int × Int × Unit) × ((List Int) × Unit) × Unit))
  | 0, _ => none
  | n + 1, d => B48_13 n (L48_13 n) d.1.1 d.1.2.1 d.1.2.2.1 d.1.2.2.2.1 d.1.2.2.2.2.1 d.1.2.2.2.2.2.1 d.1.2.2.2.2.2.2.1 d.1.2.2.2.2.2.2.2.1 d.1.2.2.2.2.2.2.2.2.1 d.1.2.2.2.2.2.2.2.2.2.1 d.1.2.2.2.2.2.2.2.2.2.2.1 d.1.2.2.2.2.2.2.2.2.2.2.2.1 d.2.1.1
noncomputable def l48_13 : LoopI := ⟨⟨[(0, .v (.list false 3 (.int .i64))), (1, .v (.list false 3 (.int .i64))), (2, .v (.int .i64)), (6, .v (.list false 3 (.int .i64))), (7, .v (.int .i64)), (10, .v .bool), (12, .c (.view 50000 [])), (13, .v (.int .i64)), (14, .v (.int .i64)), (44, .v (.int .i64)), (45, .v (.int .i64)), (50, .c (.view 50000 [])), (51, .v (.int .i64)), (52, .v (.int .i64))], [(50000, true, .list true 3 (.int .i64))], none⟩, [(.exit 2, ⟨[(0, .v (.list false 3 (.int .i64))), (1, .v (.list false 3 (.int .i64))), (2, .v (.int .i64)), (6, .v (.list false 3 (.int .i64))), (7, .v (.int .i64)), (10, .v .bool), (12, .c (.view 50000 [])), (13, .v (.int .i64)), (14, .v (.int .i64)), (44, .v (.int .i64)), (45, .v (.int .i64))], [(50000, true, .list true 3 (.int .i64))], none⟩)], L48_13⟩
noncomputable def B48_8 (n : Nat) (L : ((List Int) × (List Int) × Int × (List Int) × Int × Bool × Int × Int × Unit) × (Unit) × Unit → Option ((((List Int) × Int × Bool × Unit) × (Unit) × Unit))) (power_0 : List Int) (price_1 : List Int) (need_2 : Int) (which_6 : List Int) (sum_7 : Int) (found_10 : Bool) (t_44 : Int) (t_45 : Int) : Option ((((List Int) × Int × Bool × Unit) × (Unit) × Unit)) :=
  cond (decide (t_45 < t_44)) (derefK (g79 (t_45, ())) fun y14 => derefK (L48_13 n ((power_0, price_1, need_2, which_6, sum_7, found_10, 0, 0, t_44, t_45, (y14.1.1.length : Int), 0, ()), (y14.1.1, ()), ())) fun o18 => cond (decide (o18.1.2.2.2.2.2.2.1 < o18.1.2.2.1)) (L ((o18.1.1, o18.1.2.1, o18.1.2.2.1, o18.1.2.2.2.1, o18.1.2.2.2.2.1, o18.1.2.2.2.2.2.1, o18.1.2.2.2.2.2.2.2.2.1, (IntKind.wrap .i64 (o18.1.2.2.2.2.2.2.2.2.2.1 + 1)), ()), (), ())) (cond (!o18.1.2.2.2.2.2.1) (L ((o18.1.1, o18.1.2.1, o18.1.2.2.1, o18.2.1.1, o18.1.2.2.2.2.2.2.2.1, true, o18.1.2.2.2.2.2.2.2.2.1, (IntKind.wrap .i64 (o18.1.2.2.2.2.2.2.2.2.2.1 + 1)), ()), (), ())) (cond (decide (o18.1.2.2.2.2.2.2.2.1 < o18.1.2.2.2.2.1)) (L ((o18.1.1, o18.1.2.1, o18.1.2.2.1, o18.2.1.1, o18.1.2.2.2.2.2.2.2.1, true, o18.1.2.2.2.2.2.2.2.2.1, (IntKind.wrap .i64 (o18.1.2.2.2.2.2.2.2.2.2.1 + 1)), ()), (), ())) (cond (o18.1.2.2.2.2.2.2.2.1 == o18.1.2.2.2.2.1) (cond (decide ((o18.2.1.1.length : Int) < (o18.1.2.2.2.1.length : Int))) (L ((o18.1.1, o18.1.2.1, o18.1.2.2.1, o18.2.1.1, o18.1.2.2.2.2.2.2.2.1, true, o18.1.2.2.2.2.2.2.2.2.1, (IntKind.wrap .i64 (o18.1.2.2.2.2.2.2.2.2.2.1 + 1)), ()), (), ())) (cond ((o18.2.1.1.length : Int) == (o18.1.2.2.2.1.length : Int)) (derefK (g80 (o18.2.1.1, o18.1.2.2.2.1, ())) fun y19 => cond (decide (y19.1.1 < 0)) (L ((o18.1.1, o18.1.2.1, o18.1.2.2.1, o18.2.1.1, o18.1.2.2.2.2.2.2.2.1, true, o18.1.2.2.2.2.2.2.2.2.1, (IntKind.wrap .i64 (o18.1.2.2.2.2.2.2.2.2.2.1 + 1)), ()), (), ())) (L ((o18.1.1, o18.1.2.1, o18.1.2.2.1, o18.1.2.2.2.1, o18.1.2.2.2.2.1, o18.1.2.2.2.2.2.1, o18.1.2.2.2.2.2.2.2.2.1, (IntKind.wrap .i64 (o18.1.2.2.2.2.2.2.2.2.2.1 + 1)), ()), (), ()))) (L ((o18.1.1, o18.1.2.1, o18.1.2.2.1, o18.1.2.2.2.1, o18.1.2.2.2.2.1, o18.1.2.2.2.2.2.1, o18.1.2.2.2.2.2.2.2.2.1, (IntKind.wrap .i64 (o18.1.2.2.2.2.2.2.2.2.2.1 + 1)), ()), (), ())))) (L ((o18.1.1, o18.1.2.1, o18.1.2.2.1, o18.1.2.2.2.1, o18.1.2.2.2.2.1, o18.1.2.2.2.2.2.1, o18.1.2.2.2.2.2.2.2.2.1, (IntKind.wrap .i64 (o18.1.2.2.2.2.2.2.2.2.2.1 + 1)), ()), (), ())))))) (some ((which_6, sum_7, found_10, ()), (), ()))
noncomputable def L48_8 : Nat → ((List Int) × (List Int) × Int × (List Int) × Int × Bool × Int × Int × Unit) × (Unit) × Unit → Option ((((List Int) × Int × Bool × Unit) × (Unit) × Unit))
  | 0, _ => none
  | n + 1, d => B48_8 n (L48_8 n) d.1.1 d.1.2.1 d.1.2.2.1 d.1.2.2.2.1 d.1.2.2.2.2.1 d.1.2.2.2.2.2.1 d.1.2.2.2.2.2.2.1 d.1.2.2.2.2.2.2.2.1
noncomputable def l48_8 : LoopI := ⟨⟨[(0, .v (.list false 3 (.int .i64))), (1, .v (.list false 3 (.int .i64))), (2, .v (.int .i64)), (6, .v (.list false 3 (.int .i64))), (7, .v (.int .i64)), (10, .v .bool), (44, .v (.int .i64)), (45, .v (.int .i64))], [], none⟩, [(.exit 0, ⟨[(6, .v (.list false 3 (.int .i64))), (7, .v (.int .i64)), (10, .v .bool)], [], none⟩)], L48_8⟩
noncomputable def F48 (n : Nat) (power_0 : (List Int)) (price_1 : (List Int)) (need_2 : Int) : Option (((List Int) × Int × Int × Unit) × (Unit)) :=
  cond (decide ((power_0.length : Int) > 10)) (some (([], 0, 2, ()), ())) (cond ((price_1.length : Int) != (power_0.length : Int)) (some (([], 0, 1, ()), ())) (derefK (It.m77.p.g (1, 1000, ())) fun y1 => derefK (g67 (power_0, (fun v2 => derefK y1.1.1 fun q4 => derefK y1.1.2.1 fun q5 => derefK (g78 (v2, q4, q5, ())) fun y3 => some y3.1.1), ())) fun y6 => cond y6.1.1 (some (([], 0, 1, ()), ())) (derefK (It.m77.p.g (0, 1000000, ())) fun y7 => derefK (g67 (price_1, (fun v8 => derefK y7.1.1 fun q10 => derefK y7.1.2.1 fun q11 => derefK (g78 (v8, q10, q11, ())) fun y9 => some y9.1.1), ())) fun y12 => cond y12.1.1 (some (([], 0, 1, ()), ())) (derefK (g62 (need_2, 0, 10000, ())) fun y13 => cond (!y13.1.1) (some (([], 0, 1, ()), ())) (negK (power_0.length : Int) (derefK (L48_8 n ((power_0, price_1, need_2, [], 0, false, (shlI .i64 1 (power_0.length : Int)), 0, ()), (), ())) fun o20 => cond (!o20.1.2.2.1) (some (([], 0, 3, ()), ())) (some ((o20.1.1, o20.1.2.1, 0, ()), ()))))))))
noncomputable def g48 (d : (List Int) × (List Int) × Int × Unit) : Option (((List Int) × Int × Int × Unit) × (Unit)) := F48 fuel d.1 d.2.1 d.2.2.1
noncomputable def p48 : Prim := ⟨[.v (.list false 3 (.int .i64)), .v (.list false 3 (.int .i64)), .v (.int .i64)], [.v (.list false 3 (.int .i64)), .v (.int .i64), .v (.int .i64)], g48⟩
noncomputable def c48 : Cfg := ⟨111, tyT, [(6, .list false 3 (.int .i64))], [(62, p62), (67, p67), (78, p78), (79, p79), (80, p80)], [(13, l48_13), (8, l48_8)], [], [], [], [], [(77, It.m77)], []⟩
theorem F48_eq (n : Nat) (d) : absFn c48 n Try.f48 (body Try.f48) [.v (.list false 3 (.int .i64)), .v (.list false 3 (.int .i64)), .v (.int .i64)] [.v (.list false 3 (.int .i64)), .v (.int .i64), .v (.int .i64)] d = F48 n d.1 d.2.1 d.2.2.1 := by kernel_rfl
theorem L48_8_eq (n : Nat) (d) : (l48_8).g (n + 1) d = run c48 n (nth 0 (loopsOf (body Try.f48))) ((l48_8).ins.fill d) (roundK (l48_8) n) := by kernel_rfl
theorem L48_13_eq (n : Nat) (d) : (l48_13).g (n + 1) d = run c48 n (nth 1 (loopsOf (body Try.f48))) ((l48_13).ins.fill d) (roundK (l48_13) n) := by kernel_rfl
theorem ls48 : loopsOf (body Try.f48) = [nth 0 (loopsOf (body Try.f48)), nth 1 (loopsOf (body Try.f48))] := by kernel_rfl
theorem d48 : drawOK c48 (body Try.f48) = true := by kernel_rfl
theorem h48 : GoodF Try.prog 48 p48 := fn_done mixed (cfg := c48) (cfg_ok tyT_ok (goodCons h62 (goodCons h67 (goodCons h78 (goodCons h79 (goodCons h80 goodNil))))) rfl (by kernel_rfl) (mk_ok (mkCons It.k77 mkNil))) Try.func48 rfl rfl (by kernel_rfl) rfl (by rw [ls48]; simp only [List.forall_mem_cons]; exact ⟨loopHas (key := 8) (li := l48_8) (by kernel_rfl) rfl (fun _ => rfl) (L48_8_eq), loopHas (key := 13) (li := l48_13) (by kernel_rfl) rfl (fun _ => rfl) (L48_13_eq), fun _ h => by cases h⟩) d48 (fun d y h => ⟨fuel, (F48_eq fuel d).trans h⟩)
-- function 81
noncomputable def B81_4 (_n : Nat) (L : ((List Int) × (List Int) × Int × Unit) × (Unit) × Unit → Option (zTf ⊕ ((Unit) × (Unit) × Unit))) (a_0 : List Int) (b_1 : List Int) (i_5 : Int) : Option (zTf ⊕ ((Unit) × (Unit) × Unit)) :=
  cond (decide (i_5 < (a_0.length : Int))) (getI a_0 i_5 fun e1 => getI b_1 i_5 fun e2 => cond (e1 != e2) (getI a_0 i_5 fun e3 => getI b_1 i_5 fun e4 => some (.inl (((decide (e3 < e4)), ()), (), ()))) (L ((a_0, b_1, (IntKind.wrap .i64 (i_5 + 1)), ()), (), ()))) (some (.inr ((), (), ())))
noncomputable def L81_4 : Nat → ((List Int) × (List Int) × Int × Unit) × (Unit) × Unit → Option (zTf ⊕ ((Unit) × (Unit) × Unit))
  | 0, _ => none
  | n + 1, d => B81_4 n (L81_4 n) d.1.1 d.1.2.1 d.1.2.2.1
noncomputable def l81_4 : LoopI := ⟨⟨[(0, .v (.list false 3 (.int .i64))), (1, .v (.list false 3 (.int .i64))), (5, .v (.int .i64))], [], none⟩, [(.ret, ⟨[(4, .v .bool)], [], none⟩), (.exit 0, ⟨[], [], none⟩)], L81_4⟩
noncomputable def F81 (n : Nat) (a_0 : (List Int)) (b_1 : (List Int)) : Option ((Bool × Unit) × (Unit)) :=
  cond ((a_0.length : Int) != (b_1.length : Int)) (some (((decide ((a_0.length : Int) < (b_1.length : Int))), ()), ())) (derefK (L81_4 n ((a_0, b_1, 0, ()), (), ())) fun o5 => sumK o5 (fun d6 => some ((d6.1.1, ()), ())) (fun _ => some ((false, ()), ())))
noncomputable def g81 (d : (List Int) × (List Int) × Unit) : Option ((Bool × Unit) × (Unit)) := F81 fuel d.1 d.2.1
noncomputable def p81 : Prim := ⟨[.v (.list false 3 (.int .i64)), .v (.list false 3 (.int .i64))], [.v .bool], g81⟩
noncomputable def c81 : Cfg := ⟨40, tyT, [], [], [(4, l81_4)], [], [], [], [], [], []⟩
theorem F81_eq (n : Nat) (d) : absFn c81 n Try.f81 (body Try.f81) [.v (.list false 3 (.int .i64)), .v (.list false 3 (.int .i64))] [.v .bool] d = F81 n d.1 d.2.1 := by kernel_rfl
theorem L81_4_eq (n : Nat) (d) : (l81_4).g (n + 1) d = run c81 n (nth 0 (loopsOf (body Try.f81))) ((l81_4).ins.fill d) (roundK (l81_4) n) := by kernel_rfl
theorem ls81 : loopsOf (body Try.f81) = [nth 0 (loopsOf (body Try.f81))] := by kernel_rfl
theorem d81 : drawOK c81 (body Try.f81) = true := by kernel_rfl
theorem h81 : GoodF Try.prog 81 p81 := fn_done mixed (cfg := c81) (cfg_ok tyT_ok (goodNil) rfl (by kernel_rfl)) Try.func81 rfl rfl (by kernel_rfl) rfl (by rw [ls81]; simp only [List.forall_mem_cons]; exact ⟨loopHas (key := 4) (li := l81_4) (by kernel_rfl) rfl (fun _ => rfl) (L81_4_eq), fun _ h => by cases h⟩) d81 (fun d y h => ⟨fuel, (F81_eq fuel d).trans h⟩)
-- function 49
noncomputable def B49_6 (_n : Nat) (L : ((List Int) × (List Int) × Int × Int × Unit) × (Unit) × Unit → Option (((Int × Int × Unit) × ((List Int) × Unit) × Unit) ⊕ (((List Int) × (List Int) × Int × Unit) × (Unit) × Unit))) (power_0 : List Int) (price_1 : List Int) (need_2 : Int) (i_9 : Int) : Option (((Int × Int × Unit) × ((List Int) × Unit) × Unit) ⊕ (((List Int) × (List Int) × Int × Unit) × (Unit) × Unit)) :=
  cond (decide (i_9 < (power_0.length : Int))) (getI power_0 i_9 fun e2 => derefK (g58 (e2, 1, 1000, ())) fun y3 => cond (!y3.1.1) (some (.inl ((0, 1, ()), (([] : List Int), ()), ()))) (getI price_1 i_9 fun e4 => derefK (g58 (e4, 0, 1000000, ())) fun y5 => cond (!y5.1.1) (some (.inl ((0, 1, ()), (([] : List Int), ()), ()))) (L ((power_0, price_1, need_2, (IntKind.wrap .i64 (i_9 + 1)), ()), (), ())))) (some (.inr ((power_0, price_1, need_2, ()), (), ())))
noncomputable def L49_6 : Nat → ((List Int) × (List Int) × Int × Int × Unit) × (Unit) × Unit → Option (((Int × Int × Unit) × ((List Int) × Unit) × Unit) ⊕ (((List Int) × (List Int) × Int × Unit) × (Unit) × Unit))
  | 0, _ => none
  | n + 1, d => B49_6 n (L49_6 n) d.1.1 d.1.2.1 d.1.2.2.1 d.1.2.2.2.1
noncomputable def l49_6 : LoopI := ⟨⟨[(0, .v (.list false 3 (.int .i64))), (1, .v (.list false 3 (.int .i64))), (2, .v (.int .i64)), (9, .v (.int .i64))], [], none⟩, [(.ret, ⟨[(6, .c (.view 6 [])), (7, .v (.int .i64)), (8, .v (.int .i64))], [(6, true, .list true 3 (.int .i64))], none⟩), (.exit 0, ⟨[(0, .v (.list false 3 (.int .i64))), (1, .v (.list false 3 (.int .i64))), (2, .v (.int .i64))], [], none⟩)], L49_6⟩
noncomputable def B49_18 (_n : Nat) (L : ((List Int) × (List Int) × Int × (List Int) × Int × Int × Int × Int × Int × Unit) × ((List Int) × Unit) × Unit → Option ((((List Int) × (List Int) × Int × (List Int) × Int × Int × Int × Int × Unit) × ((List Int) × Unit) × Unit))) (power_0 : List Int) (price_1 : List Int) (need_2 : Int) (best_10 : List Int) (least_11 : Int) (set_12 : Int) (all_14 : Int) (sum_15 : Int) (i_16 : Int) (o_13 : List Int) : Option ((((List Int) × (List Int) × Int × (List Int) × Int × Int × Int × Int × Unit) × ((List Int) × Unit) × Unit)) :=
  cond (decide (i_16 < (power_0.length : Int))) (derefK (g51 (set_12, i_16, ())) fun y9 => cond y9.1.1 (lenK ((o_13.length : Int) + [i_16].length) (getI power_0 i_16 fun e10 => getI price_1 i_16 fun e11 => L ((power_0, price_1, need_2, best_10, least_11, set_12, (IntKind.wrap .i64 (all_14 + e10)), (IntKind.wrap .i64 (sum_15 + e11)), (IntKind.wrap .i64 (i_16 + 1)), ()), ((o_13 ++ [i_16]), ()), ()))) (L ((power_0, price_1, need_2, best_10, least_11, set_12, all_14, sum_15, (IntKind.wrap .i64 (i_16 + 1)), ()), (o_13, ()), ()))) (some ((power_0, price_1, need_2, best_10, least_11, set_12, all_14, sum_15, ()), (o_13, ()), ()))
noncomputable def L49_18 : Nat → ((List Int) × (List Int) × Int × (List Int) × Int × Int × Int × Int × Int × Unit) × ((List Int) × Unit) × Unit → Option ((((List Int) × (List Int) × Int × (List Int) × Int × Int × Int × Int × Unit) × ((List Int) × Unit) × Unit))
  | 0, _ => none
  | n + 1, d => B49_18 n (L49_18 n) d.1.1 d.1.2.1 d.1.2.2.1 d.1.2.2.2.1 d.1.2.2.2.2.1 d.1.2.2.2.2.2.1 d.1.2.2.2.2.2.2.1 d.1.2.2.2.2.2.2.2.1 d.1.2.2.2.2.2.2.2.2.1 d.2.1.1
noncomputable def l49_18 : LoopI := ⟨⟨[(0, .v (.list false 3 (.int .i64))), (1, .v (.list false 3 (.int .i64))), (2, .v (.int .i64)), (10, .v (.list false 3 (.int .i64))), (11, .v (.int .i64)), (12, .v (.int .i64)), (13, .c (.view 13 [])), (14, .v (.int .i64)), (15, .v (.int .i64)), (16, .v (.int .i64))], [(13, true, .list true 3 (.int .i64))], none⟩, [(.exit 4, ⟨[(0, .v (.list false 3 (.int .i64))), (1, .v (.list false 3 (.int .i64))), (2, .v (.int .i64)), (10, .v (.list false 3 (.int .i64))), (11, .v (.int .i64)), (12, .v (.int .i64)), (13, .c (.view 13 [])), (14, .v (.int .i64)), (15, .v (.int .i64))], [(13, true, .list true 3 (.int .i64))], none⟩)], L49_18⟩
noncomputable def B49_13 (n : Nat) (L : ((List Int) × (List Int) × Int × (List Int) × Int × Int × Unit) × (Unit) × Unit → Option ((((List Int) × Int × Unit) × (Unit) × Unit))) (power_0 : List Int) (price_1 : List Int) (need_2 : Int) (best_10 : List Int) (least_11 : Int) (set_12 : Int) : Option ((((List Int) × Int × Unit) × (Unit) × Unit)) :=
  negK (IntKind.wrap .u64 (power_0.length : Int)) (cond (decide (set_12 < (shlI .i64 1 (IntKind.wrap .u64 (power_0.length : Int))))) (derefK (L49_18 n ((power_0, price_1, need_2, best_10, least_11, set_12, 0, 0, 0, ()), (([] : List Int), ()), ())) fun o12 => cond (decide (o12.1.2.2.2.2.2.2.1 < o12.1.2.2.1)) (L ((o12.1.1, o12.1.2.1, o12.1.2.2.1, o12.1.2.2.2.1, o12.1.2.2.2.2.1, (IntKind.wrap .i64 (o12.1.2.2.2.2.2.1 + 1)), ()), (), ())) (cond (decide (o12.1.2.2.2.2.1 < 0)) (L ((o12.1.1, o12.1.2.1, o12.1.2.2.1, o12.2.1.1, o12.1.2.2.2.2.2.2.2.1, (IntKind.wrap .i64 (o12.1.2.2.2.2.2.1 + 1)), ()), (), ())) (cond (decide (o12.1.2.2.2.2.2.2.2.1 < o12.1.2.2.2.2.1)) (L ((o12.1.1, o12.1.2.1, o12.1.2.2.1, o12.2.1.1, o12.1.2.2.2.2.2.2.2.1, (IntKind.wrap .i64 (o12.1.2.2.2.2.2.1 + 1)), ()), (), ())) (cond (o12.1.2.2.2.2.2.2.2.1 == o12.1.2.2.2.2.1) (derefK (g81 (o12.2.1.1, o12.1.2.2.2.1, ())) fun y13 => cond y13.1.1 (L ((o12.1.1, o12.1.2.1, o12.1.2.2.1, o12.2.1.1, o12.1.2.2.2.2.2.2.2.1, (IntKind.wrap .i64 (o12.1.2.2.2.2.2.1 + 1)), ()), (), ())) (L ((o12.1.1, o12.1.2.1, o12.1.2.2.1, o12.1.2.2.2.1, o12.1.2.2.2.2.1, (IntKind.wrap .i64 (o12.1.2.2.2.2.2.1 + 1)), ()), (), ()))) (L ((o12.1.1, o12.1.2.1, o12.1.2.2.1, o12.1.2.2.2.1, o12.1.2.2.2.2.1, (IntKind.wrap .i64 (o12.1.2.2.2.2.2.1 + 1)), ()), (), ())))))) (some ((best_10, least_11, ()), (), ())))
noncomputable def L49_13 : Nat → ((List Int) × (List Int) × Int × (List Int) × Int × Int × Unit) × (Unit) × Unit → Option ((((List Int) × Int × Unit) × (Unit) × Unit))
  | 0, _ => none
  | n + 1, d => B49_13 n (L49_13 n) d.1.1 d.1.2.1 d.1.2.2.1 d.1.2.2.2.1 d.1.2.2.2.2.1 d.1.2.2.2.2.2.1
noncomputable def l49_13 : LoopI := ⟨⟨[(0, .v (.list false 3 (.int .i64))), (1, .v (.list false 3 (.int .i64))), (2, .v (.int .i64)), (10, .v (.list false 3 (.int .i64))), (11, .v (.int .i64)), (12, .v (.int .i64))], [], none⟩, [(.exit 2, ⟨[(10, .v (.list false 3 (.int .i64))), (11, .v (.int .i64))], [], none⟩)], L49_13⟩
noncomputable def F49 (n : Nat) (power_0 : (List Int)) (price_1 : (List Int)) (need_2 : Int) : Option (((List Int) × Int × Int × Unit) × (Unit)) :=
  cond (decide ((power_0.length : Int) > 10)) (some ((([] : List Int), 0, 2, ()), ())) (cond ((price_1.length : Int) != (power_0.length : Int)) (some ((([] : List Int), 0, 1, ()), ())) (derefK (g58 (need_2, 0, 10000, ())) fun y1 => cond (!y1.1.1) (some ((([] : List Int), 0, 1, ()), ())) (derefK (L49_6 n ((power_0, price_1, need_2, 0, ()), (), ())) fun o6 => sumK o6 (fun d7 => some ((d7.2.1.1, d7.1.1, d7.1.2.1, ()), ())) (fun d8 => derefK (L49_13 n ((d8.1.1, d8.1.2.1, d8.1.2.2.1, [], (-1), 0, ()), (), ())) fun o14 => cond (decide (o14.1.2.1 < 0)) (some ((([] : List Int), 0, 3, ()), ())) (some ((o14.1.1, o14.1.2.1, 0, ()), ()))))))
noncomputable def g49 (d : (List Int) × (List Int) × Int × Unit) : Option (((List Int) × Int × Int × Unit) × (Unit)) := F49 fuel d.1 d.2.1 d.2.2.1
noncomputable def p49 : Prim := ⟨[.v (.list false 3 (.int .i64)), .v (.list false 3 (.int .i64)), .v (.int .i64)], [.v (.list false 3 (.int .i64)), .v (.int .i64), .v (.int .i64)], g49⟩
noncomputable def c49 : Cfg := ⟨109, tyT, [(10, .list false 3 (.int .i64))], [(51, p51), (58, p58), (81, p81)], [(6, l49_6), (18, l49_18), (13, l49_13)], [], [], [], [], [], []⟩
theorem F49_eq (n : Nat) (d) : absFn c49 n Try.f49 (body Try.f49) [.v (.list false 3 (.int .i64)), .v (.list false 3 (.int .i64)), .v (.int .i64)] [.v (.list false 3 (.int .i64)), .v (.int .i64), .v (.int .i64)] d = F49 n d.1 d.2.1 d.2.2.1 := by kernel_rfl
theorem L49_6_eq (n : Nat) (d) : (l49_6).g (n + 1) d = run c49 n (nth 0 (loopsOf (body Try.f49))) ((l49_6).ins.fill d) (roundK (l49_6) n) := by kernel_rfl
theorem L49_13_eq (n : Nat) (d) : (l49_13).g (n + 1) d = run c49 n (nth 1 (loopsOf (body Try.f49))) ((l49_13).ins.fill d) (roundK (l49_13) n) := by kernel_rfl
theorem L49_18_eq (n : Nat) (d) : (l49_18).g (n + 1) d = run c49 n (nth 2 (loopsOf (body Try.f49))) ((l49_18).ins.fill d) (roundK (l49_18) n) := by kernel_rfl
theorem ls49 : loopsOf (body Try.f49) = [nth 0 (loopsOf (body Try.f49)), nth 1 (loopsOf (body Try.f49)), nth 2 (loopsOf (body Try.f49))] := by kernel_rfl
theorem d49 : drawOK c49 (body Try.f49) = true := by kernel_rfl
theorem h49 : GoodF Try.prog 49 p49 := fn_done mixed (cfg := c49) (cfg_ok tyT_ok (goodCons h51 (goodCons h58 (goodCons h81 goodNil))) rfl (by kernel_rfl)) Try.func49 rfl rfl (by kernel_rfl) rfl (by rw [ls49]; simp only [List.forall_mem_cons]; exact ⟨loopHas (key := 6) (li := l49_6) (by kernel_rfl) rfl (fun _ => rfl) (L49_6_eq), loopHas (key := 13) (li := l49_13) (by kernel_rfl) rfl (fun _ => rfl) (L49_13_eq), loopHas (key := 18) (li := l49_18) (by kernel_rfl) rfl (fun _ => rfl) (L49_18_eq), fun _ h => by cases h⟩) d49 (fun d y h => ⟨fuel, (F49_eq fuel d).trans h⟩)
-- function 15
noncomputable def F15 (_n : Nat) (amps_0 : (List Int)) (price_1 : (List Int)) (need_2 : Int) : Option ((Bool × Unit) × (Unit)) :=
  derefK (g48 (amps_0, price_1, need_2, ())) fun y1 => derefK (g49 (amps_0, price_1, need_2, ())) fun y2 => cond (y1.1.2.1 == y2.1.2.1) (cond (y1.1.2.2.1 == y2.1.2.2.1) (derefK (g30 (y1.1.1, y2.1.1, ())) fun y3 => cond y3.1.1 (derefK (g18 ()) fun y4 => some ((y4.1.1, ()), ())) (some ((false, ()), ()))) (some ((false, ()), ()))) (some ((false, ()), ()))
noncomputable def g15 (d : (List Int) × (List Int) × Int × Unit) : Option ((Bool × Unit) × (Unit)) := F15 fuel d.1 d.2.1 d.2.2.1
noncomputable def p15 : Prim := ⟨[.v (.list false 3 (.int .i64)), .v (.list false 3 (.int .i64)), .v (.int .i64)], [.v .bool], g15⟩
noncomputable def c15 : Cfg := ⟨45, tyT, [], [(18, p18), (30, p30), (48, p48), (49, p49)], [], [], [], [], [], [], []⟩
theorem F15_eq (n : Nat) (d) : absFn c15 n Try.f15 (body Try.f15) [.v (.list false 3 (.int .i64)), .v (.list false 3 (.int .i64)), .v (.int .i64)] [.v .bool] d = F15 n d.1 d.2.1 d.2.2.1 := by kernel_rfl
theorem d15 : drawOK c15 (body Try.f15) = true := by kernel_rfl
theorem h15 : GoodF Try.prog 15 p15 := fn_done mixed (cfg := c15) (cfg_ok tyT_ok (goodCons h18 (goodCons h30 (goodCons h48 (goodCons h49 goodNil)))) rfl (by kernel_rfl)) Try.func15 rfl rfl (by kernel_rfl) rfl (noLoops (by kernel_rfl)) d15 (fun d y h => ⟨fuel, (F15_eq fuel d).trans h⟩)
-- function 50
noncomputable def B50_3 (_n : Nat) (L : ((List Int) × (List Int) × (List Int) × Int × Int × Int × Unit) × (Unit) × Unit → Option (((Int × Int × Bool × Unit) × (Unit) × Unit) ⊕ ((Int × Int × Unit) × (Unit) × Unit))) (amps_0 : List Int) (price_1 : List Int) (which_2 : List Int) (have_9 : Int) (paid_10 : Int) (i_11 : Int) : Option (((Int × Int × Bool × Unit) × (Unit) × Unit) ⊕ ((Int × Int × Unit) × (Unit) × Unit)) :=
  cond (decide (i_11 < (which_2.length : Int))) (getI which_2 i_11 fun e1 => cond (decide (e1 < 0)) (some (.inl ((0, 0, false, ()), (), ()))) (getI which_2 i_11 fun e2 => cond (decide (e2 ≥ (amps_0.length : Int))) (some (.inl ((0, 0, false, ()), (), ()))) (getI which_2 i_11 fun e3 => cond (decide (e3 ≥ (price_1.length : Int))) (some (.inl ((0, 0, false, ()), (), ()))) (cond (decide (i_11 > 0)) (getI which_2 i_11 fun e4 => getI which_2 (IntKind.wrap .i64 (i_11 - 1)) fun e5 => cond (decide (e4 ≤ e5)) (some (.inl ((0, 0, false, ()), (), ()))) (getI which_2 i_11 fun e6 => getI amps_0 e6 fun e7 => getI which_2 i_11 fun e8 => getI price_1 e8 fun e9 => L ((amps_0, price_1, which_2, (IntKind.wrap .i64 (have_9 + e7)), (IntKind.wrap .i64 (paid_10 + e9)), (IntKind.wrap .i64 (i_11 + 1)), ()), (), ()))) (getI which_2 i_11 fun e10 => getI amps_0 e10 fun e11 => getI which_2 i_11 fun e12 => getI price_1 e12 fun e13 => L ((amps_0, price_1, which_2, (IntKind.wrap .i64 (have_9 + e11)), (IntKind.wrap .i64 (paid_10 + e13)), (IntKind.wrap .i64 (i_11 + 1)), ()), (), ())))))) (some (.inr ((have_9, paid_10, ()), (), ())))
noncomputable def L50_3 : Nat → ((List Int) × (List Int) × (List Int) × Int × Int × Int × Unit) × (Unit) × Unit → Option (((Int × Int × Bool × Unit) × (Unit) × Unit) ⊕ ((Int × Int × Unit) × (Unit) × Unit))
  | 0, _ => none
  | n + 1, d => B50_3 n (L50_3 n) d.1.1 d.1.2.1 d.1.2.2.1 d.1.2.2.2.1 d.1.2.2.2.2.1 d.1.2.2.2.2.2.1
noncomputable def l50_3 : LoopI := ⟨⟨[(0, .v (.list false 3 (.int .i64))), (1, .v (.list false 3 (.int .i64))), (2, .v (.list false 3 (.int .i64))), (9, .v (.int .i64)), (10, .v (.int .i64)), (11, .v (.int .i64))], [], none⟩, [(.ret, ⟨[(6, .v (.int .i64)), (7, .v (.int .i64)), (8, .v .bool)], [], none⟩), (.exit 0, ⟨[(9, .v (.int .i64)), (10, .v (.int .i64))], [], none⟩)], L50_3⟩
noncomputable def F50 (n : Nat) (amps_0 : (List Int)) (price_1 : (List Int)) (which_2 : (List Int)) : Option ((Int × Int × Bool × Unit) × (Unit)) :=
  derefK (L50_3 n ((amps_0, price_1, which_2, 0, 0, 0, ()), (), ())) fun o14 => sumK o14 (fun d15 => some ((d15.1.1, d15.1.2.1, d15.1.2.2.1, ()), ())) (fun d16 => some ((d16.1.1, d16.1.2.1, true, ()), ()))
noncomputable def g50 (d : (List Int) × (List Int) × (List Int) × Unit) : Option ((Int × Int × Bool × Unit) × (Unit)) := F50 fuel d.1 d.2.1 d.2.2.1
noncomputable def p50 : Prim := ⟨[.v (.list false 3 (.int .i64)), .v (.list false 3 (.int .i64)), .v (.list false 3 (.int .i64))], [.v (.int .i64), .v (.int .i64), .v .bool], g50⟩
noncomputable def c50 : Cfg := ⟨77, tyT, [], [], [(3, l50_3)], [], [], [], [], [], []⟩
theorem F50_eq (n : Nat) (d) : absFn c50 n Try.f50 (body Try.f50) [.v (.list false 3 (.int .i64)), .v (.list false 3 (.int .i64)), .v (.list false 3 (.int .i64))] [.v (.int .i64), .v (.int .i64), .v .bool] d = F50 n d.1 d.2.1 d.2.2.1 := by kernel_rfl
theorem L50_3_eq (n : Nat) (d) : (l50_3).g (n + 1) d = run c50 n (nth 0 (loopsOf (body Try.f50))) ((l50_3).ins.fill d) (roundK (l50_3) n) := by kernel_rfl
theorem ls50 : loopsOf (body Try.f50) = [nth 0 (loopsOf (body Try.f50))] := by kernel_rfl
theorem d50 : drawOK c50 (body Try.f50) = true := by kernel_rfl
theorem h50 : GoodF Try.prog 50 p50 := fn_done mixed (cfg := c50) (cfg_ok tyT_ok (goodNil) rfl (by kernel_rfl)) Try.func50 rfl rfl (by kernel_rfl) rfl (by rw [ls50]; simp only [List.forall_mem_cons]; exact ⟨loopHas (key := 3) (li := l50_3) (by kernel_rfl) rfl (fun _ => rfl) (L50_3_eq), fun _ h => by cases h⟩) d50 (fun d y h => ⟨fuel, (F50_eq fuel d).trans h⟩)
-- function 16
noncomputable def F16 (_n : Nat) (amps_0 : (List Int)) (price_1 : (List Int)) (h_2 : (Int × (Int × (List Int)))) : Option ((Bool × Unit) × (Unit)) :=
  derefK (g48 (amps_0, price_1, h_2.1, ())) fun y1 => cond (y1.1.2.2.1 != 0) (cond (y1.1.2.2.1 != 3) (derefK (g18 ()) fun y2 => some ((y2.1.1, ()), ())) (derefK (g50 (amps_0, price_1, y1.1.1, ())) fun y3 => cond (y1.1.2.2.1 == 0) (cond (!y3.1.2.2.1) (some ((false, ()), ())) (cond (decide (y3.1.1 < h_2.1)) (some ((false, ()), ())) (cond (y3.1.2.1 != y1.1.2.1) (some ((false, ()), ())) (derefK (g50 (amps_0, price_1, h_2.2.2, ())) fun y4 => cond y4.1.2.2.1 (cond (decide (y4.1.1 ≥ h_2.1)) (cond (y1.1.2.2.1 != 0) (some ((false, ()), ())) (cond (decide (y4.1.2.1 < y1.1.2.1)) (some ((false, ()), ())) (cond (y4.1.2.1 == y1.1.2.1) (cond (decide ((h_2.2.2.length : Int) < (y1.1.1.length : Int))) (some ((false, ()), ())) (derefK (g48 (amps_0, price_1, h_2.2.1, ())) fun y5 => cond (y5.1.2.2.1 != 0) (derefK (g18 ()) fun y6 => some ((y6.1.1, ()), ())) (cond (decide (h_2.2.1 < h_2.1)) (derefK (g18 ()) fun y7 => some ((y7.1.1, ()), ())) (cond (y1.1.2.2.1 == 0) (cond (decide (y5.1.2.1 ≥ y1.1.2.1)) (derefK (g18 ()) fun y8 => some ((y8.1.1, ()), ())) (some ((false, ()), ()))) (some ((false, ()), ())))))) (derefK (g48 (amps_0, price_1, h_2.2.1, ())) fun y9 => cond (y9.1.2.2.1 != 0) (derefK (g18 ()) fun y10 => some ((y10.1.1, ()), ())) (cond (decide (h_2.2.1 < h_2.1)) (derefK (g18 ()) fun y11 => some ((y11.1.1, ()), ())) (cond (y1.1.2.2.1 == 0) (cond (decide (y9.1.2.1 ≥ y1.1.2.1)) (derefK (g18 ()) fun y12 => some ((y12.1.1, ()), ())) (some ((false, ()), ()))) (some ((false, ()), ())))))))) (derefK (g48 (amps_0, price_1, h_2.2.1, ())) fun y13 => cond (y13.1.2.2.1 != 0) (derefK (g18 ()) fun y14 => some ((y14.1.1, ()), ())) (cond (decide (h_2.2.1 < h_2.1)) (derefK (g18 ()) fun y15 => some ((y15.1.1, ()), ())) (cond (y1.1.2.2.1 == 0) (cond (decide (y13.1.2.1 ≥ y1.1.2.1)) (derefK (g18 ()) fun y16 => some ((y16.1.1, ()), ())) (some ((false, ()), ()))) (some ((false, ()), ())))))) (derefK (g48 (amps_0, price_1, h_2.2.1, ())) fun y17 => cond (y17.1.2.2.1 != 0) (derefK (g18 ()) fun y18 => some ((y18.1.1, ()), ())) (cond (decide (h_2.2.1 < h_2.1)) (derefK (g18 ()) fun y19 => some ((y19.1.1, ()), ())) (cond (y1.1.2.2.1 == 0) (cond (decide (y17.1.2.1 ≥ y1.1.2.1)) (derefK (g18 ()) fun y20 => some ((y20.1.1, ()), ())) (some ((false, ()), ()))) (some ((false, ()), ()))))))))) (derefK (g50 (amps_0, price_1, h_2.2.2, ())) fun y21 => cond y21.1.2.2.1 (cond (decide (y21.1.1 ≥ h_2.1)) (cond (y1.1.2.2.1 != 0) (some ((false, ()), ())) (cond (decide (y21.1.2.1 < y1.1.2.1)) (some ((false, ()), ())) (cond (y21.1.2.1 == y1.1.2.1) (cond (decide ((h_2.2.2.length : Int) < (y1.1.1.length : Int))) (some ((false, ()), ())) (derefK (g48 (amps_0, price_1, h_2.2.1, ())) fun y22 => cond (y22.1.2.2.1 != 0) (derefK (g18 ()) fun y23 => some ((y23.1.1, ()), ())) (cond (decide (h_2.2.1 < h_2.1)) (derefK (g18 ()) fun y24 => some ((y24.1.1, ()), ())) (cond (y1.1.2.2.1 == 0) (cond (decide (y22.1.2.1 ≥ y1.1.2.1)) (derefK (g18 ()) fun y25 => some ((y25.1.1, ()), ())) (some ((false, ()), ()))) (some ((false, ()), ())))))) (derefK (g48 (amps_0, price_1, h_2.2.1, ())) fun y26 => cond (y26.1.2.2.1 != 0) (derefK (g18 ()) fun y27 => some ((y27.1.1, ()), ())) (cond (decide (h_2.2.1 < h_2.1)) (derefK (g18 ()) fun y28 => some ((y28.1.1, ()), ())) (cond (y1.1.2.2.1 == 0) (cond (decide (y26.1.2.1 ≥ y1.1.2.1)) (derefK (g18 ()) fun y29 => some ((y29.1.1, ()), ())) (some ((false, ()), ()))) (some ((false, ()), ())))))))) (derefK (g48 (amps_0, price_1, h_2.2.1, ())) fun y30 => cond (y30.1.2.2.1 != 0) (derefK (g18 ()) fun y31 => some ((y31.1.1, ()), ())) (cond (decide (h_2.2.1 < h_2.1)) (derefK (g18 ()) fun y32 => some ((y32.1.1, ()), ())) (cond (y1.1.2.2.1 == 0) (cond (decide (y30.1.2.1 ≥ y1.1.2.1)) (derefK (g18 ()) fun y33 => some ((y33.1.1, ()), ())) (some ((false, ()), ()))) (some ((false, ()), ())))))) (derefK (g48 (amps_0, price_1, h_2.2.1, ())) fun y34 => cond (y34.1.2.2.1 != 0) (derefK (g18 ()) fun y35 => some ((y35.1.1, ()), ())) (cond (decide (h_2.2.1 < h_2.1)) (derefK (g18 ()) fun y36 => some ((y36.1.1, ()), ())) (cond (y1.1.2.2.1 == 0) (cond (decide (y34.1.2.1 ≥ y1.1.2.1)) (derefK (g18 ()) fun y37 => some ((y37.1.1, ()), ())) (some ((false, ()), ()))) (some ((false, ()), ())))))))) (derefK (g50 (amps_0, price_1, y1.1.1, ())) fun y38 => cond (y1.1.2.2.1 == 0) (cond (!y38.1.2.2.1) (some ((false, ()), ())) (cond (decide (y38.1.1 < h_2.1)) (some ((false, ()), ())) (cond (y38.1.2.1 != y1.1.2.1) (some ((false, ()), ())) (derefK (g50 (amps_0, price_1, h_2.2.2, ())) fun y39 => cond y39.1.2.2.1 (cond (decide (y39.1.1 ≥ h_2.1)) (cond (y1.1.2.2.1 != 0) (some ((false, ()), ())) (cond (decide (y39.1.2.1 < y1.1.2.1)) (some ((false, ()), ())) (cond (y39.1.2.1 == y1.1.2.1) (cond (decide ((h_2.2.2.length : Int) < (y1.1.1.length : Int))) (some ((false, ()), ())) (derefK (g48 (amps_0, price_1, h_2.2.1, ())) fun y40 => cond (y40.1.2.2.1 != 0) (derefK (g18 ()) fun y41 => some ((y41.1.1, ()), ())) (cond (decide (h_2.2.1 < h_2.1)) (derefK (g18 ()) fun y42 => some ((y42.1.1, ()), ())) (cond (y1.1.2.2.1 == 0) (cond (decide (y40.1.2.1 ≥ y1.1.2.1)) (derefK (g18 ()) fun y43 => some ((y43.1.1, ()), ())) (some ((false, ()), ()))) (some ((false, ()), ())))))) (derefK (g48 (amps_0, price_1, h_2.2.1, ())) fun y44 => cond (y44.1.2.2.1 != 0) (derefK (g18 ()) fun y45 => some ((y45.1.1, ()), ())) (cond (decide (h_2.2.1 < h_2.1)) (derefK (g18 ()) fun y46 => some ((y46.1.1, ()), ())) (cond (y1.1.2.2.1 == 0) (cond (decide (y44.1.2.1 ≥ y1.1.2.1)) (derefK (g18 ()) fun y47 => some ((y47.1.1, ()), ())) (some ((false, ()), ()))) (some ((false, ()), ())))))))) (derefK (g48 (amps_0, price_1, h_2.2.1, ())) fun y48 => cond (y48.1.2.2.1 != 0) (derefK (g18 ()) fun y49 => some ((y49.1.1, ()), ())) (cond (decide (h_2.2.1 < h_2.1)) (derefK (g18 ()) fun y50 => some ((y50.1.1, ()), ())) (cond (y1.1.2.2.1 == 0) (cond (decide (y48.1.2.1 ≥ y1.1.2.1)) (derefK (g18 ()) fun y51 => some ((y51.1.1, ()), ())) (some ((false, ()), ()))) (some ((false, ()), ())))))) (derefK (g48 (amps_0, price_1, h_2.2.1, ())) fun y52 => cond (y52.1.2.2.1 != 0) (derefK (g18 ()) fun y53 => some ((y53.1.1, ()), ())) (cond (decide (h_2.2.1 < h_2.1)) (derefK (g18 ()) fun y54 => some ((y54.1.1, ()), ())) (cond (y1.1.2.2.1 == 0) (cond (decide (y52.1.2.1 ≥ y1.1.2.1)) (derefK (g18 ()) fun y55 => some ((y55.1.1, ()), ())) (some ((false, ()), ()))) (some ((false, ()), ()))))))))) (derefK (g50 (amps_0, price_1, h_2.2.2, ())) fun y56 => cond y56.1.2.2.1 (cond (decide (y56.1.1 ≥ h_2.1)) (cond (y1.1.2.2.1 != 0) (some ((false, ()), ())) (cond (decide (y56.1.2.1 < y1.1.2.1)) (some ((false, ()), ())) (cond (y56.1.2.1 == y1.1.2.1) (cond (decide ((h_2.2.2.length : Int) < (y1.1.1.length : Int))) (some ((false, ()), ())) (derefK (g48 (amps_0, price_1, h_2.2.1, ())) fun y57 => cond (y57.1.2.2.1 != 0) (derefK (g18 ()) fun y58 => some ((y58.1.1, ()), ())) (cond (decide (h_2.2.1 < h_2.1)) (derefK (g18 ()) fun y59 => some ((y59.1.1, ()), ())) (cond (y1.1.2.2.1 == 0) (cond (decide (y57.1.2.1 ≥ y1.1.2.1)) (derefK (g18 ()) fun y60 => some ((y60.1.1, ()), ())) (some ((false, ()), ()))) (some ((false, ()), ())))))) (derefK (g48 (amps_0, price_1, h_2.2.1, ())) fun y61 => cond (y61.1.2.2.1 != 0) (derefK (g18 ()) fun y62 => some ((y62.1.1, ()), ())) (cond (decide (h_2.2.1 < h_2.1)) (derefK (g18 ()) fun y63 => some ((y63.1.1, ()), ())) (cond (y1.1.2.2.1 == 0) (cond (decide (y61.1.2.1 ≥ y1.1.2.1)) (derefK (g18 ()) fun y64 => some ((y64.1.1, ()), ())) (some ((false, ()), ()))) (some ((false, ()), ())))))))) (derefK (g48 (amps_0, price_1, h_2.2.1, ())) fun y65 => cond (y65.1.2.2.1 != 0) (derefK (g18 ()) fun y66 => some ((y66.1.1, ()), ())) (cond (decide (h_2.2.1 < h_2.1)) (derefK (g18 ()) fun y67 => some ((y67.1.1, ()), ())) (cond (y1.1.2.2.1 == 0) (cond (decide (y65.1.2.1 ≥ y1.1.2.1)) (derefK (g18 ()) fun y68 => some ((y68.1.1, ()), ())) (some ((false, ()), ()))) (some ((false, ()), ())))))) (derefK (g48 (amps_0, price_1, h_2.2.1, ())) fun y69 => cond (y69.1.2.2.1 != 0) (derefK (g18 ()) fun y70 => some ((y70.1.1, ()), ())) (cond (decide (h_2.2.1 < h_2.1)) (derefK (g18 ()) fun y71 => some ((y71.1.1, ()), ())) (cond (y1.1.2.2.1 == 0) (cond (decide (y69.1.2.1 ≥ y1.1.2.1)) (derefK (g18 ()) fun y72 => some ((y72.1.1, ()), ())) (some ((false, ()), ()))) (some ((false, ()), ())))))))
noncomputable def g16 (d : (List Int) × (List Int) × (Int × (Int × (List Int))) × Unit) : Option ((Bool × Unit) × (Unit)) := F16 fuel d.1 d.2.1 d.2.2.1
noncomputable def p16 : Prim := ⟨[.v (.list false 3 (.int .i64)), .v (.list false 3 (.int .i64)), .v (.str (.pair (.int .i64) (.pair (.int .i64) (.list false 3 (.int .i64)))))], [.v .bool], g16⟩
noncomputable def c16 : Cfg := ⟨124, tyT, [], [(18, p18), (48, p48), (50, p50)], [], [], [], [], [], [], []⟩
theorem F16_eq (n : Nat) (d) : absFn c16 n Try.f16 (body Try.f16) [.v (.list false 3 (.int .i64)), .v (.list false 3 (.int .i64)), .v (.str (.pair (.int .i64) (.pair (.int .i64) (.list false 3 (.int .i64)))))] [.v .bool] d = F16 n d.1 d.2.1 d.2.2.1 := by kernel_rfl
theorem d16 : drawOK c16 (body Try.f16) = true := by kernel_rfl
theorem h16 : GoodF Try.prog 16 p16 := fn_done mixed (cfg := c16) (cfg_ok tyT_ok (goodCons h18 (goodCons h48 (goodCons h50 goodNil))) rfl (by kernel_rfl)) Try.func16 rfl rfl (by kernel_rfl) rfl (noLoops (by kernel_rfl)) d16 (fun d y h => ⟨fuel, (F16_eq fuel d).trans h⟩)
-- function 71
noncomputable def B71_4 (_n : Nat) (L : ((List Int) × (List Int) × Int × Int × Unit) × ((List Int) × Unit) × Unit → Option (zTh)) (amps_0 : List Int) (phases_1 : List Int) (top_6 : Int) (i_7 : Int) (o_8 : List Int) : Option (zTh) :=
  cond (decide (i_7 < (phases_1.length : Int))) (getI phases_1 i_7 fun e1 => inR e1 o_8.length (getI o_8 e1 fun e2 => getI amps_0 i_7 fun e3 => inR e1 o_8.length (getI o_8 e1 fun _ => getI phases_1 i_7 fun e5 => inR e5 (o_8.set e1.toNat (IntKind.wrap .i64 (e2 + e3))).length (getI (o_8.set e1.toNat (IntKind.wrap .i64 (e2 + e3))) e5 fun e6 => L ((amps_0, phases_1, (max top_6 e6), (IntKind.wrap .i64 (i_7 + 1)), ()), ((o_8.set e1.toNat (IntKind.wrap .i64 (e2 + e3))), ()), ()))))) (some ((top_6, ()), (), ()))
noncomputable def L71_4 : Nat → ((List Int) × (List Int) × Int × Int × Unit) × ((List Int) × Unit) × Unit → Option (zTh)
  | 0, _ => none
  | n + 1, d => B71_4 n (L71_4 n) d.1.1 d.1.2.1 d.1.2.2.1 d.1.2.2.2.1 d.2.1.1
noncomputable def l71_4 : LoopI := ⟨⟨[(0, .v (.list false 3 (.int .i64))), (1, .v (.list false 3 (.int .i64))), (5, .c (.view 8 [])), (6, .v (.int .i64)), (7, .v (.int .i64))], [(8, true, .list true 3 (.int .i64))], none⟩, [(.exit 0, ⟨[(6, .v (.int .i64))], [], none⟩)], L71_4⟩
noncomputable def F71 (n : Nat) (amps_0 : (List Int)) (phases_1 : (List Int)) : Option ((Int × Unit) × (Unit)) :=
  leK 0 3 (leK 3 3 (lenK 3 (derefK (L71_4 n ((amps_0, phases_1, 0, 0, ()), ((List.replicate (3 : Int).toNat (0 : Int)), ()), ())) fun o7 => some ((o7.1.1, ()), ()))))
noncomputable def g71 (d : (List Int) × (List Int) × Unit) : Option ((Int × Unit) × (Unit)) := F71 fuel d.1 d.2.1
noncomputable def p71 : Prim := ⟨[.v (.list false 3 (.int .i64)), .v (.list false 3 (.int .i64))], [.v (.int .i64)], g71⟩
noncomputable def c71 : Cfg := ⟨38, tyT, [], [], [(4, l71_4)], [], [], [], [], [], []⟩
theorem F71_eq (n : Nat) (d) : absFn c71 n Try.f71 (body Try.f71) [.v (.list false 3 (.int .i64)), .v (.list false 3 (.int .i64))] [.v (.int .i64)] d = F71 n d.1 d.2.1 := by kernel_rfl
theorem L71_4_eq (n : Nat) (d) : (l71_4).g (n + 1) d = run c71 n (nth 0 (loopsOf (body Try.f71))) ((l71_4).ins.fill d) (roundK (l71_4) n) := by kernel_rfl
theorem ls71 : loopsOf (body Try.f71) = [nth 0 (loopsOf (body Try.f71))] := by kernel_rfl
theorem d71 : drawOK c71 (body Try.f71) = true := by kernel_rfl
theorem h71 : GoodF Try.prog 71 p71 := fn_done mixed (cfg := c71) (cfg_ok tyT_ok (goodNil) rfl (by kernel_rfl)) Try.func71 rfl rfl (by kernel_rfl) rfl (by rw [ls71]; simp only [List.forall_mem_cons]; exact ⟨loopHas (key := 4) (li := l71_4) (by kernel_rfl) rfl (fun _ => rfl) (L71_4_eq), fun _ h => by cases h⟩) d71 (fun d y h => ⟨fuel, (F71_eq fuel d).trans h⟩)
-- function 39
noncomputable def B39_5 (_n : Nat) (L : ((List Int) × Int × Int × Unit) × (Unit) × Unit → Option (((Int × Int × Unit) × ((List Int) × Unit) × Unit) ⊕ (((List Int) × Int × Unit) × (Unit) × Unit))) (amps_0 : List Int) (many_5 : Int) (i_6 : Int) : Option (((Int × Int × Unit) × ((List Int) × Unit) × Unit) ⊕ (((List Int) × Int × Unit) × (Unit) × Unit)) :=
  cond (decide (i_6 < (amps_0.length : Int))) (getI amps_0 i_6 fun e1 => derefK (g58 (e1, 1, 1000, ())) fun y2 => cond (!y2.1.1) (some (.inl ((0, 1, ()), (([] : List Int), ()), ()))) (L ((amps_0, (IntKind.wrap .i64 (many_5 * 3)), (IntKind.wrap .i64 (i_6 + 1)), ()), (), ()))) (some (.inr ((amps_0, many_5, ()), (), ())))
noncomputable def L39_5 : Nat → ((List Int) × Int × Int × Unit) × (Unit) × Unit → Option (((Int × Int × Unit) × ((List Int) × Unit) × Unit) ⊕ (((List Int) × Int × Unit) × (Unit) × Unit))
  | 0, _ => none
  | n + 1, d => B39_5 n (L39_5 n) d.1.1 d.1.2.1 d.1.2.2.1
noncomputable def l39_5 : LoopI := ⟨⟨[(0, .v (.list false 3 (.int .i64))), (5, .v (.int .i64)), (6, .v (.int .i64))], [], none⟩, [(.ret, ⟨[(2, .c (.view 2 [])), (3, .v (.int .i64)), (4, .v (.int .i64))], [(2, true, .list true 3 (.int .i64))], none⟩), (.exit 0, ⟨[(0, .v (.list false 3 (.int .i64))), (5, .v (.int .i64))], [], none⟩)], L39_5⟩
noncomputable def B39_17 (_n : Nat) (L : ((List Int) × Int × (List Int) × Int × Int × Int × Unit) × ((List Int) × Unit) × Unit → Option ((((List Int) × Int × (List Int) × Int × Unit) × ((List Int) × Unit) × Unit))) (amps_0 : List Int) (many_5 : Int) (best_7 : List Int) (n_8 : Int) (rest_10 : Int) (i_11 : Int) (o_36 : List Int) : Option ((((List Int) × Int × (List Int) × Int × Unit) × ((List Int) × Unit) × Unit)) :=
  cond (decide (i_11 ≥ 0)) (nzK 3 (inR i_11 o_36.length (getI o_36 i_11 fun _ => nzK 3 (L ((amps_0, many_5, best_7, n_8, (IntKind.wrap .i64 (Int.tdiv rest_10 3)), (IntKind.wrap .i64 (i_11 - 1)), ()), ((o_36.set i_11.toNat (Int.tmod rest_10 3)), ()), ()))))) (some ((amps_0, many_5, best_7, n_8, ()), (o_36, ()), ()))
noncomputable def L39_17 : Nat → ((List Int) × Int × (List Int) × Int × Int × Int × Unit) × ((List Int) × Unit) × Unit → Option ((((List Int) × Int × (List Int) × Int × Unit) × ((List Int) × Unit) × Unit))
  | 0, _ => none
  | n + 1, d => B39_17 n (L39_17 n) d.1.1 d.1.2.1 d.1.2.2.1 d.1.2.2.2.1 d.1.2.2.2.2.1 d.1.2.2.2.2.2.1 d.2.1.1
noncomputable def l39_17 : LoopI := ⟨⟨[(0, .v (.list false 3 (.int .i64))), (5, .v (.int .i64)), (7, .v (.list false 3 (.int .i64))), (8, .v (.int .i64)), (9, .c (.view 36 [])), (10, .v (.int .i64)), (11, .v (.int .i64))], [(36, true, .list true 3 (.int .i64))], none⟩, [(.exit 4, ⟨[(0, .v (.list false 3 (.int .i64))), (5, .v (.int .i64)), (7, .v (.list false 3 (.int .i64))), (8, .v (.int .i64)), (9, .c (.view 36 []))], [(36, true, .list true 3 (.int .i64))], none⟩)], L39_17⟩
noncomputable def B39_12 (n : Nat) (L : ((List Int) × Int × (List Int) × Int × Unit) × (Unit) × Unit → Option ((((List Int) × (List Int) × Unit) × (Unit) × Unit))) (amps_0 : List Int) (many_5 : Int) (best_7 : List Int) (n_8 : Int) : Option ((((List Int) × (List Int) × Unit) × (Unit) × Unit)) :=
  cond (decide (n_8 < many_5)) (leK 0 (amps_0.length : Int) (leK (amps_0.length : Int) (amps_0.length : Int) (lenK (amps_0.length : Int) (derefK (L39_17 n ((amps_0, many_5, best_7, n_8, n_8, (IntKind.wrap .i64 ((amps_0.length : Int) - 1)), ()), ((List.replicate (amps_0.length : Int).toNat (0 : Int)), ()), ())) fun o7 => cond (o7.1.2.2.2.1 == 0) (L ((o7.1.1, o7.1.2.1, o7.2.1.1, (IntKind.wrap .i64 (o7.1.2.2.2.1 + 1)), ()), (), ())) (derefK (g71 (o7.1.1, o7.2.1.1, ())) fun y8 => derefK (g71 (o7.1.1, o7.1.2.2.1, ())) fun y9 => cond (decide (y8.1.1 < y9.1.1)) (L ((o7.1.1, o7.1.2.1, o7.2.1.1, (IntKind.wrap .i64 (o7.1.2.2.2.1 + 1)), ()), (), ())) (L ((o7.1.1, o7.1.2.1, o7.1.2.2.1, (IntKind.wrap .i64 (o7.1.2.2.2.1 + 1)), ()), (), ()))))))) (some ((amps_0, best_7, ()), (), ()))
noncomputable def L39_12 : Nat → ((List Int) × Int × (List Int) × Int × Unit) × (Unit) × Unit → Option ((((List Int) × (List Int) × Unit) × (Unit) × Unit))
  | 0, _ => none
  | n + 1, d => B39_12 n (L39_12 n) d.1.1 d.1.2.1 d.1.2.2.1 d.1.2.2.2.1
noncomputable def l39_12 : LoopI := ⟨⟨[(0, .v (.list false 3 (.int .i64))), (5, .v (.int .i64)), (7, .v (.list false 3 (.int .i64))), (8, .v (.int .i64))], [], none⟩, [(.exit 2, ⟨[(0, .v (.list false 3 (.int .i64))), (7, .v (.list false 3 (.int .i64)))], [], none⟩)], L39_12⟩
noncomputable def F39 (n : Nat) (amps_0 : (List Int)) : Option (((List Int) × Int × Int × Unit) × (Unit)) :=
  cond (decide ((amps_0.length : Int) > 9)) (some ((([] : List Int), 0, 2, ()), ())) (derefK (L39_5 n ((amps_0, 1, 0, ()), (), ())) fun o3 => sumK o3 (fun d4 => some ((d4.2.1.1, d4.1.1, d4.1.2.1, ()), ())) (fun d5 => derefK (L39_12 n ((d5.1.1, d5.1.2.1, [], 0, ()), (), ())) fun o10 => derefK (g71 (o10.1.1, o10.1.2.1, ())) fun y11 => some ((o10.1.2.1, y11.1.1, 0, ()), ())))
noncomputable def g39 (d : (List Int) × Unit) : Option (((List Int) × Int × Int × Unit) × (Unit)) := F39 fuel d.1
noncomputable def p39 : Prim := ⟨[.v (.list false 3 (.int .i64))], [.v (.list false 3 (.int .i64)), .v (.int .i64), .v (.int .i64)], g39⟩
noncomputable def c39 : Cfg := ⟨68, tyT, [(7, .list false 3 (.int .i64))], [(58, p58), (71, p71)], [(5, l39_5), (17, l39_17), (12, l39_12)], [], [], [], [], [], []⟩
theorem F39_eq (n : Nat) (d) : absFn c39 n Try.f39 (body Try.f39) [.v (.list false 3 (.int .i64))] [.v (.list false 3 (.int .i64)), .v (.int .i64), .v (.int .i64)] d = F39 n d.1 := by kernel_rfl
theorem L39_5_eq (n : Nat) (d) : (l39_5).g (n + 1) d = run c39 n (nth 0 (loopsOf (body Try.f39))) ((l39_5).ins.fill d) (roundK (l39_5) n) := by kernel_rfl
theorem L39_12_eq (n : Nat) (d) : (l39_12).g (n + 1) d = run c39 n (nth 1 (loopsOf (body Try.f39))) ((l39_12).ins.fill d) (roundK (l39_12) n) := by kernel_rfl
theorem L39_17_eq (n : Nat) (d) : (l39_17).g (n + 1) d = run c39 n (nth 2 (loopsOf (body Try.f39))) ((l39_17).ins.fill d) (roundK (l39_17) n) := by kernel_rfl
theorem ls39 : loopsOf (body Try.f39) = [nth 0 (loopsOf (body Try.f39)), nth 1 (loopsOf (body Try.f39)), nth 2 (loopsOf (body Try.f39))] := by kernel_rfl
theorem d39 : drawOK c39 (body Try.f39) = true := by kernel_rfl
theorem h39 : GoodF Try.prog 39 p39 := fn_done mixed (cfg := c39) (cfg_ok tyT_ok (goodCons h58 (goodCons h71 goodNil)) rfl (by kernel_rfl)) Try.func39 rfl rfl (by kernel_rfl) rfl (by rw [ls39]; simp only [List.forall_mem_cons]; exact ⟨loopHas (key := 5) (li := l39_5) (by kernel_rfl) rfl (fun _ => rfl) (L39_5_eq), loopHas (key := 12) (li := l39_12) (by kernel_rfl) rfl (fun _ => rfl) (L39_12_eq), loopHas (key := 17) (li := l39_17) (by kernel_rfl) rfl (fun _ => rfl) (L39_17_eq), fun _ h => by cases h⟩) d39 (fun d y h => ⟨fuel, (F39_eq fuel d).trans h⟩)
-- function 40
noncomputable def B40_6 (_n : Nat) (L : ((List Int) × (List Int) × Int × Int × Int × Int × Unit) × ((List Int) × Unit) × Unit → Option (((Int × Int × Int × Bool × Unit) × (Unit) × Unit) ⊕ ((Int × Int × Int × Unit) × (Unit) × Unit))) (amps_0 : List Int) (phases_1 : List Int) (top_9 : Int) (all_10 : Int) (great_11 : Int) (i_12 : Int) (o_13 : List Int) : Option (((Int × Int × Int × Bool × Unit) × (Unit) × Unit) ⊕ ((Int × Int × Int × Unit) × (Unit) × Unit)) :=
  cond (decide (i_12 < (amps_0.length : Int))) (getI phases_1 i_12 fun e1 => cond (decide (e1 < 0)) (some (.inl ((0, 0, 0, false, ()), (), ()))) (getI phases_1 i_12 fun e2 => cond (decide (e2 > 2)) (some (.inl ((0, 0, 0, false, ()), (), ()))) (getI phases_1 i_12 fun e3 => inR e3 o_13.length (getI o_13 e3 fun e4 => getI amps_0 i_12 fun e5 => inR e3 o_13.length (getI o_13 e3 fun _ => getI phases_1 i_12 fun e7 => inR e7 (o_13.set e3.toNat (IntKind.wrap .i64 (e4 + e5))).length (getI (o_13.set e3.toNat (IntKind.wrap .i64 (e4 + e5))) e7 fun e8 => getI amps_0 i_12 fun e9 => getI amps_0 i_12 fun e10 => L ((amps_0, phases_1, (max top_9 e8), (IntKind.wrap .i64 (all_10 + e9)), (max great_11 e10), (IntKind.wrap .i64 (i_12 + 1)), ()), ((o_13.set e3.toNat (IntKind.wrap .i64 (e4 + e5))), ()), ()))))))) (some (.inr ((top_9, all_10, great_11, ()), (), ())))
noncomputable def L40_6 : Nat → ((List Int) × (List Int) × Int × Int × Int × Int × Unit) × ((List Int) × Unit) × Unit → Option (((Int × Int × Int × Bool × Unit) × (Unit) × Unit) ⊕ ((Int × Int × Int × Unit) × (Unit) × Unit))
  | 0, _ => none
  | n + 1, d => B40_6 n (L40_6 n) d.1.1 d.1.2.1 d.1.2.2.1 d.1.2.2.2.1 d.1.2.2.2.2.1 d.1.2.2.2.2.2.1 d.2.1.1
noncomputable def l40_6 : LoopI := ⟨⟨[(0, .v (.list false 3 (.int .i64))), (1, .v (.list false 3 (.int .i64))), (8, .c (.view 13 [])), (9, .v (.int .i64)), (10, .v (.int .i64)), (11, .v (.int .i64)), (12, .v (.int .i64))], [(13, true, .list true 3 (.int .i64))], none⟩, [(.ret, ⟨[(4, .v (.int .i64)), (5, .v (.int .i64)), (6, .v (.int .i64)), (7, .v .bool)], [], none⟩), (.exit 0, ⟨[(9, .v (.int .i64)), (10, .v (.int .i64)), (11, .v (.int .i64))], [], none⟩)], L40_6⟩
noncomputable def F40 (n : Nat) (amps_0 : (List Int)) (phases_1 : (List Int)) : Option ((Int × Int × Int × Bool × Unit) × (Unit)) :=
  leK 0 3 (leK 3 3 (lenK 3 (cond ((phases_1.length : Int) != (amps_0.length : Int)) (some ((0, 0, 0, false, ()), ())) (derefK (L40_6 n ((amps_0, phases_1, 0, 0, 0, 0, ()), ((List.replicate (3 : Int).toNat (0 : Int)), ()), ())) fun o11 => sumK o11 (fun d12 => some ((d12.1.1, d12.1.2.1, d12.1.2.2.1, d12.1.2.2.2.1, ()), ())) (fun d13 => some ((d13.1.1, d13.1.2.1, d13.1.2.2.1, true, ()), ()))))))
noncomputable def g40 (d : (List Int) × (List Int) × Unit) : Option ((Int × Int × Int × Bool × Unit) × (Unit)) := F40 fuel d.1 d.2.1
noncomputable def p40 : Prim := ⟨[.v (.list false 3 (.int .i64)), .v (.list false 3 (.int .i64))], [.v (.int .i64), .v (.int .i64), .v (.int .i64), .v .bool], g40⟩
noncomputable def c40 : Cfg := ⟨74, tyT, [], [], [(6, l40_6)], [], [], [], [], [], []⟩
theorem F40_eq (n : Nat) (d) : absFn c40 n Try.f40 (body Try.f40) [.v (.list false 3 (.int .i64)), .v (.list false 3 (.int .i64))] [.v (.int .i64), .v (.int .i64), .v (.int .i64), .v .bool] d = F40 n d.1 d.2.1 := by kernel_rfl
theorem L40_6_eq (n : Nat) (d) : (l40_6).g (n + 1) d = run c40 n (nth 0 (loopsOf (body Try.f40))) ((l40_6).ins.fill d) (roundK (l40_6) n) := by kernel_rfl
theorem ls40 : loopsOf (body Try.f40) = [nth 0 (loopsOf (body Try.f40))] := by kernel_rfl
theorem d40 : drawOK c40 (body Try.f40) = true := by kernel_rfl
theorem h40 : GoodF Try.prog 40 p40 := fn_done mixed (cfg := c40) (cfg_ok tyT_ok (goodNil) rfl (by kernel_rfl)) Try.func40 rfl rfl (by kernel_rfl) rfl (by rw [ls40]; simp only [List.forall_mem_cons]; exact ⟨loopHas (key := 6) (li := l40_6) (by kernel_rfl) rfl (fun _ => rfl) (L40_6_eq), fun _ h => by cases h⟩) d40 (fun d y h => ⟨fuel, (F40_eq fuel d).trans h⟩)
-- function 68
noncomputable def F68 (_n : Nat) (n_0 : Int) : Option ((Bool × Unit) × (Unit)) :=
  derefK (g62 (n_0, 1, 1000, ())) fun y1 => some (((!y1.1.1), ()), ())
noncomputable def g68 (d : Int × Unit) : Option ((Bool × Unit) × (Unit)) := F68 fuel d.1
noncomputable def p68 : Prim := ⟨[.v (.int .i64)], [.v .bool], g68⟩
noncomputable def c68 : Cfg := ⟨6, tyT, [], [(62, p62)], [], [], [], [], [], [], []⟩
theorem F68_eq (n : Nat) (d) : absFn c68 n Try.f68 (body Try.f68) [.v (.int .i64)] [.v .bool] d = F68 n d.1 := by kernel_rfl
theorem d68 : drawOK c68 (body Try.f68) = true := by kernel_rfl
theorem h68 : GoodF Try.prog 68 p68 := fn_done mixed (cfg := c68) (cfg_ok tyT_ok (goodCons h62 goodNil) rfl (by kernel_rfl)) Try.func68 rfl rfl (by kernel_rfl) rfl (noLoops (by kernel_rfl)) d68 (fun d y h => ⟨fuel, (F68_eq fuel d).trans h⟩)
-- function 94
noncomputable def F94 (rec : zTb × ((List Bool) × ((List Bool) × (List Int))) × Int × Unit → Option ((Bool × Unit) × (Unit))) (_n : Nat) (s_0 : zTb) (n_1 : ((List Bool) × ((List Bool) × (List Int)))) (board_2 : Int) : Option ((Bool × Unit) × (Unit)) :=
  cond (decide (board_2 < 0)) (getI n_1.2.1 (s_0.1.length : Int) fun e1 => some ((e1, ()), ())) (getI n_1.2.1 board_2 fun e2 => cond e2 (getI s_0.1 board_2 fun e3 => derefK (rec (s_0, n_1, e3.1, ())) fun y4 => some ((y4.1.1, ()), ())) (some ((false, ()), ())))
noncomputable def G94 : Nat → zTb × ((List Bool) × ((List Bool) × (List Int))) × Int × Unit → Option ((Bool × Unit) × (Unit))
  | 0, _ => none
  | m + 1, d => F94 (G94 m) fuel d.1 d.2.1 d.2.2.1
noncomputable def g94 : zTb × ((List Bool) × ((List Bool) × (List Int))) × Int × Unit → Option ((Bool × Unit) × (Unit)) := G94 fuel
noncomputable def p94 : Prim := ⟨[.v (.str zTa), .v (.str (.pair (.list false 4 .bool) zTi)), .v (.int .i64)], [.v .bool], g94⟩
noncomputable def c94 (rec : zTb × ((List Bool) × ((List Bool) × (List Int))) × Int × Unit → Option ((Bool × Unit) × (Unit))) : Cfg := ⟨32, tyT, [], [(94, ⟨[.v (.str zTa), .v (.str (.pair (.list false 4 .bool) zTi)), .v (.int .i64)], [.v .bool], rec⟩)], [], [], [], [], [], [], []⟩
theorem F94_eq (rec : zTb × ((List Bool) × ((List Bool) × (List Int))) × Int × Unit → Option ((Bool × Unit) × (Unit))) (n : Nat) (d) : absFn (c94 rec) n Try.f94 (body Try.f94) [.v (.str zTa), .v (.str (.pair (.list false 4 .bool) zTi)), .v (.int .i64)] [.v .bool] d = F94 rec n d.1 d.2.1 d.2.2.1 := by kernel_rfl
theorem d94 (rec : zTb × ((List Bool) × ((List Bool) × (List Int))) × Int × Unit → Option ((Bool × Unit) × (Unit))) : drawOK (c94 rec) (body Try.f94) = true := by kernel_rfl
theorem hm94 : ∀ m, GoodF Try.prog 94 ⟨[.v (.str zTa), .v (.str (.pair (.list false 4 .bool) zTi)), .v (.int .i64)], [.v .bool], G94 m⟩
  | 0 => ⟨callable_of Try.func94 rfl (by kernel_rfl), fun d y h => by cases h⟩
  | m + 1 => by
    have ih := hm94 m
    exact fn_done mixed (cfg := c94 (G94 m)) (cfg_ok tyT_ok (goodCons ih goodNil) rfl (by kernel_rfl)) Try.func94 rfl rfl (by kernel_rfl) rfl (noLoops (by kernel_rfl)) (d94 (G94 m)) (fun d y h => ⟨fuel, (F94_eq (G94 m) fuel d).trans h⟩)
theorem h94 : GoodF Try.prog 94 p94 := hm94 fuel
-- function 95
noncomputable def B95_0 (_n : Nat) (L : ((Int → Option Bool) × zTb × Unit) × (Int × Unit) × Unit → Option (((Unit) × (Int × Unit) × Unit) ⊕ (((Int → Option Bool) × Unit) × (Int × Unit) × Unit))) (yield_0 : Int → Option Bool) (t_2 : zTd × (zTd × (Int × (Int × Int)))) (o_1p : Int) : Option (((Unit) × (Int × Unit) × Unit) ⊕ (((Int → Option Bool) × Unit) × (Int × Unit) × Unit)) :=
  cond (decide (o_1p ≥ 0)) (derefK (yield_0 o_1p) fun y1 => cond (!y1) (some (.inl ((), (o_1p, ()), ()))) (getI t_2.1 o_1p fun e2 => L ((yield_0, t_2, ()), (e2.1, ()), ()))) (some (.inr ((yield_0, ()), (o_1p, ()), ())))
noncomputable def L95_0 : Nat → ((Int → Option Bool) × zTb × Unit) × (Int × Unit) × Unit → Option (((Unit) × (Int × Unit) × Unit) ⊕ (((Int → Option Bool) × Unit) × (Int × Unit) × Unit))
  | 0, _ => none
  | n + 1, d => B95_0 n (L95_0 n) d.1.1 d.1.2.1 d.2.1.1
noncomputable def l95_0 : LoopI := ⟨⟨[(0, .v (.fn (.int .i64) .bool)), (1, .c (.ptr 10000001 [])), (2, .r (.str zTa))], [(10000001, false, .int .i64)], none⟩, [(.ret, ⟨[], [(10000001, false, .int .i64)], none⟩), (.exit 0, ⟨[(0, .v (.fn (.int .i64) .bool))], [(10000001, false, .int .i64)], none⟩)], L95_0⟩
noncomputable def F95 (n : Nat) (yield_0 : (Int → Option Bool)) (t_1 : Int) (t_2 : zTb) : Option ((Unit) × (Int × Unit)) :=
  derefK (L95_0 n ((yield_0, t_2, ()), (t_1, ()), ())) fun o3 => sumK o3 (fun d4 => some ((), (d4.2.1.1, ()))) (fun d5 => derefK (d5.1.1 (-1)) fun _ => some ((), (d5.2.1.1, ())))
noncomputable def g95 (d : (Int → Option Bool) × Int × zTb × Unit) : Option ((Unit) × (Int × Unit)) := F95 fuel d.1 d.2.1 d.2.2.1
noncomputable def p95 : Prim := ⟨[.v (.fn (.int .i64) .bool), .m (.int .i64), .r (.str zTa)], [], g95⟩
noncomputable def c95 : Cfg := ⟨18, tyT, [], [], [(0, l95_0)], [], [], [], [], [], []⟩
theorem F95_eq (n : Nat) (d) : absFn c95 n Try.f95 (body Try.f95) [.v (.fn (.int .i64) .bool), .m (.int .i64), .r (.str zTa)] [] d = F95 n d.1 d.2.1 d.2.2.1 := by kernel_rfl
theorem L95_0_eq (n : Nat) (d) : (l95_0).g (n + 1) d = run c95 n (nth 0 (loopsOf (body Try.f95))) ((l95_0).ins.fill d) (roundK (l95_0) n) := by kernel_rfl
theorem ls95 : loopsOf (body Try.f95) = [nth 0 (loopsOf (body Try.f95))] := by kernel_rfl
theorem d95 : drawOK c95 (body Try.f95) = true := by kernel_rfl
theorem h95 : GoodF Try.prog 95 p95 := fn_done mixed (cfg := c95) (cfg_ok tyT_ok (goodNil) rfl (by kernel_rfl)) Try.func95 rfl rfl (by kernel_rfl) rfl (by rw [ls95]; simp only [List.forall_mem_cons]; exact ⟨loopHas (key := 0) (li := l95_0) (by kernel_rfl) rfl (fun _ => rfl) (L95_0_eq), fun _ h => by cases h⟩) d95 (fun d y h => ⟨fuel, (F95_eq fuel d).trans h⟩)
-- function 103
noncomputable def F103 (_n : Nat) (x_0 : Int) (y_1 : Int) : Option ((Int × Int × Unit) × (Unit)) :=
  bindV (IntKind.wrap .u64 ((IntKind.wrap .u64 x_0) * (IntKind.wrap .u64 y_1))) fun z1 => negK 32 (some (((IntKind.wrap .u32 (shrI .u64 z1 32)), (IntKind.wrap .u32 z1), ()), ()))
noncomputable def g103 (d : Int × Int × Unit) : Option ((Int × Int × Unit) × (Unit)) := F103 fuel d.1 d.2.1
noncomputable def p103 : Prim := ⟨[.v (.int .u32), .v (.int .u32)], [.v (.int .u32), .v (.int .u32)], g103⟩
noncomputable def c103 : Cfg := ⟨17, tyT, [], [], [], [], [], [], [], [], []⟩
theorem F103_eq (n : Nat) (d) : absFn c103 n Try.f103 (body Try.f103) [.v (.int .u32), .v (.int .u32)] [.v (.int .u32), .v (.int .u32)] d = F103 n d.1 d.2.1 := by kernel_rfl
theorem d103 : drawOK c103 (body Try.f103) = true := by kernel_rfl
theorem h103 : GoodF Try.prog 103 p103 := fn_done mixed (cfg := c103) (cfg_ok tyT_ok (goodNil) rfl (by kernel_rfl)) Try.func103 rfl rfl (by kernel_rfl) rfl (noLoops (by kernel_rfl)) d103 (fun d y h => ⟨fuel, (F103_eq fuel d).trans h⟩)
end Go.Proofs.Try.V
