/- The contracts of functions of the program, printed by program from the interpreter: each says what a call returns. No condition beyond those typed in each theorem. -/
import Derived.Test.YtlhapfgcnfooeaaFn2
namespace Go.Proofs.Try.V
open Go.Vi
set_option maxRecDepth 100000
-- function 27
noncomputable def B27_6 (_n : Nat) (L : ((List zTg) × (Int × zTe) × Int × Unit) × ((Int × zTe) × Unit) × Unit → Option ((((List zTg) × (Int × zTe) × Unit) × ((Int × zTe) × Unit) × Unit))) (l_1 : List zTg) (f_2 : Int × zTe) (i_8 : Int) (o_7 : Int × zTe) : Option ((((List zTg) × (Int × zTe) × Unit) × ((Int × zTe) × Unit) × Unit)) :=
  cond (decide (i_8 < (o_7.2.2.2.1.length : Int))) (inR i_8 o_7.2.2.2.1.length (getI o_7.2.2.2.1 i_8 fun _ => bindV (o_7.1, (o_7.2.1, (o_7.2.2.1, ((o_7.2.2.2.1.set i_8.toNat 1000000), o_7.2.2.2.2)))) fun z4 => L ((l_1, f_2, (IntKind.wrap .i64 (i_8 + 1)), ()), (z4, ()), ()))) (some ((l_1, f_2, ()), (o_7, ()), ()))
noncomputable def L27_6 : Nat → ((List zTg) × (Int × zTe) × Int × Unit) × ((Int × zTe) × Unit) × Unit → Option ((((List zTg) × (Int × zTe) × Unit) × ((Int × zTe) × Unit) × Unit))
  | 0, _ => none
  | n + 1, d => B27_6 n (L27_6 n) d.1.1 d.1.2.1 d.1.2.2.1 d.2.1.1
noncomputable def l27_6 : LoopI := ⟨⟨[(1, .v (.list false 52 (.str zTd))), (2, .r (.str zTa)), (7, .c (.ptr 7 [])), (8, .v (.int .i64))], [(7, false, .str (.pair (.int .i64) (.pair (.int .i64) (.pair (.list false 3 (.int .i64)) (.pair (.list true 3 (.int .i64)) (.pair zTi (.pair (.int .i64) zTk)))))))], none⟩, [(.exit 0, ⟨[(1, .v (.list false 52 (.str zTd))), (2, .r (.str zTa)), (7, .c (.ptr 7 []))], [(7, false, .str (.pair (.int .i64) (.pair (.int .i64) (.pair (.list false 3 (.int .i64)) (.pair (.list true 3 (.int .i64)) (.pair zTi (.pair (.int .i64) zTk)))))))], none⟩)], L27_6⟩
noncomputable def B27_18 (_n : Nat) (L : ((List zTg) × (Int × zTe) × Int × Int × Unit) × (zTh × (List Int) × Unit) × Unit → Option ((((List zTg) × (Int × zTe) × Int × Unit) × ((List Int) × Unit) × Unit))) (l_1 : List zTg) (rich_7 : Int × zTe) (n_12 : Int) (i_14 : Int) (o_13 : (List Int) × ((List Int) × ((List (Int × Int)) × ((List Int) × Int)))) (o_47 : List Int) : Option ((((List zTg) × (Int × zTe) × Int × Unit) × ((List Int) × Unit) × Unit)) :=
  cond (decide (i_14 < (o_47.length : Int))) (inR i_14 o_47.length (getI o_47 i_14 fun e8 => getI o_13.2.1 i_14 fun e9 => inR i_14 o_47.length (getI o_47 i_14 fun _ => L ((l_1, rich_7, n_12, (IntKind.wrap .i64 (i_14 + 1)), ()), (o_13, (o_47.set i_14.toNat (max e8 (IntKind.wrap .i64 (1000000 - e9)))), ()), ())))) (some ((l_1, rich_7, n_12, ()), (o_47, ()), ()))
noncomputable def L27_18 : Nat → ((List zTg) × (Int × zTe) × Int × Int × Unit) × (zTh × (List Int) × Unit) × Unit → Option ((((List zTg) × (Int × zTe) × Int × Unit) × ((List Int) × Unit) × Unit))
  | 0, _ => none
  | n + 1, d => B27_18 n (L27_18 n) d.1.1 d.1.2.1 d.1.2.2.1 d.1.2.2.2.1 d.2.1.1 d.2.1.2.1
noncomputable def l27_18 : LoopI := ⟨⟨[(1, .v (.list false 52 (.str zTd))), (7, .r (.str zTa)), (11, .c (.view 47 [])), (12, .v (.int .i64)), (13, .c (.ptr 13 [])), (14, .v (.int .i64))], [(13, false, .str zTc), (47, true, .list true 3 (.int .i64))], none⟩, [(.exit 4, ⟨[(1, .v (.list false 52 (.str zTd))), (7, .r (.str zTa)), (11, .c (.view 47 [])), (12, .v (.int .i64))], [(47, true, .list true 3 (.int .i64))], none⟩)], L27_18⟩
noncomputable def B27_14 (n : Nat) (L : ((List zTg) × (Int × zTe) × Int × Unit) × ((List Int) × Unit) × Unit → Option (((Unit) × ((List Int) × Unit) × Unit))) (l_1 : List zTg) (rich_7 : Int × zTe) (n_12 : Int) (o_47 : List Int) : Option (((Unit) × ((List Int) × Unit) × Unit)) :=
  cond (decide (n_12 ≤ (l_1.length : Int))) (enumK (fun (y7 : (zTh × Unit) × (Unit)) => derefK (L27_18 n ((l_1, rich_7, n_12, 0, ()), (y7.1.1, o_47, ()), ())) fun o11 => L ((o11.1.1, o11.1.2.1, (IntKind.wrap .i64 (o11.1.2.2.1 + 1)), ()), (o11.2.1.1, ()), ())) fun E => leK 0 n_12 (leK n_12 (l_1.length : Int) (agreeK [derefK (g56 (rich_7, (l_1.take n_12.toNat), ())) fun y7 => E y7, derefK (g56 (rich_7, (l_1.take n_12.toNat), ())) fun y12 => E y12]))) (some ((), (o_47, ()), ()))
noncomputable def L27_14 : Nat → ((List zTg) × (Int × zTe) × Int × Unit) × ((List Int) × Unit) × Unit → Option (((Unit) × ((List Int) × Unit) × Unit))
  | 0, _ => none
  | n + 1, d => B27_14 n (L27_14 n) d.1.1 d.1.2.1 d.1.2.2.1 d.2.1.1
noncomputable def l27_14 : LoopI := ⟨⟨[(1, .v (.list false 52 (.str zTd))), (7, .r (.str zTa)), (11, .c (.view 47 [])), (12, .v (.int .i64))], [(47, true, .list true 3 (.int .i64))], none⟩, [(.exit 2, ⟨[(11, .c (.view 47 []))], [(47, true, .list true 3 (.int .i64))], none⟩)], L27_14⟩
noncomputable def F27 (n : Nat) (f_0 : (Int × zTe)) (l_1 : (List zTg)) : Option (((List Int) × Int × Unit) × (Unit)) :=
  derefK (g19 (f_0, ())) fun y1 => cond (y1.1.1 != 0) (some ((([] : List Int), y1.1.1, ()), ())) (derefK (g10029 (f_0, f_0.2.2.2.1, ())) fun y2 => derefK (L27_6 n ((l_1, f_0, 0, ()), (y2.1.1, ()), ())) fun o5 => derefK (g34 (o5.2.1.1, o5.1.1, ())) fun y6 => cond (y6.1.2.1 != 0) (some ((([] : List Int), y6.1.2.1, ()), ())) (leK 0 (o5.1.2.1.2.2.2.1.length : Int) (leK (o5.1.2.1.2.2.2.1.length : Int) (o5.1.2.1.2.2.2.1.length : Int) (lenK (o5.1.2.1.2.2.2.1.length : Int) (derefK (L27_14 n ((o5.1.1, o5.2.1.1, 0, ()), ((List.replicate (o5.1.2.1.2.2.2.1.length : Int).toNat (0 : Int)), ()), ())) fun o13 => some ((o13.2.1.1, 0, ()), ()))))))
noncomputable def g27 (d : (Int × zTe) × (List zTg) × Unit) : Option (((List Int) × Int × Unit) × (Unit)) := F27 fuel d.1 d.2.1
noncomputable def p27 : Prim := ⟨[.v (.str zTa), .v (.list false 52 (.str zTd))], [.own 3 (.int .i64), .v (.int .i64)], g27⟩
noncomputable def c27 : Cfg := ⟨80, tyT, [(2, .str zTa), (7, .str (.pair (.int .i64) (.pair (.int .i64) (.pair (.list false 3 (.int .i64)) (.pair (.list true 3 (.int .i64)) (.pair zTi (.pair (.int .i64) zTk)))))))], [(19, p19), (34, p34), (56, p56), (29, p10029)], [(6, l27_6), (18, l27_18), (14, l27_14)], [], [8000036, 16], [], [], [], [], [], [], []⟩
theorem F27_eq (n : Nat) (d) : absFn c27 n Try.f27 (body Try.f27) [.v (.str zTa), .v (.list false 52 (.str zTd))] [.own 3 (.int .i64), .v (.int .i64)] d = F27 n d.1 d.2.1 := by kernel_rfl
theorem L27_6_eq (n : Nat) (d) : (l27_6).g (n + 1) d = run c27 n (nth 0 (loopsOf (body Try.f27))) ((l27_6).ins.fill d) (roundK (l27_6) n) := by kernel_rfl
theorem L27_14_eq (n : Nat) (d) : (l27_14).g (n + 1) d = run c27 n (nth 1 (loopsOf (body Try.f27))) ((l27_14).ins.fill d) (roundK (l27_14) n) := by kernel_rfl
theorem L27_18_eq (n : Nat) (d) : (l27_18).g (n + 1) d = run c27 n (nth 2 (loopsOf (body Try.f27))) ((l27_18).ins.fill d) (roundK (l27_18) n) := by kernel_rfl
theorem ls27 : loopsOf (body Try.f27) = [nth 0 (loopsOf (body Try.f27)), nth 1 (loopsOf (body Try.f27)), nth 2 (loopsOf (body Try.f27))] := by kernel_rfl
theorem d27 : drawOK c27 (body Try.f27) = true := by kernel_rfl
theorem h27 : GoodF Try.prog 27 p27 := fn_done mixed (cfg := c27) (cfg_ok tyT_ok (goodCons h19 (goodCons h34 (goodCons h56 (goodCons h10029 goodNil)))) rfl (by kernel_rfl)) Try.func27 rfl rfl (by kernel_rfl) rfl (by rw [ls27]; simp only [List.forall_mem_cons]; exact ⟨loopHas (key := 6) (li := l27_6) (by kernel_rfl) rfl (fun _ => rfl) (L27_6_eq), loopHas (key := 14) (li := l27_14) (by kernel_rfl) rfl (fun _ => rfl) (L27_14_eq), loopHas (key := 18) (li := l27_18) (by kernel_rfl) rfl (fun _ => rfl) (L27_18_eq), fun _ h => by cases h⟩) d27 (fun d y h => ⟨fuel, (F27_eq fuel d).trans h⟩)
-- function 28
noncomputable def F28 (_n : Nat) (f_0 : (Int × zTe)) (l_1 : (List zTg)) : Option ((Int × Int × Unit) × (Unit)) :=
  derefK (g52 (f_0, l_1, (), ())) fun y1 => some ((y1.1.2.1, y1.1.2.2.1, ()), ())
noncomputable def g28 (d : (Int × zTe) × (List zTg) × Unit) : Option ((Int × Int × Unit) × (Unit)) := F28 fuel d.1 d.2.1
noncomputable def p28 : Prim := ⟨[.v (.str zTa), .v (.list false 52 (.str zTd))], [.v (.int .i64), .v (.int .i64)], g28⟩
noncomputable def c28 : Cfg := ⟨15, tyT, [], [(52, p52)], [], [], [], [], [], [], [], [], [], []⟩
theorem F28_eq (n : Nat) (d) : absFn c28 n Try.f28 (body Try.f28) [.v (.str zTa), .v (.list false 52 (.str zTd))] [.v (.int .i64), .v (.int .i64)] d = F28 n d.1 d.2.1 := by kernel_rfl
theorem d28 : drawOK c28 (body Try.f28) = true := by kernel_rfl
theorem h28 : GoodF Try.prog 28 p28 := fn_done mixed (cfg := c28) (cfg_ok tyT_ok (goodCons h52 goodNil) rfl (by kernel_rfl)) Try.func28 rfl rfl (by kernel_rfl) rfl (noLoops (by kernel_rfl)) d28 (fun d y h => ⟨fuel, (F28_eq fuel d).trans h⟩)
-- function 29
noncomputable def F29 (_n : Nat) (f_0 : (Int × zTe)) (cash_1 : (List Int)) : Option (((Int × zTe) × Unit) × (Unit)) :=
  lenK (cash_1.length : Int) (some (((f_0.1, (f_0.2.1, (f_0.2.2.1, (cash_1, f_0.2.2.2.2)))), ()), ()))
noncomputable def g29 (d : (Int × zTe) × (List Int) × Unit) : Option (((Int × zTe) × Unit) × (Unit)) := F29 fuel d.1 d.2.1
noncomputable def p29 : Prim := ⟨[.v (.str zTa), .v (.list false 3 (.int .i64))], [.v (.str zTa)], g29⟩
noncomputable def c29 : Cfg := ⟨9, tyT, [], [], [], [], [], [], [], [], [], [], [], []⟩
theorem F29_eq (n : Nat) (d) : absFn c29 n Try.f29 (body Try.f29) [.v (.str zTa), .v (.list false 3 (.int .i64))] [.v (.str zTa)] d = F29 n d.1 d.2.1 := by kernel_rfl
theorem d29 : drawOK c29 (body Try.f29) = true := by kernel_rfl
theorem h29 : GoodF Try.prog 29 p29 := fn_done mixed (cfg := c29) (cfg_ok tyT_ok (goodNil) rfl (by kernel_rfl)) Try.func29 rfl rfl (by kernel_rfl) rfl (noLoops (by kernel_rfl)) d29 (fun d y h => ⟨fuel, (F29_eq fuel d).trans h⟩)
-- function 8
noncomputable def B8_13 (_n : Nat) (L : ((List zTg) × (List Int) × Int × Unit) × ((Int × zTe) × Unit) × Unit → Option (((Bool × Unit) × (Unit) × Unit) ⊕ ((Unit) × (Unit) × Unit))) (l_1 : List zTg) (x_5 : List Int) (i_11 : Int) (o_2 : Int × zTe) : Option (((Bool × Unit) × (Unit) × Unit) ⊕ ((Unit) × (Unit) × Unit)) :=
  cond (decide (i_11 < (x_5.length : Int))) (getI x_5 i_11 fun e9 => cond (e9 == 0) (L ((l_1, x_5, (IntKind.wrap .i64 (i_11 + 1)), ()), (o_2, ()), ())) (lenK (x_5.length : Int) (inR i_11 x_5.length (getI x_5 i_11 fun e10 => inR i_11 x_5.length (getI x_5 i_11 fun _ => derefK (g29 (o_2, (x_5.set i_11.toNat (IntKind.wrap .i64 (e10 - 1))), ())) fun y12 => derefK (g28 (y12.1.1, l_1, ())) fun y13 => cond (y13.1.2.1 != 11) (some (.inl ((false, ()), (), ()))) (L ((l_1, x_5, (IntKind.wrap .i64 (i_11 + 1)), ()), (o_2, ()), ()))))))) (some (.inr ((), (), ())))
noncomputable def L8_13 : Nat → ((List zTg) × (List Int) × Int × Unit) × ((Int × zTe) × Unit) × Unit → Option (((Bool × Unit) × (Unit) × Unit) ⊕ ((Unit) × (Unit) × Unit))
  | 0, _ => none
  | n + 1, d => B8_13 n (L8_13 n) d.1.1 d.1.2.1 d.1.2.2.1 d.2.1.1
noncomputable def l8_13 : LoopI := ⟨⟨[(1, .v (.list false 52 (.str zTd))), (2, .c (.ptr 2 [])), (5, .v (.list false 3 (.int .i64))), (11, .v (.int .i64))], [(2, false, .str zTa)], none⟩, [(.ret, ⟨[(4, .v .bool)], [], none⟩), (.exit 0, ⟨[], [], none⟩)], L8_13⟩
noncomputable def F8 (n : Nat) (f_0 : (Int × zTe)) (l_1 : (List zTg)) : Option ((Bool × Unit) × (Unit)) :=
  derefK (g21 (l_1, ())) fun y1 => cond y1.1.1 (derefK (g17 ()) fun y2 => some ((y2.1.1, ()), ())) (derefK (g26 (f_0, l_1, ())) fun y3 => derefK (g27 (f_0, l_1, ())) fun y4 => cond (y3.1.2.1 != y4.1.2.1) (some ((false, ()), ())) (derefK (g16 (y3.1.1, y4.1.1, ())) fun y5 => cond (!y5.1.1) (some ((false, ()), ())) (cond (y4.1.2.1 != 0) (derefK (g17 ()) fun y6 => some ((y6.1.1, ()), ())) (derefK (g29 (f_0, y3.1.1, ())) fun y7 => derefK (g28 (y7.1.1, l_1, ())) fun y8 => cond (y8.1.2.1 != 0) (some ((false, ()), ())) (derefK (L8_13 n ((l_1, y3.1.1, 0, ()), (f_0, ()), ())) fun o14 => sumK o14 (fun d15 => some ((d15.1.1, ()), ())) (fun _ => derefK (g17 ()) fun y17 => some ((y17.1.1, ()), ())))))))
noncomputable def g8 (d : (Int × zTe) × (List zTg) × Unit) : Option ((Bool × Unit) × (Unit)) := F8 fuel d.1 d.2.1
noncomputable def p8 : Prim := ⟨[.v (.str zTa), .v (.list false 52 (.str zTd))], [.v .bool], g8⟩
noncomputable def c8 : Cfg := ⟨82, tyT, [], [(16, p16), (17, p17), (21, p21), (26, p26), (27, p27), (28, p28), (29, p29)], [(13, l8_13)], [], [], [], [], [], [], [], [], []⟩
theorem F8_eq (n : Nat) (d) : absFn c8 n Try.f8 (body Try.f8) [.v (.str zTa), .v (.list false 52 (.str zTd))] [.v .bool] d = F8 n d.1 d.2.1 := by kernel_rfl
theorem L8_13_eq (n : Nat) (d) : (l8_13).g (n + 1) d = run c8 n (nth 0 (loopsOf (body Try.f8))) ((l8_13).ins.fill d) (roundK (l8_13) n) := by kernel_rfl
theorem ls8 : loopsOf (body Try.f8) = [nth 0 (loopsOf (body Try.f8))] := by kernel_rfl
theorem d8 : drawOK c8 (body Try.f8) = true := by kernel_rfl
theorem h8 : GoodF Try.prog 8 p8 := fn_done mixed (cfg := c8) (cfg_ok tyT_ok (goodCons h16 (goodCons h17 (goodCons h21 (goodCons h26 (goodCons h27 (goodCons h28 (goodCons h29 goodNil))))))) rfl (by kernel_rfl)) Try.func8 rfl rfl (by kernel_rfl) rfl (by rw [ls8]; simp only [List.forall_mem_cons]; exact ⟨loopHas (key := 13) (li := l8_13) (by kernel_rfl) rfl (fun _ => rfl) (L8_13_eq), fun _ h => by cases h⟩) d8 (fun d y h => ⟨fuel, (F8_eq fuel d).trans h⟩)
end Go.Proofs.Try.V
