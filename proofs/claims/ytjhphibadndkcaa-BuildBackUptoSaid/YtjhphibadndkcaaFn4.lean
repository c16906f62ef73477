/- The contracts of functions of the program, printed by program from the interpreter: each says what a call returns. No condition beyond those typed in each theorem. -/
import Derived.Test.YtjhphibadndkcaaFn3
namespace Go.Proofs.Try.V
open Go.Vi
set_option maxRecDepth 100000
-- function 46
noncomputable def B46_6 (_n : Nat) (L : ((List Int) × Int × Unit) × (((List (Int × (Int × (Int × (List Int))))) × (Int × (List (List Int)))) × (List Bool) × Unit) × Unit → Option ((((List Int) × Unit) × (((List (Int × (Int × (Int × (List Int))))) × (Int × (List (List Int)))) × (List Bool) × Unit) × Unit))) (order_1 : List Int) (i_8 : Int) (o_2 : (List (Int × (Int × (Int × (List Int))))) × (Int × (List (List Int)))) (o_18 : List Bool) : Option ((((List Int) × Unit) × (((List (Int × (Int × (Int × (List Int))))) × (Int × (List (List Int)))) × (List Bool) × Unit) × Unit)) :=
  cond (decide (i_8 < (o_18.length : Int))) (inR i_8 o_18.length (getI o_18 i_8 fun _ => L ((order_1, (IntKind.wrap .i64 (i_8 + 1)), ()), (o_2, (o_18.set i_8.toNat true), ()), ()))) (some ((order_1, ()), (o_2, o_18, ()), ()))
noncomputable def L46_6 : Nat → ((List Int) × Int × Unit) × (((List (Int × (Int × (Int × (List Int))))) × (Int × (List (List Int)))) × (List Bool) × Unit) × Unit → Option ((((List Int) × Unit) × (((List (Int × (Int × (Int × (List Int))))) × (Int × (List (List Int)))) × (List Bool) × Unit) × Unit))
  | 0, _ => none
  | n + 1, d => B46_6 n (L46_6 n) d.1.1 d.1.2.1 d.2.1.1 d.2.1.2.1
noncomputable def l46_6 : LoopI := ⟨⟨[(1, .v (.list false 3 (.int .i64))), (2, .c (.ptr 2 [])), (7, .c (.view 18 [])), (8, .v (.int .i64))], [(2, false, .str (.pair (.list false 38 (.str (.pair (.int .i64) (.pair (.int .i64) (.pair (.int .i64) (.list false 3 (.int .i64))))))) (.pair (.int .i64) (.list false 26 (.list false 3 (.int .i64)))))), (18, true, .list true 4 .bool)], none⟩, [(.exit 0, ⟨[(1, .v (.list false 3 (.int .i64))), (2, .c (.ptr 2 [])), (7, .c (.view 18 []))], [(2, false, .str (.pair (.list false 38 (.str (.pair (.int .i64) (.pair (.int .i64) (.pair (.int .i64) (.list false 3 (.int .i64))))))) (.pair (.int .i64) (.list false 26 (.list false 3 (.int .i64)))))), (18, true, .list true 4 .bool)], none⟩)], L46_6⟩
noncomputable def B46_10 (_n : Nat) (L : ((List Int) × Int × Unit) × (((List (Int × (Int × (Int × (List Int))))) × (Int × (List (List Int)))) × (List Bool) × Unit) × Unit → Option (((Int × Int × Unit) × (Unit) × Unit) ⊕ ((Unit) × (Unit) × Unit))) (order_1 : List Int) (i_9 : Int) (o_2 : (List (Int × (Int × (Int × (List Int))))) × (Int × (List (List Int)))) (o_18 : List Bool) : Option (((Int × Int × Unit) × (Unit) × Unit) ⊕ ((Unit) × (Unit) × Unit)) :=
  cond (decide (i_9 < (order_1.length : Int))) (getI order_1 i_9 fun e4 => derefK (g57 (e4, 0, (IntKind.wrap .i64 ((o_18.length : Int) - 1)), ())) fun y5 => cond (!y5.1.1) (some (.inl ((i_9, 81, ()), (), ()))) (getI order_1 i_9 fun e6 => derefK (g85 (o_2, o_18, e6, ())) fun y7 => cond (!y7.1.1) (some (.inl ((i_9, 81, ()), (), ()))) (getI order_1 i_9 fun e8 => inR e8 o_18.length (getI o_18 e8 fun _ => L ((order_1, (IntKind.wrap .i64 (i_9 + 1)), ()), (o_2, (o_18.set e8.toNat false), ()), ()))))) (some (.inr ((), (), ())))
noncomputable def L46_10 : Nat → ((List Int) × Int × Unit) × (((List (Int × (Int × (Int × (List Int))))) × (Int × (List (List Int)))) × (List Bool) × Unit) × Unit → Option (((Int × Int × Unit) × (Unit) × Unit) ⊕ ((Unit) × (Unit) × Unit))
  | 0, _ => none
  | n + 1, d => B46_10 n (L46_10 n) d.1.1 d.1.2.1 d.2.1.1 d.2.1.2.1
noncomputable def l46_10 : LoopI := ⟨⟨[(1, .v (.list false 3 (.int .i64))), (2, .c (.ptr 2 [])), (7, .c (.view 18 [])), (9, .v (.int .i64))], [(2, false, .str (.pair (.list false 38 (.str (.pair (.int .i64) (.pair (.int .i64) (.pair (.int .i64) (.list false 3 (.int .i64))))))) (.pair (.int .i64) (.list false 26 (.list false 3 (.int .i64)))))), (18, true, .list true 4 .bool)], none⟩, [(.ret, ⟨[(4, .v (.int .i64)), (5, .v (.int .i64))], [], none⟩), (.exit 2, ⟨[], [], none⟩)], L46_10⟩
noncomputable def F46 (n : Nat) (k_0 : ((List (Int × (Int × (Int × (List Int))))) × (Int × (List (List Int))))) (order_1 : (List Int)) : Option ((Int × Int × Unit) × (Unit)) :=
  derefK (g33 (k_0, ())) fun y1 => cond (y1.1.1 != 0) (some ((0, y1.1.1, ()), ())) (leK 0 (k_0.1.length : Int) (leK (k_0.1.length : Int) (k_0.1.length : Int) (lenK (k_0.1.length : Int) (derefK (L46_6 n ((order_1, 0, ()), (k_0, (List.replicate (k_0.1.length : Int).toNat false), ()), ())) fun o3 => derefK (L46_10 n ((o3.1.1, 0, ()), (o3.2.1.1, o3.2.1.2.1, ()), ())) fun o10 => sumK o10 (fun d11 => some ((d11.1.1, d11.1.2.1, ()), ())) (fun _ => some ((0, 0, ()), ()))))))
noncomputable def g46 (d : ((List (Int × (Int × (Int × (List Int))))) × (Int × (List (List Int)))) × (List Int) × Unit) : Option ((Int × Int × Unit) × (Unit)) := F46 fuel d.1 d.2.1
noncomputable def p46 : Prim := ⟨[.v (.str (.pair (.list false 38 (.str (.pair (.int .i64) (.pair (.int .i64) (.pair (.int .i64) (.list false 3 (.int .i64))))))) (.pair (.int .i64) (.list false 26 (.list false 3 (.int .i64)))))), .v (.list false 3 (.int .i64))], [.v (.int .i64), .v (.int .i64)], g46⟩
noncomputable def c46 : Cfg := ⟨60, tyT, [], [(33, p33), (57, p57), (85, p85)], [(6, l46_6), (10, l46_10)], [], [], [], [], []⟩
theorem F46_eq (n : Nat) (d) : absFn c46 n Try.f46 (body Try.f46) [.v (.str (.pair (.list false 38 (.str (.pair (.int .i64) (.pair (.int .i64) (.pair (.int .i64) (.list false 3 (.int .i64))))))) (.pair (.int .i64) (.list false 26 (.list false 3 (.int .i64)))))), .v (.list false 3 (.int .i64))] [.v (.int .i64), .v (.int .i64)] d = F46 n d.1 d.2.1 := by kernel_rfl
theorem L46_6_eq (n : Nat) (d) : (l46_6).g (n + 1) d = run c46 n (nth 0 (loopsOf (body Try.f46))) ((l46_6).ins.fill d) (roundK (l46_6) n) := by kernel_rfl
theorem L46_10_eq (n : Nat) (d) : (l46_10).g (n + 1) d = run c46 n (nth 1 (loopsOf (body Try.f46))) ((l46_10).ins.fill d) (roundK (l46_10) n) := by kernel_rfl
theorem ls46 : loopsOf (body Try.f46) = [nth 0 (loopsOf (body Try.f46)), nth 1 (loopsOf (body Try.f46))] := by kernel_rfl
theorem d46 : drawOK c46 (body Try.f46) = true := by kernel_rfl
theorem h46 : GoodF Try.prog 46 p46 := fn_done mixed (cfg := c46) (cfg_ok tyT_ok (goodCons h33 (goodCons h57 (goodCons h85 goodNil))) rfl (by kernel_rfl)) Try.func46 rfl rfl (by kernel_rfl) rfl (by rw [ls46]; simp only [List.forall_mem_cons]; exact ⟨loopHas (key := 6) (li := l46_6) (by kernel_rfl) rfl (fun _ => rfl) (L46_6_eq), loopHas (key := 10) (li := l46_10) (by kernel_rfl) rfl (fun _ => rfl) (L46_10_eq), fun _ h => by cases h⟩) d46 (fun d y h => ⟨fuel, (F46_eq fuel d).trans h⟩)
-- function 47
noncomputable def B47_3 (_n : Nat) (L : ((List Int) × Int × Unit) × ((List Int) × Unit) × Unit → Option (((Unit) × ((List Int) × Unit) × Unit))) (l_0 : List Int) (i_4 : Int) (o_3 : List Int) : Option (((Unit) × ((List Int) × Unit) × Unit)) :=
  cond (decide (i_4 ≥ 0)) (getI l_0 i_4 fun e1 => lenK ((o_3.length : Int) + [e1].length) (L ((l_0, (IntKind.wrap .i64 (i_4 - 1)), ()), ((o_3 ++ [e1]), ()), ()))) (some ((), (o_3, ()), ()))
noncomputable def L47_3 : Nat → ((List Int) × Int × Unit) × ((List Int) × Unit) × Unit → Option (((Unit) × ((List Int) × Unit) × Unit))
  | 0, _ => none
  | n + 1, d => B47_3 n (L47_3 n) d.1.1 d.1.2.1 d.2.1.1
noncomputable def l47_3 : LoopI := ⟨⟨[(0, .v (.list false 3 (.int .i64))), (3, .c (.view 3 [])), (4, .v (.int .i64))], [(3, true, .list true 3 (.int .i64))], none⟩, [(.exit 0, ⟨[(3, .c (.view 3 []))], [(3, true, .list true 3 (.int .i64))], none⟩)], L47_3⟩
noncomputable def F47 (n : Nat) (l_0 : (List Int)) : Option (((List Int) × Unit) × (Unit)) :=
  derefK (L47_3 n ((l_0, (IntKind.wrap .i64 ((l_0.length : Int) - 1)), ()), (([] : List Int), ()), ())) fun o2 => some ((o2.2.1.1, ()), ())
noncomputable def g47 (d : (List Int) × Unit) : Option (((List Int) × Unit) × (Unit)) := F47 fuel d.1
noncomputable def p47 : Prim := ⟨[.v (.list false 3 (.int .i64))], [.own 3 (.int .i64)], g47⟩
noncomputable def c47 : Cfg := ⟨20, tyT, [], [], [(3, l47_3)], [], [], [], [], []⟩
theorem F47_eq (n : Nat) (d) : absFn c47 n Try.f47 (body Try.f47) [.v (.list false 3 (.int .i64))] [.own 3 (.int .i64)] d = F47 n d.1 := by kernel_rfl
theorem L47_3_eq (n : Nat) (d) : (l47_3).g (n + 1) d = run c47 n (nth 0 (loopsOf (body Try.f47))) ((l47_3).ins.fill d) (roundK (l47_3) n) := by kernel_rfl
theorem ls47 : loopsOf (body Try.f47) = [nth 0 (loopsOf (body Try.f47))] := by kernel_rfl
theorem d47 : drawOK c47 (body Try.f47) = true := by kernel_rfl
theorem h47 : GoodF Try.prog 47 p47 := fn_done mixed (cfg := c47) (cfg_ok tyT_ok (goodNil) rfl (by kernel_rfl)) Try.func47 rfl rfl (by kernel_rfl) rfl (by rw [ls47]; simp only [List.forall_mem_cons]; exact ⟨loopHas (key := 3) (li := l47_3) (by kernel_rfl) rfl (fun _ => rfl) (L47_3_eq), fun _ h => by cases h⟩) d47 (fun d y h => ⟨fuel, (F47_eq fuel d).trans h⟩)
-- function 95
noncomputable def B95_2 (_n : Nat) (L : ((List (Int × (Int × (Int × (List Int))))) × ((Int × (Int × (Int × (List Int)))) → Option Bool) × Int × Int × Unit) × (Unit) × Unit → Option (((Int × Unit) × (Unit) × Unit) ⊕ ((Unit) × (Unit) × Unit))) (s_0 : List (Int × (Int × (Int × (List Int))))) (f_1 : (Int × (Int × (Int × (List Int)))) → Option Bool) (t_7 : Int) (t_8 : Int) : Option (((Int × Unit) × (Unit) × Unit) ⊕ ((Unit) × (Unit) × Unit)) :=
  cond (decide (t_8 < t_7)) (getI s_0 t_8 fun e1 => derefK (f_1 e1) fun y2 => cond y2 (some (.inl ((t_8, ()), (), ()))) (L ((s_0, f_1, t_7, (IntKind.wrap .i64 (t_8 + 1)), ()), (), ()))) (some (.inr ((), (), ())))
noncomputable def L95_2 : Nat → ((List (Int × (Int × (Int × (List Int))))) × ((Int × (Int × (Int × (List Int)))) → Option Bool) × Int × Int × Unit) × (Unit) × Unit → Option (((Int × Unit) × (Unit) × Unit) ⊕ ((Unit) × (Unit) × Unit))
  | 0, _ => none
  | n + 1, d => B95_2 n (L95_2 n) d.1.1 d.1.2.1 d.1.2.2.1 d.1.2.2.2.1
noncomputable def l95_2 : LoopI := ⟨⟨[(0, .v (.list false 38 (.str (.pair (.int .i64) (.pair (.int .i64) (.pair (.int .i64) (.list false 3 (.int .i64)))))))), (1, .v (.fn (.str (.pair (.int .i64) (.pair (.int .i64) (.pair (.int .i64) (.list false 3 (.int .i64)))))) .bool)), (7, .v (.int .i64)), (8, .v (.int .i64))], [], none⟩, [(.ret, ⟨[(4, .v (.int .i64))], [], none⟩), (.exit 0, ⟨[], [], none⟩)], L95_2⟩
noncomputable def F95 (n : Nat) (s_0 : (List (Int × (Int × (Int × (List Int)))))) (f_1 : ((Int × (Int × (Int × (List Int)))) → Option Bool)) : Option ((Int × Unit) × (Unit)) :=
  derefK (L95_2 n ((s_0, f_1, (s_0.length : Int), 0, ()), (), ())) fun o3 => sumK o3 (fun d4 => some ((d4.1.1, ()), ())) (fun _ => some (((-1), ()), ()))
noncomputable def g95 (d : (List (Int × (Int × (Int × (List Int))))) × ((Int × (Int × (Int × (List Int)))) → Option Bool) × Unit) : Option ((Int × Unit) × (Unit)) := F95 fuel d.1 d.2.1
noncomputable def p95 : Prim := ⟨[.v (.list false 38 (.str (.pair (.int .i64) (.pair (.int .i64) (.pair (.int .i64) (.list false 3 (.int .i64))))))), .v (.fn (.str (.pair (.int .i64) (.pair (.int .i64) (.pair (.int .i64) (.list false 3 (.int .i64)))))) .bool)], [.v (.int .i64)], g95⟩
noncomputable def c95 : Cfg := ⟨19, tyT, [], [], [(2, l95_2)], [], [], [], [], []⟩
theorem F95_eq (n : Nat) (d) : absFn c95 n Try.f95 (body Try.f95) [.v (.list false 38 (.str (.pair (.int .i64) (.pair (.int .i64) (.pair (.int .i64) (.list false 3 (.int .i64))))))), .v (.fn (.str (.pair (.int .i64) (.pair (.int .i64) (.pair (.int .i64) (.list false 3 (.int .i64)))))) .bool)] [.v (.int .i64)] d = F95 n d.1 d.2.1 := by kernel_rfl
theorem L95_2_eq (n : Nat) (d) : (l95_2).g (n + 1) d = run c95 n (nth 0 (loopsOf (body Try.f95))) ((l95_2).ins.fill d) (roundK (l95_2) n) := by kernel_rfl
theorem ls95 : loopsOf (body Try.f95) = [nth 0 (loopsOf (body Try.f95))] := by kernel_rfl
theorem d95 : drawOK c95 (body Try.f95) = true := by kernel_rfl
theorem h95 : GoodF Try.prog 95 p95 := fn_done mixed (cfg := c95) (cfg_ok tyT_ok (goodNil) rfl (by kernel_rfl)) Try.func95 rfl rfl (by kernel_rfl) rfl (by rw [ls95]; simp only [List.forall_mem_cons]; exact ⟨loopHas (key := 2) (li := l95_2) (by kernel_rfl) rfl (fun _ => rfl) (L95_2_eq), fun _ h => by cases h⟩) d95 (fun d y h => ⟨fuel, (F95_eq fuel d).trans h⟩)
-- function 79
noncomputable def F79 (_n : Nat) (s_0 : (List (Int × (Int × (Int × (List Int)))))) (f_1 : ((Int × (Int × (Int × (List Int)))) → Option Bool)) : Option ((Bool × Unit) × (Unit)) :=
  derefK (g95 (s_0, f_1, ())) fun y1 => some (((decide (y1.1.1 ≥ 0)), ()), ())
noncomputable def g79 (d : (List (Int × (Int × (Int × (List Int))))) × ((Int × (Int × (Int × (List Int)))) → Option Bool) × Unit) : Option ((Bool × Unit) × (Unit)) := F79 fuel d.1 d.2.1
noncomputable def p79 : Prim := ⟨[.v (.list false 38 (.str (.pair (.int .i64) (.pair (.int .i64) (.pair (.int .i64) (.list false 3 (.int .i64))))))), .v (.fn (.str (.pair (.int .i64) (.pair (.int .i64) (.pair (.int .i64) (.list false 3 (.int .i64)))))) .bool)], [.v .bool], g79⟩
noncomputable def c79 : Cfg := ⟨9, tyT, [], [(95, p95)], [], [], [], [], [], []⟩
theorem F79_eq (n : Nat) (d) : absFn c79 n Try.f79 (body Try.f79) [.v (.list false 38 (.str (.pair (.int .i64) (.pair (.int .i64) (.pair (.int .i64) (.list false 3 (.int .i64))))))), .v (.fn (.str (.pair (.int .i64) (.pair (.int .i64) (.pair (.int .i64) (.list false 3 (.int .i64)))))) .bool)] [.v .bool] d = F79 n d.1 d.2.1 := by kernel_rfl
theorem d79 : drawOK c79 (body Try.f79) = true := by kernel_rfl
theorem h79 : GoodF Try.prog 79 p79 := fn_done mixed (cfg := c79) (cfg_ok tyT_ok (goodCons h95 goodNil) rfl (by kernel_rfl)) Try.func79 rfl rfl (by kernel_rfl) rfl (noLoops (by kernel_rfl)) d79 (fun d y h => ⟨fuel, (F79_eq fuel d).trans h⟩)
-- function 80
noncomputable def F80 (_n : Nat) (p_0 : (Int × (Int × (Int × (List Int))))) (t_1 : Int) : Option ((Bool × Unit) × (Unit)) :=
  some (((decide (p_0.1 > t_1)), ()), ())
noncomputable def g80 (d : (Int × (Int × (Int × (List Int)))) × Int × Unit) : Option ((Bool × Unit) × (Unit)) := F80 fuel d.1 d.2.1
noncomputable def p80 : Prim := ⟨[.v (.str (.pair (.int .i64) (.pair (.int .i64) (.pair (.int .i64) (.list false 3 (.int .i64)))))), .r (.int .i64)], [.v .bool], g80⟩
noncomputable def c80 : Cfg := ⟨8, tyT, [], [], [], [], [], [], [], []⟩
theorem F80_eq (n : Nat) (d) : absFn c80 n Try.f80 (body Try.f80) [.v (.str (.pair (.int .i64) (.pair (.int .i64) (.pair (.int .i64) (.list false 3 (.int .i64)))))), .r (.int .i64)] [.v .bool] d = F80 n d.1 d.2.1 := by kernel_rfl
theorem d80 : drawOK c80 (body Try.f80) = true := by kernel_rfl
theorem h80 : GoodF Try.prog 80 p80 := fn_done mixed (cfg := c80) (cfg_ok tyT_ok (goodNil) rfl (by kernel_rfl)) Try.func80 rfl rfl (by kernel_rfl) rfl (noLoops (by kernel_rfl)) d80 (fun d y h => ⟨fuel, (F80_eq fuel d).trans h⟩)
end Go.Proofs.Try.V
