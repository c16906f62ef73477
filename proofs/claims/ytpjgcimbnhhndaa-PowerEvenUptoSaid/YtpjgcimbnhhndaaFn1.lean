/- The contracts of functions of the program, printed by program from the interpreter: each says what a call returns. No condition beyond those typed in each theorem. -/
import Derived.Test.YtpjgcimbnhhndaaIt3
import Derived.Test.YtpjgcimbnhhndaaVi41
import Derived.Test.YtpjgcimbnhhndaaVi44
import Derived.Test.YtpjgcimbnhhndaaProg
namespace Go.Proofs.Try.V
open Go.Vi
set_option maxRecDepth 100000
abbrev zTc : Ty := .pair (.int .i64) (.pair (.int .i64) (.int .i64))
abbrev zTa : Ty := .pair (.list false 53 (.str (.pair (.int .i64) zTc))) (.pair (.list false 67 (.str (.pair (.int .i64) zTc))) zTc)
abbrev zTe : Type := List (Int × (Int × (Int × Int)))
abbrev zTb : Type := zTe × (zTe × (Int × (Int × Int)))
abbrev zTd : Type := zTb × (Int × ((List Bool) × (List Int)))
abbrev zTf : Ty := .pair (.int .i64) (.pair (.list true 4 .bool) (.list true 3 (.int .i64)))
abbrev zTg : Type := (((List (Int × (Int × Int))) × zTb × Int × Int × Int × Int × Unit) × ((List Int) × (List (Int × Int)) × (List Int) × zTd × Unit) × Unit)
abbrev zTh : Type := Int × (List Int) × (List Int) × (List Int) × Unit
abbrev zTi : Ty := .pair (.int .i64) (.pair (.list false 4 .bool) (.list false 3 (.int .i64)))
def tyT : List (Nat × Ty) := [(2, .int .i64), (3, .int .i64), (4, .bool), (5, .int .u8), (6, .int .u8), (7, .str (.pair (.int .i64) (.pair (.int .i64) (.pair .bool (.int .u8))))), (8, .str (.pair (.int .i64) (.pair (.int .i64) (.pair .bool (.int .u8))))), (12, .int .u64), (21, .int .i32), (22, .list false 53 (.str (.pair (.int .i64) zTc))), (23, .list false 67 (.str (.pair (.int .i64) zTc))), (24, .str zTa), (25, .str zTa), (26, .fn (.int .i64) .bool), (28, .int .i64), (31, .fn2 (.str zTa) (.int .i64) .bool), (32, .list false 50 (.str zTc)), (34, .list false 3 (.int .i64)), (37, .int .u64), (40, .fn2 (.str zTa) (.int .i64) (.int .i64)), (42, .fn (.str zTa) (.int .i64)), (43, .fn2 (.list false 3 (.int .i64)) (.list false 3 (.int .i64)) .bool), (44, .list false 48 (.str (.pair (.int .i64) (.int .i64)))), (47, .str (.pair (.int .i64) (.int .i64))), (48, .str (.pair (.int .i64) (.int .i64))), (49, .str zTc), (50, .str zTc), (52, .str (.pair (.int .i64) zTc)), (53, .str (.pair (.int .i64) zTc)), (58, .list false 61 (.arr 3 (.int .i64))), (61, .arr 3 (.int .i64)), (62, .str (.pair (.int .i64) (.int .i64))), (63, .str (.pair (.int .i64) (.int .i64))), (66, .str (.pair (.int .i64) zTc)), (67, .str (.pair (.int .i64) zTc)), (71, .fn (.list false 3 (.int .i64)) .bool), (75, .fn (.str zTa) .bool), (78, .str (.pair (.int .i64) (.pair (.int .i64) (.list false 3 (.int .i64))))), (79, .str (.pair (.int .i64) (.pair (.int .i64) (.list false 3 (.int .i64))))), (83, .fn2 (.int .i64) (.int .i64) .bool), (85, .fn2 (.str zTa) (.int .i64) (.int .i64)), (86, .fn (.int .i64) (.int .i64)), (95, .list false 97 (.arr 3 (.int .i64))), (97, .arr 3 (.int .i64)), (100, .fn2 (.list false 3 (.int .i64)) (.fn (.int .i64) .bool) .bool), (103, .fn2 (.list false 3 (.int .i64)) (.list false 3 (.int .i64)) (.int .i64)), (107, .fn2 (.list false 50 (.str zTc)) (.fn (.str zTc) .bool) .bool), (109, .fn (.str zTc) .bool), (110, .ptr (.str (.pair (.str zTa) zTi))), (111, .list false 4 .bool), (113, .str (.pair (.str zTa) zTi)), (114, .str (.pair (.str zTa) zTi)), (118, .str (.pair (.list false 4 .bool) (.pair (.list false 4 .bool) (.list false 3 (.int .i64))))), (119, .str (.pair (.list false 4 .bool) (.pair (.list false 4 .bool) (.list false 3 (.int .i64))))), (122, .fn2 (.list false 3 (.int .i64)) (.fn (.int .i64) .bool) (.int .i64)), (123, .fn2 (.int .i64) (.int .i64) (.int .i64)), (124, .fn2 (.list false 50 (.str zTc)) (.fn (.str zTc) .bool) (.int .i64)), (128, .int .u32), (131, .int .u64), (141, .int .u8), (142, .int .u8), (144, .ptr (.int .u8)), (145, .int .i32), (146, .int .i32)]
theorem tyT_ok : tysB Try.prog tyT = true := by kernel_rfl
theorem mixed : Try.prog.follows .mixedOrders = true := by kernel_rfl
-- function 62
noncomputable def F62 (_n : Nat) (n_0 : Int) (low_1 : Int) (high_2 : Int) : Option ((Bool × Unit) × (Unit)) :=
  cond (decide (n_0 ≥ low_1)) (some (((decide (n_0 ≤ high_2)), ()), ())) (some ((false, ()), ()))
noncomputable def g62 (d : Int × Int × Int × Unit) : Option ((Bool × Unit) × (Unit)) := F62 fuel d.1 d.2.1 d.2.2.1
noncomputable def p62 : Prim := ⟨[.v (.int .i64), .v (.int .i64), .v (.int .i64)], [.v .bool], g62⟩
noncomputable def c62 : Cfg := ⟨15, tyT, [], [], [], [], [], [], [], [], [], [], [], [], none⟩
theorem F62_eq (n : Nat) (d) : absFn c62 n Try.f62 (body Try.f62) [.v (.int .i64), .v (.int .i64), .v (.int .i64)] [.v .bool] d = F62 n d.1 d.2.1 d.2.2.1 := by kernel_rfl
theorem d62 : drawOK c62 (body Try.f62) = true := by kernel_rfl
theorem h62 : GoodF Try.prog 62 p62 := fn_done mixed (cfg := c62) (cfg_ok tyT_ok (goodNil) rfl (by kernel_rfl)) Try.func62 rfl rfl (by kernel_rfl) rfl (noLoops (by kernel_rfl)) d62 (fun d y h => ⟨fuel, (F62_eq fuel d).trans h⟩)
-- function 27
noncomputable def B27_4 (_n : Nat) (L : (zTe × Int × Int × Unit) × (zTb × Unit) × Unit → Option (((Int × Unit) × (Unit) × Unit) ⊕ ((Unit) × (zTb × Unit) × Unit))) (t_36 : List (Int × (Int × (Int × Int)))) (t_37 : Int) (t_38 : Int) (o_1 : zTe × (zTe × (Int × (Int × Int)))) : Option (((Int × Unit) × (Unit) × Unit) ⊕ ((Unit) × (zTb × Unit) × Unit)) :=
  cond (decide (t_38 < t_37)) (getI t_36 t_38 fun e4 => derefK (g62 (e4.1, (-1), (IntKind.wrap .i64 (t_38 - 1)), ())) fun y5 => cond (!y5.1.1) (some (.inl ((50, ()), (), ()))) (derefK (g62 (e4.2.1, 1, 1000, ())) fun y6 => cond (!y6.1.1) (some (.inl ((50, ()), (), ()))) (derefK (g62 (e4.2.2.1, 0, 20, ())) fun y7 => cond (!y7.1.1) (some (.inl ((50, ()), (), ()))) (derefK (g62 (e4.2.2.2, 1, 10000, ())) fun y8 => cond (!y8.1.1) (some (.inl ((50, ()), (), ()))) (L ((t_36, t_37, (IntKind.wrap .i64 (t_38 + 1)), ()), (o_1, ()), ())))))) (some (.inr ((), (o_1, ()), ())))
noncomputable def L27_4 : Nat → (zTe × Int × Int × Unit) × (zTb × Unit) × Unit → Option (((Int × Unit) × (Unit) × Unit) ⊕ ((Unit) × (zTb × Unit) × Unit))
  | 0, _ => none
  | n + 1, d => B27_4 n (L27_4 n) d.1.1 d.1.2.1 d.1.2.2.1 d.2.1.1
noncomputable def l27_4 : LoopI := ⟨⟨[(1, .c (.ptr 1 [])), (36, .v (.list false 53 (.str (.pair (.int .i64) zTc)))), (37, .v (.int .i64)), (38, .v (.int .i64))], [(1, false, .str zTa)], none⟩, [(.ret, ⟨[(2, .v (.int .i64))], [], none⟩), (.exit 0, ⟨[(1, .c (.ptr 1 []))], [(1, false, .str zTa)], none⟩)], L27_4⟩
noncomputable def B27_10 (_n : Nat) (L : (zTe × Int × Int × Unit) × (zTb × Unit) × Unit → Option (((Int × Unit) × (Unit) × Unit) ⊕ ((Unit) × (Unit) × Unit))) (t_69 : List (Int × (Int × (Int × Int)))) (t_70 : Int) (t_71 : Int) (o_1 : zTe × (zTe × (Int × (Int × Int)))) : Option (((Int × Unit) × (Unit) × Unit) ⊕ ((Unit) × (Unit) × Unit)) :=
  cond (decide (t_71 < t_70)) (getI t_69 t_71 fun e12 => derefK (g62 (e12.1, 0, (IntKind.wrap .i64 ((o_1.1.length : Int) - 1)), ())) fun y13 => cond (!y13.1.1) (some (.inl ((50, ()), (), ()))) (derefK (g62 (e12.2.1, 0, 2, ())) fun y14 => cond (!y14.1.1) (some (.inl ((50, ()), (), ()))) (derefK (g62 (e12.2.2.1, 1, 1000, ())) fun y15 => cond (!y15.1.1) (some (.inl ((50, ()), (), ()))) (derefK (g62 (e12.2.2.2, 0, 1000, ())) fun y16 => cond (!y16.1.1) (some (.inl ((50, ()), (), ()))) (L ((t_69, t_70, (IntKind.wrap .i64 (t_71 + 1)), ()), (o_1, ()), ())))))) (some (.inr ((), (), ())))
noncomputable def L27_10 : Nat → (zTe × Int × Int × Unit) × (zTb × Unit) × Unit → Option (((Int × Unit) × (Unit) × Unit) ⊕ ((Unit) × (Unit) × Unit))
  | 0, _ => none
  | n + 1, d => B27_10 n (L27_10 n) d.1.1 d.1.2.1 d.1.2.2.1 d.2.1.1
noncomputable def l27_10 : LoopI := ⟨⟨[(1, .c (.ptr 1 [])), (69, .v (.list false 67 (.str (.pair (.int .i64) zTc)))), (70, .v (.int .i64)), (71, .v (.int .i64))], [(1, false, .str zTa)], none⟩, [(.ret, ⟨[(2, .v (.int .i64))], [], none⟩), (.exit 2, ⟨[], [], none⟩)], L27_10⟩
noncomputable def F27 (n : Nat) (s_0 : zTb) : Option ((Int × Unit) × (Unit)) :=
  cond (decide ((s_0.1.length : Int) > 10)) (some ((50, ()), ())) (cond (decide ((s_0.2.1.length : Int) > 16)) (some ((50, ()), ())) (derefK (g62 (s_0.2.2.1, 1, 1000, ())) fun y1 => cond (!y1.1.1) (some ((50, ()), ())) (derefK (g62 (s_0.2.2.2.1, 0, 20, ())) fun y2 => cond (!y2.1.1) (some ((50, ()), ())) (derefK (g62 (s_0.2.2.2.2, 1, 1000, ())) fun y3 => cond (!y3.1.1) (some ((50, ()), ())) (derefK (L27_4 n ((s_0.1, (s_0.1.length : Int), 0, ()), (s_0, ()), ())) fun o9 => sumK o9 (fun d10 => some ((d10.1.1, ()), ())) (fun d11 => derefK (L27_10 n ((d11.2.1.1.2.1, (d11.2.1.1.2.1.length : Int), 0, ()), (d11.2.1.1, ()), ())) fun o17 => sumK o17 (fun d18 => some ((d18.1.1, ()), ())) (fun _ => some ((0, ()), ()))))))))
noncomputable def g27 (d : zTb × Unit) : Option ((Int × Unit) × (Unit)) := F27 fuel d.1
noncomputable def p27 : Prim := ⟨[.v (.str zTa)], [.v (.int .i64)], g27⟩
noncomputable def c27 : Cfg := ⟨102, tyT, [], [(62, p62)], [(4, l27_4), (10, l27_10)], [], [], [], [], [], [], [], [], [], none⟩
theorem F27_eq (n : Nat) (d) : absFn c27 n Try.f27 (body Try.f27) [.v (.str zTa)] [.v (.int .i64)] d = F27 n d.1 := by kernel_rfl
theorem L27_4_eq (n : Nat) (d) : (l27_4).g (n + 1) d = run c27 n (nth 0 (loopsOf (body Try.f27))) ((l27_4).ins.fill d) (roundK (l27_4) n) := by kernel_rfl
theorem L27_10_eq (n : Nat) (d) : (l27_10).g (n + 1) d = run c27 n (nth 1 (loopsOf (body Try.f27))) ((l27_10).ins.fill d) (roundK (l27_10) n) := by kernel_rfl
theorem ls27 : loopsOf (body Try.f27) = [nth 0 (loopsOf (body Try.f27)), nth 1 (loopsOf (body Try.f27))] := by kernel_rfl
theorem d27 : drawOK c27 (body Try.f27) = true := by kernel_rfl
theorem h27 : GoodF Try.prog 27 p27 := fn_done mixed (cfg := c27) (cfg_ok tyT_ok (goodCons h62 goodNil) rfl (by kernel_rfl)) Try.func27 rfl rfl (by kernel_rfl) rfl (by rw [ls27]; simp only [List.forall_mem_cons]; exact ⟨loopHas (key := 4) (li := l27_4) (by kernel_rfl) rfl (fun _ => rfl) (L27_4_eq), loopHas (key := 10) (li := l27_10) (by kernel_rfl) rfl (fun _ => rfl) (L27_10_eq), fun _ h => by cases h⟩) d27 (fun d y h => ⟨fuel, (F27_eq fuel d).trans h⟩)
-- function 82
noncomputable def F82 (_n : Nat) (s_0 : zTb) (set_1 : Int) : Option ((Bool × Unit) × (Unit)) :=
  negK (s_0.2.1.length : Int) (derefK (g62 (set_1, 0, (IntKind.wrap .i64 ((shlI .i64 1 (s_0.2.1.length : Int)) - 1)), ())) fun y1 => some ((y1.1.1, ()), ()))
noncomputable def g82 (d : zTb × Int × Unit) : Option ((Bool × Unit) × (Unit)) := F82 fuel d.1 d.2.1
noncomputable def p82 : Prim := ⟨[.v (.str zTa), .v (.int .i64)], [.v .bool], g82⟩
noncomputable def c82 : Cfg := ⟨12, tyT, [], [(62, p62)], [], [], [], [], [], [], [], [], [], [], none⟩
theorem F82_eq (n : Nat) (d) : absFn c82 n Try.f82 (body Try.f82) [.v (.str zTa), .v (.int .i64)] [.v .bool] d = F82 n d.1 d.2.1 := by kernel_rfl
theorem d82 : drawOK c82 (body Try.f82) = true := by kernel_rfl
theorem h82 : GoodF Try.prog 82 p82 := fn_done mixed (cfg := c82) (cfg_ok tyT_ok (goodCons h62 goodNil) rfl (by kernel_rfl)) Try.func82 rfl rfl (by kernel_rfl) rfl (noLoops (by kernel_rfl)) d82 (fun d y h => ⟨fuel, (F82_eq fuel d).trans h⟩)
-- function 53
noncomputable def F53 (_n : Nat) (s_0 : zTb) (set_1 : Int) : Option ((Int × Unit) × (Unit)) :=
  derefK (g27 (s_0, ())) fun y1 => cond (y1.1.1 != 0) (some ((y1.1.1, ()), ())) (derefK (g82 (s_0, set_1, ())) fun y2 => cond (!y2.1.1) (some ((1, ()), ())) (some ((0, ()), ())))
noncomputable def g53 (d : zTb × Int × Unit) : Option ((Int × Unit) × (Unit)) := F53 fuel d.1 d.2.1
noncomputable def p53 : Prim := ⟨[.v (.str zTa), .v (.int .i64)], [.v (.int .i64)], g53⟩
noncomputable def c53 : Cfg := ⟨15, tyT, [], [(27, p27), (82, p82)], [], [], [], [], [], [], [], [], [], [], none⟩
theorem F53_eq (n : Nat) (d) : absFn c53 n Try.f53 (body Try.f53) [.v (.str zTa), .v (.int .i64)] [.v (.int .i64)] d = F53 n d.1 d.2.1 := by kernel_rfl
theorem d53 : drawOK c53 (body Try.f53) = true := by kernel_rfl
theorem h53 : GoodF Try.prog 53 p53 := fn_done mixed (cfg := c53) (cfg_ok tyT_ok (goodCons h27 (goodCons h82 goodNil)) rfl (by kernel_rfl)) Try.func53 rfl rfl (by kernel_rfl) rfl (noLoops (by kernel_rfl)) d53 (fun d y h => ⟨fuel, (F53_eq fuel d).trans h⟩)
-- function 54
noncomputable def B54_1 (_n : Nat) (L : (Int × Int × Unit) × (Unit) × Unit → Option (((Int × Unit) × (Unit) × Unit))) (set_0 : Int) (n_2 : Int) : Option (((Int × Unit) × (Unit) × Unit)) :=
  cond (decide (set_0 > 0)) (L (((bitsI .and .i64 set_0 (IntKind.wrap .i64 (set_0 - 1))), (IntKind.wrap .i64 (n_2 + 1)), ()), (), ())) (some ((n_2, ()), (), ()))
noncomputable def L54_1 : Nat → (Int × Int × Unit) × (Unit) × Unit → Option (((Int × Unit) × (Unit) × Unit))
  | 0, _ => none
  | n + 1, d => B54_1 n (L54_1 n) d.1.1 d.1.2.1
noncomputable def l54_1 : LoopI := ⟨⟨[(0, .v (.int .i64)), (2, .v (.int .i64))], [], none⟩, [(.exit 0, ⟨[(2, .v (.int .i64))], [], none⟩)], L54_1⟩
noncomputable def F54 (n : Nat) (set_0 : Int) : Option ((Int × Unit) × (Unit)) :=
  derefK (L54_1 n ((set_0, 0, ()), (), ())) fun o1 => some ((o1.1.1, ()), ())
noncomputable def g54 (d : Int × Unit) : Option ((Int × Unit) × (Unit)) := F54 fuel d.1
noncomputable def p54 : Prim := ⟨[.v (.int .i64)], [.v (.int .i64)], g54⟩
noncomputable def c54 : Cfg := ⟨12, tyT, [], [], [(1, l54_1)], [], [], [], [], [], [], [], [], [], none⟩
theorem F54_eq (n : Nat) (d) : absFn c54 n Try.f54 (body Try.f54) [.v (.int .i64)] [.v (.int .i64)] d = F54 n d.1 := by kernel_rfl
theorem L54_1_eq (n : Nat) (d) : (l54_1).g (n + 1) d = run c54 n (nth 0 (loopsOf (body Try.f54))) ((l54_1).ins.fill d) (roundK (l54_1) n) := by kernel_rfl
theorem ls54 : loopsOf (body Try.f54) = [nth 0 (loopsOf (body Try.f54))] := by kernel_rfl
theorem d54 : drawOK c54 (body Try.f54) = true := by kernel_rfl
theorem h54 : GoodF Try.prog 54 p54 := fn_done mixed (cfg := c54) (cfg_ok tyT_ok (goodNil) rfl (by kernel_rfl)) Try.func54 rfl rfl (by kernel_rfl) rfl (by rw [ls54]; simp only [List.forall_mem_cons]; exact ⟨loopHas (key := 1) (li := l54_1) (by kernel_rfl) rfl (fun _ => rfl) (L54_1_eq), fun _ h => by cases h⟩) d54 (fun d y h => ⟨fuel, (F54_eq fuel d).trans h⟩)
-- function 64
noncomputable def Q64_7 (_n : Nat) (L : (zTb × (List (List Int)) × (Int × (Int × (Int × Int))) × Unit) → Option (X × ((List (List Int)) × Unit))) (t_31 : Int) (s_2 : zTb) (out_5 : (List (List Int))) (l_7 : (Int × (Int × (Int × Int)))) : Option (X × ((List (List Int)) × Unit)) :=
  cond (t_31 == (-1)) (enumK (fun (e5 : Int) (e6 : List Int) => L (s_2, (out_5.set (s_2.1.length : Int).toNat (e6.set l_7.2.1.toNat (IntKind.wrap .i64 (e5 + l_7.2.2.1)))), l_7, ())) fun E => agreeK [inR (s_2.1.length : Int) out_5.length (agreeK [inR l_7.2.1 3 (agreeK [getI out_5 (s_2.1.length : Int) fun e4 => getI e4 l_7.2.1 fun e5 => inR (s_2.1.length : Int) out_5.length (inR l_7.2.1 3 (getI out_5 (s_2.1.length : Int) fun e6 => getI e6 l_7.2.1 fun _ => E e5 e6)), inR (s_2.1.length : Int) out_5.length (getI out_5 (s_2.1.length : Int) fun e8 => getI e8 l_7.2.1 fun e9 => inR l_7.2.1 3 (getI out_5 (s_2.1.length : Int) fun e10 => getI e10 l_7.2.1 fun _ => E e9 e10))]), inR (s_2.1.length : Int) out_5.length (inR l_7.2.1 3 (getI out_5 (s_2.1.length : Int) fun e12 => getI e12 l_7.2.1 fun e13 => inR l_7.2.1 3 (getI out_5 (s_2.1.length : Int) fun e14 => getI e14 l_7.2.1 fun _ => E e13 e14)))]), inR (s_2.1.length : Int) out_5.length (inR (s_2.1.length : Int) out_5.length (inR l_7.2.1 3 (getI out_5 (s_2.1.length : Int) fun e16 => getI e16 l_7.2.1 fun e17 => inR l_7.2.1 3 (getI out_5 (s_2.1.length : Int) fun e18 => getI e18 l_7.2.1 fun _ => E e17 e18))))]) (enumK (fun (e21 : Int) (e22 : List Int) => L (s_2, (out_5.set t_31.toNat (e22.set l_7.2.1.toNat (IntKind.wrap .i64 (e21 + l_7.2.2.1)))), l_7, ())) fun E => agreeK [inR t_31 out_5.length (agreeK [inR l_7.2.1 3 (agreeK [getI out_5 t_31 fun e20 => getI e20 l_7.2.1 fun e21 => inR t_31 out_5.length (inR l_7.2.1 3 (getI out_5 t_31 fun e22 => getI e22 l_7.2.1 fun _ => E e21 e22)), inR t_31 out_5.length (getI out_5 t_31 fun e24 => getI e24 l_7.2.1 fun e25 => inR l_7.2.1 3 (getI out_5 t_31 fun e26 => getI e26 l_7.2.1 fun _ => E e25 e26))]), inR t_31 out_5.length (inR l_7.2.1 3 (getI out_5 t_31 fun e28 => getI e28 l_7.2.1 fun e29 => inR l_7.2.1 3 (getI out_5 t_31 fun e30 => getI e30 l_7.2.1 fun _ => E e29 e30)))]), inR t_31 out_5.length (inR t_31 out_5.length (inR l_7.2.1 3 (getI out_5 t_31 fun e32 => getI e32 l_7.2.1 fun e33 => inR l_7.2.1 3 (getI out_5 t_31 fun e34 => getI e34 l_7.2.1 fun _ => E e33 e34))))])
noncomputable def R64_7 (n : Nat) : List Int → (zTb × (List (List Int)) × (Int × (Int × (Int × Int))) × Unit) → Option (X × ((List (List Int)) × Unit))
  | [], d => some (.norm, (d.2.1, ()))
  | x :: r, d => Q64_7 n (R64_7 n r) x d.1 d.2.1 d.2.2.1
noncomputable def r64_7 : RLoopI := ⟨.int .i64, [2, 5, 7], [.r (.str zTa), .m (.list true 97 (.arr 3 (.int .i64))), .r (.str (.pair (.int .i64) zTc))], [.norm], R64_7⟩
noncomputable def B64_3 (n : Nat) (L : (Int × zTb × zTe × Int × Int × Unit) × ((List (List Int)) × Unit) × Unit → Option (((Unit) × ((List (List Int)) × Unit) × Unit))) (set_1 : Int) (s_2 : zTe × (zTe × (Int × (Int × Int)))) (t_15 : List (Int × (Int × (Int × Int)))) (t_16 : Int) (t_17 : Int) (o_5 : List (List Int)) : Option (((Unit) × ((List (List Int)) × Unit) × Unit)) :=
  cond (decide (t_17 < t_16)) (getI t_15 t_17 fun e2 => negK t_17 (cond ((bitsI .and .i64 (shrI .i64 set_1 t_17) 1) == 0) (L ((set_1, s_2, t_15, t_16, (IntKind.wrap .i64 (t_17 + 1)), ()), (o_5, ()), ())) (derefK (It.m65.p.g (s_2, e2.1, ())) fun y3 => derefK y3.1.2.1 fun q4 => derefK (It.it95.g (y3.1.1, q4, ())) fun l6 => derefK (R64_7 n l6 (s_2, o_5, e2, ())) fun o5 => cond (X.same .norm o5.1) (L ((set_1, s_2, t_15, t_16, (IntKind.wrap .i64 (t_17 + 1)), ()), (o5.2.1, ()), ())) (none)))) (some ((), (o_5, ()), ()))
noncomputable def L64_3 : Nat → (Int × zTb × zTe × Int × Int × Unit) × ((List (List Int)) × Unit) × Unit → Option (((Unit) × ((List (List Int)) × Unit) × Unit))
  | 0, _ => none
  | n + 1, d => B64_3 n (L64_3 n) d.1.1 d.1.2.1 d.1.2.2.1 d.1.2.2.2.1 d.1.2.2.2.2.1 d.2.1.1
noncomputable def l64_3 : LoopI := ⟨⟨[(1, .v (.int .i64)), (2, .r (.str zTa)), (5, .c (.ptr 5 [])), (15, .v (.list false 67 (.str (.pair (.int .i64) zTc)))), (16, .v (.int .i64)), (17, .v (.int .i64))], [(5, false, .list true 97 (.arr 3 (.int .i64)))], none⟩, [(.exit 0, ⟨[(5, .c (.ptr 5 []))], [(5, false, .list true 97 (.arr 3 (.int .i64)))], none⟩)], L64_3⟩
noncomputable def F64 (n : Nat) (s_0 : zTb) (set_1 : Int) : Option (((List (List Int)) × Unit) × (Unit)) :=
  leK 0 (IntKind.wrap .i64 ((s_0.1.length : Int) + 1)) (leK (IntKind.wrap .i64 ((s_0.1.length : Int) + 1)) (IntKind.wrap .i64 ((s_0.1.length : Int) + 1)) (lenK (IntKind.wrap .i64 ((s_0.1.length : Int) + 1)) (bindV (List.replicate (IntKind.wrap .i64 ((s_0.1.length : Int) + 1)).toNat (List.replicate 3 (0 : Int))) fun z1 => derefK (L64_3 n ((set_1, s_0, s_0.2.1, (s_0.2.1.length : Int), 0, ()), (z1, ()), ())) fun o7 => some ((o7.2.1.1, ()), ()))))
noncomputable def g64 (d : zTb × Int × Unit) : Option (((List (List Int)) × Unit) × (Unit)) := F64 fuel d.1 d.2.1
noncomputable def p64 : Prim := ⟨[.v (.str zTa), .v (.int .i64)], [.own 97 (.arr 3 (.int .i64))], g64⟩
noncomputable def c64 : Cfg := ⟨51, tyT, [(2, .str zTa), (5, .list true 97 (.arr 3 (.int .i64))), (7, .str (.pair (.int .i64) zTc))], [], [(3, l64_3)], [], [10], [(95, It.it95)], [(7, r64_7)], [(65, It.m65)], [], [], [], [], none⟩
theorem F64_eq (n : Nat) (d) : absFn c64 n Try.f64 (body Try.f64) [.v (.str zTa), .v (.int .i64)] [.own 97 (.arr 3 (.int .i64))] d = F64 n d.1 d.2.1 := by kernel_rfl
theorem L64_3_eq (n : Nat) (d) : (l64_3).g (n + 1) d = run c64 n (nth 0 (loopsOf (body Try.f64))) ((l64_3).ins.fill d) (roundK (l64_3) n) := by kernel_rfl
theorem ls64 : loopsOf (body Try.f64) = [nth 0 (loopsOf (body Try.f64))] := by kernel_rfl
theorem R64_7_eq (n : Nat) (x r d) : (r64_7).g n (x :: r) d = run c64 n (asR (nth 0 (rangesOf (body Try.f64)))) (innerSt r64_7 31 d x) (thenK (bodyK c64 r64_7 n (bdR (nth 0 (rangesOf (body Try.f64)))) r d) failK) := by kernel_rfl
theorem rs64 : rangesOf (body Try.f64) = [nth 0 (rangesOf (body Try.f64))] := by kernel_rfl
theorem d64 : drawD c64 (body Try.f64) = true := by kernel_rfl
theorem h64 : GoodF Try.prog 64 p64 := fn_doneR mixed (cfg := c64) (cfg_ok tyT_ok (goodNil) rfl (by kernel_rfl) (mk_ok (mkCons It.k65 mkNil))) (itCons It.it95_ok itNil) Try.func64 rfl rfl (by kernel_rfl) rfl (by rw [ls64]; simp only [List.forall_mem_cons]; exact ⟨loopHas (key := 3) (li := l64_3) (by kernel_rfl) rfl (fun _ => rfl) (L64_3_eq), fun _ h => by cases h⟩) (by rw [rs64]; simp only [List.forall_mem_cons]; exact ⟨rangeHas (key := 7) (li := r64_7) (p := 31) (by kernel_rfl) rfl (by kernel_rfl) (by kernel_rfl) (noLoops (by kernel_rfl)) (fun _ _ => rfl) R64_7_eq, fun _ h => by cases h⟩) d64 (fun d y h => ⟨fuel, (F64_eq fuel d).trans h⟩)
-- function 66
noncomputable def F66 (_n : Nat) (s_0 : zTb) (b_1 : Int) : Option ((Int × Unit) × (Unit)) :=
  cond (b_1 == (s_0.1.length : Int)) (some ((s_0.2.2.1, ()), ())) (cond (b_1 == (-1)) (some ((s_0.2.2.1, ()), ())) (getI s_0.1 b_1 fun e1 => some ((e1.2.1, ()), ())))
noncomputable def g66 (d : zTb × Int × Unit) : Option ((Int × Unit) × (Unit)) := F66 fuel d.1 d.2.1
noncomputable def p66 : Prim := ⟨[.v (.str zTa), .v (.int .i64)], [.v (.int .i64)], g66⟩
noncomputable def c66 : Cfg := ⟨22, tyT, [], [], [], [], [], [], [], [], [], [], [], [], none⟩
theorem F66_eq (n : Nat) (d) : absFn c66 n Try.f66 (body Try.f66) [.v (.str zTa), .v (.int .i64)] [.v (.int .i64)] d = F66 n d.1 d.2.1 := by kernel_rfl
theorem d66 : drawOK c66 (body Try.f66) = true := by kernel_rfl
theorem h66 : GoodF Try.prog 66 p66 := fn_done mixed (cfg := c66) (cfg_ok tyT_ok (goodNil) rfl (by kernel_rfl)) Try.func66 rfl rfl (by kernel_rfl) rfl (noLoops (by kernel_rfl)) d66 (fun d y h => ⟨fuel, (F66_eq fuel d).trans h⟩)
-- function 70
noncomputable def F70 (_n : Nat) (a_0 : (List Int)) : Option ((Int × Unit) × (Unit)) :=
  inR 0 3 (getI a_0 0 fun e1 => inR 1 3 (getI a_0 1 fun e2 => inR 2 3 (getI a_0 2 fun e3 => some (((max (max e1 e2) e3), ()), ()))))
noncomputable def g70 (d : (List Int) × Unit) : Option ((Int × Unit) × (Unit)) := F70 fuel d.1
noncomputable def p70 : Prim := ⟨[.v (.arr 3 (.int .i64))], [.v (.int .i64)], g70⟩
noncomputable def c70 : Cfg := ⟨10, tyT, [], [], [], [], [], [], [], [], [], [], [], [], none⟩
theorem F70_eq (n : Nat) (d) : absFn c70 n Try.f70 (body Try.f70) [.v (.arr 3 (.int .i64))] [.v (.int .i64)] d = F70 n d.1 := by kernel_rfl
theorem d70 : drawOK c70 (body Try.f70) = true := by kernel_rfl
theorem h70 : GoodF Try.prog 70 p70 := fn_done mixed (cfg := c70) (cfg_ok tyT_ok (goodNil) rfl (by kernel_rfl)) Try.func70 rfl rfl (by kernel_rfl) rfl (noLoops (by kernel_rfl)) d70 (fun d y h => ⟨fuel, (F70_eq fuel d).trans h⟩)
-- function 55
noncomputable def B55_5 (_n : Nat) (L : (Int × Int × Unit) × (zTb × (List (List Int)) × Unit) × Unit → Option (((Int × Bool × Unit) × (Unit) × Unit) ⊕ ((Unit) × (Unit) × Unit))) (t_23 : Int) (t_24 : Int) (o_2 : zTe × (zTe × (Int × (Int × Int)))) (o_11000 : List (List Int)) : Option (((Int × Bool × Unit) × (Unit) × Unit) ⊕ ((Unit) × (Unit) × Unit)) :=
  cond (decide (t_24 < t_23)) (inR t_24 o_11000.length (getI o_11000 t_24 fun e4 => derefK (g70 (e4, ())) fun y5 => derefK (g66 (o_2, t_24, ())) fun y6 => cond (decide (y5.1.1 > y6.1.1)) (some (.inl ((t_24, true, ()), (), ()))) (L ((t_23, (IntKind.wrap .i64 (t_24 + 1)), ()), (o_2, o_11000, ()), ())))) (some (.inr ((), (), ())))
noncomputable def L55_5 : Nat → (Int × Int × Unit) × (zTb × (List (List Int)) × Unit) × Unit → Option (((Int × Bool × Unit) × (Unit) × Unit) ⊕ ((Unit) × (Unit) × Unit))
  | 0, _ => none
  | n + 1, d => B55_5 n (L55_5 n) d.1.1 d.1.2.1 d.2.1.1 d.2.1.2.1
noncomputable def l55_5 : LoopI := ⟨⟨[(2, .c (.ptr 2 [])), (6, .c (.view 11000 [])), (23, .v (.int .i64)), (24, .v (.int .i64))], [(2, false, .str zTa), (11000, true, .list true 97 (.arr 3 (.int .i64)))], none⟩, [(.ret, ⟨[(4, .v (.int .i64)), (5, .v .bool)], [], none⟩), (.exit 0, ⟨[], [], none⟩)], L55_5⟩
noncomputable def F55 (n : Nat) (s_0 : zTb) (set_1 : Int) : Option ((Int × Bool × Unit) × (Unit)) :=
  derefK (g64 (s_0, set_1, ())) fun y1 => inR (s_0.1.length : Int) y1.1.1.length (getI y1.1.1 (s_0.1.length : Int) fun e2 => derefK (g70 (e2, ())) fun y3 => cond (decide (y3.1.1 > s_0.2.2.1)) (some (((-1), true, ()), ())) (derefK (L55_5 n (((s_0.1.length : Int), 0, ()), (s_0, y1.1.1, ()), ())) fun o7 => sumK o7 (fun d8 => some ((d8.1.1, d8.1.2.1, ()), ())) (fun _ => some ((0, false, ()), ()))))
noncomputable def g55 (d : zTb × Int × Unit) : Option ((Int × Bool × Unit) × (Unit)) := F55 fuel d.1 d.2.1
noncomputable def p55 : Prim := ⟨[.v (.str zTa), .v (.int .i64)], [.v (.int .i64), .v .bool], g55⟩
noncomputable def c55 : Cfg := ⟨38, tyT, [], [(64, p64), (66, p66), (70, p70)], [(5, l55_5)], [], [], [], [], [], [], [], [], [], none⟩
theorem F55_eq (n : Nat) (d) : absFn c55 n Try.f55 (body Try.f55) [.v (.str zTa), .v (.int .i64)] [.v (.int .i64), .v .bool] d = F55 n d.1 d.2.1 := by kernel_rfl
theorem L55_5_eq (n : Nat) (d) : (l55_5).g (n + 1) d = run c55 n (nth 0 (loopsOf (body Try.f55))) ((l55_5).ins.fill d) (roundK (l55_5) n) := by kernel_rfl
theorem ls55 : loopsOf (body Try.f55) = [nth 0 (loopsOf (body Try.f55))] := by kernel_rfl
theorem d55 : drawOK c55 (body Try.f55) = true := by kernel_rfl
theorem h55 : GoodF Try.prog 55 p55 := fn_done mixed (cfg := c55) (cfg_ok tyT_ok (goodCons h64 (goodCons h66 (goodCons h70 goodNil))) rfl (by kernel_rfl)) Try.func55 rfl rfl (by kernel_rfl) rfl (by rw [ls55]; simp only [List.forall_mem_cons]; exact ⟨loopHas (key := 5) (li := l55_5) (by kernel_rfl) rfl (fun _ => rfl) (L55_5_eq), fun _ h => by cases h⟩) d55 (fun d y h => ⟨fuel, (F55_eq fuel d).trans h⟩)
-- function 19
noncomputable def B19_13 (_n : Nat) (L : (Int × Int × Int × Int × Int × Int × Int × zTe × Int × Int × Unit) × (zTb × Unit) × Unit → Option (((Int × Int × Int × Int × Int × Int × Int × Unit) × (zTb × Unit) × Unit))) (set_1 : Int) (off_4 : Int) (rank_5 : Int) (x_8 : Int) (sum_9 : Int) (t_25 : Int) (t_26 : Int) (t_34 : List (Int × (Int × (Int × Int)))) (t_35 : Int) (t_36 : Int) (o_2 : zTe × (zTe × (Int × (Int × Int)))) : Option (((Int × Int × Int × Int × Int × Int × Int × Unit) × (zTb × Unit) × Unit)) :=
  cond (decide (t_36 < t_35)) (getI t_34 t_36 fun e3 => negK t_36 (bindV (IntKind.wrap .i64 (sum_9 + (IntKind.wrap .i64 (e3.2.2.2 * (bitsI .and .i64 (shrI .i64 x_8 t_36) 1))))) fun z4 => L ((set_1, off_4, rank_5, x_8, z4, t_25, t_26, t_34, t_35, (IntKind.wrap .i64 (t_36 + 1)), ()), (o_2, ()), ()))) (some ((set_1, off_4, rank_5, x_8, sum_9, t_25, t_26, ()), (o_2, ()), ()))
noncomputable def L19_13 : Nat → (Int × Int × Int × Int × Int × Int × Int × zTe × Int × Int × Unit) × (zTb × Unit) × Unit → Option (((Int × Int × Int × Int × Int × Int × Int × Unit) × (zTb × Unit) × Unit))
  | 0, _ => none
  | n + 1, d => B19_13 n (L19_13 n) d.1.1 d.1.2.1 d.1.2.2.1 d.1.2.2.2.1 d.1.2.2.2.2.1 d.1.2.2.2.2.2.1 d.1.2.2.2.2.2.2.1 d.1.2.2.2.2.2.2.2.1 d.1.2.2.2.2.2.2.2.2.1 d.1.2.2.2.2.2.2.2.2.2.1 d.2.1.1
noncomputable def l19_13 : LoopI := ⟨⟨[(1, .v (.int .i64)), (2, .c (.ptr 2 [])), (4, .v (.int .i64)), (5, .v (.int .i64)), (8, .v (.int .i64)), (9, .v (.int .i64)), (25, .v (.int .i64)), (26, .v (.int .i64)), (34, .v (.list false 67 (.str (.pair (.int .i64) zTc)))), (35, .v (.int .i64)), (36, .v (.int .i64))], [(2, false, .str zTa)], none⟩, [(.exit 2, ⟨[(1, .v (.int .i64)), (2, .c (.ptr 2 [])), (4, .v (.int .i64)), (5, .v (.int .i64)), (8, .v (.int .i64)), (9, .v (.int .i64)), (25, .v (.int .i64)), (26, .v (.int .i64))], [(2, false, .str zTa)], none⟩)], L19_13⟩
noncomputable def B19_8 (n : Nat) (L : (Int × Int × Int × Int × Int × Unit) × (zTb × Unit) × Unit → Option (((Int × Int × Unit) × (Unit) × Unit))) (set_1 : Int) (off_4 : Int) (rank_5 : Int) (t_25 : Int) (t_26 : Int) (o_2 : zTe × (zTe × (Int × (Int × Int)))) : Option (((Int × Int × Unit) × (Unit) × Unit)) :=
  cond (decide (t_26 < t_25)) (cond ((bitsI .andNot .i64 t_26 set_1) != 0) (L ((set_1, off_4, rank_5, t_25, (IntKind.wrap .i64 (t_26 + 1)), ()), (o_2, ()), ())) (derefK (L19_13 n ((set_1, off_4, rank_5, t_26, 0, t_25, t_26, o_2.2.1, (o_2.2.1.length : Int), 0, ()), (o_2, ()), ())) fun o5 => cond (decide (o5.1.2.1 < 0)) (derefK (g55 (o5.2.1.1, (bitsI .andNot .i64 o5.1.1 o5.1.2.2.2.1), ())) fun y6 => cond (!y6.1.2.1) (L ((o5.1.1, o5.1.2.2.2.1, o5.1.2.2.2.2.1, o5.1.2.2.2.2.2.1, (IntKind.wrap .i64 (o5.1.2.2.2.2.2.2.1 + 1)), ()), (o5.2.1.1, ()), ())) (L ((o5.1.1, o5.1.2.1, o5.1.2.2.1, o5.1.2.2.2.2.2.1, (IntKind.wrap .i64 (o5.1.2.2.2.2.2.2.1 + 1)), ()), (o5.2.1.1, ()), ()))) (cond (decide (o5.1.2.2.2.2.1 < o5.1.2.2.1)) (derefK (g55 (o5.2.1.1, (bitsI .andNot .i64 o5.1.1 o5.1.2.2.2.1), ())) fun y7 => cond (!y7.1.2.1) (L ((o5.1.1, o5.1.2.2.2.1, o5.1.2.2.2.2.1, o5.1.2.2.2.2.2.1, (IntKind.wrap .i64 (o5.1.2.2.2.2.2.2.1 + 1)), ()), (o5.2.1.1, ()), ())) (L ((o5.1.1, o5.1.2.1, o5.1.2.2.1, o5.1.2.2.2.2.2.1, (IntKind.wrap .i64 (o5.1.2.2.2.2.2.2.1 + 1)), ()), (o5.2.1.1, ()), ()))) (cond (o5.1.2.2.2.2.1 == o5.1.2.2.1) (derefK (g54 (o5.1.2.2.2.1, ())) fun y8 => derefK (g54 (o5.1.2.1, ())) fun y9 => cond (!(decide (y8.1.1 < y9.1.1))) (L ((o5.1.1, o5.1.2.1, o5.1.2.2.1, o5.1.2.2.2.2.2.1, (IntKind.wrap .i64 (o5.1.2.2.2.2.2.2.1 + 1)), ()), (o5.2.1.1, ()), ())) (derefK (g55 (o5.2.1.1, (bitsI .andNot .i64 o5.1.1 o5.1.2.2.2.1), ())) fun y10 => cond (!y10.1.2.1) (L ((o5.1.1, o5.1.2.2.2.1, o5.1.2.2.2.2.1, o5.1.2.2.2.2.2.1, (IntKind.wrap .i64 (o5.1.2.2.2.2.2.2.1 + 1)), ()), (o5.2.1.1, ()), ())) (L ((o5.1.1, o5.1.2.1, o5.1.2.2.1, o5.1.2.2.2.2.2.1, (IntKind.wrap .i64 (o5.1.2.2.2.2.2.2.1 + 1)), ()), (o5.2.1.1, ()), ())))) (L ((o5.1.1, o5.1.2.1, o5.1.2.2.1, o5.1.2.2.2.2.2.1, (IntKind.wrap .i64 (o5.1.2.2.2.2.2.2.1 + 1)), ()), (o5.2.1.1, ()), ())))))) (some ((off_4, rank_5, ()), (), ()))
noncomputable def L19_8 : Nat → (Int × Int × Int × Int × Int × Unit) × (zTb × Unit) × Unit → Option (((Int × Int × Unit) × (Unit) × Unit))
  | 0, _ => none
  | n + 1, d => B19_8 n (L19_8 n) d.1.1 d.1.2.1 d.1.2.2.1 d.1.2.2.2.1 d.1.2.2.2.2.1 d.2.1.1
noncomputable def l19_8 : LoopI := ⟨⟨[(1, .v (.int .i64)), (2, .c (.ptr 2 [])), (4, .v (.int .i64)), (5, .v (.int .i64)), (25, .v (.int .i64)), (26, .v (.int .i64))], [(2, false, .str zTa)], none⟩, [(.exit 0, ⟨[(4, .v (.int .i64)), (5, .v (.int .i64))], [], none⟩)], L19_8⟩
noncomputable def F19 (n : Nat) (s_0 : zTb) (set_1 : Int) : Option ((Int × Int × Int × Unit) × (Unit)) :=
  derefK (g53 (s_0, set_1, ())) fun y1 => cond (y1.1.1 != 0) (some ((0, 0, y1.1.1, ()), ())) (derefK (g54 (set_1, ())) fun y2 => cond (decide (y2.1.1 > 12)) (some ((0, 0, 2, ()), ())) (derefK (L19_8 n ((set_1, (-1), 0, (IntKind.wrap .i64 (set_1 + 1)), 0, ()), (s_0, ()), ())) fun o11 => some ((o11.1.1, o11.1.2.1, 0, ()), ())))
noncomputable def g19 (d : zTb × Int × Unit) : Option ((Int × Int × Int × Unit) × (Unit)) := F19 fuel d.1 d.2.1
noncomputable def p19 : Prim := ⟨[.v (.str zTa), .v (.int .i64)], [.v (.int .i64), .v (.int .i64), .v (.int .i64)], g19⟩
noncomputable def c19 : Cfg := ⟨87, tyT, [], [(53, p53), (54, p54), (55, p55)], [(13, l19_13), (8, l19_8)], [], [], [], [], [], [], [], [], [], none⟩
theorem F19_eq (n : Nat) (d) : absFn c19 n Try.f19 (body Try.f19) [.v (.str zTa), .v (.int .i64)] [.v (.int .i64), .v (.int .i64), .v (.int .i64)] d = F19 n d.1 d.2.1 := by kernel_rfl
theorem L19_8_eq (n : Nat) (d) : (l19_8).g (n + 1) d = run c19 n (nth 0 (loopsOf (body Try.f19))) ((l19_8).ins.fill d) (roundK (l19_8) n) := by kernel_rfl
theorem L19_13_eq (n : Nat) (d) : (l19_13).g (n + 1) d = run c19 n (nth 1 (loopsOf (body Try.f19))) ((l19_13).ins.fill d) (roundK (l19_13) n) := by kernel_rfl
theorem ls19 : loopsOf (body Try.f19) = [nth 0 (loopsOf (body Try.f19)), nth 1 (loopsOf (body Try.f19))] := by kernel_rfl
theorem d19 : drawOK c19 (body Try.f19) = true := by kernel_rfl
theorem h19 : GoodF Try.prog 19 p19 := fn_done mixed (cfg := c19) (cfg_ok tyT_ok (goodCons h53 (goodCons h54 (goodCons h55 goodNil))) rfl (by kernel_rfl)) Try.func19 rfl rfl (by kernel_rfl) rfl (by rw [ls19]; simp only [List.forall_mem_cons]; exact ⟨loopHas (key := 8) (li := l19_8) (by kernel_rfl) rfl (fun _ => rfl) (L19_8_eq), loopHas (key := 13) (li := l19_13) (by kernel_rfl) rfl (fun _ => rfl) (L19_13_eq), fun _ h => by cases h⟩) d19 (fun d y h => ⟨fuel, (F19_eq fuel d).trans h⟩)
-- function 98
noncomputable def B98_2 (_n : Nat) (L : ((List (Int × (Int × Int))) × ((Int × (Int × Int)) → Option Bool) × Int × Int × Unit) × (Unit) × Unit → Option (((Int × Unit) × (Unit) × Unit) ⊕ ((Unit) × (Unit) × Unit))) (s_0 : List (Int × (Int × Int))) (f_1 : (Int × (Int × Int)) → Option Bool) (t_7 : Int) (t_8 : Int) : Option (((Int × Unit) × (Unit) × Unit) ⊕ ((Unit) × (Unit) × Unit)) :=
  cond (decide (t_8 < t_7)) (getI s_0 t_8 fun e1 => derefK (f_1 e1) fun y2 => cond y2 (some (.inl ((t_8, ()), (), ()))) (L ((s_0, f_1, t_7, (IntKind.wrap .i64 (t_8 + 1)), ()), (), ()))) (some (.inr ((), (), ())))
noncomputable def L98_2 : Nat → ((List (Int × (Int × Int))) × ((Int × (Int × Int)) → Option Bool) × Int × Int × Unit) × (Unit) × Unit → Option (((Int × Unit) × (Unit) × Unit) ⊕ ((Unit) × (Unit) × Unit))
  | 0, _ => none
  | n + 1, d => B98_2 n (L98_2 n) d.1.1 d.1.2.1 d.1.2.2.1 d.1.2.2.2.1
noncomputable def l98_2 : LoopI := ⟨⟨[(0, .v (.list false 50 (.str zTc))), (1, .v (.fn (.str zTc) .bool)), (7, .v (.int .i64)), (8, .v (.int .i64))], [], none⟩, [(.ret, ⟨[(4, .v (.int .i64))], [], none⟩), (.exit 0, ⟨[], [], none⟩)], L98_2⟩
noncomputable def F98 (n : Nat) (s_0 : (List (Int × (Int × Int)))) (f_1 : ((Int × (Int × Int)) → Option Bool)) : Option ((Int × Unit) × (Unit)) :=
  derefK (L98_2 n ((s_0, f_1, (s_0.length : Int), 0, ()), (), ())) fun o3 => sumK o3 (fun d4 => some ((d4.1.1, ()), ())) (fun _ => some (((-1), ()), ()))
noncomputable def g98 (d : (List (Int × (Int × Int))) × ((Int × (Int × Int)) → Option Bool) × Unit) : Option ((Int × Unit) × (Unit)) := F98 fuel d.1 d.2.1
noncomputable def p98 : Prim := ⟨[.v (.list false 50 (.str zTc)), .v (.fn (.str zTc) .bool)], [.v (.int .i64)], g98⟩
noncomputable def c98 : Cfg := ⟨19, tyT, [], [], [(2, l98_2)], [], [], [], [], [], [], [], [], [], none⟩
theorem F98_eq (n : Nat) (d) : absFn c98 n Try.f98 (body Try.f98) [.v (.list false 50 (.str zTc)), .v (.fn (.str zTc) .bool)] [.v (.int .i64)] d = F98 n d.1 d.2.1 := by kernel_rfl
theorem L98_2_eq (n : Nat) (d) : (l98_2).g (n + 1) d = run c98 n (nth 0 (loopsOf (body Try.f98))) ((l98_2).ins.fill d) (roundK (l98_2) n) := by kernel_rfl
theorem ls98 : loopsOf (body Try.f98) = [nth 0 (loopsOf (body Try.f98))] := by kernel_rfl
theorem d98 : drawOK c98 (body Try.f98) = true := by kernel_rfl
theorem h98 : GoodF Try.prog 98 p98 := fn_done mixed (cfg := c98) (cfg_ok tyT_ok (goodNil) rfl (by kernel_rfl)) Try.func98 rfl rfl (by kernel_rfl) rfl (by rw [ls98]; simp only [List.forall_mem_cons]; exact ⟨loopHas (key := 2) (li := l98_2) (by kernel_rfl) rfl (fun _ => rfl) (L98_2_eq), fun _ h => by cases h⟩) d98 (fun d y h => ⟨fuel, (F98_eq fuel d).trans h⟩)
-- function 83
noncomputable def F83 (_n : Nat) (s_0 : (List (Int × (Int × Int)))) (f_1 : ((Int × (Int × Int)) → Option Bool)) : Option ((Bool × Unit) × (Unit)) :=
  derefK (g98 (s_0, f_1, ())) fun y1 => some (((decide (y1.1.1 ≥ 0)), ()), ())
noncomputable def g83 (d : (List (Int × (Int × Int))) × ((Int × (Int × Int)) → Option Bool) × Unit) : Option ((Bool × Unit) × (Unit)) := F83 fuel d.1 d.2.1
noncomputable def p83 : Prim := ⟨[.v (.list false 50 (.str zTc)), .v (.fn (.str zTc) .bool)], [.v .bool], g83⟩
noncomputable def c83 : Cfg := ⟨9, tyT, [], [(98, p98)], [], [], [], [], [], [], [], [], [], [], none⟩
theorem F83_eq (n : Nat) (d) : absFn c83 n Try.f83 (body Try.f83) [.v (.list false 50 (.str zTc)), .v (.fn (.str zTc) .bool)] [.v .bool] d = F83 n d.1 d.2.1 := by kernel_rfl
theorem d83 : drawOK c83 (body Try.f83) = true := by kernel_rfl
theorem h83 : GoodF Try.prog 83 p83 := fn_done mixed (cfg := c83) (cfg_ok tyT_ok (goodCons h98 goodNil) rfl (by kernel_rfl)) Try.func83 rfl rfl (by kernel_rfl) rfl (noLoops (by kernel_rfl)) d83 (fun d y h => ⟨fuel, (F83_eq fuel d).trans h⟩)
-- function 85
noncomputable def F85 (_n : Nat) (s_0 : zTb) (ticks_1 : Int) (x_2 : (Int × (Int × Int))) : Option ((Bool × Unit) × (Unit)) :=
  derefK (g62 (x_2.1, 0, (IntKind.wrap .i64 (ticks_1 - 1)), ())) fun y1 => cond (!y1.1.1) (some ((false, ()), ())) (cond (x_2.2.1 == 1) (cond (x_2.2.1 == 1) (derefK (g62 (x_2.2.2, 0, (IntKind.wrap .i64 ((s_0.2.1.length : Int) - 1)), ())) fun y2 => some ((y2.1.1, ()), ())) (cond (x_2.2.1 == 3) (derefK (g62 (x_2.2.2, 0, (IntKind.wrap .i64 ((s_0.1.length : Int) - 1)), ())) fun y3 => some ((y3.1.1, ()), ())) (cond (x_2.2.1 == 4) (cond (x_2.2.1 == 4) (some (((x_2.2.2 == 0), ()), ())) (some ((false, ()), ()))) (cond (x_2.2.1 == 5) (some (((x_2.2.2 == 0), ()), ())) (some ((false, ()), ())))))) (cond (x_2.2.1 == 2) (derefK (g62 (x_2.2.2, 0, (IntKind.wrap .i64 ((s_0.2.1.length : Int) - 1)), ())) fun y4 => some ((y4.1.1, ()), ())) (cond (x_2.2.1 == 3) (derefK (g62 (x_2.2.2, 0, (IntKind.wrap .i64 ((s_0.1.length : Int) - 1)), ())) fun y5 => some ((y5.1.1, ()), ())) (cond (x_2.2.1 == 4) (cond (x_2.2.1 == 4) (some (((x_2.2.2 == 0), ()), ())) (some ((false, ()), ()))) (cond (x_2.2.1 == 5) (some (((x_2.2.2 == 0), ()), ())) (some ((false, ()), ())))))))
noncomputable def g85 (d : zTb × Int × (Int × (Int × Int)) × Unit) : Option ((Bool × Unit) × (Unit)) := F85 fuel d.1 d.2.1 d.2.2.1
noncomputable def p85 : Prim := ⟨[.v (.str zTa), .v (.int .i64), .v (.str zTc)], [.v .bool], g85⟩
noncomputable def c85 : Cfg := ⟨40, tyT, [], [(62, p62)], [], [], [], [], [], [], [], [], [], [], none⟩
theorem F85_eq (n : Nat) (d) : absFn c85 n Try.f85 (body Try.f85) [.v (.str zTa), .v (.int .i64), .v (.str zTc)] [.v .bool] d = F85 n d.1 d.2.1 d.2.2.1 := by kernel_rfl
theorem d85 : drawOK c85 (body Try.f85) = true := by kernel_rfl
theorem h85 : GoodF Try.prog 85 p85 := fn_done mixed (cfg := c85) (cfg_ok tyT_ok (goodCons h62 goodNil) rfl (by kernel_rfl)) Try.func85 rfl rfl (by kernel_rfl) rfl (noLoops (by kernel_rfl)) d85 (fun d y h => ⟨fuel, (F85_eq fuel d).trans h⟩)
-- function 84
noncomputable def F84 (_n : Nat) (x_0 : (Int × (Int × Int))) (t_1 : zTb) (t_2 : Int) : Option ((Bool × Unit) × (Unit)) :=
  derefK (g85 (t_1, t_2, x_0, ())) fun y1 => some (((!y1.1.1), ()), ())
noncomputable def g84 (d : (Int × (Int × Int)) × zTb × Int × Unit) : Option ((Bool × Unit) × (Unit)) := F84 fuel d.1 d.2.1 d.2.2.1
noncomputable def p84 : Prim := ⟨[.v (.str zTc), .r (.str zTa), .r (.int .i64)], [.v .bool], g84⟩
noncomputable def c84 : Cfg := ⟨10, tyT, [], [(85, p85)], [], [], [], [], [], [], [], [], [], [], none⟩
theorem F84_eq (n : Nat) (d) : absFn c84 n Try.f84 (body Try.f84) [.v (.str zTc), .r (.str zTa), .r (.int .i64)] [.v .bool] d = F84 n d.1 d.2.1 d.2.2.1 := by kernel_rfl
theorem d84 : drawOK c84 (body Try.f84) = true := by kernel_rfl
theorem h84 : GoodF Try.prog 84 p84 := fn_done mixed (cfg := c84) (cfg_ok tyT_ok (goodCons h85 goodNil) rfl (by kernel_rfl)) Try.func84 rfl rfl (by kernel_rfl) rfl (noLoops (by kernel_rfl)) d84 (fun d y h => ⟨fuel, (F84_eq fuel d).trans h⟩)
-- function 104
noncomputable def F104 (_n : Nat) (x_0 : Int) (y_1 : Int) : Option ((Int × Int × Unit) × (Unit)) :=
  negK 32 (negK 32 (bindV (IntKind.wrap .u64 ((bitsI .and .u64 x_0 4294967295) * (bitsI .and .u64 y_1 4294967295))) fun z1 => negK 32 (bindV (IntKind.wrap .u64 ((IntKind.wrap .u64 ((shrI .u64 x_0 32) * (bitsI .and .u64 y_1 4294967295))) + (shrI .u64 z1 32))) fun z2 => negK 32 (bindV (IntKind.wrap .u64 ((bitsI .and .u64 z2 4294967295) + (IntKind.wrap .u64 ((bitsI .and .u64 x_0 4294967295) * (shrI .u64 y_1 32))))) fun z3 => negK 32 (bindV (IntKind.wrap .u64 ((IntKind.wrap .u64 ((IntKind.wrap .u64 ((shrI .u64 x_0 32) * (shrI .u64 y_1 32))) + (shrI .u64 z2 32))) + (shrI .u64 z3 32))) fun z4 => some ((z4, (IntKind.wrap .u64 (x_0 * y_1)), ()), ()))))))
noncomputable def g104 (d : Int × Int × Unit) : Option ((Int × Int × Unit) × (Unit)) := F104 fuel d.1 d.2.1
noncomputable def p104 : Prim := ⟨[.v (.int .u64), .v (.int .u64)], [.v (.int .u64), .v (.int .u64)], g104⟩
noncomputable def c104 : Cfg := ⟨51, tyT, [], [], [], [], [], [], [], [], [], [], [], [], none⟩
theorem F104_eq (n : Nat) (d) : absFn c104 n Try.f104 (body Try.f104) [.v (.int .u64), .v (.int .u64)] [.v (.int .u64), .v (.int .u64)] d = F104 n d.1 d.2.1 := by kernel_rfl
theorem d104 : drawOK c104 (body Try.f104) = true := by kernel_rfl
theorem h104 : GoodF Try.prog 104 p104 := fn_done mixed (cfg := c104) (cfg_ok tyT_ok (goodNil) rfl (by kernel_rfl)) Try.func104 rfl rfl (by kernel_rfl) rfl (noLoops (by kernel_rfl)) d104 (fun d y h => ⟨fuel, (F104_eq fuel d).trans h⟩)
-- function 99
noncomputable def F99 (_n : Nat) (x_0 : Int) (y_1 : Int) : Option ((Int × Int × Unit) × (Unit)) :=
  derefK (g104 (x_0, y_1, ())) fun y1 => some ((y1.1.1, y1.1.2.1, ()), ())
noncomputable def g99 (d : Int × Int × Unit) : Option ((Int × Int × Unit) × (Unit)) := F99 fuel d.1 d.2.1
noncomputable def p99 : Prim := ⟨[.v (.int .u64), .v (.int .u64)], [.v (.int .u64), .v (.int .u64)], g99⟩
noncomputable def c99 : Cfg := ⟨30, tyT, [], [(104, p104)], [], [], [], [], [], [], [], [], [], [], none⟩
theorem F99_eq (n : Nat) (d) : absFn c99 n Try.f99 (body Try.f99) [.v (.int .u64), .v (.int .u64)] [.v (.int .u64), .v (.int .u64)] d = F99 n d.1 d.2.1 := by kernel_rfl
theorem d99 : drawOK c99 (body Try.f99) = true := by kernel_rfl
theorem h99 : GoodF Try.prog 99 p99 := fn_done mixed (cfg := c99) (cfg_ok tyT_ok (goodCons h104 goodNil) rfl (by kernel_rfl)) Try.func99 rfl rfl (by kernel_rfl) rfl (noLoops (by kernel_rfl)) d99 (fun d y h => ⟨fuel, (F99_eq fuel d).trans h⟩)
-- function 86
noncomputable def B86_8 (_n : Nat) (L : (Int × Unit) × ((List Bool) × Unit) × Unit → Option (((Unit) × ((List Bool) × Unit) × Unit))) (n_8 : Int) (o_30 : List Bool) : Option (((Unit) × ((List Bool) × Unit) × Unit)) :=
  cond (decide (n_8 < (o_30.length : Int))) (enumK (L (((IntKind.wrap .i64 (n_8 + ((min (o_30.take n_8.toNat).length (o_30.length - n_8.toNat) : Nat) : Int))), ()), ((overL o_30 (o_30.take n_8.toNat) n_8.toNat), ()), ())) fun E => agreeK [leK 0 n_8 (leK n_8 (o_30.length : Int) (leK 0 n_8 (leK n_8 (o_30.length : Int) (E)))), leK 0 n_8 (leK n_8 (o_30.length : Int) (leK 0 n_8 (leK n_8 (o_30.length : Int) (E))))]) (some ((), (o_30, ()), ()))
noncomputable def L86_8 : Nat → (Int × Unit) × ((List Bool) × Unit) × Unit → Option (((Unit) × ((List Bool) × Unit) × Unit))
  | 0, _ => none
  | n + 1, d => B86_8 n (L86_8 n) d.1.1 d.2.1.1
noncomputable def l86_8 : LoopI := ⟨⟨[(7, .c (.view 30 [])), (8, .v (.int .i64))], [(30, true, .list true 4 .bool)], none⟩, [(.exit 0, ⟨[(7, .c (.view 30 []))], [(30, true, .list true 4 .bool)], none⟩)], L86_8⟩
noncomputable def F86 (n : Nat) (x_0 : (List Bool)) (count_1 : Int) : Option (((List Bool) × Unit) × (Unit)) :=
  cond (decide (count_1 < 0)) (none) (derefK (g99 ((IntKind.wrap .u64 (x_0.length : Int)), (IntKind.wrap .u64 count_1), ())) fun y1 => cond (decide (y1.1.1 > 0)) (none) (cond (decide (y1.1.2.1 > 9223372036854775807)) (none) (leK 0 (IntKind.wrap .i64 y1.1.2.1) (leK (IntKind.wrap .i64 y1.1.2.1) (IntKind.wrap .i64 y1.1.2.1) (lenK (IntKind.wrap .i64 y1.1.2.1) (bindV ((min x_0.length ((List.replicate (IntKind.wrap .i64 y1.1.2.1).toNat false).length - (0 : Int).toNat) : Nat) : Int) fun z2 => derefK (L86_8 n ((z2, ()), ((overL (List.replicate (IntKind.wrap .i64 y1.1.2.1).toNat false) x_0 (0 : Int).toNat), ()), ())) fun o3 => some ((o3.2.1.1, ()), ())))))))
noncomputable def g86 (d : (List Bool) × Int × Unit) : Option (((List Bool) × Unit) × (Unit)) := F86 fuel d.1 d.2.1
noncomputable def p86 : Prim := ⟨[.v (.list false 4 .bool), .v (.int .i64)], [.own 4 .bool], g86⟩
noncomputable def c86 : Cfg := ⟨48, tyT, [], [(99, p99)], [(8, l86_8)], [], [9], [], [], [], [], [], [], [], none⟩
theorem F86_eq (n : Nat) (d) : absFn c86 n Try.f86 (body Try.f86) [.v (.list false 4 .bool), .v (.int .i64)] [.own 4 .bool] d = F86 n d.1 d.2.1 := by kernel_rfl
theorem L86_8_eq (n : Nat) (d) : (l86_8).g (n + 1) d = run c86 n (nth 0 (loopsOf (body Try.f86))) ((l86_8).ins.fill d) (roundK (l86_8) n) := by kernel_rfl
theorem ls86 : loopsOf (body Try.f86) = [nth 0 (loopsOf (body Try.f86))] := by kernel_rfl
theorem d86 : drawOK c86 (body Try.f86) = true := by kernel_rfl
theorem h86 : GoodF Try.prog 86 p86 := fn_done mixed (cfg := c86) (cfg_ok tyT_ok (goodCons h99 goodNil) rfl (by kernel_rfl)) Try.func86 rfl rfl (by kernel_rfl) rfl (by rw [ls86]; simp only [List.forall_mem_cons]; exact ⟨loopHas (key := 8) (li := l86_8) (by kernel_rfl) rfl (fun _ => rfl) (L86_8_eq), fun _ h => by cases h⟩) d86 (fun d y h => ⟨fuel, (F86_eq fuel d).trans h⟩)
-- function 87
noncomputable def F87 (_n : Nat) (p_0 : zTd) (x_1 : (Int × (Int × Int))) : Option ((Unit) × (zTd × Unit)) :=
  cond (x_1.2.1 == 1) (negK x_1.2.2 (some ((), ((p_0.1, ((bitsI .or .i64 p_0.2.1 (shlI .i64 1 x_1.2.2)), p_0.2.2)), ())))) (cond (x_1.2.1 == 2) (negK x_1.2.2 (bindV (p_0.1, ((bitsI .andNot .i64 p_0.2.1 (shlI .i64 1 x_1.2.2)), p_0.2.2)) fun z1 => some ((), (z1, ())))) (cond (x_1.2.1 == 3) (inR x_1.2.2 p_0.2.2.1.length (getI p_0.2.2.1 x_1.2.2 fun _ => some ((), ((p_0.1, (p_0.2.1, ((p_0.2.2.1.set x_1.2.2.toNat true), p_0.2.2.2))), ())))) (cond (x_1.2.1 == 4) (cond (x_1.2.1 == 4) (inR (p_0.1.1.length : Int) p_0.2.2.1.length (getI p_0.2.2.1 (p_0.1.1.length : Int) fun _ => bindV (p_0.1, (p_0.2.1, ((p_0.2.2.1.set (p_0.1.1.length : Int).toNat (x_1.2.1 == 4)), p_0.2.2.2))) fun z4 => some ((), (z4, ())))) (some ((), (p_0, ())))) (cond (x_1.2.1 == 5) (inR (p_0.1.1.length : Int) p_0.2.2.1.length (getI p_0.2.2.1 (p_0.1.1.length : Int) fun _ => bindV (p_0.1, (p_0.2.1, ((p_0.2.2.1.set (p_0.1.1.length : Int).toNat (x_1.2.1 == 4)), p_0.2.2.2))) fun z6 => some ((), (z6, ())))) (some ((), (p_0, ())))))))
noncomputable def g87 (d : zTd × (Int × (Int × Int)) × Unit) : Option ((Unit) × (zTd × Unit)) := F87 fuel d.1 d.2.1
noncomputable def p87 : Prim := ⟨[.m (.str (.pair (.str zTa) zTf)), .v (.str zTc)], [], g87⟩
noncomputable def c87 : Cfg := ⟨56, tyT, [], [], [], [], [], [], [], [], [], [], [], [], none⟩
theorem F87_eq (n : Nat) (d) : absFn c87 n Try.f87 (body Try.f87) [.m (.str (.pair (.str zTa) zTf)), .v (.str zTc)] [] d = F87 n d.1 d.2.1 := by kernel_rfl
theorem d87 : drawOK c87 (body Try.f87) = true := by kernel_rfl
theorem h87 : GoodF Try.prog 87 p87 := fn_done mixed (cfg := c87) (cfg_ok tyT_ok (goodNil) rfl (by kernel_rfl)) Try.func87 rfl rfl (by kernel_rfl) rfl (noLoops (by kernel_rfl)) d87 (fun d y h => ⟨fuel, (F87_eq fuel d).trans h⟩)
-- function 88
noncomputable def Q88_6 (_n : Nat) (L : ((Option zTd) × Bool × Unit) → Option (X × (Bool × Unit))) (t_33 : Int) (p_1 : (Option zTd)) (live_5 : Bool) : Option (X × (Bool × Unit)) :=
  cond (t_33 == (-1)) (derefK p_1 fun q6 => cond live_5 (derefK p_1 fun q7 => getI q7.2.2.1 (q6.1.1.length : Int) fun e8 => L (p_1, e8, ())) (L (p_1, false, ()))) (cond live_5 (derefK p_1 fun q9 => getI q9.2.2.1 t_33 fun e10 => L (p_1, e10, ())) (L (p_1, false, ())))
noncomputable def R88_6 (n : Nat) : List Int → ((Option zTd) × Bool × Unit) → Option (X × (Bool × Unit))
  | [], d => some (.norm, (d.2.1, ()))
  | x :: r, d => Q88_6 n (R88_6 n r) x d.1 d.2.1
noncomputable def r88_6 : RLoopI := ⟨.int .i64, [1, 5], [.r (.ptr (.str (.pair (.str zTa) zTi))), .m .bool], [.norm], R88_6⟩
noncomputable def B88_2 (n : Nat) (L : ((Option zTd) × Int × zTe × Int × Int × Unit) × (Unit) × Unit → Option (((Int × Unit) × (Unit) × Unit))) (p_1 : Option zTd) (set_2 : Int) (t_11 : List (Int × (Int × (Int × Int)))) (t_12 : Int) (t_13 : Int) : Option (((Int × Unit) × (Unit) × Unit)) :=
  cond (decide (t_13 < t_12)) (getI t_11 t_13 fun e2 => derefK p_1 fun q3 => negK t_13 (derefK p_1 fun q4 => derefK (It.m65.p.g (q4.1, e2.1, ())) fun y5 => derefK y5.1.2.1 fun q6 => derefK (It.it95.g (y5.1.1, q6, ())) fun l8 => derefK (R88_6 n l8 (p_1, ((bitsI .and .i64 (shrI .i64 q3.2.1 t_13) 1) == 1), ())) fun o7 => cond (X.same .norm o7.1) (cond o7.2.1 (negK t_13 (L ((p_1, (bitsI .or .i64 set_2 (shlI .i64 1 t_13)), t_11, t_12, (IntKind.wrap .i64 (t_13 + 1)), ()), (), ()))) (L ((p_1, set_2, t_11, t_12, (IntKind.wrap .i64 (t_13 + 1)), ()), (), ()))) (none))) (some ((set_2, ()), (), ()))
noncomputable def L88_2 : Nat → ((Option zTd) × Int × zTe × Int × Int × Unit) × (Unit) × Unit → Option (((Int × Unit) × (Unit) × Unit))
  | 0, _ => none
  | n + 1, d => B88_2 n (L88_2 n) d.1.1 d.1.2.1 d.1.2.2.1 d.1.2.2.2.1 d.1.2.2.2.2.1
noncomputable def l88_2 : LoopI := ⟨⟨[(1, .r (.ptr (.str (.pair (.str zTa) zTi)))), (2, .v (.int .i64)), (11, .v (.list false 67 (.str (.pair (.int .i64) zTc)))), (12, .v (.int .i64)), (13, .v (.int .i64))], [], none⟩, [(.exit 0, ⟨[(2, .v (.int .i64))], [], none⟩)], L88_2⟩
noncomputable def F88 (n : Nat) (p_0 : zTd) : Option ((Int × Unit) × (Unit)) :=
  derefK (some p_0) fun q1 => derefK (L88_2 n (((some p_0), 0, q1.1.2.1, (q1.1.2.1.length : Int), 0, ()), (), ())) fun o9 => some ((o9.1.1, ()), ())
noncomputable def g88 (d : zTd × Unit) : Option ((Int × Unit) × (Unit)) := F88 fuel d.1
noncomputable def p88 : Prim := ⟨[.r (.str (.pair (.str zTa) zTi))], [.v (.int .i64)], g88⟩
noncomputable def c88 : Cfg := ⟨59, tyT, [(1, .ptr (.str (.pair (.str zTa) zTi))), (4, .str (.pair (.int .i64) zTc))], [], [(2, l88_2)], [], [5], [(95, It.it95)], [(6, r88_6)], [(65, It.m65)], [], [], [], [], none⟩
theorem F88_eq (n : Nat) (d) : absFn c88 n Try.f88 (body Try.f88) [.r (.str (.pair (.str zTa) zTi))] [.v (.int .i64)] d = F88 n d.1 := by kernel_rfl
theorem L88_2_eq (n : Nat) (d) : (l88_2).g (n + 1) d = run c88 n (nth 0 (loopsOf (body Try.f88))) ((l88_2).ins.fill d) (roundK (l88_2) n) := by kernel_rfl
theorem ls88 : loopsOf (body Try.f88) = [nth 0 (loopsOf (body Try.f88))] := by kernel_rfl
theorem R88_6_eq (n : Nat) (x r d) : (r88_6).g n (x :: r) d = run c88 n (asR (nth 0 (rangesOf (body Try.f88)))) (innerSt r88_6 33 d x) (thenK (bodyK c88 r88_6 n (bdR (nth 0 (rangesOf (body Try.f88)))) r d) failK) := by kernel_rfl
theorem rs88 : rangesOf (body Try.f88) = [nth 0 (rangesOf (body Try.f88))] := by kernel_rfl
theorem d88 : drawD c88 (body Try.f88) = true := by kernel_rfl
theorem h88 : GoodF Try.prog 88 p88 := fn_doneR mixed (cfg := c88) (cfg_ok tyT_ok (goodNil) rfl (by kernel_rfl) (mk_ok (mkCons It.k65 mkNil))) (itCons It.it95_ok itNil) Try.func88 rfl rfl (by kernel_rfl) rfl (by rw [ls88]; simp only [List.forall_mem_cons]; exact ⟨loopHas (key := 2) (li := l88_2) (by kernel_rfl) rfl (fun _ => rfl) (L88_2_eq), fun _ h => by cases h⟩) (by rw [rs88]; simp only [List.forall_mem_cons]; exact ⟨rangeHas (key := 6) (li := r88_6) (p := 33) (by kernel_rfl) rfl (by kernel_rfl) (by kernel_rfl) (noLoops (by kernel_rfl)) (fun _ _ => rfl) R88_6_eq, fun _ h => by cases h⟩) d88 (fun d y h => ⟨fuel, (F88_eq fuel d).trans h⟩)
-- function 89
noncomputable def F89 (_n : Nat) (p_0 : zTd) (b_1 : Int) : Option ((Int × Unit) × (Unit)) :=
  cond (b_1 == (p_0.1.1.length : Int)) (some ((p_0.1.2.2.2.1, ()), ())) (getI p_0.1.1 b_1 fun e1 => some ((e1.2.2.1, ()), ()))
noncomputable def g89 (d : zTd × Int × Unit) : Option ((Int × Unit) × (Unit)) := F89 fuel d.1 d.2.1
noncomputable def p89 : Prim := ⟨[.r (.str (.pair (.str zTa) zTi)), .v (.int .i64)], [.v (.int .i64)], g89⟩
noncomputable def c89 : Cfg := ⟨27, tyT, [], [], [], [], [], [], [], [], [], [], [], [], none⟩
theorem F89_eq (n : Nat) (d) : absFn c89 n Try.f89 (body Try.f89) [.r (.str (.pair (.str zTa) zTi)), .v (.int .i64)] [.v (.int .i64)] d = F89 n d.1 d.2.1 := by kernel_rfl
theorem d89 : drawOK c89 (body Try.f89) = true := by kernel_rfl
theorem h89 : GoodF Try.prog 89 p89 := fn_done mixed (cfg := c89) (cfg_ok tyT_ok (goodNil) rfl (by kernel_rfl)) Try.func89 rfl rfl (by kernel_rfl) rfl (noLoops (by kernel_rfl)) d89 (fun d y h => ⟨fuel, (F89_eq fuel d).trans h⟩)
-- function 90
noncomputable def g90 : (List Int) × (Int × ((List Int) × Unit)) → Option ((List Int × Unit) × Unit) := It.g90
noncomputable def p90 : Prim := It.p90
theorem h90 : GoodF Try.prog 90 p90 := It.h90
-- function 91
noncomputable def g91 : (List Int) × (Int × (Int × Unit)) → Option ((List Int × Unit) × Unit) := It.g91
noncomputable def p91 : Prim := It.p91
theorem h91 : GoodF Try.prog 91 p91 := It.h91
end Go.Proofs.Try.V
