/- The contracts of functions of the program, printed by program from the interpreter: each says what a call returns. No condition beyond those typed in each theorem. -/
import Derived.Test.YtinkjepanpicoaaFn2
namespace Go.Proofs.Try.V
open Go.Vi
set_option maxRecDepth 100000
noncomputable def F41 (_n : Nat) (g_0 : zTc) : Option zTs :=
  derefK (g64 (g_0.1, [], ())) fun y1 => cond (y1.1.1 != 0) (some ((y1.1.1, ()), ())) (derefK (g65 (g_0.2.1, g_0.2.2.1, ())) fun y2 => cond (y2.1.2.1 != 0) (some ((y2.1.2.1, ()), ())) (derefK (g66 (g_0.2.2.2.2.1, ())) fun y3 => cond (y3.1.1 != 0) (some ((y3.1.1, ()), ())) (cond ((g_0.2.1.2.2.length : Int) != (g_0.1.1.length : Int)) (cond ((g_0.2.1.2.2.length : Int) != (g_0.1.1.length : Int)) (some ((120, ()), ())) (derefK (Mk.m67.p.g (200, ())) fun y4 => derefK (g45 (g_0.2.2.2.2.2.1, (fun v5 => derefK y4.1.1 fun q7 => derefK (g68 (v5, q7, ())) fun y6 => some y6.1.1), ())) fun y8 => cond y8.1.1 (cond y8.1.1 (some ((120, ()), ())) (some ((0, ()), ()))) (derefK (Mk.m67.p.g (100, ())) fun y9 => derefK (g45 (g_0.2.2.2.2.2.2, (fun v10 => derefK y9.1.1 fun q12 => derefK (g68 (v10, q12, ())) fun y11 => some y11.1.1), ())) fun y13 => cond y13.1.1 (some ((120, ()), ())) (some ((0, ()), ()))))) (cond ((g_0.2.2.2.2.1.2.1.length : Int) != (g_0.1.1.length : Int)) (cond ((g_0.2.2.2.2.1.2.1.length : Int) != (g_0.1.1.length : Int)) (some ((120, ()), ())) (derefK (Mk.m67.p.g (200, ())) fun y14 => derefK (g45 (g_0.2.2.2.2.2.1, (fun v15 => derefK y14.1.1 fun q17 => derefK (g68 (v15, q17, ())) fun y16 => some y16.1.1), ())) fun y18 => cond y18.1.1 (cond y18.1.1 (some ((120, ()), ())) (some ((0, ()), ()))) (derefK (Mk.m67.p.g (100, ())) fun y19 => derefK (g45 (g_0.2.2.2.2.2.2, (fun v20 => derefK y19.1.1 fun q22 => derefK (g68 (v20, q22, ())) fun y21 => some y21.1.1), ())) fun y23 => cond y23.1.1 (some ((120, ()), ())) (some ((0, ()), ()))))) (cond ((g_0.2.2.2.2.2.1.length : Int) != (g_0.1.1.length : Int)) (cond ((g_0.2.2.2.2.2.1.length : Int) != (g_0.1.1.length : Int)) (some ((120, ()), ())) (derefK (Mk.m67.p.g (200, ())) fun y24 => derefK (g45 (g_0.2.2.2.2.2.1, (fun v25 => derefK y24.1.1 fun q27 => derefK (g68 (v25, q27, ())) fun y26 => some y26.1.1), ())) fun y28 => cond y28.1.1 (cond y28.1.1 (some ((120, ()), ())) (some ((0, ()), ()))) (derefK (Mk.m67.p.g (100, ())) fun y29 => derefK (g45 (g_0.2.2.2.2.2.2, (fun v30 => derefK y29.1.1 fun q32 => derefK (g68 (v30, q32, ())) fun y31 => some y31.1.1), ())) fun y33 => cond y33.1.1 (some ((120, ()), ())) (some ((0, ()), ()))))) (cond ((g_0.2.2.2.2.2.2.length : Int) != (g_0.1.1.length : Int)) (cond ((g_0.2.2.2.2.2.2.length : Int) != (g_0.1.1.length : Int)) (some ((120, ()), ())) (derefK (Mk.m67.p.g (200, ())) fun y34 => derefK (g45 (g_0.2.2.2.2.2.1, (fun v35 => derefK y34.1.1 fun q37 => derefK (g68 (v35, q37, ())) fun y36 => some y36.1.1), ())) fun y38 => cond y38.1.1 (cond y38.1.1 (some ((120, ()), ())) (some ((0, ()), ()))) (derefK (Mk.m67.p.g (100, ())) fun y39 => derefK (g45 (g_0.2.2.2.2.2.2, (fun v40 => derefK y39.1.1 fun q42 => derefK (g68 (v40, q42, ())) fun y41 => some y41.1.1), ())) fun y43 => cond y43.1.1 (some ((120, ()), ())) (some ((0, ()), ()))))) (derefK (g69 (g_0.2.2.2.1, 0, 10000, ())) fun y44 => cond (!y44.1.1) (some ((120, ()), ())) (derefK (Mk.m67.p.g (200, ())) fun y45 => derefK (g45 (g_0.2.2.2.2.2.1, (fun v46 => derefK y45.1.1 fun q48 => derefK (g68 (v46, q48, ())) fun y47 => some y47.1.1), ())) fun y49 => cond y49.1.1 (cond y49.1.1 (some ((120, ()), ())) (some ((0, ()), ()))) (derefK (Mk.m67.p.g (100, ())) fun y50 => derefK (g45 (g_0.2.2.2.2.2.2, (fun v51 => derefK y50.1.1 fun q53 => derefK (g68 (v51, q53, ())) fun y52 => some y52.1.1), ())) fun y54 => cond y54.1.1 (some ((120, ()), ())) (some ((0, ()), ())))))))))))
noncomputable def g41 (d : zTc × Unit) : Option zTs := F41 fuel d.1
noncomputable def p41 : Prim := ⟨[.v (.str (.pair (.str zTd) (.pair (.str zTb) (.pair (.list false 48 (.str (.pair zI zTa))) (.pair zI (.pair (.str (.pair (.list false 46 (.str zTa)) (.pair (.list false 44 (.str zTa)) zTg))) (.pair zTh zTh)))))))], [.v zI], g41⟩
noncomputable def c41 : Cfg := ⟨74, tyT, [(1, .str (.pair (.str zTd) (.pair (.str zTb) (.pair (.list false 48 (.str (.pair zI zTa))) (.pair zI (.pair (.str (.pair (.list false 46 (.str zTa)) (.pair (.list false 44 (.str zTa)) zTg))) (.pair zTh zTh)))))))], [(45, p45), (64, p64), (65, p65), (66, p66), (68, p68), (69, p69)], [], [], [18, 19], [], [], [(67, Mk.m67)], [], [], [], [], none⟩
theorem F41_eq (n : Nat) (d) : absFn c41 n Try.f41 (body Try.f41) p41.ps p41.rs d = F41 n d.1 := by kernel_rfl
theorem d41 : drawOK c41 (body Try.f41) = true := by kernel_rfl
theorem h41 : GoodF Try.prog 41 p41 := hQ (cfg := c41) (cfg_ok tyT_ok (goodCons h45 (goodCons h64 (goodCons h65 (goodCons h66 (goodCons h68 (goodCons h69 goodNil)))))) rfl (by kernel_rfl) (mk_ok (mkCons Mk.k67 mkNil))) Try.func41 (by kernel_rfl) (noLoops (by kernel_rfl)) d41 (F41_eq fuel)
noncomputable def F79 (_n : Nat) (x_0 : (Int × zTe)) (t_1 : Int) : Option zTm :=
  some (((decide (x_0.1 > t_1)), ()), ())
noncomputable def g79 (d : (Int × zTe) × Int × Unit) : Option zTm := F79 fuel d.1 d.2.1
noncomputable def p79 : Prim := ⟨[.v (.str (.pair zI zTa)), .r zI], [.v .bool], g79⟩
noncomputable def c79 : Cfg := ⟨8, tyT, [], [], [], [], [], [], [], [], [], [], [], [], none⟩
theorem F79_eq (n : Nat) (d) : absFn c79 n Try.f79 (body Try.f79) p79.ps p79.rs d = F79 n d.1 d.2.1 := by kernel_rfl
theorem d79 : drawOK c79 (body Try.f79) = true := by kernel_rfl
theorem h79 : GoodF Try.prog 79 p79 := hQ (cfg := c79) (cfg_ok tyT_ok (goodNil) rfl (by kernel_rfl)) Try.func79 (by kernel_rfl) (noLoops (by kernel_rfl)) d79 (F79_eq fuel)
noncomputable def F58 (_n : Nat) (l_0 : zTo) (day_1 : Int) : Option ((zTo × Unit) × (Unit)) :=
  derefK (g78 (l_0.2, (fun v1 => derefK (g79 (v1, day_1, ())) fun y2 => some y2.1.1), ())) fun y3 => cond (decide (y3.1.1 ≥ 0)) (leK 0 y3.1.1 (leK y3.1.1 (l_0.2.length : Int) (some (((l_0.1, (l_0.2.take y3.1.1.toNat)), ()), ())))) (some ((l_0, ()), ()))
noncomputable def g58 (d : zTo × Int × Unit) : Option ((zTo × Unit) × (Unit)) := F58 fuel d.1 d.2.1
noncomputable def p58 : Prim := ⟨[.v (.str (.pair (.str zTb) (.list false 48 (.str (.pair zI zTa))))), .v zI], [.v (.str (.pair (.str zTb) (.list false 48 (.str (.pair zI zTa)))))], g58⟩
noncomputable def c58 : Cfg := ⟨18, tyT, [], [(78, p78), (79, p79)], [], [], [], [], [], [], [], [], [], [], none⟩
theorem F58_eq (n : Nat) (d) : absFn c58 n Try.f58 (body Try.f58) p58.ps p58.rs d = F58 n d.1 d.2.1 := by kernel_rfl
theorem d58 : drawOK c58 (body Try.f58) = true := by kernel_rfl
theorem h58 : GoodF Try.prog 58 p58 := hQ (cfg := c58) (cfg_ok tyT_ok (goodCons h78 (goodCons h79 goodNil)) rfl (by kernel_rfl)) Try.func58 (by kernel_rfl) (noLoops (by kernel_rfl)) d58 (F58_eq fuel)
noncomputable def F37 (_n : Nat) (b_0 : zTf) (entries_1 : (List (Int × zTe))) (day_2 : Int) : Option ((zTo × Int × Unit) × (Unit)) :=
  derefK (g57 (b_0, entries_1, ())) fun y1 => cond (y1.1.2.2.1 != 0) (some ((y1.1.1, y1.1.2.2.1, ()), ())) (derefK (g27 (day_2, 0, 10000, ())) fun y2 => cond (!y2.1.1) (some ((y1.1.1, 1, ()), ())) (derefK (g58 (y1.1.1, day_2, ())) fun y3 => some ((y3.1.1, 0, ()), ())))
noncomputable def g37 (d : zTf × (List (Int × zTe)) × Int × Unit) : Option ((zTo × Int × Unit) × (Unit)) := F37 fuel d.1 d.2.1 d.2.2.1
noncomputable def p37 : Prim := ⟨[.v (.str zTb), .v (.list false 48 (.str (.pair zI zTa))), .v zI], [.v (.str (.pair (.str zTb) (.list false 48 (.str (.pair zI zTa))))), .v zI], g37⟩
noncomputable def c37 : Cfg := ⟨31, tyT, [], [(27, p27), (57, p57), (58, p58)], [], [], [], [], [], [], [], [], [], [], none⟩
theorem F37_eq (n : Nat) (d) : absFn c37 n Try.f37 (body Try.f37) p37.ps p37.rs d = F37 n d.1 d.2.1 d.2.2.1 := by kernel_rfl
theorem d37 : drawOK c37 (body Try.f37) = true := by kernel_rfl
theorem h37 : GoodF Try.prog 37 p37 := hQ (cfg := c37) (cfg_ok tyT_ok (goodCons h27 (goodCons h57 (goodCons h58 goodNil))) rfl (by kernel_rfl)) Try.func37 (by kernel_rfl) (noLoops (by kernel_rfl)) d37 (F37_eq fuel)
noncomputable def Q59_2 (_n : Nat) (L : (Int × ((Int × zTe) → Option Bool) × Int × Unit) → Option (X × (Int × Unit))) (t_10 : (Int × zTe)) (ride_4 : Int) (wanted_5 : ((Int × zTe) → Option Bool)) (t_6 : Int) : Option (X × (Int × Unit)) :=
  derefK (wanted_5 t_10) fun y2 => cond y2 (some (.ret, (t_10.1, ()))) (cond (t_10.2.1 == 6) (cond (t_10.2.2.1 == ride_4) (some (.ret, ((-1), ()))) (L (ride_4, wanted_5, t_6, ()))) (L (ride_4, wanted_5, t_6, ())))
noncomputable def R59_2 (n : Nat) : List (Int × zTe) → (Int × ((Int × zTe) → Option Bool) × Int × Unit) → Option (X × (Int × Unit))
  | [], d => some (.norm, (d.2.2.1, ()))
  | x :: r, d => Q59_2 n (R59_2 n r) x d.1 d.2.1 d.2.2.1
noncomputable def r59_2 : RLoopI := ⟨.str (.pair zI zTa), [4, 5, 6], [.r zI, .r (.fn (.str (.pair zI zTa)) .bool), .m zI], [.norm, .ret], R59_2⟩
noncomputable def F59 (n : Nat) (l_0 : zTo) (ride_1 : Int) (wanted_2 : ((Int × zTe) → Option Bool)) : Option zTs :=
  derefK (Ib.m39.p.g (l_0, ())) fun y1 => derefK y1.1.1 fun q3 => derefK (Ib.it61.g (q3, ())) fun l5 => derefK (R59_2 n l5 (ride_1, wanted_2, (0 : Int), ())) fun o4 => cond (X.same .norm o4.1) (some (((-1), ()), ())) (cond (X.same .ret o4.1) (some ((o4.2.1, ()), ())) (none))
noncomputable def g59 (d : zTo × Int × ((Int × zTe) → Option Bool) × Unit) : Option zTs := F59 fuel d.1 d.2.1 d.2.2.1
noncomputable def p59 : Prim := ⟨[.v (.str (.pair (.str zTb) (.list false 48 (.str (.pair zI zTa))))), .v zI, .v (.fn (.str (.pair zI zTa)) .bool)], [.v zI], g59⟩
noncomputable def c59 : Cfg := ⟨27, tyT, [], [], [], [], [], [(61, Ib.it61)], [(2, r59_2)], [(39, Ib.m39)], [], [], [], [], none⟩
theorem F59_eq (n : Nat) (d) : absFn c59 n Try.f59 (body Try.f59) p59.ps p59.rs d = F59 n d.1 d.2.1 d.2.2.1 := by kernel_rfl
theorem R59_2_eq (n : Nat) (x r d) : (r59_2).g n (x :: r) d = run c59 n (asR (nth 0 (rangesOf (body Try.f59)))) (innerSt r59_2 10 d x) (thenK (bodyK c59 r59_2 n (bdR (nth 0 (rangesOf (body Try.f59)))) r d) failK) := by kernel_rfl
theorem rs59 : rangesOf (body Try.f59) = [nth 0 (rangesOf (body Try.f59))] := by kernel_rfl
theorem d59 : drawD c59 (body Try.f59) = true := by kernel_rfl
theorem h59 : GoodF Try.prog 59 p59 := fn_doneR mixed (cfg := c59) (cfg_ok tyT_ok (goodNil) rfl (by kernel_rfl) (mk_ok (mkCons Ib.k39 mkNil))) (itCons Ib.it61_ok itNil) Try.func59 rfl rfl (by kernel_rfl) rfl (noLoops (by kernel_rfl)) (by rw [rs59]; simp only [List.forall_mem_cons]; exact ⟨rangeHas (key := 2) (li := r59_2) (p := 10) (by kernel_rfl) rfl (by kernel_rfl) (by kernel_rfl) (noLoops (by kernel_rfl)) (fun _ _ => rfl) R59_2_eq, fun _ h => by cases h⟩) d59 (fun d y h => ⟨fuel, (F59_eq fuel d).trans h⟩)
noncomputable def F60 (_n : Nat) (x_0 : (Int × zTe)) (t_1 : Int) : Option zTm :=
  cond (x_0.2.1 == 1) (some (((x_0.2.2.1 == t_1), ()), ())) (some ((false, ()), ()))
noncomputable def g60 (d : (Int × zTe) × Int × Unit) : Option zTm := F60 fuel d.1 d.2.1
noncomputable def p60 : Prim := ⟨[.v (.str (.pair zI zTa)), .r zI], [.v .bool], g60⟩
noncomputable def c60 : Cfg := ⟨13, tyT, [], [], [], [], [], [], [], [], [], [], [], [], none⟩
theorem F60_eq (n : Nat) (d) : absFn c60 n Try.f60 (body Try.f60) p60.ps p60.rs d = F60 n d.1 d.2.1 := by kernel_rfl
theorem d60 : drawOK c60 (body Try.f60) = true := by kernel_rfl
theorem h60 : GoodF Try.prog 60 p60 := hQ (cfg := c60) (cfg_ok tyT_ok (goodNil) rfl (by kernel_rfl)) Try.func60 (by kernel_rfl) (noLoops (by kernel_rfl)) d60 (F60_eq fuel)
noncomputable def F38 (_n : Nat) (l_0 : zTo) (rule_1 : Int) : Option zTs :=
  getI l_0.1.1 rule_1 fun e1 => derefK (g59 (l_0, e1.1, (fun v2 => derefK (g60 (v2, rule_1, ())) fun y3 => some y3.1.1), ())) fun y4 => cond (decide (y4.1.1 < 0)) (some (((-1), ()), ())) (getI l_0.1.1 rule_1 fun e5 => some (((IntKind.wrap .i64 ((IntKind.wrap .i64 (y4.1.1 + e5.2.1)) - 1)), ()), ()))
noncomputable def g38 (d : zTo × Int × Unit) : Option zTs := F38 fuel d.1 d.2.1
noncomputable def p38 : Prim := ⟨[.v (.str (.pair (.str zTb) (.list false 48 (.str (.pair zI zTa))))), .v zI], [.v zI], g38⟩
noncomputable def c38 : Cfg := ⟨28, tyT, [], [(59, p59), (60, p60)], [], [], [], [], [], [], [], [], [], [], none⟩
theorem F38_eq (n : Nat) (d) : absFn c38 n Try.f38 (body Try.f38) p38.ps p38.rs d = F38 n d.1 d.2.1 := by kernel_rfl
theorem d38 : drawOK c38 (body Try.f38) = true := by kernel_rfl
theorem h38 : GoodF Try.prog 38 p38 := hQ (cfg := c38) (cfg_ok tyT_ok (goodCons h59 (goodCons h60 goodNil)) rfl (by kernel_rfl)) Try.func38 (by kernel_rfl) (noLoops (by kernel_rfl)) d38 (F38_eq fuel)
noncomputable def B21_3 (_n : Nat) (L : (Int × Int × (List zTj) × Int × Int × Unit) × (zTo × Unit) × Unit → Option (zTn)) (ride_1 : Int) (day_5 : Int) (t_10 : List zTj) (t_11 : Int) (t_12 : Int) (o_2 : zTf × (List (Int × zTe))) : Option (zTn) :=
  cond (decide (t_12 < t_11)) (getI t_10 t_12 fun e1 => cond (e1.1 == ride_1) (derefK (g38 (o_2, t_12, ())) fun y2 => L ((ride_1, (min day_5 y2.1.1), t_10, t_11, (IntKind.wrap .i64 (t_12 + 1)), ()), (o_2, ()), ())) (L ((ride_1, day_5, t_10, t_11, (IntKind.wrap .i64 (t_12 + 1)), ()), (o_2, ()), ()))) (some ((day_5, ()), (), ()))
noncomputable def L21_3 : Nat → (Int × Int × (List zTj) × Int × Int × Unit) × (zTo × Unit) × Unit → Option (zTn)
  | 0, _ => none
  | n + 1, d => B21_3 n (L21_3 n) d.1.1 d.1.2.1 d.1.2.2.1 d.1.2.2.2.1 d.1.2.2.2.2.1 d.2.1.1
noncomputable def l21_3 : LoopI := ⟨⟨[(1, .v zI), (2, .c (.ptr 2 [])), (5, .v zI), (10, .v (.list false 56 (.str zTi))), (11, .v zI), (12, .v zI)], [(2, false, .str (.pair (.str zTb) (.list false 48 (.str (.pair zI zTa)))))], none⟩, [(.exit 0, ⟨[(5, .v zI)], [], none⟩)], L21_3⟩
noncomputable def F21 (n : Nat) (l_0 : zTo) (ride_1 : Int) : Option zTs :=
  derefK (L21_3 n ((ride_1, 10000, l_0.1.1, (l_0.1.1.length : Int), 0, ()), (l_0, ()), ())) fun o3 => some ((o3.1.1, ()), ())
noncomputable def g21 (d : zTo × Int × Unit) : Option zTs := F21 fuel d.1 d.2.1
noncomputable def p21 : Prim := ⟨[.v (.str (.pair (.str zTb) (.list false 48 (.str (.pair zI zTa))))), .v zI], [.v zI], g21⟩
noncomputable def c21 : Cfg := ⟨28, tyT, [], [(38, p38)], [(3, l21_3)], [], [], [], [], [], [], [], [], [], none⟩
theorem F21_eq (n : Nat) (d) : absFn c21 n Try.f21 (body Try.f21) p21.ps p21.rs d = F21 n d.1 d.2.1 := by kernel_rfl
theorem L21_3_eq (n : Nat) (d) : (l21_3).g (n + 1) d = run c21 n (nth 0 (loopsOf (body Try.f21))) ((l21_3).ins.fill d) (roundK (l21_3) n) := by kernel_rfl
theorem ls21 : loopsOf (body Try.f21) = [nth 0 (loopsOf (body Try.f21))] := by kernel_rfl
theorem d21 : drawOK c21 (body Try.f21) = true := by kernel_rfl
theorem h21 : GoodF Try.prog 21 p21 := hQ (cfg := c21) (cfg_ok tyT_ok (goodCons h38 goodNil) rfl (by kernel_rfl)) Try.func21 (by kernel_rfl) (by rw [ls21]; simp only [List.forall_mem_cons]; exact ⟨loopHas (key := 3) (li := l21_3) (by kernel_rfl) rfl (fun _ => rfl) (L21_3_eq), fun _ h => by cases h⟩) d21 (F21_eq fuel)
noncomputable def Q22_2 (_n : Nat) (L : (Int × Int × Unit) → Option (X × (Int × Unit))) (t_8 : (Int × zTe)) (ride_3 : Int) (t_4 : Int) : Option (X × (Int × Unit)) :=
  cond (t_8.2.1 == 5) (cond (t_8.2.2.1 == ride_3) (some (.ret, (t_8.2.2.2.1, ()))) (L (ride_3, t_4, ()))) (L (ride_3, t_4, ()))
noncomputable def R22_2 (n : Nat) : List (Int × zTe) → (Int × Int × Unit) → Option (X × (Int × Unit))
  | [], d => some (.norm, (d.2.1, ()))
  | x :: r, d => Q22_2 n (R22_2 n r) x d.1 d.2.1
noncomputable def r22_2 : RLoopI := ⟨.str (.pair zI zTa), [3, 4], [.r zI, .m zI], [.norm, .ret], R22_2⟩
noncomputable def F22 (n : Nat) (l_0 : zTo) (ride_1 : Int) : Option zTs :=
  derefK (Ib.m39.p.g (l_0, ())) fun y1 => derefK y1.1.1 fun q2 => derefK (Ib.it61.g (q2, ())) fun l4 => derefK (R22_2 n l4 (ride_1, (0 : Int), ())) fun o3 => cond (X.same .norm o3.1) (getI l_0.1.2.2 ride_1 fun e5 => some ((e5, ()), ())) (cond (X.same .ret o3.1) (some ((o3.2.1, ()), ())) (none))
noncomputable def g22 (d : zTo × Int × Unit) : Option zTs := F22 fuel d.1 d.2.1
noncomputable def p22 : Prim := ⟨[.v (.str (.pair (.str zTb) (.list false 48 (.str (.pair zI zTa))))), .v zI], [.v zI], g22⟩
noncomputable def c22 : Cfg := ⟨26, tyT, [], [], [], [], [], [(61, Ib.it61)], [(2, r22_2)], [(39, Ib.m39)], [], [], [], [], none⟩
theorem F22_eq (n : Nat) (d) : absFn c22 n Try.f22 (body Try.f22) p22.ps p22.rs d = F22 n d.1 d.2.1 := by kernel_rfl
theorem R22_2_eq (n : Nat) (x r d) : (r22_2).g n (x :: r) d = run c22 n (asR (nth 0 (rangesOf (body Try.f22)))) (innerSt r22_2 8 d x) (thenK (bodyK c22 r22_2 n (bdR (nth 0 (rangesOf (body Try.f22)))) r d) failK) := by kernel_rfl
theorem rs22 : rangesOf (body Try.f22) = [nth 0 (rangesOf (body Try.f22))] := by kernel_rfl
theorem d22 : drawD c22 (body Try.f22) = true := by kernel_rfl
theorem h22 : GoodF Try.prog 22 p22 := fn_doneR mixed (cfg := c22) (cfg_ok tyT_ok (goodNil) rfl (by kernel_rfl) (mk_ok (mkCons Ib.k39 mkNil))) (itCons Ib.it61_ok itNil) Try.func22 rfl rfl (by kernel_rfl) rfl (noLoops (by kernel_rfl)) (by rw [rs22]; simp only [List.forall_mem_cons]; exact ⟨rangeHas (key := 2) (li := r22_2) (p := 8) (by kernel_rfl) rfl (by kernel_rfl) (by kernel_rfl) (noLoops (by kernel_rfl)) (fun _ _ => rfl) R22_2_eq, fun _ h => by cases h⟩) d22 (fun d y h => ⟨fuel, (F22_eq fuel d).trans h⟩)
noncomputable def B40_2 (_n : Nat) (L : zUo × (zTo × (List Int) × Unit) × Unit → Option zUe) (t_6 : List (Int × zTe)) (t_7 : Int) (t_8 : Int) (o_1 : zTf × (List (Int × zTe))) (o_2 : List Int) : Option zUe :=
  cond (decide (t_8 < t_7)) (getI t_6 t_8 fun e1 => cond (e1.2.1 == 2) (derefK (g63 (o_1, t_8, ())) fun y2 => cond (!y2.1.1) (lenK ((o_2.length : Int) + [t_8].length) (L ((t_6, t_7, (IntKind.wrap .i64 (t_8 + 1)), ()), (o_1, (o_2 ++ [t_8]), ()), ()))) (L ((t_6, t_7, (IntKind.wrap .i64 (t_8 + 1)), ()), (o_1, o_2, ()), ()))) (L ((t_6, t_7, (IntKind.wrap .i64 (t_8 + 1)), ()), (o_1, o_2, ()), ()))) (some ((), (o_2, ()), ()))
noncomputable def L40_2 : Nat → zUo × (zTo × (List Int) × Unit) × Unit → Option zUe
  | 0, _ => none
  | n + 1, d => B40_2 n (L40_2 n) d.1.1 d.1.2.1 d.1.2.2.1 d.2.1.1 d.2.1.2.1
noncomputable def l40_2 : LoopI := ⟨⟨[(1, .c (.ptr 1 [])), (2, .c (.view 2 [])), (6, .v (.list false 48 (.str (.pair zI zTa)))), (7, .v zI), (8, .v zI)], [(1, false, .str (.pair (.str zTb) (.list false 48 (.str (.pair zI zTa))))), (2, true, .list true 3 zI)], none⟩, [(.exit 0, ⟨[(2, .c (.view 2 []))], [(2, true, .list true 3 zI)], none⟩)], L40_2⟩
noncomputable def F40 (n : Nat) (l_0 : zTo) : Option (zTu × (Unit)) :=
  derefK (L40_2 n ((l_0.2, (l_0.2.length : Int), 0, ()), (l_0, ([] : List Int), ()), ())) fun o3 => some ((o3.2.1.1, ()), ())
noncomputable def g40 (d : zTo × Unit) : Option (zTu × (Unit)) := F40 fuel d.1
noncomputable def p40 : Prim := ⟨[.v (.str (.pair (.str zTb) (.list false 48 (.str (.pair zI zTa)))))], [.own 3 zI], g40⟩
noncomputable def c40 : Cfg := ⟨28, tyT, [], [(63, p63)], [(2, l40_2)], [], [], [], [], [], [], [], [], [], none⟩
theorem F40_eq (n : Nat) (d) : absFn c40 n Try.f40 (body Try.f40) p40.ps p40.rs d = F40 n d.1 := by kernel_rfl
theorem L40_2_eq (n : Nat) (d) : (l40_2).g (n + 1) d = run c40 n (nth 0 (loopsOf (body Try.f40))) ((l40_2).ins.fill d) (roundK (l40_2) n) := by kernel_rfl
theorem ls40 : loopsOf (body Try.f40) = [nth 0 (loopsOf (body Try.f40))] := by kernel_rfl
theorem d40 : drawOK c40 (body Try.f40) = true := by kernel_rfl
theorem h40 : GoodF Try.prog 40 p40 := hQ (cfg := c40) (cfg_ok tyT_ok (goodCons h63 goodNil) rfl (by kernel_rfl)) Try.func40 (by kernel_rfl) (by rw [ls40]; simp only [List.forall_mem_cons]; exact ⟨loopHas (key := 2) (li := l40_2) (by kernel_rfl) rfl (fun _ => rfl) (L40_2_eq), fun _ h => by cases h⟩) d40 (F40_eq fuel)
noncomputable def B23_3 (_n : Nat) (L : zUf × (zTo × (List Int) × (List Int) × Unit) × Unit → Option zUe) (ride_1 : Int) (t_11 : Int) (t_12 : Int) (o_2 : zTf × (List (Int × zTe))) (o_5 : List Int) (o_11000 : List Int) : Option zUe :=
  cond (decide (t_12 < t_11)) (inR t_12 o_11000.length (getI o_11000 t_12 fun e2 => getI o_2.2 e2 fun e3 => cond (e3.2.2.1 == ride_1) (inR e3.2.2.2.1 4 (getI o_5 e3.2.2.2.1 fun e4 => inR e3.2.2.2.1 4 (getI o_5 e3.2.2.2.1 fun _ => L ((ride_1, t_11, (IntKind.wrap .i64 (t_12 + 1)), ()), (o_2, (o_5.set e3.2.2.2.1.toNat (IntKind.wrap .i64 (e4 + 1))), o_11000, ()), ())))) (L ((ride_1, t_11, (IntKind.wrap .i64 (t_12 + 1)), ()), (o_2, o_5, o_11000, ()), ())))) (some ((), (o_5, ()), ()))
noncomputable def L23_3 : Nat → zUf × (zTo × (List Int) × (List Int) × Unit) × Unit → Option zUe
  | 0, _ => none
  | n + 1, d => B23_3 n (L23_3 n) d.1.1 d.1.2.1 d.1.2.2.1 d.2.1.1 d.2.1.2.1 d.2.1.2.2.1
noncomputable def l23_3 : LoopI := ⟨⟨[(1, .v zI), (2, .c (.ptr 2 [])), (5, .c (.ptr 5 [])), (10, .c (.view 11000 [])), (11, .v zI), (12, .v zI)], [(2, false, .str (.pair (.str zTb) (.list false 48 (.str (.pair zI zTa))))), (5, false, .arr 4 zI), (11000, true, .list true 3 zI)], none⟩, [(.exit 0, ⟨[(5, .c (.ptr 5 []))], [(5, false, .arr 4 zI)], none⟩)], L23_3⟩
noncomputable def F23 (n : Nat) (l_0 : zTo) (ride_1 : Int) : Option zTm :=
  derefK (g40 (l_0, ())) fun y1 => derefK (L23_3 n ((ride_1, (y1.1.1.length : Int), 0, ()), (l_0, (List.replicate 4 (0 : Int)), y1.1.1, ()), ())) fun o6 => inR 3 4 (getI o6.2.1.1 3 fun e7 => cond (e7 == 0) (inR 2 4 (getI o6.2.1.1 2 fun e8 => some (((decide (e8 ≤ 1)), ()), ()))) (some ((false, ()), ())))
noncomputable def g23 (d : zTo × Int × Unit) : Option zTm := F23 fuel d.1 d.2.1
noncomputable def p23 : Prim := ⟨[.v (.str (.pair (.str zTb) (.list false 48 (.str (.pair zI zTa))))), .v zI], [.v .bool], g23⟩
noncomputable def c23 : Cfg := ⟨40, tyT, [], [(40, p40)], [(3, l23_3)], [], [], [], [], [], [], [], [], [], none⟩
theorem F23_eq (n : Nat) (d) : absFn c23 n Try.f23 (body Try.f23) p23.ps p23.rs d = F23 n d.1 d.2.1 := by kernel_rfl
theorem L23_3_eq (n : Nat) (d) : (l23_3).g (n + 1) d = run c23 n (nth 0 (loopsOf (body Try.f23))) ((l23_3).ins.fill d) (roundK (l23_3) n) := by kernel_rfl
theorem ls23 : loopsOf (body Try.f23) = [nth 0 (loopsOf (body Try.f23))] := by kernel_rfl
theorem d23 : drawOK c23 (body Try.f23) = true := by kernel_rfl
theorem h23 : GoodF Try.prog 23 p23 := hQ (cfg := c23) (cfg_ok tyT_ok (goodCons h40 goodNil) rfl (by kernel_rfl)) Try.func23 (by kernel_rfl) (by rw [ls23]; simp only [List.forall_mem_cons]; exact ⟨loopHas (key := 3) (li := l23_3) (by kernel_rfl) rfl (fun _ => rfl) (L23_3_eq), fun _ h => by cases h⟩) d23 (F23_eq fuel)
noncomputable def F96 (_n : Nat) (reason_0 : Int) (is_1 : Bool) (t_2 : (List Int)) : Option ((Unit) × zTu) :=
  cond is_1 (lenK ((t_2.length : Int) + [reason_0].length) (some ((), ((t_2 ++ [reason_0]), ())))) (some ((), (t_2, ())))
noncomputable def g96 (d : Int × Bool × (List Int) × Unit) : Option ((Unit) × zTu) := F96 fuel d.1 d.2.1 d.2.2.1
noncomputable def p96 : Prim := ⟨[.v zI, .v .bool, .m zTx], [], g96⟩
noncomputable def c96 : Cfg := ⟨10, tyT, [], [], [], [], [], [], [], [], [], [], [], [], none⟩
theorem F96_eq (n : Nat) (d) : absFn c96 n Try.f96 (body Try.f96) p96.ps p96.rs d = F96 n d.1 d.2.1 d.2.2.1 := by kernel_rfl
theorem d96 : drawOK c96 (body Try.f96) = true := by kernel_rfl
theorem h96 : GoodF Try.prog 96 p96 := hQ (cfg := c96) (cfg_ok tyT_ok (goodNil) rfl (by kernel_rfl)) Try.func96 (by kernel_rfl) (noLoops (by kernel_rfl)) d96 (F96_eq fuel)
noncomputable def F97 (_n : Nat) (x_0 : (Int × zTe)) (t_1 : Int) : Option zTm :=
  cond (x_0.2.1 == 4) (some (((x_0.2.2.1 == t_1), ()), ())) (some ((false, ()), ()))
noncomputable def g97 (d : (Int × zTe) × Int × Unit) : Option zTm := F97 fuel d.1 d.2.1
noncomputable def p97 : Prim := ⟨[.v (.str (.pair zI zTa)), .r zI], [.v .bool], g97⟩
noncomputable def c97 : Cfg := ⟨13, tyT, [], [], [], [], [], [], [], [], [], [], [], [], none⟩
theorem F97_eq (n : Nat) (d) : absFn c97 n Try.f97 (body Try.f97) p97.ps p97.rs d = F97 n d.1 d.2.1 := by kernel_rfl
theorem d97 : drawOK c97 (body Try.f97) = true := by kernel_rfl
theorem h97 : GoodF Try.prog 97 p97 := hQ (cfg := c97) (cfg_ok tyT_ok (goodNil) rfl (by kernel_rfl)) Try.func97 (by kernel_rfl) (noLoops (by kernel_rfl)) d97 (F97_eq fuel)
noncomputable def F89 (_n : Nat) (l_0 : zTo) (ride_1 : Int) (day_2 : Int) : Option (zTu × (Unit)) :=
  derefK (g21 (l_0, ride_1, ())) fun y1 => derefK (g96 (1, (decide (y1.1.1 < day_2)), ([] : List Int), ())) fun y2 => derefK (g23 (l_0, ride_1, ())) fun y3 => derefK (g96 (2, (!y3.1.1), y2.2.1, ())) fun y4 => derefK (g59 (l_0, ride_1, (fun v5 => derefK (g97 (v5, ride_1, ())) fun y6 => some y6.1.1), ())) fun y7 => derefK (g96 (3, (y7.1.1 != day_2), y4.2.1, ())) fun y8 => derefK (g22 (l_0, ride_1, ())) fun y9 => derefK (g96 (4, (decide (y9.1.1 < day_2)), y8.2.1, ())) fun y10 => some ((y10.2.1, ()), ())
noncomputable def g89 (d : zTo × Int × Int × Unit) : Option (zTu × (Unit)) := F89 fuel d.1 d.2.1 d.2.2.1
noncomputable def p89 : Prim := ⟨[.v (.str (.pair (.str zTb) (.list false 48 (.str (.pair zI zTa))))), .v zI, .v zI], [.v zTh], g89⟩
noncomputable def c89 : Cfg := ⟨38, tyT, [(6, .list true 3 zI)], [(21, p21), (22, p22), (23, p23), (59, p59), (96, p96), (97, p97)], [], [], [], [], [], [], [], [], [], [], none⟩
theorem F89_eq (n : Nat) (d) : absFn c89 n Try.f89 (body Try.f89) p89.ps p89.rs d = F89 n d.1 d.2.1 d.2.2.1 := by kernel_rfl
theorem d89 : drawOK c89 (body Try.f89) = true := by kernel_rfl
theorem h89 : GoodF Try.prog 89 p89 := hQ (cfg := c89) (cfg_ok tyT_ok (goodCons h21 (goodCons h22 (goodCons h23 (goodCons h59 (goodCons h96 (goodCons h97 goodNil)))))) rfl (by kernel_rfl)) Try.func89 (by kernel_rfl) (noLoops (by kernel_rfl)) d89 (F89_eq fuel)
noncomputable def B70_5 (_n : Nat) (L : zUf × ((List Int) × zTo × Unit) × Unit → Option zUe) (day_2 : Int) (t_23 : Int) (t_24 : Int) (o_6 : List Int) (o_8 : zTf × (List (Int × zTe))) : Option zUe :=
  cond (decide (t_24 < t_23)) (derefK (g89 (o_8, t_24, day_2, ())) fun y2 => cond ((y2.1.1.length : Int) == 0) (lenK ((o_6.length : Int) + [t_24].length) (L ((day_2, t_23, (IntKind.wrap .i64 (t_24 + 1)), ()), ((o_6 ++ [t_24]), o_8, ()), ()))) (L ((day_2, t_23, (IntKind.wrap .i64 (t_24 + 1)), ()), (o_6, o_8, ()), ()))) (some ((), (o_6, ()), ()))
noncomputable def L70_5 : Nat → zUf × ((List Int) × zTo × Unit) × Unit → Option zUe
  | 0, _ => none
  | n + 1, d => B70_5 n (L70_5 n) d.1.1 d.1.2.1 d.1.2.2.1 d.2.1.1 d.2.1.2.1
noncomputable def l70_5 : LoopI := ⟨⟨[(2, .v zI), (6, .c (.view 6 [])), (8, .c (.ptr 8 [])), (23, .v zI), (24, .v zI)], [(6, true, .list true 3 zI), (8, false, .str (.pair (.str zTb) (.list false 48 (.str (.pair zI zTa)))))], none⟩, [(.exit 0, ⟨[(6, .c (.view 6 []))], [(6, true, .list true 3 zI)], none⟩)], L70_5⟩
noncomputable def F70 (n : Nat) (b_0 : zTf) (entries_1 : (List (Int × zTe))) (day_2 : Int) : Option zUg :=
  derefK (g37 (b_0, entries_1, day_2, ())) fun y1 => cond (y1.1.2.1 != 0) (some ((([] : List Int), y1.1.2.1, ()), ())) (derefK (L70_5 n ((day_2, (y1.1.1.1.2.2.length : Int), 0, ()), (([] : List Int), y1.1.1, ()), ())) fun o3 => some ((o3.2.1.1, 0, ()), ()))
noncomputable def g70 (d : zTf × (List (Int × zTe)) × Int × Unit) : Option zUg := F70 fuel d.1 d.2.1 d.2.2.1
noncomputable def p70 : Prim := ⟨[.v (.str zTb), .v (.list false 48 (.str (.pair zI zTa))), .v zI], [.own 3 zI, .v zI], g70⟩
noncomputable def c70 : Cfg := ⟨39, tyT, [], [(37, p37), (89, p89)], [(5, l70_5)], [], [], [], [], [], [], [], [], [], none⟩
theorem F70_eq (n : Nat) (d) : absFn c70 n Try.f70 (body Try.f70) p70.ps p70.rs d = F70 n d.1 d.2.1 d.2.2.1 := by kernel_rfl
theorem L70_5_eq (n : Nat) (d) : (l70_5).g (n + 1) d = run c70 n (nth 0 (loopsOf (body Try.f70))) ((l70_5).ins.fill d) (roundK (l70_5) n) := by kernel_rfl
theorem ls70 : loopsOf (body Try.f70) = [nth 0 (loopsOf (body Try.f70))] := by kernel_rfl
theorem d70 : drawOK c70 (body Try.f70) = true := by kernel_rfl
theorem h70 : GoodF Try.prog 70 p70 := hQ (cfg := c70) (cfg_ok tyT_ok (goodCons h37 (goodCons h89 goodNil)) rfl (by kernel_rfl)) Try.func70 (by kernel_rfl) (by rw [ls70]; simp only [List.forall_mem_cons]; exact ⟨loopHas (key := 5) (li := l70_5) (by kernel_rfl) rfl (fun _ => rfl) (L70_5_eq), fun _ h => by cases h⟩) d70 (F70_eq fuel)
noncomputable def F98 (_n : Nat) (s_0 : zTl) (set_1 : Int) : Option zTm :=
  negK (s_0.2.1.length : Int) (derefK (g88 (set_1, 0, (IntKind.wrap .i64 ((shlI .i64 1 (s_0.2.1.length : Int)) - 1)), ())) fun y1 => some ((y1.1.1, ()), ()))
noncomputable def g98 (d : zTl × Int × Unit) : Option zTm := F98 fuel d.1 d.2.1
noncomputable def p98 : Prim := ⟨[.v (.str (.pair (.list false 46 (.str zTa)) (.pair (.list false 44 (.str zTa)) zTg))), .v zI], [.v .bool], g98⟩
noncomputable def c98 : Cfg := ⟨12, tyT, [], [(88, p88)], [], [], [], [], [], [], [], [], [], [], none⟩
theorem F98_eq (n : Nat) (d) : absFn c98 n Try.f98 (body Try.f98) p98.ps p98.rs d = F98 n d.1 d.2.1 := by kernel_rfl
theorem d98 : drawOK c98 (body Try.f98) = true := by kernel_rfl
theorem h98 : GoodF Try.prog 98 p98 := hQ (cfg := c98) (cfg_ok tyT_ok (goodCons h88 goodNil) rfl (by kernel_rfl)) Try.func98 (by kernel_rfl) (noLoops (by kernel_rfl)) d98 (F98_eq fuel)
noncomputable def F90 (_n : Nat) (s_0 : zTl) (set_1 : Int) : Option zTs :=
  derefK (g66 (s_0, ())) fun y1 => cond (y1.1.1 != 0) (some ((y1.1.1, ()), ())) (derefK (g98 (s_0, set_1, ())) fun y2 => cond (!y2.1.1) (some ((1, ()), ())) (some ((0, ()), ())))
noncomputable def g90 (d : zTl × Int × Unit) : Option zTs := F90 fuel d.1 d.2.1
noncomputable def p90 : Prim := ⟨[.v (.str (.pair (.list false 46 (.str zTa)) (.pair (.list false 44 (.str zTa)) zTg))), .v zI], [.v zI], g90⟩
noncomputable def c90 : Cfg := ⟨15, tyT, [], [(66, p66), (98, p98)], [], [], [], [], [], [], [], [], [], [], none⟩
theorem F90_eq (n : Nat) (d) : absFn c90 n Try.f90 (body Try.f90) p90.ps p90.rs d = F90 n d.1 d.2.1 := by kernel_rfl
theorem d90 : drawOK c90 (body Try.f90) = true := by kernel_rfl
theorem h90 : GoodF Try.prog 90 p90 := hQ (cfg := c90) (cfg_ok tyT_ok (goodCons h66 (goodCons h98 goodNil)) rfl (by kernel_rfl)) Try.func90 (by kernel_rfl) (noLoops (by kernel_rfl)) d90 (F90_eq fuel)
noncomputable def Q99_7 (_n : Nat) (L : (zTl × (List (List Int)) × zTe × Unit) → Option (X × zTp)) (t_31 : Int) (s_2 : zTl) (out_5 : (List (List Int))) (l_7 : zTe) : Option (X × zTp) :=
  cond (t_31 == (-1)) (enumK (fun (e5 : Int) (e6 : List Int) => L (s_2, (out_5.set (s_2.1.length : Int).toNat (e6.set l_7.2.1.toNat (IntKind.wrap .i64 (e5 + l_7.2.2.1)))), l_7, ())) fun E => agreeK [inR (s_2.1.length : Int) out_5.length (agreeK [inR l_7.2.1 3 (agreeK [getI out_5 (s_2.1.length : Int) fun e4 => getI e4 l_7.2.1 fun e5 => inR (s_2.1.length : Int) out_5.length (inR l_7.2.1 3 (getI out_5 (s_2.1.length : Int) fun e6 => getI e6 l_7.2.1 fun _ => E e5 e6)), inR (s_2.1.length : Int) out_5.length (getI out_5 (s_2.1.length : Int) fun e8 => getI e8 l_7.2.1 fun e9 => inR l_7.2.1 3 (getI out_5 (s_2.1.length : Int) fun e10 => getI e10 l_7.2.1 fun _ => E e9 e10))]), inR (s_2.1.length : Int) out_5.length (inR l_7.2.1 3 (getI out_5 (s_2.1.length : Int) fun e12 => getI e12 l_7.2.1 fun e13 => inR l_7.2.1 3 (getI out_5 (s_2.1.length : Int) fun e14 => getI e14 l_7.2.1 fun _ => E e13 e14)))]), inR (s_2.1.length : Int) out_5.length (inR (s_2.1.length : Int) out_5.length (inR l_7.2.1 3 (getI out_5 (s_2.1.length : Int) fun e16 => getI e16 l_7.2.1 fun e17 => inR l_7.2.1 3 (getI out_5 (s_2.1.length : Int) fun e18 => getI e18 l_7.2.1 fun _ => E e17 e18))))]) (enumK (fun (e21 : Int) (e22 : List Int) => L (s_2, (out_5.set t_31.toNat (e22.set l_7.2.1.toNat (IntKind.wrap .i64 (e21 + l_7.2.2.1)))), l_7, ())) fun E => agreeK [inR t_31 out_5.length (agreeK [inR l_7.2.1 3 (agreeK [getI out_5 t_31 fun e20 => getI e20 l_7.2.1 fun e21 => inR t_31 out_5.length (inR l_7.2.1 3 (getI out_5 t_31 fun e22 => getI e22 l_7.2.1 fun _ => E e21 e22)), inR t_31 out_5.length (getI out_5 t_31 fun e24 => getI e24 l_7.2.1 fun e25 => inR l_7.2.1 3 (getI out_5 t_31 fun e26 => getI e26 l_7.2.1 fun _ => E e25 e26))]), inR t_31 out_5.length (inR l_7.2.1 3 (getI out_5 t_31 fun e28 => getI e28 l_7.2.1 fun e29 => inR l_7.2.1 3 (getI out_5 t_31 fun e30 => getI e30 l_7.2.1 fun _ => E e29 e30)))]), inR t_31 out_5.length (inR t_31 out_5.length (inR l_7.2.1 3 (getI out_5 t_31 fun e32 => getI e32 l_7.2.1 fun e33 => inR l_7.2.1 3 (getI out_5 t_31 fun e34 => getI e34 l_7.2.1 fun _ => E e33 e34))))])
noncomputable def R99_7 (n : Nat) : List Int → (zTl × (List (List Int)) × zTe × Unit) → Option (X × zTp)
  | [], d => some (.norm, (d.2.1, ()))
  | x :: r, d => Q99_7 n (R99_7 n r) x d.1 d.2.1 d.2.2.1
noncomputable def r99_7 : RLoopI := ⟨.int .i64, [2, 5, 7], [.r (.str (.pair (.list false 46 (.str zTa)) (.pair (.list false 44 (.str zTa)) zTg))), .m (.list true 146 zUs), .r (.str zTa)], [.norm], R99_7⟩
noncomputable def B99_3 (n : Nat) (L : (Int × zTl × (List zTe) × Int × Int × Unit) × zTp × Unit → Option zVb) (set_1 : Int) (s_2 : (List zTe) × ((List zTe) × zUl)) (t_15 : List zTe) (t_16 : Int) (t_17 : Int) (o_5 : List (List Int)) : Option zVb :=
  cond (decide (t_17 < t_16)) (getI t_15 t_17 fun e2 => negK t_17 (cond ((bitsI .and .i64 (shrI .i64 set_1 t_17) 1) == 0) (L ((set_1, s_2, t_15, t_16, (IntKind.wrap .i64 (t_17 + 1)), ()), (o_5, ()), ())) (derefK (It.m105.p.g (s_2, e2.1, ())) fun y3 => derefK y3.1.2.1 fun q4 => derefK (It.it106.g (y3.1.1, q4, ())) fun l6 => derefK (R99_7 n l6 (s_2, o_5, e2, ())) fun o5 => cond (X.same .norm o5.1) (L ((set_1, s_2, t_15, t_16, (IntKind.wrap .i64 (t_17 + 1)), ()), (o5.2.1, ()), ())) (none)))) (some ((), (o_5, ()), ()))
noncomputable def L99_3 : Nat → (Int × zTl × (List zTe) × Int × Int × Unit) × zTp × Unit → Option zVb
  | 0, _ => none
  | n + 1, d => B99_3 n (L99_3 n) d.1.1 d.1.2.1 d.1.2.2.1 d.1.2.2.2.1 d.1.2.2.2.2.1 d.2.1.1
noncomputable def l99_3 : LoopI := ⟨⟨[(1, .v zI), (2, .r (.str (.pair (.list false 46 (.str zTa)) (.pair (.list false 44 (.str zTa)) zTg)))), (5, .c (.ptr 5 [])), (15, .v (.list false 44 (.str zTa))), (16, .v zI), (17, .v zI)], [(5, false, .list true 146 zUs)], none⟩, [(.exit 0, ⟨[(5, .c (.ptr 5 []))], [(5, false, .list true 146 zUs)], none⟩)], L99_3⟩
noncomputable def F99 (n : Nat) (s_0 : zTl) (set_1 : Int) : Option (zTp × (Unit)) :=
  leK 0 (IntKind.wrap .i64 ((s_0.1.length : Int) + 1)) (leK (IntKind.wrap .i64 ((s_0.1.length : Int) + 1)) (IntKind.wrap .i64 ((s_0.1.length : Int) + 1)) (lenK (IntKind.wrap .i64 ((s_0.1.length : Int) + 1)) (bindV (List.replicate (IntKind.wrap .i64 ((s_0.1.length : Int) + 1)).toNat (List.replicate 3 (0 : Int))) fun z1 => derefK (L99_3 n ((set_1, s_0, s_0.2.1, (s_0.2.1.length : Int), 0, ()), (z1, ()), ())) fun o7 => some ((o7.2.1.1, ()), ()))))
noncomputable def g99 (d : zTl × Int × Unit) : Option (zTp × (Unit)) := F99 fuel d.1 d.2.1
noncomputable def p99 : Prim := ⟨[.v (.str (.pair (.list false 46 (.str zTa)) (.pair (.list false 44 (.str zTa)) zTg))), .v zI], [.own 146 zUs], g99⟩
noncomputable def c99 : Cfg := ⟨51, tyT, [(2, .str (.pair (.list false 46 (.str zTa)) (.pair (.list false 44 (.str zTa)) zTg))), (5, .list true 146 zUs), (7, .str zTa)], [], [(3, l99_3)], [], [10], [(106, It.it106)], [(7, r99_7)], [(105, It.m105)], [], [], [], [], none⟩
theorem F99_eq (n : Nat) (d) : absFn c99 n Try.f99 (body Try.f99) p99.ps p99.rs d = F99 n d.1 d.2.1 := by kernel_rfl
theorem L99_3_eq (n : Nat) (d) : (l99_3).g (n + 1) d = run c99 n (nth 0 (loopsOf (body Try.f99))) ((l99_3).ins.fill d) (roundK (l99_3) n) := by kernel_rfl
theorem ls99 : loopsOf (body Try.f99) = [nth 0 (loopsOf (body Try.f99))] := by kernel_rfl
theorem R99_7_eq (n : Nat) (x r d) : (r99_7).g n (x :: r) d = run c99 n (asR (nth 0 (rangesOf (body Try.f99)))) (innerSt r99_7 31 d x) (thenK (bodyK c99 r99_7 n (bdR (nth 0 (rangesOf (body Try.f99)))) r d) failK) := by kernel_rfl
theorem rs99 : rangesOf (body Try.f99) = [nth 0 (rangesOf (body Try.f99))] := by kernel_rfl
theorem d99 : drawD c99 (body Try.f99) = true := by kernel_rfl
theorem h99 : GoodF Try.prog 99 p99 := fn_doneR mixed (cfg := c99) (cfg_ok tyT_ok (goodNil) rfl (by kernel_rfl) (mk_ok (mkCons It.k105 mkNil))) (itCons It.it106_ok itNil) Try.func99 rfl rfl (by kernel_rfl) rfl (by rw [ls99]; simp only [List.forall_mem_cons]; exact ⟨loopHas (key := 3) (li := l99_3) (by kernel_rfl) rfl (fun _ => rfl) (L99_3_eq), fun _ h => by cases h⟩) (by rw [rs99]; simp only [List.forall_mem_cons]; exact ⟨rangeHas (key := 7) (li := r99_7) (p := 31) (by kernel_rfl) rfl (by kernel_rfl) (by kernel_rfl) (noLoops (by kernel_rfl)) (fun _ _ => rfl) R99_7_eq, fun _ h => by cases h⟩) d99 (fun d y h => ⟨fuel, (F99_eq fuel d).trans h⟩)
noncomputable def F100 (_n : Nat) (a_0 : (List Int)) : Option zTs :=
  inR 0 3 (getI a_0 0 fun e1 => inR 1 3 (getI a_0 1 fun e2 => inR 2 3 (getI a_0 2 fun e3 => some (((max (max e1 e2) e3), ()), ()))))
noncomputable def g100 (d : (List Int) × Unit) : Option zTs := F100 fuel d.1
noncomputable def p100 : Prim := ⟨[.v zUs], [.v zI], g100⟩
noncomputable def c100 : Cfg := ⟨10, tyT, [], [], [], [], [], [], [], [], [], [], [], [], none⟩
theorem F100_eq (n : Nat) (d) : absFn c100 n Try.f100 (body Try.f100) p100.ps p100.rs d = F100 n d.1 := by kernel_rfl
theorem d100 : drawOK c100 (body Try.f100) = true := by kernel_rfl
theorem h100 : GoodF Try.prog 100 p100 := hQ (cfg := c100) (cfg_ok tyT_ok (goodNil) rfl (by kernel_rfl)) Try.func100 (by kernel_rfl) (noLoops (by kernel_rfl)) d100 (F100_eq fuel)
noncomputable def F101 (_n : Nat) (s_0 : zTl) (b_1 : Int) : Option zTs :=
  cond (b_1 == (s_0.1.length : Int)) (some ((s_0.2.2.1, ()), ())) (cond (b_1 == (-1)) (some ((s_0.2.2.1, ()), ())) (getI s_0.1 b_1 fun e1 => some ((e1.2.1, ()), ())))
noncomputable def g101 (d : zTl × Int × Unit) : Option zTs := F101 fuel d.1 d.2.1
noncomputable def p101 : Prim := ⟨[.v (.str (.pair (.list false 46 (.str zTa)) (.pair (.list false 44 (.str zTa)) zTg))), .v zI], [.v zI], g101⟩
noncomputable def c101 : Cfg := ⟨22, tyT, [], [], [], [], [], [], [], [], [], [], [], [], none⟩
theorem F101_eq (n : Nat) (d) : absFn c101 n Try.f101 (body Try.f101) p101.ps p101.rs d = F101 n d.1 d.2.1 := by kernel_rfl
theorem d101 : drawOK c101 (body Try.f101) = true := by kernel_rfl
theorem h101 : GoodF Try.prog 101 p101 := hQ (cfg := c101) (cfg_ok tyT_ok (goodNil) rfl (by kernel_rfl)) Try.func101 (by kernel_rfl) (noLoops (by kernel_rfl)) d101 (F101_eq fuel)
noncomputable def B91_5 (_n : Nat) (L : (Int × Int × Unit) × (zTl × (List (List Int)) × Unit) × Unit → Option (((Int × Bool × Unit) × (Unit) × Unit) ⊕ zTr)) (t_23 : Int) (t_24 : Int) (o_2 : (List zTe) × ((List zTe) × zUl)) (o_11000 : List (List Int)) : Option (((Int × Bool × Unit) × (Unit) × Unit) ⊕ zTr) :=
  cond (decide (t_24 < t_23)) (inR t_24 o_11000.length (getI o_11000 t_24 fun e4 => derefK (g100 (e4, ())) fun y5 => derefK (g101 (o_2, t_24, ())) fun y6 => cond (decide (y5.1.1 > y6.1.1)) (some (.inl ((t_24, true, ()), (), ()))) (L ((t_23, (IntKind.wrap .i64 (t_24 + 1)), ()), (o_2, o_11000, ()), ())))) (some (.inr ((), (), ())))
noncomputable def L91_5 : Nat → (Int × Int × Unit) × (zTl × (List (List Int)) × Unit) × Unit → Option (((Int × Bool × Unit) × (Unit) × Unit) ⊕ zTr)
  | 0, _ => none
  | n + 1, d => B91_5 n (L91_5 n) d.1.1 d.1.2.1 d.2.1.1 d.2.1.2.1
noncomputable def l91_5 : LoopI := ⟨⟨[(2, .c (.ptr 2 [])), (6, .c (.view 11000 [])), (23, .v zI), (24, .v zI)], [(2, false, .str (.pair (.list false 46 (.str zTa)) (.pair (.list false 44 (.str zTa)) zTg))), (11000, true, .list true 146 zUs)], none⟩, [(.ret, ⟨[(4, .v zI), (5, .v .bool)], [], none⟩), (.exit 0, ⟨[], [], none⟩)], L91_5⟩
noncomputable def F91 (n : Nat) (s_0 : zTl) (set_1 : Int) : Option ((Int × Bool × Unit) × (Unit)) :=
  derefK (g99 (s_0, set_1, ())) fun y1 => inR (s_0.1.length : Int) y1.1.1.length (getI y1.1.1 (s_0.1.length : Int) fun e2 => derefK (g100 (e2, ())) fun y3 => cond (decide (y3.1.1 > s_0.2.2.1)) (some (((-1), true, ()), ())) (derefK (L91_5 n (((s_0.1.length : Int), 0, ()), (s_0, y1.1.1, ()), ())) fun o7 => sumK o7 (fun d8 => some ((d8.1.1, d8.1.2.1, ()), ())) (fun _ => some ((0, false, ()), ()))))
noncomputable def g91 (d : zTl × Int × Unit) : Option ((Int × Bool × Unit) × (Unit)) := F91 fuel d.1 d.2.1
noncomputable def p91 : Prim := ⟨[.v (.str (.pair (.list false 46 (.str zTa)) (.pair (.list false 44 (.str zTa)) zTg))), .v zI], [.v zI, .v .bool], g91⟩
noncomputable def c91 : Cfg := ⟨38, tyT, [], [(99, p99), (100, p100), (101, p101)], [(5, l91_5)], [], [], [], [], [], [], [], [], [], none⟩
theorem F91_eq (n : Nat) (d) : absFn c91 n Try.f91 (body Try.f91) p91.ps p91.rs d = F91 n d.1 d.2.1 := by kernel_rfl
theorem L91_5_eq (n : Nat) (d) : (l91_5).g (n + 1) d = run c91 n (nth 0 (loopsOf (body Try.f91))) ((l91_5).ins.fill d) (roundK (l91_5) n) := by kernel_rfl
theorem ls91 : loopsOf (body Try.f91) = [nth 0 (loopsOf (body Try.f91))] := by kernel_rfl
theorem d91 : drawOK c91 (body Try.f91) = true := by kernel_rfl
theorem h91 : GoodF Try.prog 91 p91 := hQ (cfg := c91) (cfg_ok tyT_ok (goodCons h99 (goodCons h100 (goodCons h101 goodNil))) rfl (by kernel_rfl)) Try.func91 (by kernel_rfl) (by rw [ls91]; simp only [List.forall_mem_cons]; exact ⟨loopHas (key := 5) (li := l91_5) (by kernel_rfl) rfl (fun _ => rfl) (L91_5_eq), fun _ h => by cases h⟩) d91 (F91_eq fuel)
noncomputable def F71 (_n : Nat) (s_0 : zTl) (set_1 : Int) : Option ((Int × Bool × Int × Unit) × (Unit)) :=
  derefK (g90 (s_0, set_1, ())) fun y1 => cond (y1.1.1 != 0) (some ((0, false, y1.1.1, ()), ())) (derefK (g91 (s_0, set_1, ())) fun y2 => some ((y2.1.1, (!y2.1.2.1), 0, ()), ()))
noncomputable def g71 (d : zTl × Int × Unit) : Option ((Int × Bool × Int × Unit) × (Unit)) := F71 fuel d.1 d.2.1
noncomputable def p71 : Prim := ⟨[.v (.str (.pair (.list false 46 (.str zTa)) (.pair (.list false 44 (.str zTa)) zTg))), .v zI], [.v zI, .v .bool, .v zI], g71⟩
noncomputable def c71 : Cfg := ⟨25, tyT, [], [(90, p90), (91, p91)], [], [], [], [], [], [], [], [], [], [], none⟩
theorem F71_eq (n : Nat) (d) : absFn c71 n Try.f71 (body Try.f71) p71.ps p71.rs d = F71 n d.1 d.2.1 := by kernel_rfl
theorem d71 : drawOK c71 (body Try.f71) = true := by kernel_rfl
theorem h71 : GoodF Try.prog 71 p71 := hQ (cfg := c71) (cfg_ok tyT_ok (goodCons h90 (goodCons h91 goodNil)) rfl (by kernel_rfl)) Try.func71 (by kernel_rfl) (noLoops (by kernel_rfl)) d71 (F71_eq fuel)
noncomputable def B42_6 (_n : Nat) (L : zUf × (zTc × (List Int) × (List Int) × Unit) × Unit → Option zUe) (set_5 : Int) (t_24 : Int) (t_25 : Int) (o_1 : zTt × zUc) (o_2 : List Int) (o_19000 : List Int) : Option zUe :=
  cond (decide (t_25 < t_24)) (inR t_25 o_19000.length (getI o_19000 t_25 fun e2 => negK e2 (derefK (g71 (o_1.2.2.2.2.1, (bitsI .or .i64 set_5 (shlI .i64 1 e2)), ())) fun y3 => cond (y3.1.2.2.1 == 0) (cond y3.1.2.1 (negK e2 (lenK ((o_2.length : Int) + [e2].length) (L (((bitsI .or .i64 set_5 (shlI .i64 1 e2)), t_24, (IntKind.wrap .i64 (t_25 + 1)), ()), (o_1, (o_2 ++ [e2]), o_19000, ()), ())))) (L ((set_5, t_24, (IntKind.wrap .i64 (t_25 + 1)), ()), (o_1, o_2, o_19000, ()), ()))) (L ((set_5, t_24, (IntKind.wrap .i64 (t_25 + 1)), ()), (o_1, o_2, o_19000, ()), ()))))) (some ((), (o_2, ()), ()))
noncomputable def L42_6 : Nat → zUf × (zTc × (List Int) × (List Int) × Unit) × Unit → Option zUe
  | 0, _ => none
  | n + 1, d => B42_6 n (L42_6 n) d.1.1 d.1.2.1 d.1.2.2.1 d.2.1.1 d.2.1.2.1 d.2.1.2.2.1
noncomputable def l42_6 : LoopI := ⟨⟨[(1, .c (.ptr 1 [])), (2, .c (.view 2 [])), (5, .v zI), (23, .c (.view 19000 [])), (24, .v zI), (25, .v zI)], [(1, false, .str (.pair (.str zTd) (.pair (.str zTb) (.pair (.list false 48 (.str (.pair zI zTa))) (.pair zI (.pair (.str (.pair (.list false 46 (.str zTa)) (.pair (.list false 44 (.str zTa)) zTg))) (.pair zTh zTh))))))), (2, true, .list true 3 zI), (19000, true, .list true 3 zI)], none⟩, [(.exit 0, ⟨[(2, .c (.view 2 []))], [(2, true, .list true 3 zI)], none⟩)], L42_6⟩
noncomputable def F42 (n : Nat) (g_0 : zTc) : Option (zTu × (Unit)) :=
  derefK (g70 (g_0.2.1, g_0.2.2.1, g_0.2.2.2.1, ())) fun y1 => cond (y1.1.2.1 != 0) (some ((([] : List Int), ()), ())) (derefK (L42_6 n ((0, (y1.1.1.length : Int), 0, ()), (g_0, ([] : List Int), y1.1.1, ()), ())) fun o4 => some ((o4.2.1.1, ()), ()))
noncomputable def g42 (d : zTc × Unit) : Option (zTu × (Unit)) := F42 fuel d.1
noncomputable def p42 : Prim := ⟨[.v (.str (.pair (.str zTd) (.pair (.str zTb) (.pair (.list false 48 (.str (.pair zI zTa))) (.pair zI (.pair (.str (.pair (.list false 46 (.str zTa)) (.pair (.list false 44 (.str zTa)) zTg))) (.pair zTh zTh)))))))], [.own 3 zI], g42⟩
noncomputable def c42 : Cfg := ⟨55, tyT, [], [(70, p70), (71, p71)], [(6, l42_6)], [], [], [], [], [], [], [], [], [], none⟩
theorem F42_eq (n : Nat) (d) : absFn c42 n Try.f42 (body Try.f42) p42.ps p42.rs d = F42 n d.1 := by kernel_rfl
theorem L42_6_eq (n : Nat) (d) : (l42_6).g (n + 1) d = run c42 n (nth 0 (loopsOf (body Try.f42))) ((l42_6).ins.fill d) (roundK (l42_6) n) := by kernel_rfl
theorem ls42 : loopsOf (body Try.f42) = [nth 0 (loopsOf (body Try.f42))] := by kernel_rfl
theorem d42 : drawOK c42 (body Try.f42) = true := by kernel_rfl
theorem h42 : GoodF Try.prog 42 p42 := hQ (cfg := c42) (cfg_ok tyT_ok (goodCons h70 (goodCons h71 goodNil)) rfl (by kernel_rfl)) Try.func42 (by kernel_rfl) (by rw [ls42]; simp only [List.forall_mem_cons]; exact ⟨loopHas (key := 6) (li := l42_6) (by kernel_rfl) rfl (fun _ => rfl) (L42_6_eq), fun _ h => by cases h⟩) d42 (F42_eq fuel)
noncomputable def F24 (_n : Nat) (g_0 : zTc) : Option zUg :=
  derefK (g41 (g_0, ())) fun y1 => cond (y1.1.1 != 0) (some ((([] : List Int), y1.1.1, ()), ())) (derefK (g42 (g_0, ())) fun y2 => some ((y2.1.1, 0, ()), ()))
noncomputable def g24 (d : zTc × Unit) : Option zUg := F24 fuel d.1
noncomputable def p24 : Prim := ⟨[.v (.str (.pair (.str zTd) (.pair (.str zTb) (.pair (.list false 48 (.str (.pair zI zTa))) (.pair zI (.pair (.str (.pair (.list false 46 (.str zTa)) (.pair (.list false 44 (.str zTa)) zTg))) (.pair zTh zTh)))))))], [.own 3 zI, .v zI], g24⟩
noncomputable def c24 : Cfg := ⟨12, tyT, [], [(41, p41), (42, p42)], [], [], [], [], [], [], [], [], [], [], none⟩
theorem F24_eq (n : Nat) (d) : absFn c24 n Try.f24 (body Try.f24) p24.ps p24.rs d = F24 n d.1 := by kernel_rfl
theorem d24 : drawOK c24 (body Try.f24) = true := by kernel_rfl
theorem h24 : GoodF Try.prog 24 p24 := hQ (cfg := c24) (cfg_ok tyT_ok (goodCons h41 (goodCons h42 goodNil)) rfl (by kernel_rfl)) Try.func24 (by kernel_rfl) (noLoops (by kernel_rfl)) d24 (F24_eq fuel)
noncomputable def B10_7 (_n : Nat) (L : (Int × Int × Unit) × zTu × Unit → Option (zUd ⊕ zTr)) (ride_2 : Int) (i_11 : Int) (o_26000 : List Int) : Option (zUd ⊕ zTr) :=
  cond (decide (i_11 < (o_26000.length : Int))) (inR i_11 o_26000.length (getI o_26000 i_11 fun e3 => cond (e3 == ride_2) (some (.inl ((true, ()), (), ()))) (L ((ride_2, (IntKind.wrap .i64 (i_11 + 1)), ()), (o_26000, ()), ())))) (some (.inr ((), (), ())))
noncomputable def L10_7 : Nat → (Int × Int × Unit) × zTu × Unit → Option (zUd ⊕ zTr)
  | 0, _ => none
  | n + 1, d => B10_7 n (L10_7 n) d.1.1 d.1.2.1 d.2.1.1
noncomputable def l10_7 : LoopI := ⟨⟨[(2, .v zI), (9, .c (.view 26000 [])), (11, .v zI)], [(26000, true, .list true 3 zI)], none⟩, [(.ret, ⟨[(8, .v .bool)], [], none⟩), (.exit 0, ⟨[], [], none⟩)], L10_7⟩
noncomputable def F10 (n : Nat) (g_0 : zTc) (entries_1 : (List (Int × zTe))) (ride_2 : Int) (day_3 : Int) : Option zTm :=
  lenK ((([] : List (Int × zTe)).length : Int) + entries_1.length) (lenK (((([] : List (Int × zTe)) ++ entries_1).length : Int) + [(day_3, 4, ride_2, (0 : Int), (0 : Int))].length) (bindV ((g_0.1, (g_0.2.1, (g_0.2.2.1, (day_3, g_0.2.2.2.2)))).1, (((g_0.1, (g_0.2.1, (g_0.2.2.1, (day_3, g_0.2.2.2.2)))).2).1, (((([] : List (Int × zTe)) ++ entries_1) ++ [(day_3, 4, ride_2, (0 : Int), (0 : Int))]), (((g_0.1, (g_0.2.1, (g_0.2.2.1, (day_3, g_0.2.2.2.2)))).2).2).2))) fun z1 => derefK (g24 (z1, ())) fun y2 => cond (y2.1.2.1 != 0) (some ((false, ()), ())) (derefK (L10_7 n ((ride_2, 0, ()), (y2.1.1, ()), ())) fun o4 => sumK o4 (fun d5 => some ((d5.1.1, ()), ())) (fun _ => some ((false, ()), ())))))
noncomputable def g10 (d : zTc × (List (Int × zTe)) × Int × Int × Unit) : Option zTm := F10 fuel d.1 d.2.1 d.2.2.1 d.2.2.2.1
noncomputable def p10 : Prim := ⟨[.v (.str (.pair (.str zTd) (.pair (.str zTb) (.pair (.list false 48 (.str (.pair zI zTa))) (.pair zI (.pair (.str (.pair (.list false 46 (.str zTa)) (.pair (.list false 44 (.str zTa)) zTg))) (.pair zTh zTh))))))), .v (.list false 48 (.str (.pair zI zTa))), .v zI, .v zI], [.v .bool], g10⟩
noncomputable def c10 : Cfg := ⟨42, tyT, [(16, .list true 48 (.str (.pair zI zTa))), (21, .list true 48 (.str (.pair zI zTa)))], [(24, p24)], [(7, l10_7)], [], [], [], [], [], [], [], [], [], none⟩
theorem F10_eq (n : Nat) (d) : absFn c10 n Try.f10 (body Try.f10) p10.ps p10.rs d = F10 n d.1 d.2.1 d.2.2.1 d.2.2.2.1 := by kernel_rfl
theorem L10_7_eq (n : Nat) (d) : (l10_7).g (n + 1) d = run c10 n (nth 0 (loopsOf (body Try.f10))) ((l10_7).ins.fill d) (roundK (l10_7) n) := by kernel_rfl
theorem ls10 : loopsOf (body Try.f10) = [nth 0 (loopsOf (body Try.f10))] := by kernel_rfl
theorem d10 : drawOK c10 (body Try.f10) = true := by kernel_rfl
theorem h10 : GoodF Try.prog 10 p10 := hQ (cfg := c10) (cfg_ok tyT_ok (goodCons h24 goodNil) rfl (by kernel_rfl)) Try.func10 (by kernel_rfl) (by rw [ls10]; simp only [List.forall_mem_cons]; exact ⟨loopHas (key := 7) (li := l10_7) (by kernel_rfl) rfl (fun _ => rfl) (L10_7_eq), fun _ h => by cases h⟩) d10 (F10_eq fuel)
noncomputable def B11_8 (_n : Nat) (L : (Int × Int × Int × Int × (List zTj) × Int × Int × Unit) × zTu × Unit → Option ((zUf × zTu × Unit))) (ride_1 : Int) (from_2 : Int) (to_3 : Int) (every_11 : Int) (t_37 : List zTj) (t_38 : Int) (t_39 : Int) (o_8 : List Int) : Option ((zUf × zTu × Unit)) :=
  cond (decide (t_39 < t_38)) (getI t_37 t_39 fun e5 => cond (e5.1 == ride_1) (cond (every_11 == 0) (L ((ride_1, from_2, to_3, e5.2.1, t_37, t_38, (IntKind.wrap .i64 (t_39 + 1)), ()), (o_8, ()), ())) (cond (decide (e5.2.1 < every_11)) (L ((ride_1, from_2, to_3, e5.2.1, t_37, t_38, (IntKind.wrap .i64 (t_39 + 1)), ()), (o_8, ()), ())) (L ((ride_1, from_2, to_3, every_11, t_37, t_38, (IntKind.wrap .i64 (t_39 + 1)), ()), (o_8, ()), ())))) (L ((ride_1, from_2, to_3, every_11, t_37, t_38, (IntKind.wrap .i64 (t_39 + 1)), ()), (o_8, ()), ()))) (some ((from_2, to_3, every_11, ()), (o_8, ()), ()))
noncomputable def L11_8 : Nat → (Int × Int × Int × Int × (List zTj) × Int × Int × Unit) × zTu × Unit → Option ((zUf × zTu × Unit))
  | 0, _ => none
  | n + 1, d => B11_8 n (L11_8 n) d.1.1 d.1.2.1 d.1.2.2.1 d.1.2.2.2.1 d.1.2.2.2.2.1 d.1.2.2.2.2.2.1 d.1.2.2.2.2.2.2.1 d.2.1.1
noncomputable def l11_8 : LoopI := ⟨⟨[(1, .v zI), (2, .v zI), (3, .v zI), (8, .c (.view 8 [])), (11, .v zI), (37, .v (.list false 56 (.str zTi))), (38, .v zI), (39, .v zI)], [(8, true, .list true 3 zI)], none⟩, [(.exit 0, ⟨[(2, .v zI), (3, .v zI), (8, .c (.view 8 [])), (11, .v zI)], [(8, true, .list true 3 zI)], none⟩)], L11_8⟩
noncomputable def B11_14 (_n : Nat) (L : zUf × zTu × Unit → Option zUe) (to_3 : Int) (every_11 : Int) (day_14 : Int) (o_8 : List Int) : Option zUe :=
  cond (decide (every_11 > 0)) (cond (decide (day_14 ≤ to_3)) (lenK ((o_8.length : Int) + [day_14].length) (L ((to_3, every_11, (IntKind.wrap .i64 (day_14 + every_11)), ()), ((o_8 ++ [day_14]), ()), ()))) (some ((), (o_8, ()), ()))) (some ((), (o_8, ()), ()))
noncomputable def L11_14 : Nat → zUf × zTu × Unit → Option zUe
  | 0, _ => none
  | n + 1, d => B11_14 n (L11_14 n) d.1.1 d.1.2.1 d.1.2.2.1 d.2.1.1
noncomputable def l11_14 : LoopI := ⟨⟨[(3, .v zI), (8, .c (.view 8 [])), (11, .v zI), (14, .v zI)], [(8, true, .list true 3 zI)], none⟩, [(.exit 2, ⟨[(8, .c (.view 8 []))], [(8, true, .list true 3 zI)], none⟩)], L11_14⟩
noncomputable def F11 (n : Nat) (b_0 : zTf) (ride_1 : Int) (from_2 : Int) (to_3 : Int) : Option zUg :=
  derefK (g25 (b_0, ())) fun y1 => cond (y1.1.1 != 0) (some ((([] : List Int), y1.1.1, ()), ())) (derefK (g26 ((b_0, ([] : List (Int × zTe))), ride_1, ())) fun y2 => cond (!y2.1.1) (some ((([] : List Int), 1, ()), ())) (derefK (g27 (to_3, 0, 10000, ())) fun y3 => cond (!y3.1.1) (some ((([] : List Int), 1, ()), ())) (derefK (g27 (from_2, 0, to_3, ())) fun y4 => cond (!y4.1.1) (some ((([] : List Int), 1, ()), ())) (derefK (L11_8 n ((ride_1, from_2, to_3, 0, b_0.1, (b_0.1.length : Int), 0, ()), (([] : List Int), ()), ())) fun o6 => derefK (L11_14 n ((o6.1.2.1, o6.1.2.2.1, o6.1.1, ()), (o6.2.1.1, ()), ())) fun o7 => cond (decide ((o7.2.1.1.length : Int) > 1000)) (some ((([] : List Int), 2, ()), ())) (some ((o7.2.1.1, 0, ()), ()))))))
noncomputable def g11 (d : zTf × Int × Int × Int × Unit) : Option zUg := F11 fuel d.1 d.2.1 d.2.2.1 d.2.2.2.1
noncomputable def p11 : Prim := ⟨[.v (.str zTb), .v zI, .v zI, .v zI], [.own 3 zI, .v zI], g11⟩
noncomputable def c11 : Cfg := ⟨79, tyT, [], [(25, p25), (26, p26), (27, p27)], [(8, l11_8), (14, l11_14)], [], [], [], [], [], [], [], [], [], none⟩
theorem F11_eq (n : Nat) (d) : absFn c11 n Try.f11 (body Try.f11) p11.ps p11.rs d = F11 n d.1 d.2.1 d.2.2.1 d.2.2.2.1 := by kernel_rfl
theorem L11_8_eq (n : Nat) (d) : (l11_8).g (n + 1) d = run c11 n (nth 0 (loopsOf (body Try.f11))) ((l11_8).ins.fill d) (roundK (l11_8) n) := by kernel_rfl
theorem L11_14_eq (n : Nat) (d) : (l11_14).g (n + 1) d = run c11 n (nth 1 (loopsOf (body Try.f11))) ((l11_14).ins.fill d) (roundK (l11_14) n) := by kernel_rfl
theorem ls11 : loopsOf (body Try.f11) = [nth 0 (loopsOf (body Try.f11)), nth 1 (loopsOf (body Try.f11))] := by kernel_rfl
theorem d11 : drawOK c11 (body Try.f11) = true := by kernel_rfl
theorem h11 : GoodF Try.prog 11 p11 := hQ (cfg := c11) (cfg_ok tyT_ok (goodCons h25 (goodCons h26 (goodCons h27 goodNil))) rfl (by kernel_rfl)) Try.func11 (by kernel_rfl) (by rw [ls11]; simp only [List.forall_mem_cons]; exact ⟨loopHas (key := 8) (li := l11_8) (by kernel_rfl) rfl (fun _ => rfl) (L11_8_eq), loopHas (key := 14) (li := l11_14) (by kernel_rfl) rfl (fun _ => rfl) (L11_14_eq), fun _ h => by cases h⟩) d11 (F11_eq fuel)
noncomputable def B12_11 (_n : Nat) (L : (Int × Int × Int × Int × Int × Unit) × zUj × Unit → Option ((zUf × zUj × Unit))) (rule_1 : Int) (first_8 : Int) (second_9 : Int) (t_26 : Int) (t_27 : Int) (o_2 : (List zTj) × zUr) (o_4 : List (List Int)) (o_7 : zTf × (List (Int × zTe))) : Option ((zUf × zUj × Unit)) :=
  cond (decide (second_9 < (o_2.2.1.length : Int))) (derefK (g28 (o_7, rule_1, first_8, second_9, ())) fun y3 => cond y3.1.1 (lenK ((o_4.length : Int) + [[first_8, second_9]].length) (L ((rule_1, first_8, (IntKind.wrap .i64 (second_9 + 1)), t_26, t_27, ()), (o_2, (o_4 ++ [[first_8, second_9]]), o_7, ()), ()))) (L ((rule_1, first_8, (IntKind.wrap .i64 (second_9 + 1)), t_26, t_27, ()), (o_2, o_4, o_7, ()), ()))) (some ((rule_1, t_26, t_27, ()), (o_2, o_4, o_7, ()), ()))
noncomputable def L12_11 : Nat → (Int × Int × Int × Int × Int × Unit) × zUj × Unit → Option ((zUf × zUj × Unit))
  | 0, _ => none
  | n + 1, d => B12_11 n (L12_11 n) d.1.1 d.1.2.1 d.1.2.2.1 d.1.2.2.2.1 d.1.2.2.2.2.1 d.2.1.1 d.2.1.2.1 d.2.1.2.2.1
noncomputable def l12_11 : LoopI := ⟨⟨[(1, .v zI), (2, .c (.ptr 2 [])), (4, .c (.view 4 [])), (7, .c (.ptr 7 [])), (8, .v zI), (9, .v zI), (26, .v zI), (27, .v zI)], [(2, false, .str zTb), (4, true, .list true 60 zVa), (7, false, .str (.pair (.str zTb) (.list false 48 (.str (.pair zI zTa)))))], none⟩, [(.exit 2, ⟨[(1, .v zI), (2, .c (.ptr 2 [])), (4, .c (.view 4 [])), (7, .c (.ptr 7 [])), (26, .v zI), (27, .v zI)], [(2, false, .str zTb), (4, true, .list true 60 zVa), (7, false, .str (.pair (.str zTb) (.list false 48 (.str (.pair zI zTa)))))], none⟩)], L12_11⟩
noncomputable def B12_8 (n : Nat) (L : zUf × zUj × Unit → Option zVb) (rule_1 : Int) (t_26 : Int) (t_27 : Int) (o_2 : (List zTj) × zUr) (o_4 : List (List Int)) (o_7 : zTf × (List (Int × zTe))) : Option zVb :=
  cond (decide (t_27 < t_26)) (derefK (L12_11 n ((rule_1, t_27, (-1), t_26, t_27, ()), (o_2, o_4, o_7, ()), ())) fun o4 => L ((o4.1.1, o4.1.2.1, (IntKind.wrap .i64 (o4.1.2.2.1 + 1)), ()), (o4.2.1.1, o4.2.1.2.1, o4.2.1.2.2.1, ()), ())) (some ((), (o_4, ()), ()))
noncomputable def L12_8 : Nat → zUf × zUj × Unit → Option zVb
  | 0, _ => none
  | n + 1, d => B12_8 n (L12_8 n) d.1.1 d.1.2.1 d.1.2.2.1 d.2.1.1 d.2.1.2.1 d.2.1.2.2.1
noncomputable def l12_8 : LoopI := ⟨⟨[(1, .v zI), (2, .c (.ptr 2 [])), (4, .c (.view 4 [])), (7, .c (.ptr 7 [])), (26, .v zI), (27, .v zI)], [(2, false, .str zTb), (4, true, .list true 60 zVa), (7, false, .str (.pair (.str zTb) (.list false 48 (.str (.pair zI zTa)))))], none⟩, [(.exit 0, ⟨[(4, .c (.view 4 []))], [(4, true, .list true 60 zVa)], none⟩)], L12_8⟩
noncomputable def F12 (n : Nat) (b_0 : zTf) (rule_1 : Int) : Option (((List (List Int)) × Int × Unit) × (Unit)) :=
  derefK (g25 (b_0, ())) fun y1 => cond (y1.1.1 != 0) (some ((([] : List (List Int)), y1.1.1, ()), ())) (derefK (g27 (rule_1, 0, (IntKind.wrap .i64 ((b_0.1.length : Int) - 1)), ())) fun y2 => cond (!y2.1.1) (some ((([] : List (List Int)), 1, ()), ())) (derefK (L12_8 n ((rule_1, (b_0.2.1.length : Int), 0, ()), (b_0, ([] : List (List Int)), (b_0, ([] : List (Int × zTe))), ()), ())) fun o5 => some ((o5.2.1.1, 0, ()), ())))
noncomputable def g12 (d : zTf × Int × Unit) : Option (((List (List Int)) × Int × Unit) × (Unit)) := F12 fuel d.1 d.2.1
noncomputable def p12 : Prim := ⟨[.v (.str zTb), .v zI], [.own 60 zVa, .v zI], g12⟩
noncomputable def c12 : Cfg := ⟨50, tyT, [], [(25, p25), (27, p27), (28, p28)], [(11, l12_11), (8, l12_8)], [], [], [], [], [], [], [], [], [], none⟩
theorem F12_eq (n : Nat) (d) : absFn c12 n Try.f12 (body Try.f12) p12.ps p12.rs d = F12 n d.1 d.2.1 := by kernel_rfl
theorem L12_8_eq (n : Nat) (d) : (l12_8).g (n + 1) d = run c12 n (nth 0 (loopsOf (body Try.f12))) ((l12_8).ins.fill d) (roundK (l12_8) n) := by kernel_rfl
theorem L12_11_eq (n : Nat) (d) : (l12_11).g (n + 1) d = run c12 n (nth 1 (loopsOf (body Try.f12))) ((l12_11).ins.fill d) (roundK (l12_11) n) := by kernel_rfl
theorem ls12 : loopsOf (body Try.f12) = [nth 0 (loopsOf (body Try.f12)), nth 1 (loopsOf (body Try.f12))] := by kernel_rfl
theorem d12 : drawOK c12 (body Try.f12) = true := by kernel_rfl
theorem h12 : GoodF Try.prog 12 p12 := hQ (cfg := c12) (cfg_ok tyT_ok (goodCons h25 (goodCons h27 (goodCons h28 goodNil))) rfl (by kernel_rfl)) Try.func12 (by kernel_rfl) (by rw [ls12]; simp only [List.forall_mem_cons]; exact ⟨loopHas (key := 8) (li := l12_8) (by kernel_rfl) rfl (fun _ => rfl) (L12_8_eq), loopHas (key := 11) (li := l12_11) (by kernel_rfl) rfl (fun _ => rfl) (L12_11_eq), fun _ h => by cases h⟩) d12 (F12_eq fuel)
end Go.Proofs.Try.V
