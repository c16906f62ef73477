/- The contracts of functions of the program, printed by program from the interpreter: each says what a call returns. No condition beyond those typed in each theorem. -/
import Derived.Test.YtinkjepanpicoaaGreatFn2
namespace Go.Proofs.Tryz.V
open Go.Vi
set_option maxRecDepth 100000
noncomputable def F8 (_n : Nat) (g_0 : zTd) : Option zTu :=
  qa (g20 (g_0.1, [], ())) fun y1 => cond (y1.1.1 != 0) (some ((y1.1.1, ()), ())) (qa (g21 (g_0.2.1, g_0.2.2.1, ())) fun y2 => cond (y2.1.2.1 != 0) (some ((y2.1.2.1, ()), ())) (qa (g22 (g_0.2.2.2.2.1, ())) fun y3 => cond (y3.1.1 != 0) (some ((y3.1.1, ()), ())) (cond ((g_0.2.1.2.2.length : Int) != (g_0.1.1.length : Int)) (cond ((g_0.2.1.2.2.length : Int) != (g_0.1.1.length : Int)) (some ((120, ()), ())) (qa (Mk.m23.p.g (200, ())) fun y4 => qa (g26 (g_0.2.2.2.2.2.1, (fun v5 => qa y4.1.1 fun q7 => qa (g24 (v5, q7, ())) fun y6 => some y6.1.1), ())) fun y8 => cond y8.1.1 (cond y8.1.1 (some ((120, ()), ())) (some ((0, ()), ()))) (qa (Mk.m23.p.g (100, ())) fun y9 => qa (g26 (g_0.2.2.2.2.2.2, (fun v10 => qa y9.1.1 fun q12 => qa (g24 (v10, q12, ())) fun y11 => some y11.1.1), ())) fun y13 => cond y13.1.1 (some ((120, ()), ())) (some ((0, ()), ()))))) (cond ((g_0.2.2.2.2.1.2.1.length : Int) != (g_0.1.1.length : Int)) (cond ((g_0.2.2.2.2.1.2.1.length : Int) != (g_0.1.1.length : Int)) (some ((120, ()), ())) (qa (Mk.m23.p.g (200, ())) fun y14 => qa (g26 (g_0.2.2.2.2.2.1, (fun v15 => qa y14.1.1 fun q17 => qa (g24 (v15, q17, ())) fun y16 => some y16.1.1), ())) fun y18 => cond y18.1.1 (cond y18.1.1 (some ((120, ()), ())) (some ((0, ()), ()))) (qa (Mk.m23.p.g (100, ())) fun y19 => qa (g26 (g_0.2.2.2.2.2.2, (fun v20 => qa y19.1.1 fun q22 => qa (g24 (v20, q22, ())) fun y21 => some y21.1.1), ())) fun y23 => cond y23.1.1 (some ((120, ()), ())) (some ((0, ()), ()))))) (cond ((g_0.2.2.2.2.2.1.length : Int) != (g_0.1.1.length : Int)) (cond ((g_0.2.2.2.2.2.1.length : Int) != (g_0.1.1.length : Int)) (some ((120, ()), ())) (qa (Mk.m23.p.g (200, ())) fun y24 => qa (g26 (g_0.2.2.2.2.2.1, (fun v25 => qa y24.1.1 fun q27 => qa (g24 (v25, q27, ())) fun y26 => some y26.1.1), ())) fun y28 => cond y28.1.1 (cond y28.1.1 (some ((120, ()), ())) (some ((0, ()), ()))) (qa (Mk.m23.p.g (100, ())) fun y29 => qa (g26 (g_0.2.2.2.2.2.2, (fun v30 => qa y29.1.1 fun q32 => qa (g24 (v30, q32, ())) fun y31 => some y31.1.1), ())) fun y33 => cond y33.1.1 (some ((120, ()), ())) (some ((0, ()), ()))))) (cond ((g_0.2.2.2.2.2.2.length : Int) != (g_0.1.1.length : Int)) (cond ((g_0.2.2.2.2.2.2.length : Int) != (g_0.1.1.length : Int)) (some ((120, ()), ())) (qa (Mk.m23.p.g (200, ())) fun y34 => qa (g26 (g_0.2.2.2.2.2.1, (fun v35 => qa y34.1.1 fun q37 => qa (g24 (v35, q37, ())) fun y36 => some y36.1.1), ())) fun y38 => cond y38.1.1 (cond y38.1.1 (some ((120, ()), ())) (some ((0, ()), ()))) (qa (Mk.m23.p.g (100, ())) fun y39 => qa (g26 (g_0.2.2.2.2.2.2, (fun v40 => qa y39.1.1 fun q42 => qa (g24 (v40, q42, ())) fun y41 => some y41.1.1), ())) fun y43 => cond y43.1.1 (some ((120, ()), ())) (some ((0, ()), ()))))) (qa (g25 (g_0.2.2.2.1, 0, 10000, ())) fun y44 => cond (!y44.1.1) (some ((120, ()), ())) (qa (Mk.m23.p.g (200, ())) fun y45 => qa (g26 (g_0.2.2.2.2.2.1, (fun v46 => qa y45.1.1 fun q48 => qa (g24 (v46, q48, ())) fun y47 => some y47.1.1), ())) fun y49 => cond y49.1.1 (cond y49.1.1 (some ((120, ()), ())) (some ((0, ()), ()))) (qa (Mk.m23.p.g (100, ())) fun y50 => qa (g26 (g_0.2.2.2.2.2.2, (fun v51 => qa y50.1.1 fun q53 => qa (g24 (v51, q53, ())) fun y52 => some y52.1.1), ())) fun y54 => cond y54.1.1 (some ((120, ()), ())) (some ((0, ()), ())))))))))))
noncomputable def g8 (d : zTd × Unit) : Option zTu := F8 fuel d.1
noncomputable def p8 : qH := ⟨[.v (.str (.pair (.str zTe) (.pair (.str zTb) (.pair (.list false 68 (.str (.pair zI qR))) (.pair zI (.pair (.str (.pair (.list false 51 (.str qR)) (.pair (.list false 116 (.str qR)) (.pair zI j6)))) (.pair jE jE)))))))], [.v zI], g8⟩
noncomputable def c8 : qW := ⟨74, tyT, [(1, .str (.pair (.str zTe) (.pair (.str zTb) (.pair (.list false 68 (.str (.pair zI qR))) (.pair zI (.pair (.str (.pair (.list false 51 (.str qR)) (.pair (.list false 116 (.str qR)) (.pair zI j6)))) (.pair jE jE)))))))], [(20, p20), (21, p21), (22, p22), (24, p24), (25, p25), (26, p26)], [], [], [18, 19], [], [], [(23, Mk.m23)], [], [], [], [], none⟩
theorem F8_eq (n : Nat) (d) : qz c8 n Tryz.f8 (body Tryz.f8) p8.ps p8.rs d = F8 n d.1 := by kernel_rfl
theorem d8 : ql c8 (body Tryz.f8) = true := by kernel_rfl
theorem h8 : qx Tryz.prog 8 p8 := hQ (cfg := c8) (qn qq (qd h20 (qd h21 (qd h22 (qd h24 (qd h25 (qd h26 qh)))))) rfl (by kernel_rfl) (qjI (qg5 Mk.k23 qjK))) Tryz.func8 (by kernel_rfl) (qr (by kernel_rfl)) d8 (F8_eq fuel)
noncomputable def F94 (_n : Nat) (x_0 : (Int × zTg)) (t_1 : Int) : Option zTm :=
  some (((decide (x_0.1 > t_1)), ()), ())
noncomputable def g94 (d : (Int × zTg) × Int × Unit) : Option zTm := F94 fuel d.1 d.2.1
noncomputable def p94 : qH := ⟨[.v (.str (.pair zI qR)), .r zI], [.v .bool], g94⟩
noncomputable def c94 : qW := ⟨8, tyT, [], [], [], [], [], [], [], [], [], [], [], [], none⟩
theorem F94_eq (n : Nat) (d) : qz c94 n Tryz.f94 (body Tryz.f94) p94.ps p94.rs d = F94 n d.1 d.2.1 := by kernel_rfl
theorem d94 : ql c94 (body Tryz.f94) = true := by kernel_rfl
theorem h94 : qx Tryz.prog 94 p94 := hQ (cfg := c94) (qn qq (qh) rfl (by kernel_rfl)) Tryz.func94 (by kernel_rfl) (qr (by kernel_rfl)) d94 (F94_eq fuel)
noncomputable def F65 (_n : Nat) (l_0 : zTt) (day_1 : Int) : Option ((zTt × Unit) × (Unit)) :=
  qa (g93 (l_0.2, (fun v1 => qa (g94 (v1, day_1, ())) fun y2 => some y2.1.1), ())) fun y3 => cond (decide (y3.1.1 ≥ 0)) (leK 0 y3.1.1 (leK y3.1.1 (l_0.2.length : Int) (some (((l_0.1, (l_0.2.take y3.1.1.toNat)), ()), ())))) (some ((l_0, ()), ()))
noncomputable def g65 (d : zTt × Int × Unit) : Option ((zTt × Unit) × (Unit)) := F65 fuel d.1 d.2.1
noncomputable def p65 : qH := ⟨[.v (.str (.pair (.str zTb) (.list false 68 (.str (.pair zI qR))))), .v zI], [.v (.str (.pair (.str zTb) (.list false 68 (.str (.pair zI qR)))))], g65⟩
noncomputable def c65 : qW := ⟨18, tyT, [], [(93, p93), (94, p94)], [], [], [], [], [], [], [], [], [], [], none⟩
theorem F65_eq (n : Nat) (d) : qz c65 n Tryz.f65 (body Tryz.f65) p65.ps p65.rs d = F65 n d.1 d.2.1 := by kernel_rfl
theorem d65 : ql c65 (body Tryz.f65) = true := by kernel_rfl
theorem h65 : qx Tryz.prog 65 p65 := hQ (cfg := c65) (qn qq (qd h93 (qd h94 qh)) rfl (by kernel_rfl)) Tryz.func65 (by kernel_rfl) (qr (by kernel_rfl)) d65 (F65_eq fuel)
noncomputable def F39 (_n : Nat) (b_0 : zTf) (entries_1 : (List (Int × zTg))) (day_2 : Int) : Option ((zTt × Int × Unit) × (Unit)) :=
  qa (g53 (b_0, entries_1, ())) fun y1 => cond (y1.1.2.2.1 != 0) (some ((y1.1.1, y1.1.2.2.1, ()), ())) (qa (g64 (day_2, 0, 10000, ())) fun y2 => cond (!y2.1.1) (some ((y1.1.1, 1, ()), ())) (qa (g65 (y1.1.1, day_2, ())) fun y3 => some ((y3.1.1, 0, ()), ())))
noncomputable def g39 (d : zTf × (List (Int × zTg)) × Int × Unit) : Option ((zTt × Int × Unit) × (Unit)) := F39 fuel d.1 d.2.1 d.2.2.1
noncomputable def p39 : qH := ⟨[.v (.str zTb), .v (.list false 68 (.str (.pair zI qR))), .v zI], [.v (.str (.pair (.str zTb) (.list false 68 (.str (.pair zI qR))))), .v zI], g39⟩
noncomputable def c39 : qW := ⟨31, tyT, [], [(53, p53), (64, p64), (65, p65)], [], [], [], [], [], [], [], [], [], [], none⟩
theorem F39_eq (n : Nat) (d) : qz c39 n Tryz.f39 (body Tryz.f39) p39.ps p39.rs d = F39 n d.1 d.2.1 d.2.2.1 := by kernel_rfl
theorem d39 : ql c39 (body Tryz.f39) = true := by kernel_rfl
theorem h39 : qx Tryz.prog 39 p39 := hQ (cfg := c39) (qn qq (qd h53 (qd h64 (qd h65 qh))) rfl (by kernel_rfl)) Tryz.func39 (by kernel_rfl) (qr (by kernel_rfl)) d39 (F39_eq fuel)
noncomputable def F66 (_n : Nat) (reason_0 : Int) (is_1 : Bool) (t_2 : (List Int)) : Option ((Unit) × zTx) :=
  cond is_1 (qX ((t_2.length : Int) + [reason_0].length) (some ((), ((t_2 ++ [reason_0]), ())))) (some ((), (t_2, ())))
noncomputable def g66 (d : Int × Bool × (List Int) × Unit) : Option ((Unit) × zTx) := F66 fuel d.1 d.2.1 d.2.2.1
noncomputable def p66 : qH := ⟨[.v zI, .v .bool, .m zTv], [], g66⟩
noncomputable def c66 : qW := ⟨10, tyT, [], [], [], [], [], [], [], [], [], [], [], [], none⟩
theorem F66_eq (n : Nat) (d) : qz c66 n Tryz.f66 (body Tryz.f66) p66.ps p66.rs d = F66 n d.1 d.2.1 d.2.2.1 := by kernel_rfl
theorem d66 : ql c66 (body Tryz.f66) = true := by kernel_rfl
theorem h66 : qx Tryz.prog 66 p66 := hQ (cfg := c66) (qn qq (qh) rfl (by kernel_rfl)) Tryz.func66 (by kernel_rfl) (qr (by kernel_rfl)) d66 (F66_eq fuel)
noncomputable def Q69_2 (_n : Nat) (L : (Int × ((Int × zTg) → Option Bool) × Int × Unit) → Option (X × (Int × Unit))) (t_10 : (Int × zTg)) (ride_4 : Int) (wanted_5 : ((Int × zTg) → Option Bool)) (t_6 : Int) : Option (X × (Int × Unit)) :=
  qa (wanted_5 t_10) fun y2 => cond y2 (some (.ret, (t_10.1, ()))) (cond (t_10.2.1 == 6) (cond (t_10.2.2.1 == ride_4) (some (.ret, ((-1), ()))) (L (ride_4, wanted_5, t_6, ()))) (L (ride_4, wanted_5, t_6, ())))
noncomputable def R69_2 (n : Nat) : List (Int × zTg) → (Int × ((Int × zTg) → Option Bool) × Int × Unit) → Option (X × (Int × Unit))
  | [], d => some (.norm, (d.2.2.1, ()))
  | x :: r, d => Q69_2 n (R69_2 n r) x d.1 d.2.1 d.2.2.1
noncomputable def qjw : qcX := ⟨.str (.pair zI qR), [4, 5, 6], [.r zI, .r (.fn (.str (.pair zI qR)) .bool), .m zI], [.norm, .ret], R69_2⟩
noncomputable def F69 (n : Nat) (l_0 : zTt) (ride_1 : Int) (wanted_2 : ((Int × zTg) → Option Bool)) : Option zTu :=
  qa (Ib.m97.p.g (l_0, ())) fun y1 => qa y1.1.1 fun q3 => qa (Ib.it114.g (q3, ())) fun l5 => qa (R69_2 n l5 (ride_1, wanted_2, (0 : Int), ())) fun o4 => cond (X.same .norm o4.1) (some (((-1), ()), ())) (cond (X.same .ret o4.1) (some ((o4.2.1, ()), ())) (none))
noncomputable def g69 (d : zTt × Int × ((Int × zTg) → Option Bool) × Unit) : Option zTu := F69 fuel d.1 d.2.1 d.2.2.1
noncomputable def p69 : qH := ⟨[.v (.str (.pair (.str zTb) (.list false 68 (.str (.pair zI qR))))), .v zI, .v (.fn (.str (.pair zI qR)) .bool)], [.v zI], g69⟩
noncomputable def c69 : qW := ⟨27, tyT, [], [], [], [], [], [(114, Ib.it114)], [(2, qjw)], [(97, Ib.m97)], [], [], [], [], none⟩
theorem F69_eq (n : Nat) (d) : qz c69 n Tryz.f69 (body Tryz.f69) p69.ps p69.rs d = F69 n d.1 d.2.1 d.2.2.1 := by kernel_rfl
theorem R69_2_eq (n : Nat) (x r d) : (qjw).g n (x :: r) d = run c69 n (asR (j7 0 (j3 (body Tryz.f69)))) (qfa qjw 10 d x) (qgF (qiv c69 qjw n (bdR (j7 0 (j3 (body Tryz.f69)))) r d) qj2) := by kernel_rfl
theorem rs69 : j3 (body Tryz.f69) = [j7 0 (j3 (body Tryz.f69))] := by kernel_rfl
theorem d69 : qcD c69 (body Tryz.f69) = true := by kernel_rfl
theorem h69 : qx Tryz.prog 69 p69 := qhm mixed (cfg := c69) (qn qq (qh) rfl (by kernel_rfl) (qjI (qg5 Ib.k97 qjK))) (qkC Ib.it114_ok itNil) Tryz.func69 rfl rfl (by kernel_rfl) rfl (qr (by kernel_rfl)) (by rw [rs69]; simp only [List.forall_mem_cons]; exact ⟨qgV (key := 2) (li := qjw) (p := 10) (by kernel_rfl) rfl (by kernel_rfl) (by kernel_rfl) (qr (by kernel_rfl)) (fun _ _ => rfl) R69_2_eq, fun _ h => by cases h⟩) d69 (fun d y h => ⟨fuel, (F69_eq fuel d).trans h⟩)
noncomputable def F113 (_n : Nat) (x_0 : (Int × zTg)) (t_1 : Int) : Option zTm :=
  cond (x_0.2.1 == 1) (some (((x_0.2.2.1 == t_1), ()), ())) (some ((false, ()), ()))
noncomputable def g113 (d : (Int × zTg) × Int × Unit) : Option zTm := F113 fuel d.1 d.2.1
noncomputable def p113 : qH := ⟨[.v (.str (.pair zI qR)), .r zI], [.v .bool], g113⟩
noncomputable def c113 : qW := ⟨13, tyT, [], [], [], [], [], [], [], [], [], [], [], [], none⟩
theorem F113_eq (n : Nat) (d) : qz c113 n Tryz.f113 (body Tryz.f113) p113.ps p113.rs d = F113 n d.1 d.2.1 := by kernel_rfl
theorem d113 : ql c113 (body Tryz.f113) = true := by kernel_rfl
theorem h113 : qx Tryz.prog 113 p113 := hQ (cfg := c113) (qn qq (qh) rfl (by kernel_rfl)) Tryz.func113 (by kernel_rfl) (qr (by kernel_rfl)) d113 (F113_eq fuel)
noncomputable def F95 (_n : Nat) (l_0 : zTt) (rule_1 : Int) : Option zTu :=
  qg l_0.1.1 rule_1 fun e1 => qa (g69 (l_0, e1.1, (fun v2 => qa (g113 (v2, rule_1, ())) fun y3 => some y3.1.1), ())) fun y4 => cond (decide (y4.1.1 < 0)) (some (((-1), ()), ())) (qg l_0.1.1 rule_1 fun e5 => some (((IntKind.wrap .i64 ((IntKind.wrap .i64 (y4.1.1 + e5.2.1)) - 1)), ()), ()))
noncomputable def g95 (d : zTt × Int × Unit) : Option zTu := F95 fuel d.1 d.2.1
noncomputable def p95 : qH := ⟨[.v (.str (.pair (.str zTb) (.list false 68 (.str (.pair zI qR))))), .v zI], [.v zI], g95⟩
noncomputable def c95 : qW := ⟨28, tyT, [], [(69, p69), (113, p113)], [], [], [], [], [], [], [], [], [], [], none⟩
theorem F95_eq (n : Nat) (d) : qz c95 n Tryz.f95 (body Tryz.f95) p95.ps p95.rs d = F95 n d.1 d.2.1 := by kernel_rfl
theorem d95 : ql c95 (body Tryz.f95) = true := by kernel_rfl
theorem h95 : qx Tryz.prog 95 p95 := hQ (cfg := c95) (qn qq (qd h69 (qd h113 qh)) rfl (by kernel_rfl)) Tryz.func95 (by kernel_rfl) (qr (by kernel_rfl)) d95 (F95_eq fuel)
noncomputable def B67_3 (_n : Nat) (L : (Int × Int × (List zTl) × Int × Int × Unit) × (zTt × Unit) × Unit → Option (zTn)) (ride_1 : Int) (day_5 : Int) (t_10 : List zTl) (t_11 : Int) (t_12 : Int) (o_2 : zTf × (List (Int × zTg))) : Option (zTn) :=
  cond (decide (t_12 < t_11)) (qg t_10 t_12 fun e1 => cond (e1.1 == ride_1) (qa (g95 (o_2, t_12, ())) fun y2 => L ((ride_1, (min day_5 y2.1.1), t_10, t_11, (IntKind.wrap .i64 (t_12 + 1)), ()), (o_2, ()), ())) (L ((ride_1, day_5, t_10, t_11, (IntKind.wrap .i64 (t_12 + 1)), ()), (o_2, ()), ()))) (some ((day_5, ()), (), ()))
noncomputable def L67_3 : Nat → (Int × Int × (List zTl) × Int × Int × Unit) × (zTt × Unit) × Unit → Option (zTn)
  | 0, _ => none
  | n + 1, d => B67_3 n (L67_3 n) d.1.1 d.1.2.1 d.1.2.2.1 d.1.2.2.2.1 d.1.2.2.2.2.1 d.2.1.1
noncomputable def l67_3 : jC := ⟨⟨[(1, .v zI), (2, .c (.ptr 2 [])), (5, .v zI), (10, .v (.list false 150 (.str zTk))), (11, .v zI), (12, .v zI)], [(2, false, .str (.pair (.str zTb) (.list false 68 (.str (.pair zI qR)))))], none⟩, [(.exit 0, ⟨[(5, .v zI)], [], none⟩)], L67_3⟩
noncomputable def F67 (n : Nat) (l_0 : zTt) (ride_1 : Int) : Option zTu :=
  qa (L67_3 n ((ride_1, 10000, l_0.1.1, (l_0.1.1.length : Int), 0, ()), (l_0, ()), ())) fun o3 => some ((o3.1.1, ()), ())
noncomputable def g67 (d : zTt × Int × Unit) : Option zTu := F67 fuel d.1 d.2.1
noncomputable def p67 : qH := ⟨[.v (.str (.pair (.str zTb) (.list false 68 (.str (.pair zI qR))))), .v zI], [.v zI], g67⟩
noncomputable def c67 : qW := ⟨28, tyT, [], [(95, p95)], [(3, l67_3)], [], [], [], [], [], [], [], [], [], none⟩
theorem F67_eq (n : Nat) (d) : qz c67 n Tryz.f67 (body Tryz.f67) p67.ps p67.rs d = F67 n d.1 d.2.1 := by kernel_rfl
theorem L67_3_eq (n : Nat) (d) : (l67_3).g (n + 1) d = run c67 n (j7 0 (qe (body Tryz.f67))) ((l67_3).ins.fill d) (qJ (l67_3) n) := by kernel_rfl
theorem ls67 : qe (body Tryz.f67) = [j7 0 (qe (body Tryz.f67))] := by kernel_rfl
theorem d67 : ql c67 (body Tryz.f67) = true := by kernel_rfl
theorem h67 : qx Tryz.prog 67 p67 := hQ (cfg := c67) (qn qq (qd h95 qh) rfl (by kernel_rfl)) Tryz.func67 (by kernel_rfl) (by rw [ls67]; simp only [List.forall_mem_cons]; exact ⟨qF (key := 3) (li := l67_3) (by kernel_rfl) rfl (fun _ => rfl) (L67_3_eq), fun _ h => by cases h⟩) d67 (F67_eq fuel)
noncomputable def B96_2 (_n : Nat) (L : zUq × (zTt × (List Int) × Unit) × Unit → Option (zUf)) (t_6 : List (Int × zTg)) (t_7 : Int) (t_8 : Int) (o_1 : zTf × (List (Int × zTg))) (o_2 : List Int) : Option (zUf) :=
  cond (decide (t_8 < t_7)) (qg t_6 t_8 fun e1 => cond (e1.2.1 == 2) (qa (g109 (o_1, t_8, ())) fun y2 => cond (!y2.1.1) (qX ((o_2.length : Int) + [t_8].length) (L ((t_6, t_7, (IntKind.wrap .i64 (t_8 + 1)), ()), (o_1, (o_2 ++ [t_8]), ()), ()))) (L ((t_6, t_7, (IntKind.wrap .i64 (t_8 + 1)), ()), (o_1, o_2, ()), ()))) (L ((t_6, t_7, (IntKind.wrap .i64 (t_8 + 1)), ()), (o_1, o_2, ()), ()))) (some ((), (o_2, ()), ()))
noncomputable def L96_2 : Nat → zUq × (zTt × (List Int) × Unit) × Unit → Option (zUf)
  | 0, _ => none
  | n + 1, d => B96_2 n (L96_2 n) d.1.1 d.1.2.1 d.1.2.2.1 d.2.1.1 d.2.1.2.1
noncomputable def l96_2 : jC := ⟨⟨[(1, .c (.ptr 1 [])), (2, .c (.view 2 [])), (6, .v (.list false 68 (.str (.pair zI qR)))), (7, .v zI), (8, .v zI)], [(1, false, .str (.pair (.str zTb) (.list false 68 (.str (.pair zI qR))))), (2, true, .list true 3 zI)], none⟩, [(.exit 0, ⟨[(2, .c (.view 2 []))], [(2, true, .list true 3 zI)], none⟩)], L96_2⟩
noncomputable def F96 (n : Nat) (l_0 : zTt) : Option (zTx × (Unit)) :=
  qa (L96_2 n ((l_0.2, (l_0.2.length : Int), 0, ()), (l_0, ([] : List Int), ()), ())) fun o3 => some ((o3.2.1.1, ()), ())
noncomputable def g96 (d : zTt × Unit) : Option (zTx × (Unit)) := F96 fuel d.1
noncomputable def p96 : qH := ⟨[.v (.str (.pair (.str zTb) (.list false 68 (.str (.pair zI qR)))))], [.own 3 zI], g96⟩
noncomputable def c96 : qW := ⟨28, tyT, [], [(109, p109)], [(2, l96_2)], [], [], [], [], [], [], [], [], [], none⟩
theorem F96_eq (n : Nat) (d) : qz c96 n Tryz.f96 (body Tryz.f96) p96.ps p96.rs d = F96 n d.1 := by kernel_rfl
theorem L96_2_eq (n : Nat) (d) : (l96_2).g (n + 1) d = run c96 n (j7 0 (qe (body Tryz.f96))) ((l96_2).ins.fill d) (qJ (l96_2) n) := by kernel_rfl
theorem ls96 : qe (body Tryz.f96) = [j7 0 (qe (body Tryz.f96))] := by kernel_rfl
theorem d96 : ql c96 (body Tryz.f96) = true := by kernel_rfl
theorem h96 : qx Tryz.prog 96 p96 := hQ (cfg := c96) (qn qq (qd h109 qh) rfl (by kernel_rfl)) Tryz.func96 (by kernel_rfl) (by rw [ls96]; simp only [List.forall_mem_cons]; exact ⟨qF (key := 2) (li := l96_2) (by kernel_rfl) rfl (fun _ => rfl) (L96_2_eq), fun _ h => by cases h⟩) d96 (F96_eq fuel)
noncomputable def B68_3 (_n : Nat) (L : zVj × (zTt × (List Int) × (List Int) × Unit) × Unit → Option (zUf)) (ride_1 : Int) (t_11 : Int) (t_12 : Int) (o_2 : zTf × (List (Int × zTg))) (o_5 : List Int) (o_11000 : List Int) : Option (zUf) :=
  cond (decide (t_12 < t_11)) (jL t_12 o_11000.length (qg o_11000 t_12 fun e2 => qg o_2.2 e2 fun e3 => cond (e3.2.2.1 == ride_1) (jL e3.2.2.2.1 4 (qg o_5 e3.2.2.2.1 fun e4 => jL e3.2.2.2.1 4 (qg o_5 e3.2.2.2.1 fun _ => L ((ride_1, t_11, (IntKind.wrap .i64 (t_12 + 1)), ()), (o_2, (o_5.set e3.2.2.2.1.toNat (IntKind.wrap .i64 (e4 + 1))), o_11000, ()), ())))) (L ((ride_1, t_11, (IntKind.wrap .i64 (t_12 + 1)), ()), (o_2, o_5, o_11000, ()), ())))) (some ((), (o_5, ()), ()))
noncomputable def L68_3 : Nat → zVj × (zTt × (List Int) × (List Int) × Unit) × Unit → Option (zUf)
  | 0, _ => none
  | n + 1, d => B68_3 n (L68_3 n) d.1.1 d.1.2.1 d.1.2.2.1 d.2.1.1 d.2.1.2.1 d.2.1.2.2.1
noncomputable def l68_3 : jC := ⟨⟨[(1, .v zI), (2, .c (.ptr 2 [])), (5, .c (.ptr 5 [])), (10, .c (.view 11000 [])), (11, .v zI), (12, .v zI)], [(2, false, .str (.pair (.str zTb) (.list false 68 (.str (.pair zI qR))))), (5, false, .arr 4 zI), (11000, true, .list true 3 zI)], none⟩, [(.exit 0, ⟨[(5, .c (.ptr 5 []))], [(5, false, .arr 4 zI)], none⟩)], L68_3⟩
noncomputable def F68 (n : Nat) (l_0 : zTt) (ride_1 : Int) : Option zTm :=
  qa (g96 (l_0, ())) fun y1 => qa (L68_3 n ((ride_1, (y1.1.1.length : Int), 0, ()), (l_0, (List.replicate 4 (0 : Int)), y1.1.1, ()), ())) fun o6 => jL 3 4 (qg o6.2.1.1 3 fun e7 => cond (e7 == 0) (jL 2 4 (qg o6.2.1.1 2 fun e8 => some (((decide (e8 ≤ 1)), ()), ()))) (some ((false, ()), ())))
noncomputable def g68 (d : zTt × Int × Unit) : Option zTm := F68 fuel d.1 d.2.1
noncomputable def p68 : qH := ⟨[.v (.str (.pair (.str zTb) (.list false 68 (.str (.pair zI qR))))), .v zI], [.v .bool], g68⟩
noncomputable def c68 : qW := ⟨40, tyT, [], [(96, p96)], [(3, l68_3)], [], [], [], [], [], [], [], [], [], none⟩
theorem F68_eq (n : Nat) (d) : qz c68 n Tryz.f68 (body Tryz.f68) p68.ps p68.rs d = F68 n d.1 d.2.1 := by kernel_rfl
theorem L68_3_eq (n : Nat) (d) : (l68_3).g (n + 1) d = run c68 n (j7 0 (qe (body Tryz.f68))) ((l68_3).ins.fill d) (qJ (l68_3) n) := by kernel_rfl
theorem ls68 : qe (body Tryz.f68) = [j7 0 (qe (body Tryz.f68))] := by kernel_rfl
theorem d68 : ql c68 (body Tryz.f68) = true := by kernel_rfl
theorem h68 : qx Tryz.prog 68 p68 := hQ (cfg := c68) (qn qq (qd h96 qh) rfl (by kernel_rfl)) Tryz.func68 (by kernel_rfl) (by rw [ls68]; simp only [List.forall_mem_cons]; exact ⟨qF (key := 3) (li := l68_3) (by kernel_rfl) rfl (fun _ => rfl) (L68_3_eq), fun _ h => by cases h⟩) d68 (F68_eq fuel)
noncomputable def F70 (_n : Nat) (x_0 : (Int × zTg)) (t_1 : Int) : Option zTm :=
  cond (x_0.2.1 == 4) (some (((x_0.2.2.1 == t_1), ()), ())) (some ((false, ()), ()))
noncomputable def g70 (d : (Int × zTg) × Int × Unit) : Option zTm := F70 fuel d.1 d.2.1
noncomputable def p70 : qH := ⟨[.v (.str (.pair zI qR)), .r zI], [.v .bool], g70⟩
noncomputable def c70 : qW := ⟨13, tyT, [], [], [], [], [], [], [], [], [], [], [], [], none⟩
theorem F70_eq (n : Nat) (d) : qz c70 n Tryz.f70 (body Tryz.f70) p70.ps p70.rs d = F70 n d.1 d.2.1 := by kernel_rfl
theorem d70 : ql c70 (body Tryz.f70) = true := by kernel_rfl
theorem h70 : qx Tryz.prog 70 p70 := hQ (cfg := c70) (qn qq (qh) rfl (by kernel_rfl)) Tryz.func70 (by kernel_rfl) (qr (by kernel_rfl)) d70 (F70_eq fuel)
noncomputable def Q71_2 (_n : Nat) (L : (Int × Int × Unit) → Option (X × (Int × Unit))) (t_8 : (Int × zTg)) (ride_3 : Int) (t_4 : Int) : Option (X × (Int × Unit)) :=
  cond (t_8.2.1 == 5) (cond (t_8.2.2.1 == ride_3) (some (.ret, (t_8.2.2.2.1, ()))) (L (ride_3, t_4, ()))) (L (ride_3, t_4, ()))
noncomputable def R71_2 (n : Nat) : List (Int × zTg) → (Int × Int × Unit) → Option (X × (Int × Unit))
  | [], d => some (.norm, (d.2.1, ()))
  | x :: r, d => Q71_2 n (R71_2 n r) x d.1 d.2.1
noncomputable def qjv : qcX := ⟨.str (.pair zI qR), [3, 4], [.r zI, .m zI], [.norm, .ret], R71_2⟩
noncomputable def F71 (n : Nat) (l_0 : zTt) (ride_1 : Int) : Option zTu :=
  qa (Ib.m97.p.g (l_0, ())) fun y1 => qa y1.1.1 fun q2 => qa (Ib.it114.g (q2, ())) fun l4 => qa (R71_2 n l4 (ride_1, (0 : Int), ())) fun o3 => cond (X.same .norm o3.1) (qg l_0.1.2.2 ride_1 fun e5 => some ((e5, ()), ())) (cond (X.same .ret o3.1) (some ((o3.2.1, ()), ())) (none))
noncomputable def g71 (d : zTt × Int × Unit) : Option zTu := F71 fuel d.1 d.2.1
noncomputable def p71 : qH := ⟨[.v (.str (.pair (.str zTb) (.list false 68 (.str (.pair zI qR))))), .v zI], [.v zI], g71⟩
noncomputable def c71 : qW := ⟨26, tyT, [], [], [], [], [], [(114, Ib.it114)], [(2, qjv)], [(97, Ib.m97)], [], [], [], [], none⟩
theorem F71_eq (n : Nat) (d) : qz c71 n Tryz.f71 (body Tryz.f71) p71.ps p71.rs d = F71 n d.1 d.2.1 := by kernel_rfl
theorem R71_2_eq (n : Nat) (x r d) : (qjv).g n (x :: r) d = run c71 n (asR (j7 0 (j3 (body Tryz.f71)))) (qfa qjv 8 d x) (qgF (qiv c71 qjv n (bdR (j7 0 (j3 (body Tryz.f71)))) r d) qj2) := by kernel_rfl
theorem rs71 : j3 (body Tryz.f71) = [j7 0 (j3 (body Tryz.f71))] := by kernel_rfl
theorem d71 : qcD c71 (body Tryz.f71) = true := by kernel_rfl
theorem h71 : qx Tryz.prog 71 p71 := qhm mixed (cfg := c71) (qn qq (qh) rfl (by kernel_rfl) (qjI (qg5 Ib.k97 qjK))) (qkC Ib.it114_ok itNil) Tryz.func71 rfl rfl (by kernel_rfl) rfl (qr (by kernel_rfl)) (by rw [rs71]; simp only [List.forall_mem_cons]; exact ⟨qgV (key := 2) (li := qjv) (p := 8) (by kernel_rfl) rfl (by kernel_rfl) (by kernel_rfl) (qr (by kernel_rfl)) (fun _ _ => rfl) R71_2_eq, fun _ h => by cases h⟩) d71 (fun d y h => ⟨fuel, (F71_eq fuel d).trans h⟩)
noncomputable def F40 (_n : Nat) (l_0 : zTt) (ride_1 : Int) (day_2 : Int) : Option (zTx × (Unit)) :=
  qa (g67 (l_0, ride_1, ())) fun y1 => qa (g66 (1, (decide (y1.1.1 < day_2)), ([] : List Int), ())) fun y2 => qa (g68 (l_0, ride_1, ())) fun y3 => qa (g66 (2, (!y3.1.1), y2.2.1, ())) fun y4 => qa (g69 (l_0, ride_1, (fun v5 => qa (g70 (v5, ride_1, ())) fun y6 => some y6.1.1), ())) fun y7 => qa (g66 (3, (y7.1.1 != day_2), y4.2.1, ())) fun y8 => qa (g71 (l_0, ride_1, ())) fun y9 => qa (g66 (4, (decide (y9.1.1 < day_2)), y8.2.1, ())) fun y10 => some ((y10.2.1, ()), ())
noncomputable def g40 (d : zTt × Int × Int × Unit) : Option (zTx × (Unit)) := F40 fuel d.1 d.2.1 d.2.2.1
noncomputable def p40 : qH := ⟨[.v (.str (.pair (.str zTb) (.list false 68 (.str (.pair zI qR))))), .v zI, .v zI], [.v jE], g40⟩
noncomputable def c40 : qW := ⟨38, tyT, [(6, .list true 3 zI)], [(66, p66), (67, p67), (68, p68), (69, p69), (70, p70), (71, p71)], [], [], [], [], [], [], [], [], [], [], none⟩
theorem F40_eq (n : Nat) (d) : qz c40 n Tryz.f40 (body Tryz.f40) p40.ps p40.rs d = F40 n d.1 d.2.1 d.2.2.1 := by kernel_rfl
theorem d40 : ql c40 (body Tryz.f40) = true := by kernel_rfl
theorem h40 : qx Tryz.prog 40 p40 := hQ (cfg := c40) (qn qq (qd h66 (qd h67 (qd h68 (qd h69 (qd h70 (qd h71 qh)))))) rfl (by kernel_rfl)) Tryz.func40 (by kernel_rfl) (qr (by kernel_rfl)) d40 (F40_eq fuel)
noncomputable def B13_5 (_n : Nat) (L : zVj × ((List Int) × zTt × Unit) × Unit → Option (zUf)) (day_2 : Int) (t_23 : Int) (t_24 : Int) (o_6 : List Int) (o_8 : zTf × (List (Int × zTg))) : Option (zUf) :=
  cond (decide (t_24 < t_23)) (qa (g40 (o_8, t_24, day_2, ())) fun y2 => cond ((y2.1.1.length : Int) == 0) (qX ((o_6.length : Int) + [t_24].length) (L ((day_2, t_23, (IntKind.wrap .i64 (t_24 + 1)), ()), ((o_6 ++ [t_24]), o_8, ()), ()))) (L ((day_2, t_23, (IntKind.wrap .i64 (t_24 + 1)), ()), (o_6, o_8, ()), ()))) (some ((), (o_6, ()), ()))
noncomputable def L13_5 : Nat → zVj × ((List Int) × zTt × Unit) × Unit → Option (zUf)
  | 0, _ => none
  | n + 1, d => B13_5 n (L13_5 n) d.1.1 d.1.2.1 d.1.2.2.1 d.2.1.1 d.2.1.2.1
noncomputable def l13_5 : jC := ⟨⟨[(2, .v zI), (6, .c (.view 6 [])), (8, .c (.ptr 8 [])), (23, .v zI), (24, .v zI)], [(6, true, .list true 3 zI), (8, false, .str (.pair (.str zTb) (.list false 68 (.str (.pair zI qR)))))], none⟩, [(.exit 0, ⟨[(6, .c (.view 6 []))], [(6, true, .list true 3 zI)], none⟩)], L13_5⟩
noncomputable def F13 (n : Nat) (b_0 : zTf) (entries_1 : (List (Int × zTg))) (day_2 : Int) : Option zUj :=
  qa (g39 (b_0, entries_1, day_2, ())) fun y1 => cond (y1.1.2.1 != 0) (some ((([] : List Int), y1.1.2.1, ()), ())) (qa (L13_5 n ((day_2, (y1.1.1.1.2.2.length : Int), 0, ()), (([] : List Int), y1.1.1, ()), ())) fun o3 => some ((o3.2.1.1, 0, ()), ()))
noncomputable def g13 (d : zTf × (List (Int × zTg)) × Int × Unit) : Option zUj := F13 fuel d.1 d.2.1 d.2.2.1
noncomputable def p13 : qH := ⟨[.v (.str zTb), .v (.list false 68 (.str (.pair zI qR))), .v zI], [.own 3 zI, .v zI], g13⟩
noncomputable def c13 : qW := ⟨39, tyT, [], [(39, p39), (40, p40)], [(5, l13_5)], [], [], [], [], [], [], [], [], [], none⟩
theorem F13_eq (n : Nat) (d) : qz c13 n Tryz.f13 (body Tryz.f13) p13.ps p13.rs d = F13 n d.1 d.2.1 d.2.2.1 := by kernel_rfl
theorem L13_5_eq (n : Nat) (d) : (l13_5).g (n + 1) d = run c13 n (j7 0 (qe (body Tryz.f13))) ((l13_5).ins.fill d) (qJ (l13_5) n) := by kernel_rfl
theorem ls13 : qe (body Tryz.f13) = [j7 0 (qe (body Tryz.f13))] := by kernel_rfl
theorem d13 : ql c13 (body Tryz.f13) = true := by kernel_rfl
theorem h13 : qx Tryz.prog 13 p13 := hQ (cfg := c13) (qn qq (qd h39 (qd h40 qh)) rfl (by kernel_rfl)) Tryz.func13 (by kernel_rfl) (by rw [ls13]; simp only [List.forall_mem_cons]; exact ⟨qF (key := 5) (li := l13_5) (by kernel_rfl) rfl (fun _ => rfl) (L13_5_eq), fun _ h => by cases h⟩) d13 (F13_eq fuel)
noncomputable def F60 (_n : Nat) (s_0 : zTo) (set_1 : Int) : Option zTm :=
  qdV (s_0.2.1.length : Int) (qa (g35 (set_1, 0, (IntKind.wrap .i64 ((shlI .i64 1 (s_0.2.1.length : Int)) - 1)), ())) fun y1 => some ((y1.1.1, ()), ()))
noncomputable def g60 (d : zTo × Int × Unit) : Option zTm := F60 fuel d.1 d.2.1
noncomputable def p60 : qH := ⟨[.v (.str (.pair (.list false 51 (.str qR)) (.pair (.list false 116 (.str qR)) (.pair zI j6)))), .v zI], [.v .bool], g60⟩
noncomputable def c60 : qW := ⟨12, tyT, [], [(35, p35)], [], [], [], [], [], [], [], [], [], [], none⟩
theorem F60_eq (n : Nat) (d) : qz c60 n Tryz.f60 (body Tryz.f60) p60.ps p60.rs d = F60 n d.1 d.2.1 := by kernel_rfl
theorem d60 : ql c60 (body Tryz.f60) = true := by kernel_rfl
theorem h60 : qx Tryz.prog 60 p60 := hQ (cfg := c60) (qn qq (qd h35 qh) rfl (by kernel_rfl)) Tryz.func60 (by kernel_rfl) (qr (by kernel_rfl)) d60 (F60_eq fuel)
noncomputable def F31 (_n : Nat) (s_0 : zTo) (set_1 : Int) : Option zTu :=
  qa (g22 (s_0, ())) fun y1 => cond (y1.1.1 != 0) (some ((y1.1.1, ()), ())) (qa (g60 (s_0, set_1, ())) fun y2 => cond (!y2.1.1) (some ((1, ()), ())) (some ((0, ()), ())))
noncomputable def g31 (d : zTo × Int × Unit) : Option zTu := F31 fuel d.1 d.2.1
noncomputable def p31 : qH := ⟨[.v (.str (.pair (.list false 51 (.str qR)) (.pair (.list false 116 (.str qR)) (.pair zI j6)))), .v zI], [.v zI], g31⟩
noncomputable def c31 : qW := ⟨15, tyT, [], [(22, p22), (60, p60)], [], [], [], [], [], [], [], [], [], [], none⟩
theorem F31_eq (n : Nat) (d) : qz c31 n Tryz.f31 (body Tryz.f31) p31.ps p31.rs d = F31 n d.1 d.2.1 := by kernel_rfl
theorem d31 : ql c31 (body Tryz.f31) = true := by kernel_rfl
theorem h31 : qx Tryz.prog 31 p31 := hQ (cfg := c31) (qn qq (qd h22 (qd h60 qh)) rfl (by kernel_rfl)) Tryz.func31 (by kernel_rfl) (qr (by kernel_rfl)) d31 (F31_eq fuel)
noncomputable def Q32_7 (_n : Nat) (L : (zTo × (List (List Int)) × zTg × Unit) → Option (X × zTs)) (t_31 : Int) (s_2 : zTo) (out_5 : (List (List Int))) (l_7 : zTg) : Option (X × zTs) :=
  cond (t_31 == (-1)) (qgc (fun (e5 : Int) (e6 : List Int) => L (s_2, (out_5.set (s_2.1.length : Int).toNat (e6.set l_7.2.1.toNat (IntKind.wrap .i64 (e5 + l_7.2.2.1)))), l_7, ())) fun E => qP [jL (s_2.1.length : Int) out_5.length (qP [jL l_7.2.1 3 (qP [qg out_5 (s_2.1.length : Int) fun e4 => qg e4 l_7.2.1 fun e5 => jL (s_2.1.length : Int) out_5.length (jL l_7.2.1 3 (qg out_5 (s_2.1.length : Int) fun e6 => qg e6 l_7.2.1 fun _ => E e5 e6)), jL (s_2.1.length : Int) out_5.length (qg out_5 (s_2.1.length : Int) fun e8 => qg e8 l_7.2.1 fun e9 => jL l_7.2.1 3 (qg out_5 (s_2.1.length : Int) fun e10 => qg e10 l_7.2.1 fun _ => E e9 e10))]), jL (s_2.1.length : Int) out_5.length (jL l_7.2.1 3 (qg out_5 (s_2.1.length : Int) fun e12 => qg e12 l_7.2.1 fun e13 => jL l_7.2.1 3 (qg out_5 (s_2.1.length : Int) fun e14 => qg e14 l_7.2.1 fun _ => E e13 e14)))]), jL (s_2.1.length : Int) out_5.length (jL (s_2.1.length : Int) out_5.length (jL l_7.2.1 3 (qg out_5 (s_2.1.length : Int) fun e16 => qg e16 l_7.2.1 fun e17 => jL l_7.2.1 3 (qg out_5 (s_2.1.length : Int) fun e18 => qg e18 l_7.2.1 fun _ => E e17 e18))))]) (qgc (fun (e21 : Int) (e22 : List Int) => L (s_2, (out_5.set t_31.toNat (e22.set l_7.2.1.toNat (IntKind.wrap .i64 (e21 + l_7.2.2.1)))), l_7, ())) fun E => qP [jL t_31 out_5.length (qP [jL l_7.2.1 3 (qP [qg out_5 t_31 fun e20 => qg e20 l_7.2.1 fun e21 => jL t_31 out_5.length (jL l_7.2.1 3 (qg out_5 t_31 fun e22 => qg e22 l_7.2.1 fun _ => E e21 e22)), jL t_31 out_5.length (qg out_5 t_31 fun e24 => qg e24 l_7.2.1 fun e25 => jL l_7.2.1 3 (qg out_5 t_31 fun e26 => qg e26 l_7.2.1 fun _ => E e25 e26))]), jL t_31 out_5.length (jL l_7.2.1 3 (qg out_5 t_31 fun e28 => qg e28 l_7.2.1 fun e29 => jL l_7.2.1 3 (qg out_5 t_31 fun e30 => qg e30 l_7.2.1 fun _ => E e29 e30)))]), jL t_31 out_5.length (jL t_31 out_5.length (jL l_7.2.1 3 (qg out_5 t_31 fun e32 => qg e32 l_7.2.1 fun e33 => jL l_7.2.1 3 (qg out_5 t_31 fun e34 => qg e34 l_7.2.1 fun _ => E e33 e34))))])
noncomputable def R32_7 (n : Nat) : List Int → (zTo × (List (List Int)) × zTg × Unit) → Option (X × zTs)
  | [], d => some (.norm, (d.2.1, ()))
  | x :: r, d => Q32_7 n (R32_7 n r) x d.1 d.2.1 d.2.2.1
noncomputable def qjx : qcX := ⟨.int .i64, [2, 5, 7], [.r (.str (.pair (.list false 51 (.str qR)) (.pair (.list false 116 (.str qR)) (.pair zI j6)))), .m (.list true 89 zUr), .r (.str qR)], [.norm], R32_7⟩
noncomputable def B32_3 (n : Nat) (L : (Int × zTo × (List zTg) × Int × Int × Unit) × zTs × Unit → Option (((Unit) × zTs × Unit))) (set_1 : Int) (s_2 : (List zTg) × zUn) (t_15 : List zTg) (t_16 : Int) (t_17 : Int) (o_5 : List (List Int)) : Option (((Unit) × zTs × Unit)) :=
  cond (decide (t_17 < t_16)) (qg t_15 t_17 fun e2 => qdV t_17 (cond ((qbG .and .i64 (qen .i64 set_1 t_17) 1) == 0) (L ((set_1, s_2, t_15, t_16, (IntKind.wrap .i64 (t_17 + 1)), ()), (o_5, ()), ())) (qa (It.m61.p.g (s_2, e2.1, ())) fun y3 => qa y3.1.2.1 fun q4 => qa (It.it90.g (y3.1.1, q4, ())) fun l6 => qa (R32_7 n l6 (s_2, o_5, e2, ())) fun o5 => cond (X.same .norm o5.1) (L ((set_1, s_2, t_15, t_16, (IntKind.wrap .i64 (t_17 + 1)), ()), (o5.2.1, ()), ())) (none)))) (some ((), (o_5, ()), ()))
noncomputable def L32_3 : Nat → (Int × zTo × (List zTg) × Int × Int × Unit) × zTs × Unit → Option (((Unit) × zTs × Unit))
  | 0, _ => none
  | n + 1, d => B32_3 n (L32_3 n) d.1.1 d.1.2.1 d.1.2.2.1 d.1.2.2.2.1 d.1.2.2.2.2.1 d.2.1.1
noncomputable def l32_3 : jC := ⟨⟨[(1, .v zI), (2, .r (.str (.pair (.list false 51 (.str qR)) (.pair (.list false 116 (.str qR)) (.pair zI j6))))), (5, .c (.ptr 5 [])), (15, .v (.list false 116 (.str qR))), (16, .v zI), (17, .v zI)], [(5, false, .list true 89 zUr)], none⟩, [(.exit 0, ⟨[(5, .c (.ptr 5 []))], [(5, false, .list true 89 zUr)], none⟩)], L32_3⟩
noncomputable def F32 (n : Nat) (s_0 : zTo) (set_1 : Int) : Option (zTs × (Unit)) :=
  leK 0 (IntKind.wrap .i64 ((s_0.1.length : Int) + 1)) (leK (IntKind.wrap .i64 ((s_0.1.length : Int) + 1)) (IntKind.wrap .i64 ((s_0.1.length : Int) + 1)) (qX (IntKind.wrap .i64 ((s_0.1.length : Int) + 1)) (qbu (List.replicate (IntKind.wrap .i64 ((s_0.1.length : Int) + 1)).toNat (List.replicate 3 (0 : Int))) fun z1 => qa (L32_3 n ((set_1, s_0, s_0.2.1, (s_0.2.1.length : Int), 0, ()), (z1, ()), ())) fun o7 => some ((o7.2.1.1, ()), ()))))
noncomputable def g32 (d : zTo × Int × Unit) : Option (zTs × (Unit)) := F32 fuel d.1 d.2.1
noncomputable def p32 : qH := ⟨[.v (.str (.pair (.list false 51 (.str qR)) (.pair (.list false 116 (.str qR)) (.pair zI j6)))), .v zI], [.own 89 zUr], g32⟩
noncomputable def c32 : qW := ⟨51, tyT, [(2, .str (.pair (.list false 51 (.str qR)) (.pair (.list false 116 (.str qR)) (.pair zI j6)))), (5, .list true 89 zUr), (7, .str qR)], [], [(3, l32_3)], [], [10], [(90, It.it90)], [(7, qjx)], [(61, It.m61)], [], [], [], [], none⟩
theorem F32_eq (n : Nat) (d) : qz c32 n Tryz.f32 (body Tryz.f32) p32.ps p32.rs d = F32 n d.1 d.2.1 := by kernel_rfl
theorem L32_3_eq (n : Nat) (d) : (l32_3).g (n + 1) d = run c32 n (j7 0 (qe (body Tryz.f32))) ((l32_3).ins.fill d) (qJ (l32_3) n) := by kernel_rfl
theorem ls32 : qe (body Tryz.f32) = [j7 0 (qe (body Tryz.f32))] := by kernel_rfl
theorem R32_7_eq (n : Nat) (x r d) : (qjx).g n (x :: r) d = run c32 n (asR (j7 0 (j3 (body Tryz.f32)))) (qfa qjx 31 d x) (qgF (qiv c32 qjx n (bdR (j7 0 (j3 (body Tryz.f32)))) r d) qj2) := by kernel_rfl
theorem rs32 : j3 (body Tryz.f32) = [j7 0 (j3 (body Tryz.f32))] := by kernel_rfl
theorem d32 : qcD c32 (body Tryz.f32) = true := by kernel_rfl
theorem h32 : qx Tryz.prog 32 p32 := qhm mixed (cfg := c32) (qn qq (qh) rfl (by kernel_rfl) (qjI (qg5 It.k61 qjK))) (qkC It.it90_ok itNil) Tryz.func32 rfl rfl (by kernel_rfl) rfl (by rw [ls32]; simp only [List.forall_mem_cons]; exact ⟨qF (key := 3) (li := l32_3) (by kernel_rfl) rfl (fun _ => rfl) (L32_3_eq), fun _ h => by cases h⟩) (by rw [rs32]; simp only [List.forall_mem_cons]; exact ⟨qgV (key := 7) (li := qjx) (p := 31) (by kernel_rfl) rfl (by kernel_rfl) (by kernel_rfl) (qr (by kernel_rfl)) (fun _ _ => rfl) R32_7_eq, fun _ h => by cases h⟩) d32 (fun d y h => ⟨fuel, (F32_eq fuel d).trans h⟩)
noncomputable def F111 (_n : Nat) (a_0 : (List Int)) : Option zTu :=
  jL 0 3 (qg a_0 0 fun e1 => jL 1 3 (qg a_0 1 fun e2 => jL 2 3 (qg a_0 2 fun e3 => some (((max (max e1 e2) e3), ()), ()))))
noncomputable def g111 (d : (List Int) × Unit) : Option zTu := F111 fuel d.1
noncomputable def p111 : qH := ⟨[.v zUr], [.v zI], g111⟩
noncomputable def c111 : qW := ⟨10, tyT, [], [], [], [], [], [], [], [], [], [], [], [], none⟩
theorem F111_eq (n : Nat) (d) : qz c111 n Tryz.f111 (body Tryz.f111) p111.ps p111.rs d = F111 n d.1 := by kernel_rfl
theorem d111 : ql c111 (body Tryz.f111) = true := by kernel_rfl
theorem h111 : qx Tryz.prog 111 p111 := hQ (cfg := c111) (qn qq (qh) rfl (by kernel_rfl)) Tryz.func111 (by kernel_rfl) (qr (by kernel_rfl)) d111 (F111_eq fuel)
noncomputable def F112 (_n : Nat) (s_0 : zTo) (b_1 : Int) : Option zTu :=
  cond (b_1 == (s_0.1.length : Int)) (some ((s_0.2.2.1, ()), ())) (cond (b_1 == (-1)) (some ((s_0.2.2.1, ()), ())) (qg s_0.1 b_1 fun e1 => some ((e1.2.1, ()), ())))
noncomputable def g112 (d : zTo × Int × Unit) : Option zTu := F112 fuel d.1 d.2.1
noncomputable def p112 : qH := ⟨[.v (.str (.pair (.list false 51 (.str qR)) (.pair (.list false 116 (.str qR)) (.pair zI j6)))), .v zI], [.v zI], g112⟩
noncomputable def c112 : qW := ⟨22, tyT, [], [], [], [], [], [], [], [], [], [], [], [], none⟩
theorem F112_eq (n : Nat) (d) : qz c112 n Tryz.f112 (body Tryz.f112) p112.ps p112.rs d = F112 n d.1 d.2.1 := by kernel_rfl
theorem d112 : ql c112 (body Tryz.f112) = true := by kernel_rfl
theorem h112 : qx Tryz.prog 112 p112 := hQ (cfg := c112) (qn qq (qh) rfl (by kernel_rfl)) Tryz.func112 (by kernel_rfl) (qr (by kernel_rfl)) d112 (F112_eq fuel)
noncomputable def B92_5 (_n : Nat) (L : (Int × Int × Unit) × (zTo × (List (List Int)) × Unit) × Unit → Option (((Int × Bool × Unit) × (Unit) × Unit) ⊕ zTr)) (t_23 : Int) (t_24 : Int) (o_2 : (List zTg) × zUn) (o_11000 : List (List Int)) : Option (((Int × Bool × Unit) × (Unit) × Unit) ⊕ zTr) :=
  cond (decide (t_24 < t_23)) (jL t_24 o_11000.length (qg o_11000 t_24 fun e4 => qa (g111 (e4, ())) fun y5 => qa (g112 (o_2, t_24, ())) fun y6 => cond (decide (y5.1.1 > y6.1.1)) (some (.inl ((t_24, true, ()), (), ()))) (L ((t_23, (IntKind.wrap .i64 (t_24 + 1)), ()), (o_2, o_11000, ()), ())))) (some (.inr ((), (), ())))
noncomputable def L92_5 : Nat → (Int × Int × Unit) × (zTo × (List (List Int)) × Unit) × Unit → Option (((Int × Bool × Unit) × (Unit) × Unit) ⊕ zTr)
  | 0, _ => none
  | n + 1, d => B92_5 n (L92_5 n) d.1.1 d.1.2.1 d.2.1.1 d.2.1.2.1
noncomputable def l92_5 : jC := ⟨⟨[(2, .c (.ptr 2 [])), (6, .c (.view 11000 [])), (23, .v zI), (24, .v zI)], [(2, false, .str (.pair (.list false 51 (.str qR)) (.pair (.list false 116 (.str qR)) (.pair zI j6)))), (11000, true, .list true 89 zUr)], none⟩, [(.ret, ⟨[(4, .v zI), (5, .v .bool)], [], none⟩), (.exit 0, ⟨[], [], none⟩)], L92_5⟩
noncomputable def F92 (n : Nat) (s_0 : zTo) (set_1 : Int) : Option ((Int × Bool × Unit) × (Unit)) :=
  qa (g32 (s_0, set_1, ())) fun y1 => jL (s_0.1.length : Int) y1.1.1.length (qg y1.1.1 (s_0.1.length : Int) fun e2 => qa (g111 (e2, ())) fun y3 => cond (decide (y3.1.1 > s_0.2.2.1)) (some (((-1), true, ()), ())) (qa (L92_5 n (((s_0.1.length : Int), 0, ()), (s_0, y1.1.1, ()), ())) fun o7 => qaP o7 (fun d8 => some ((d8.1.1, d8.1.2.1, ()), ())) (fun _ => some ((0, false, ()), ()))))
noncomputable def g92 (d : zTo × Int × Unit) : Option ((Int × Bool × Unit) × (Unit)) := F92 fuel d.1 d.2.1
noncomputable def p92 : qH := ⟨[.v (.str (.pair (.list false 51 (.str qR)) (.pair (.list false 116 (.str qR)) (.pair zI j6)))), .v zI], [.v zI, .v .bool], g92⟩
noncomputable def c92 : qW := ⟨38, tyT, [], [(32, p32), (111, p111), (112, p112)], [(5, l92_5)], [], [], [], [], [], [], [], [], [], none⟩
theorem F92_eq (n : Nat) (d) : qz c92 n Tryz.f92 (body Tryz.f92) p92.ps p92.rs d = F92 n d.1 d.2.1 := by kernel_rfl
theorem L92_5_eq (n : Nat) (d) : (l92_5).g (n + 1) d = run c92 n (j7 0 (qe (body Tryz.f92))) ((l92_5).ins.fill d) (qJ (l92_5) n) := by kernel_rfl
theorem ls92 : qe (body Tryz.f92) = [j7 0 (qe (body Tryz.f92))] := by kernel_rfl
theorem d92 : ql c92 (body Tryz.f92) = true := by kernel_rfl
theorem h92 : qx Tryz.prog 92 p92 := hQ (cfg := c92) (qn qq (qd h32 (qd h111 (qd h112 qh))) rfl (by kernel_rfl)) Tryz.func92 (by kernel_rfl) (by rw [ls92]; simp only [List.forall_mem_cons]; exact ⟨qF (key := 5) (li := l92_5) (by kernel_rfl) rfl (fun _ => rfl) (L92_5_eq), fun _ h => by cases h⟩) d92 (F92_eq fuel)
noncomputable def F63 (_n : Nat) (s_0 : zTo) (set_1 : Int) : Option ((Int × Bool × Int × Unit) × (Unit)) :=
  qa (g31 (s_0, set_1, ())) fun y1 => cond (y1.1.1 != 0) (some ((0, false, y1.1.1, ()), ())) (qa (g92 (s_0, set_1, ())) fun y2 => some ((y2.1.1, (!y2.1.2.1), 0, ()), ()))
noncomputable def g63 (d : zTo × Int × Unit) : Option ((Int × Bool × Int × Unit) × (Unit)) := F63 fuel d.1 d.2.1
noncomputable def p63 : qH := ⟨[.v (.str (.pair (.list false 51 (.str qR)) (.pair (.list false 116 (.str qR)) (.pair zI j6)))), .v zI], [.v zI, .v .bool, .v zI], g63⟩
noncomputable def c63 : qW := ⟨25, tyT, [], [(31, p31), (92, p92)], [], [], [], [], [], [], [], [], [], [], none⟩
theorem F63_eq (n : Nat) (d) : qz c63 n Tryz.f63 (body Tryz.f63) p63.ps p63.rs d = F63 n d.1 d.2.1 := by kernel_rfl
theorem d63 : ql c63 (body Tryz.f63) = true := by kernel_rfl
theorem h63 : qx Tryz.prog 63 p63 := hQ (cfg := c63) (qn qq (qd h31 (qd h92 qh)) rfl (by kernel_rfl)) Tryz.func63 (by kernel_rfl) (qr (by kernel_rfl)) d63 (F63_eq fuel)
noncomputable def B38_6 (_n : Nat) (L : zVj × (zTd × (List Int) × (List Int) × Unit) × Unit → Option (zUf)) (set_5 : Int) (t_24 : Int) (t_25 : Int) (o_1 : zTw × zUg) (o_2 : List Int) (o_19000 : List Int) : Option (zUf) :=
  cond (decide (t_25 < t_24)) (jL t_25 o_19000.length (qg o_19000 t_25 fun e2 => qdV e2 (qa (g63 (o_1.2.2.2.2.1, (qbG .or .i64 set_5 (shlI .i64 1 e2)), ())) fun y3 => cond (y3.1.2.2.1 == 0) (cond y3.1.2.1 (qdV e2 (qX ((o_2.length : Int) + [e2].length) (L (((qbG .or .i64 set_5 (shlI .i64 1 e2)), t_24, (IntKind.wrap .i64 (t_25 + 1)), ()), (o_1, (o_2 ++ [e2]), o_19000, ()), ())))) (L ((set_5, t_24, (IntKind.wrap .i64 (t_25 + 1)), ()), (o_1, o_2, o_19000, ()), ()))) (L ((set_5, t_24, (IntKind.wrap .i64 (t_25 + 1)), ()), (o_1, o_2, o_19000, ()), ()))))) (some ((), (o_2, ()), ()))
noncomputable def L38_6 : Nat → zVj × (zTd × (List Int) × (List Int) × Unit) × Unit → Option (zUf)
  | 0, _ => none
  | n + 1, d => B38_6 n (L38_6 n) d.1.1 d.1.2.1 d.1.2.2.1 d.2.1.1 d.2.1.2.1 d.2.1.2.2.1
noncomputable def l38_6 : jC := ⟨⟨[(1, .c (.ptr 1 [])), (2, .c (.view 2 [])), (5, .v zI), (23, .c (.view 19000 [])), (24, .v zI), (25, .v zI)], [(1, false, .str (.pair (.str zTe) (.pair (.str zTb) (.pair (.list false 68 (.str (.pair zI qR))) (.pair zI (.pair (.str (.pair (.list false 51 (.str qR)) (.pair (.list false 116 (.str qR)) (.pair zI j6)))) (.pair jE jE))))))), (2, true, .list true 3 zI), (19000, true, .list true 3 zI)], none⟩, [(.exit 0, ⟨[(2, .c (.view 2 []))], [(2, true, .list true 3 zI)], none⟩)], L38_6⟩
noncomputable def F38 (n : Nat) (g_0 : zTd) : Option (zTx × (Unit)) :=
  qa (g13 (g_0.2.1, g_0.2.2.1, g_0.2.2.2.1, ())) fun y1 => cond (y1.1.2.1 != 0) (some ((([] : List Int), ()), ())) (qa (L38_6 n ((0, (y1.1.1.length : Int), 0, ()), (g_0, ([] : List Int), y1.1.1, ()), ())) fun o4 => some ((o4.2.1.1, ()), ()))
noncomputable def g38 (d : zTd × Unit) : Option (zTx × (Unit)) := F38 fuel d.1
noncomputable def p38 : qH := ⟨[.v (.str (.pair (.str zTe) (.pair (.str zTb) (.pair (.list false 68 (.str (.pair zI qR))) (.pair zI (.pair (.str (.pair (.list false 51 (.str qR)) (.pair (.list false 116 (.str qR)) (.pair zI j6)))) (.pair jE jE)))))))], [.own 3 zI], g38⟩
noncomputable def c38 : qW := ⟨55, tyT, [], [(13, p13), (63, p63)], [(6, l38_6)], [], [], [], [], [], [], [], [], [], none⟩
theorem F38_eq (n : Nat) (d) : qz c38 n Tryz.f38 (body Tryz.f38) p38.ps p38.rs d = F38 n d.1 := by kernel_rfl
theorem L38_6_eq (n : Nat) (d) : (l38_6).g (n + 1) d = run c38 n (j7 0 (qe (body Tryz.f38))) ((l38_6).ins.fill d) (qJ (l38_6) n) := by kernel_rfl
theorem ls38 : qe (body Tryz.f38) = [j7 0 (qe (body Tryz.f38))] := by kernel_rfl
theorem d38 : ql c38 (body Tryz.f38) = true := by kernel_rfl
theorem h38 : qx Tryz.prog 38 p38 := hQ (cfg := c38) (qn qq (qd h13 (qd h63 qh)) rfl (by kernel_rfl)) Tryz.func38 (by kernel_rfl) (by rw [ls38]; simp only [List.forall_mem_cons]; exact ⟨qF (key := 6) (li := l38_6) (by kernel_rfl) rfl (fun _ => rfl) (L38_6_eq), fun _ h => by cases h⟩) d38 (F38_eq fuel)
noncomputable def F12 (_n : Nat) (g_0 : zTd) : Option zUj :=
  qa (g8 (g_0, ())) fun y1 => cond (y1.1.1 != 0) (some ((([] : List Int), y1.1.1, ()), ())) (qa (g38 (g_0, ())) fun y2 => some ((y2.1.1, 0, ()), ()))
noncomputable def g12 (d : zTd × Unit) : Option zUj := F12 fuel d.1
noncomputable def p12 : qH := ⟨[.v (.str (.pair (.str zTe) (.pair (.str zTb) (.pair (.list false 68 (.str (.pair zI qR))) (.pair zI (.pair (.str (.pair (.list false 51 (.str qR)) (.pair (.list false 116 (.str qR)) (.pair zI j6)))) (.pair jE jE)))))))], [.own 3 zI, .v zI], g12⟩
noncomputable def c12 : qW := ⟨12, tyT, [], [(8, p8), (38, p38)], [], [], [], [], [], [], [], [], [], [], none⟩
theorem F12_eq (n : Nat) (d) : qz c12 n Tryz.f12 (body Tryz.f12) p12.ps p12.rs d = F12 n d.1 := by kernel_rfl
theorem d12 : ql c12 (body Tryz.f12) = true := by kernel_rfl
theorem h12 : qx Tryz.prog 12 p12 := hQ (cfg := c12) (qn qq (qd h8 (qd h38 qh)) rfl (by kernel_rfl)) Tryz.func12 (by kernel_rfl) (qr (by kernel_rfl)) d12 (F12_eq fuel)
noncomputable def F41 (_n : Nat) (n_0 : Int) (low_1 : Int) (high_2 : Int) : Option zTm :=
  cond (decide (n_0 ≥ low_1)) (some (((decide (n_0 ≤ high_2)), ()), ())) (some ((false, ()), ()))
noncomputable def g41 (d : Int × Int × Int × Unit) : Option zTm := F41 fuel d.1 d.2.1 d.2.2.1
noncomputable def p41 : qH := ⟨[.v zI, .v zI, .v zI], [.v .bool], g41⟩
noncomputable def c41 : qW := ⟨15, tyT, [], [], [], [], [], [], [], [], [], [], [], [], none⟩
theorem F41_eq (n : Nat) (d) : qz c41 n Tryz.f41 (body Tryz.f41) p41.ps p41.rs d = F41 n d.1 d.2.1 d.2.2.1 := by kernel_rfl
theorem d41 : ql c41 (body Tryz.f41) = true := by kernel_rfl
theorem h41 : qx Tryz.prog 41 p41 := hQ (cfg := c41) (qn qq (qh) rfl (by kernel_rfl)) Tryz.func41 (by kernel_rfl) (qr (by kernel_rfl)) d41 (F41_eq fuel)
noncomputable def B15_10 (_n : Nat) (L : (Int × Int × Unit) × (zTh × zTy × Unit) × Unit → Option (zTn ⊕ ((Int × Unit) × (zTh × Unit) × Unit))) (i_3 : Int) (n_5 : Int) (o_1 : (List zTy) × zVb) (o_4 : Int × (Int × (Int × (List Int)))) : Option (zTn ⊕ ((Int × Unit) × (zTh × Unit) × Unit)) :=
  cond (decide (n_5 < (o_4.2.2.2.length : Int))) (qg o_4.2.2.2 n_5 fun e6 => qa (g41 (e6, 0, (IntKind.wrap .i64 ((o_1.1.length : Int) - 1)), ())) fun y7 => cond (!y7.1.1) (some (.inl ((80, ()), (), ()))) (qg o_4.2.2.2 n_5 fun e8 => cond (e8 == i_3) (some (.inl ((80, ()), (), ()))) (cond (decide (n_5 > 0)) (qg o_4.2.2.2 n_5 fun e9 => qg o_4.2.2.2 (IntKind.wrap .i64 (n_5 - 1)) fun e10 => cond (decide (e9 ≤ e10)) (some (.inl ((80, ()), (), ()))) (L ((i_3, (IntKind.wrap .i64 (n_5 + 1)), ()), (o_1, o_4, ()), ()))) (L ((i_3, (IntKind.wrap .i64 (n_5 + 1)), ()), (o_1, o_4, ()), ()))))) (some (.inr ((i_3, ()), (o_1, ()), ())))
noncomputable def L15_10 : Nat → (Int × Int × Unit) × (zTh × zTy × Unit) × Unit → Option (zTn ⊕ ((Int × Unit) × (zTh × Unit) × Unit))
  | 0, _ => none
  | n + 1, d => B15_10 n (L15_10 n) d.1.1 d.1.2.1 d.2.1.1 d.2.1.2.1
noncomputable def l15_10 : jC := ⟨⟨[(1, .c (.ptr 1 [])), (3, .v zI), (4, .c (.ptr 4 [])), (5, .v zI)], [(1, false, .str zTc), (4, false, .str (.pair zI (.pair zI (.pair zI jE))))], none⟩, [(.ret, ⟨[(2, .v zI)], [], none⟩), (.exit 2, ⟨[(1, .c (.ptr 1 [])), (3, .v zI)], [(1, false, .str zTc)], none⟩)], L15_10⟩
noncomputable def B15_4 (n : Nat) (L : (Int × Unit) × (zTh × Unit) × Unit → Option (zTn ⊕ zVa)) (i_3 : Int) (o_1 : (List zTy) × zVb) : Option (zTn ⊕ zVa) :=
  cond (decide (i_3 < (o_1.1.length : Int))) (qg o_1.1 i_3 fun e2 => qa (g41 (e2.1, 1, 1000000, ())) fun y3 => cond (!y3.1.1) (some (.inl ((80, ()), (), ()))) (qa (g41 (e2.2.1, 1, 100, ())) fun y4 => cond (!y4.1.1) (some (.inl ((80, ()), (), ()))) (qa (g41 (e2.2.2.1, 0, 9, ())) fun y5 => cond (!y5.1.1) (some (.inl ((80, ()), (), ()))) (qa (L15_10 n ((i_3, 0, ()), (o_1, e2, ()), ())) fun o11 => qaP o11 (fun d12 => some (.inl ((d12.1.1, ()), (), ()))) (fun d13 => L (((IntKind.wrap .i64 (d13.1.1 + 1)), ()), (d13.2.1.1, ()), ())))))) (some (.inr ((), (o_1, ()), ())))
noncomputable def L15_4 : Nat → (Int × Unit) × (zTh × Unit) × Unit → Option (zTn ⊕ zVa)
  | 0, _ => none
  | n + 1, d => B15_4 n (L15_4 n) d.1.1 d.2.1.1
noncomputable def l15_4 : jC := ⟨⟨[(1, .c (.ptr 1 [])), (3, .v zI)], [(1, false, .str zTc)], none⟩, [(.ret, ⟨[(2, .v zI)], [], none⟩), (.exit 0, ⟨[(1, .c (.ptr 1 []))], [(1, false, .str zTc)], none⟩)], L15_4⟩
noncomputable def B15_19 (_n : Nat) (L : (Int × Int × Unit) × zVc × Unit → Option (zTn ⊕ ((Int × Unit) × zVc × Unit))) (v_7 : Int) (i_8 : Int) (o_1 : (List zTy) × zVb) (o_102 : List Int) : Option (zTn ⊕ ((Int × Unit) × zVc × Unit)) :=
  qg o_1.2.2 v_7 fun e17 => cond (decide (i_8 < (e17.length : Int))) (qg o_1.2.2 v_7 fun e18 => qg e18 i_8 fun e19 => qa (g41 (e19, 0, (IntKind.wrap .i64 ((o_1.1.length : Int) - 1)), ())) fun y20 => cond (!y20.1.1) (some (.inl ((80, ()), (), ()))) (qg o_1.2.2 v_7 fun e21 => qg e21 i_8 fun e22 => jL e22 o_102.length (qg o_102 e22 fun e23 => jL e22 o_102.length (qg o_102 e22 fun _ => L ((v_7, (IntKind.wrap .i64 (i_8 + 1)), ()), (o_1, (o_102.set e22.toNat (IntKind.wrap .i64 (e23 + 1))), ()), ()))))) (some (.inr ((v_7, ()), (o_1, o_102, ()), ())))
noncomputable def L15_19 : Nat → (Int × Int × Unit) × zVc × Unit → Option (zTn ⊕ ((Int × Unit) × zVc × Unit))
  | 0, _ => none
  | n + 1, d => B15_19 n (L15_19 n) d.1.1 d.1.2.1 d.2.1.1 d.2.1.2.1
noncomputable def l15_19 : jC := ⟨⟨[(1, .c (.ptr 1 [])), (6, .c (.view 102 [])), (7, .v zI), (8, .v zI)], [(1, false, .str zTc), (102, true, .list true 3 zI)], none⟩, [(.ret, ⟨[(2, .v zI)], [], none⟩), (.exit 6, ⟨[(1, .c (.ptr 1 [])), (6, .c (.view 102 [])), (7, .v zI)], [(1, false, .str zTc), (102, true, .list true 3 zI)], none⟩)], L15_19⟩
noncomputable def B15_16 (n : Nat) (L : (Int × Unit) × zVc × Unit → Option (zTn ⊕ zUf)) (v_7 : Int) (o_1 : (List zTy) × zVb) (o_102 : List Int) : Option (zTn ⊕ zUf) :=
  cond (decide (v_7 < (o_1.2.2.length : Int))) (qa (L15_19 n ((v_7, 0, ()), (o_1, o_102, ()), ())) fun o25 => qaP o25 (fun d26 => some (.inl ((d26.1.1, ()), (), ()))) (fun d27 => L (((IntKind.wrap .i64 (d27.1.1 + 1)), ()), (d27.2.1.1, d27.2.1.2.1, ()), ()))) (some (.inr ((), (o_102, ()), ())))
noncomputable def L15_16 : Nat → (Int × Unit) × zVc × Unit → Option (zTn ⊕ zUf)
  | 0, _ => none
  | n + 1, d => B15_16 n (L15_16 n) d.1.1 d.2.1.1 d.2.1.2.1
noncomputable def l15_16 : jC := ⟨⟨[(1, .c (.ptr 1 [])), (6, .c (.view 102 [])), (7, .v zI)], [(1, false, .str zTc), (102, true, .list true 3 zI)], none⟩, [(.ret, ⟨[(2, .v zI)], [], none⟩), (.exit 4, ⟨[(6, .c (.view 102 []))], [(102, true, .list true 3 zI)], none⟩)], L15_16⟩
noncomputable def B15_25 (_n : Nat) (L : (Int × Unit) × zTx × Unit → Option (zTn ⊕ zTr)) (i_9 : Int) (o_102 : List Int) : Option (zTn ⊕ zTr) :=
  cond (decide (i_9 < (o_102.length : Int))) (jL i_9 o_102.length (qg o_102 i_9 fun e31 => cond (e31 != 1) (some (.inl ((80, ()), (), ()))) (L (((IntKind.wrap .i64 (i_9 + 1)), ()), (o_102, ()), ())))) (some (.inr ((), (), ())))
noncomputable def L15_25 : Nat → (Int × Unit) × zTx × Unit → Option (zTn ⊕ zTr)
  | 0, _ => none
  | n + 1, d => B15_25 n (L15_25 n) d.1.1 d.2.1.1
noncomputable def l15_25 : jC := ⟨⟨[(6, .c (.view 102 [])), (9, .v zI)], [(102, true, .list true 3 zI)], none⟩, [(.ret, ⟨[(2, .v zI)], [], none⟩), (.exit 8, ⟨[], [], none⟩)], L15_25⟩
noncomputable def F15 (n : Nat) (k_0 : zTh) : Option zTu :=
  cond (decide ((k_0.1.length : Int) > 16)) (some ((80, ()), ())) (cond (decide ((k_0.2.2.length : Int) > 6)) (some ((80, ()), ())) (qa (g41 (k_0.2.1, 1, 1000000, ())) fun y1 => cond (!y1.1.1) (some ((80, ()), ())) (qa (L15_4 n ((0, ()), (k_0, ()), ())) fun o14 => qaP o14 (fun d15 => some ((d15.1.1, ()), ())) (fun d16 => leK 0 (d16.2.1.1.1.length : Int) (leK (d16.2.1.1.1.length : Int) (d16.2.1.1.1.length : Int) (qX (d16.2.1.1.1.length : Int) (qa (L15_16 n ((0, ()), (d16.2.1.1, (List.replicate (d16.2.1.1.1.length : Int).toNat (0 : Int)), ()), ())) fun o28 => qaP o28 (fun d29 => some ((d29.1.1, ()), ())) (fun d30 => qa (L15_25 n ((0, ()), (d30.2.1.1, ()), ())) fun o32 => qaP o32 (fun d33 => some ((d33.1.1, ()), ())) (fun _ => some ((0, ()), ()))))))))))
noncomputable def g15 (d : zTh × Unit) : Option zTu := F15 fuel d.1
noncomputable def p15 : qH := ⟨[.v (.str zTc)], [.v zI], g15⟩
noncomputable def c15 : qW := ⟨158, tyT, [], [(41, p41)], [(10, l15_10), (4, l15_4), (19, l15_19), (16, l15_16), (25, l15_25)], [], [], [], [], [], [], [], [], [], none⟩
theorem F15_eq (n : Nat) (d) : qz c15 n Tryz.f15 (body Tryz.f15) p15.ps p15.rs d = F15 n d.1 := by kernel_rfl
theorem L15_4_eq (n : Nat) (d) : (l15_4).g (n + 1) d = run c15 n (j7 0 (qe (body Tryz.f15))) ((l15_4).ins.fill d) (qJ (l15_4) n) := by kernel_rfl
theorem L15_10_eq (n : Nat) (d) : (l15_10).g (n + 1) d = run c15 n (j7 1 (qe (body Tryz.f15))) ((l15_10).ins.fill d) (qJ (l15_10) n) := by kernel_rfl
theorem L15_16_eq (n : Nat) (d) : (l15_16).g (n + 1) d = run c15 n (j7 2 (qe (body Tryz.f15))) ((l15_16).ins.fill d) (qJ (l15_16) n) := by kernel_rfl
theorem L15_19_eq (n : Nat) (d) : (l15_19).g (n + 1) d = run c15 n (j7 3 (qe (body Tryz.f15))) ((l15_19).ins.fill d) (qJ (l15_19) n) := by kernel_rfl
theorem L15_25_eq (n : Nat) (d) : (l15_25).g (n + 1) d = run c15 n (j7 4 (qe (body Tryz.f15))) ((l15_25).ins.fill d) (qJ (l15_25) n) := by kernel_rfl
theorem ls15 : qe (body Tryz.f15) = [j7 0 (qe (body Tryz.f15)), j7 1 (qe (body Tryz.f15)), j7 2 (qe (body Tryz.f15)), j7 3 (qe (body Tryz.f15)), j7 4 (qe (body Tryz.f15))] := by kernel_rfl
theorem d15 : ql c15 (body Tryz.f15) = true := by kernel_rfl
theorem h15 : qx Tryz.prog 15 p15 := hQ (cfg := c15) (qn qq (qd h41 qh) rfl (by kernel_rfl)) Tryz.func15 (by kernel_rfl) (by rw [ls15]; simp only [List.forall_mem_cons]; exact ⟨qF (key := 4) (li := l15_4) (by kernel_rfl) rfl (fun _ => rfl) (L15_4_eq), qF (key := 10) (li := l15_10) (by kernel_rfl) rfl (fun _ => rfl) (L15_10_eq), qF (key := 16) (li := l15_16) (by kernel_rfl) rfl (fun _ => rfl) (L15_16_eq), qF (key := 19) (li := l15_19) (by kernel_rfl) rfl (fun _ => rfl) (L15_19_eq), qF (key := 25) (li := l15_25) (by kernel_rfl) rfl (fun _ => rfl) (L15_25_eq), fun _ h => by cases h⟩) d15 (F15_eq fuel)
noncomputable def F74 (_n : Nat) (n_0 : Int) (low_1 : Int) (high_2 : Int) : Option zTm :=
  cond (decide (n_0 ≥ low_1)) (some (((decide (n_0 ≤ high_2)), ()), ())) (some ((false, ()), ()))
noncomputable def g74 (d : Int × Int × Int × Unit) : Option zTm := F74 fuel d.1 d.2.1 d.2.2.1
noncomputable def p74 : qH := ⟨[.v zI, .v zI, .v zI], [.v .bool], g74⟩
noncomputable def c74 : qW := ⟨15, tyT, [], [], [], [], [], [], [], [], [], [], [], [], none⟩
theorem F74_eq (n : Nat) (d) : qz c74 n Tryz.f74 (body Tryz.f74) p74.ps p74.rs d = F74 n d.1 d.2.1 d.2.2.1 := by kernel_rfl
theorem d74 : ql c74 (body Tryz.f74) = true := by kernel_rfl
theorem h74 : qx Tryz.prog 74 p74 := hQ (cfg := c74) (qn qq (qh) rfl (by kernel_rfl)) Tryz.func74 (by kernel_rfl) (qr (by kernel_rfl)) d74 (F74_eq fuel)
noncomputable def F116 (_n : Nat) (s_0 : (List Int)) : Option (zTx × (Unit)) :=
  nilK s_0.length fun b1 => cond b1 (some ((([] : List Int), ()), ())) (qX ((([] : List Int).length : Int) + s_0.length) (some (((([] : List Int) ++ s_0), ()), ())))
def g116 (d : (List Int) × Unit) : Option (zTx × Unit) := qX (d.1.length : Int) (some ((d.1, ()), ()))
noncomputable def p116 : qH := ⟨[.v jE], [.own 3 zI], g116⟩
noncomputable def c116 : qW := ⟨8, tyT, [], [], [], [], [], [], [], [], [], [], [], [], none⟩
theorem F116_eq (n : Nat) (d) : qz c116 n Tryz.f116 (body Tryz.f116) p116.ps p116.rs d = F116 n d.1 := by kernel_rfl
theorem d116 : ql c116 (body Tryz.f116) = true := by kernel_rfl
theorem h116 : qx Tryz.prog 116 p116 := qlc mixed (cfg := c116) (qn qq (qh) rfl (by kernel_rfl)) Tryz.func116 rfl rfl (by kernel_rfl) rfl (qr (by kernel_rfl)) d116 (fun d y h => ⟨fuel, (F116_eq fuel d).trans (by
  change g116 d = some y at h
  unfold g116 at h
  rw [qdv] at h
  split at h
  · rename_i hl
    cases h
    unfold F116
    refine nilK_of (fun h0 => ?_) ?_
    · rw [List.eq_nil_of_length_eq_zero h0]; rfl
    · rw [cond_false, qdv, if_pos (by simpa using hl)]; rfl
  · cases h)⟩)
def rev_ren : Go.Shelf.Ren := ⟨fun | 112 => 117 | n => n, fun | 28 => 26 | n => n, fun n => n⟩
theorem rev_lays : Go.Proofs.Lays.n112 Tryz.prog rev_ren := { mixed := by kernel_rfl, f112 := by kernel_rfl, t0 := by kernel_rfl, a0 := fun w => by kernel_rfl, z0 := fun w => by kernel_rfl, v0 := fun w => by kernel_rfl, t3 := by kernel_rfl, a3 := fun w => by kernel_rfl, z3 := fun w => by kernel_rfl, v3 := fun w => by kernel_rfl, t4 := by kernel_rfl, a4 := fun w => by kernel_rfl, z4 := fun w => by kernel_rfl, v4 := fun w => by kernel_rfl, t28 := by kernel_rfl, a28 := fun w => by kernel_rfl, z28 := fun w => by kernel_rfl, v28 := fun w => by kernel_rfl }
def g117 (d : (List Int) × Unit) : Option (Unit × (List Int) × Unit) := some ((), (d.1.reverse, ()))
def p117 : qH := ⟨[.mr 3 zI], [], g117⟩
theorem h117 : qx Tryz.prog 117 p117 := qiI rev_lays (qat Tryz.func117 rfl (by kernel_rfl)) 3
noncomputable def B98_10 (_n : Nat) (L : (Int × Int × (List Int) × (List (List Int)) × Int × Int × (List Int) × Int × Int × Unit) × zVd × Unit → Option (zUd ⊕ (zUm × zVd × Unit))) (n_6 : Int) (many_8 : Int) (van_11 : List Int) (t_31 : List (List Int)) (t_32 : Int) (t_33 : Int) (t_37 : List Int) (t_38 : Int) (t_39 : Int) (o_23 : zTh × ((List (List Int)) × (List (List Int)))) (o_30 : List Int) : Option (zUd ⊕ (zUm × zVd × Unit)) :=
  cond (decide (t_39 < t_38)) (qg t_37 t_39 fun e3 => qa (g74 (e3, 0, (IntKind.wrap .i64 (n_6 - 1)), ())) fun y4 => cond (!y4.1.1) (some (.inl ((none, false, ()), (), ()))) (jL e3 o_30.length (qg o_30 e3 fun e5 => cond (decide (e5 > 0)) (some (.inl ((none, false, ()), (), ()))) (jL e3 o_30.length (qg o_30 e3 fun _ => leK 0 (IntKind.wrap .i64 (t_39 + 1)) (leK (IntKind.wrap .i64 (t_39 + 1)) (van_11.length : Int) (jL e3 o_23.2.1.length (qg o_23.2.1 e3 fun _ => qbu (o_23.1, ((o_23.2.1.set e3.toNat (van_11.drop (IntKind.wrap .i64 (t_39 + 1)).toNat)), o_23.2.2)) fun z8 => qgc (fun (y9 : zTx × (Unit)) => jL e3 (((z8.1, (z8.2.1, (z8.2.2.set e3.toNat y9.1.1))).2).2).length (qg (((z8.1, (z8.2.1, (z8.2.2.set e3.toNat y9.1.1))).2).2) e3 fun e11 => qa (g117 (e11, ())) fun y12 => qg (((z8.1, (z8.2.1, (z8.2.2.set e3.toNat y9.1.1))).2).2) e3 fun _ => qbu ((z8.1, (z8.2.1, (z8.2.2.set e3.toNat y9.1.1))).1, (((z8.1, (z8.2.1, (z8.2.2.set e3.toNat y9.1.1))).2).1, ((((z8.1, (z8.2.1, (z8.2.2.set e3.toNat y9.1.1))).2).2).set e3.toNat y12.2.1))) fun z14 => L ((n_6, (IntKind.wrap .i64 (many_8 + 1)), van_11, t_31, t_32, t_33, t_37, t_38, (IntKind.wrap .i64 (t_39 + 1)), ()), (z14, (o_30.set e3.toNat 1), ()), ()))) fun E => leK 0 t_39 (leK t_39 (van_11.length : Int) (qP [qP [qP [qa (g116 ((van_11.take t_39.toNat), ())) fun y9 => jL e3 z8.2.2.length (qg z8.2.2 e3 fun _ => E y9), qa (g116 ((van_11.take t_39.toNat), ())) fun y15 => jL e3 z8.2.2.length (qg z8.2.2 e3 fun _ => E y15)], qa (g116 ((van_11.take t_39.toNat), ())) fun y17 => jL e3 z8.2.2.length (qg z8.2.2 e3 fun _ => E y17)], qa (g116 ((van_11.take t_39.toNat), ())) fun y19 => jL e3 z8.2.2.length (qg z8.2.2 e3 fun _ => E y19)])))))))))) (some (.inr ((n_6, many_8, t_31, t_32, t_33, ()), (o_23, o_30, ()), ())))
noncomputable def L98_10 : Nat → (Int × Int × (List Int) × (List (List Int)) × Int × Int × (List Int) × Int × Int × Unit) × zVd × Unit → Option (zUd ⊕ (zUm × zVd × Unit))
  | 0, _ => none
  | n + 1, d => B98_10 n (L98_10 n) d.1.1 d.1.2.1 d.1.2.2.1 d.1.2.2.2.1 d.1.2.2.2.2.1 d.1.2.2.2.2.2.1 d.1.2.2.2.2.2.2.1 d.1.2.2.2.2.2.2.2.1 d.1.2.2.2.2.2.2.2.2.1 d.2.1.1 d.2.1.2.1
noncomputable def l98_10 : jC := ⟨⟨[(6, .v zI), (7, .c (.ptr 23 [])), (8, .v zI), (9, .c (.view 30 [])), (11, .v jE), (31, .v (.list false 26 jE)), (32, .v zI), (33, .v zI), (37, .v jE), (38, .v zI), (39, .v zI)], [(23, false, .str (.pair (.str zTc) (.pair (.list true 26 jE) (.list true 26 zTv)))), (30, true, .list true 3 zI)], none⟩, [(.ret, ⟨[(4, .v (.ptr (.str (.pair (.str zTc) (.pair (.list false 26 jE) (.list false 26 jE)))))), (5, .v .bool)], [], none⟩), (.exit 2, ⟨[(6, .v zI), (7, .c (.ptr 23 [])), (8, .v zI), (9, .c (.view 30 [])), (31, .v (.list false 26 jE)), (32, .v zI), (33, .v zI)], [(23, false, .str (.pair (.str zTc) (.pair (.list true 26 jE) (.list true 26 zTv)))), (30, true, .list true 3 zI)], none⟩)], L98_10⟩
noncomputable def B98_7 (n : Nat) (L : zUm × zVd × Unit → Option (zUd ⊕ ((Int × Int × Unit) × (zTp × Unit) × Unit))) (n_6 : Int) (many_8 : Int) (t_31 : List (List Int)) (t_32 : Int) (t_33 : Int) (o_23 : zTh × ((List (List Int)) × (List (List Int)))) (o_30 : List Int) : Option (zUd ⊕ ((Int × Int × Unit) × (zTp × Unit) × Unit)) :=
  cond (decide (t_33 < t_32)) (qg t_31 t_33 fun e2 => qa (L98_10 n ((n_6, many_8, e2, t_31, t_32, t_33, e2, (e2.length : Int), 0, ()), (o_23, o_30, ()), ())) fun o21 => qaP o21 (fun d22 => some (.inl ((d22.1.1, d22.1.2.1, ()), (), ()))) (fun d23 => L ((d23.1.1, d23.1.2.1, d23.1.2.2.1, d23.1.2.2.2.1, (IntKind.wrap .i64 (d23.1.2.2.2.2.1 + 1)), ()), (d23.2.1.1, d23.2.1.2.1, ()), ()))) (some (.inr ((n_6, many_8, ()), (o_23, ()), ())))
noncomputable def L98_7 : Nat → zUm × zVd × Unit → Option (zUd ⊕ ((Int × Int × Unit) × (zTp × Unit) × Unit))
  | 0, _ => none
  | n + 1, d => B98_7 n (L98_7 n) d.1.1 d.1.2.1 d.1.2.2.1 d.1.2.2.2.1 d.1.2.2.2.2.1 d.2.1.1 d.2.1.2.1
noncomputable def l98_7 : jC := ⟨⟨[(6, .v zI), (7, .c (.ptr 23 [])), (8, .v zI), (9, .c (.view 30 [])), (31, .v (.list false 26 jE)), (32, .v zI), (33, .v zI)], [(23, false, .str (.pair (.str zTc) (.pair (.list true 26 jE) (.list true 26 zTv)))), (30, true, .list true 3 zI)], none⟩, [(.ret, ⟨[(4, .v (.ptr (.str (.pair (.str zTc) (.pair (.list false 26 jE) (.list false 26 jE)))))), (5, .v .bool)], [], none⟩), (.exit 0, ⟨[(6, .v zI), (7, .c (.ptr 23 [])), (8, .v zI)], [(23, false, .str (.pair (.str zTc) (.pair (.list true 26 jE) (.list true 26 zTv))))], none⟩)], L98_7⟩
noncomputable def F98 (n : Nat) (k_0 : zTh) (vans_1 : (List (List Int))) : Option zVi :=
  qgc (qbu ((((k_0, (List.replicate (k_0.1.length : Int).toNat ([] : List Int)), (List.replicate (k_0.1.length : Int).toNat ([] : List Int))).1).1, ((((k_0, (List.replicate (k_0.1.length : Int).toNat ([] : List Int)), (List.replicate (k_0.1.length : Int).toNat ([] : List Int))).1).2).1, vans_1)), (k_0, (List.replicate (k_0.1.length : Int).toNat ([] : List Int)), (List.replicate (k_0.1.length : Int).toNat ([] : List Int))).2) fun z1 => leK 0 (k_0.1.length : Int) (leK (k_0.1.length : Int) (k_0.1.length : Int) (qX (k_0.1.length : Int) (qa (L98_7 n (((k_0.1.length : Int), 0, vans_1, (vans_1.length : Int), 0, ()), (z1, (List.replicate (k_0.1.length : Int).toNat (0 : Int)), ()), ())) fun o24 => qaP o24 (fun d25 => some ((d25.1.1, d25.1.2.1, ()), ())) (fun d26 => some (((some d26.2.1.1), (d26.1.2.1 == d26.1.1), ()), ())))))) fun E => qP [qP [leK 0 (k_0.1.length : Int) (leK (k_0.1.length : Int) (k_0.1.length : Int) (qX (k_0.1.length : Int) (leK 0 (k_0.1.length : Int) (leK (k_0.1.length : Int) (k_0.1.length : Int) (qX (k_0.1.length : Int) (E)))))), leK 0 (k_0.1.length : Int) (leK (k_0.1.length : Int) (k_0.1.length : Int) (qX (k_0.1.length : Int) (leK 0 (k_0.1.length : Int) (leK (k_0.1.length : Int) (k_0.1.length : Int) (qX (k_0.1.length : Int) (E))))))], leK 0 (k_0.1.length : Int) (leK (k_0.1.length : Int) (k_0.1.length : Int) (qX (k_0.1.length : Int) (qP [leK 0 (k_0.1.length : Int) (leK (k_0.1.length : Int) (k_0.1.length : Int) (qX (k_0.1.length : Int) (E))), leK 0 (k_0.1.length : Int) (leK (k_0.1.length : Int) (k_0.1.length : Int) (qX (k_0.1.length : Int) (E)))]))), leK 0 (k_0.1.length : Int) (leK (k_0.1.length : Int) (k_0.1.length : Int) (qX (k_0.1.length : Int) (qP [leK 0 (k_0.1.length : Int) (leK (k_0.1.length : Int) (k_0.1.length : Int) (qX (k_0.1.length : Int) (E))), leK 0 (k_0.1.length : Int) (leK (k_0.1.length : Int) (k_0.1.length : Int) (qX (k_0.1.length : Int) (E)))])))]
noncomputable def g98 (d : zTh × (List (List Int)) × Unit) : Option zVi := F98 fuel d.1 d.2.1
noncomputable def p98 : qH := ⟨[.v (.str zTc), .v (.list false 26 jE)], [.v (.ptr (.str (.pair (.str zTc) (.pair (.list false 26 jE) (.list false 26 jE))))), .v .bool], g98⟩
noncomputable def c98 : qW := ⟨95, tyT, [(21, .list true 26 zTv), (22, .str (.pair (.str zTc) (.pair (.list true 26 jE) (.list true 26 zTv))))], [(74, p74), (116, p116), (117, p117)], [(10, l98_10), (7, l98_7)], [], [2, 17], [], [], [], [], [], [], [], none⟩
theorem F98_eq (n : Nat) (d) : qz c98 n Tryz.f98 (body Tryz.f98) p98.ps p98.rs d = F98 n d.1 d.2.1 := by kernel_rfl
theorem L98_7_eq (n : Nat) (d) : (l98_7).g (n + 1) d = run c98 n (j7 0 (qe (body Tryz.f98))) ((l98_7).ins.fill d) (qJ (l98_7) n) := by kernel_rfl
theorem L98_10_eq (n : Nat) (d) : (l98_10).g (n + 1) d = run c98 n (j7 1 (qe (body Tryz.f98))) ((l98_10).ins.fill d) (qJ (l98_10) n) := by kernel_rfl
theorem ls98 : qe (body Tryz.f98) = [j7 0 (qe (body Tryz.f98)), j7 1 (qe (body Tryz.f98))] := by kernel_rfl
theorem d98 : ql c98 (body Tryz.f98) = true := by kernel_rfl
theorem h98 : qx Tryz.prog 98 p98 := hQ (cfg := c98) (qn qq (qd h74 (qd h116 (qd h117 qh))) rfl (by kernel_rfl)) Tryz.func98 (by kernel_rfl) (by rw [ls98]; simp only [List.forall_mem_cons]; exact ⟨qF (key := 7) (li := l98_7) (by kernel_rfl) rfl (fun _ => rfl) (L98_7_eq), qF (key := 10) (li := l98_10) (by kernel_rfl) rfl (fun _ => rfl) (L98_10_eq), fun _ h => by cases h⟩) d98 (F98_eq fuel)
end Go.Proofs.Tryz.V
