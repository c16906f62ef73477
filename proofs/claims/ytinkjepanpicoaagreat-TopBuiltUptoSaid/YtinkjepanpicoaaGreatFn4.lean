/- The contracts of functions of the program, printed by program from the interpreter: each says what a call returns. No condition beyond those typed in each theorem. -/
import Derived.Test.YtinkjepanpicoaaGreatFn3
namespace Go.Proofs.Tryz.V
open Go.Vi
set_option maxRecDepth 100000
noncomputable def B72_11 (_n : Nat) (L : (Int × Int × Int × (List zTy) × Int × Int × (List Int) × Int × Int × Unit) × (zTh × Unit) × Unit → Option (zUd ⊕ (zUx × (zTh × Unit) × Unit))) (n_4 : Int) (i_5 : Int) (last_7 : Int) (t_28 : List zTy) (t_29 : Int) (t_30 : Int) (t_52 : List Int) (t_53 : Int) (t_54 : Int) (o_1 : (List zTy) × zVb) : Option (zUd ⊕ (zUx × (zTh × Unit) × Unit)) :=
  cond (decide (t_54 < t_53)) (qg t_52 t_54 fun e6 => cond (decide (e6 ≤ last_7)) (some (.inl ((none, false, ()), (), ()))) (cond (decide (e6 ≥ n_4)) (some (.inl ((none, false, ()), (), ()))) (cond (e6 == i_5) (some (.inl ((none, false, ()), (), ()))) (L ((n_4, i_5, e6, t_28, t_29, t_30, t_52, t_53, (IntKind.wrap .i64 (t_54 + 1)), ()), (o_1, ()), ()))))) (some (.inr ((n_4, t_28, t_29, t_30, ()), (o_1, ()), ())))
noncomputable def L72_11 : Nat → (Int × Int × Int × (List zTy) × Int × Int × (List Int) × Int × Int × Unit) × (zTh × Unit) × Unit → Option (zUd ⊕ (zUx × (zTh × Unit) × Unit))
  | 0, _ => none
  | n + 1, d => B72_11 n (L72_11 n) d.1.1 d.1.2.1 d.1.2.2.1 d.1.2.2.2.1 d.1.2.2.2.2.1 d.1.2.2.2.2.2.1 d.1.2.2.2.2.2.2.1 d.1.2.2.2.2.2.2.2.1 d.1.2.2.2.2.2.2.2.2.1 d.2.1.1
noncomputable def l72_11 : jC := ⟨⟨[(1, .c (.ptr 1 [])), (4, .v zI), (5, .v zI), (7, .v zI), (28, .v (.list false 100 (.str (.pair zI (.pair zI (.pair zI jE)))))), (29, .v zI), (30, .v zI), (52, .v jE), (53, .v zI), (54, .v zI)], [(1, false, .str zTc)], none⟩, [(.ret, ⟨[(2, .v (.ptr (.str (.pair (.str zTc) (.pair (.list false 26 jE) (.list false 26 jE)))))), (3, .v .bool)], [], none⟩), (.exit 2, ⟨[(1, .c (.ptr 1 [])), (4, .v zI), (28, .v (.list false 100 (.str (.pair zI (.pair zI (.pair zI jE)))))), (29, .v zI), (30, .v zI)], [(1, false, .str zTc)], none⟩)], L72_11⟩
noncomputable def B72_5 (n : Nat) (L : zUx × (zTh × Unit) × Unit → Option (zUd ⊕ zVa)) (n_4 : Int) (t_28 : List zTy) (t_29 : Int) (t_30 : Int) (o_1 : (List zTy) × zVb) : Option (zUd ⊕ zVa) :=
  cond (decide (t_30 < t_29)) (qg t_28 t_30 fun e2 => qa (g74 (e2.1, 1, 1000000, ())) fun y3 => cond (!y3.1.1) (some (.inl ((none, false, ()), (), ()))) (qa (g74 (e2.2.1, 1, 100, ())) fun y4 => cond (!y4.1.1) (some (.inl ((none, false, ()), (), ()))) (qa (g74 (e2.2.2.1, 0, 9, ())) fun y5 => cond (!y5.1.1) (some (.inl ((none, false, ()), (), ()))) (qa (L72_11 n ((n_4, t_30, (-1), t_28, t_29, t_30, e2.2.2.2, (e2.2.2.2.length : Int), 0, ()), (o_1, ()), ())) fun o7 => qaP o7 (fun d8 => some (.inl ((d8.1.1, d8.1.2.1, ()), (), ()))) (fun d9 => L ((d9.1.1, d9.1.2.1, d9.1.2.2.1, (IntKind.wrap .i64 (d9.1.2.2.2.1 + 1)), ()), (d9.2.1.1, ()), ())))))) (some (.inr ((), (o_1, ()), ())))
noncomputable def L72_5 : Nat → zUx × (zTh × Unit) × Unit → Option (zUd ⊕ zVa)
  | 0, _ => none
  | n + 1, d => B72_5 n (L72_5 n) d.1.1 d.1.2.1 d.1.2.2.1 d.1.2.2.2.1 d.2.1.1
noncomputable def l72_5 : jC := ⟨⟨[(1, .c (.ptr 1 [])), (4, .v zI), (28, .v (.list false 100 (.str (.pair zI (.pair zI (.pair zI jE)))))), (29, .v zI), (30, .v zI)], [(1, false, .str zTc)], none⟩, [(.ret, ⟨[(2, .v (.ptr (.str (.pair (.str zTc) (.pair (.list false 26 jE) (.list false 26 jE)))))), (3, .v .bool)], [], none⟩), (.exit 0, ⟨[(1, .c (.ptr 1 []))], [(1, false, .str zTc)], none⟩)], L72_5⟩
noncomputable def F72 (n : Nat) (k_0 : zTh) : Option zVi :=
  cond (decide ((k_0.1.length : Int) > 16)) (some ((none, false, ()), ())) (cond (decide ((k_0.2.2.length : Int) > 6)) (some ((none, false, ()), ())) (qa (g74 (k_0.2.1, 1, 1000000, ())) fun y1 => cond (!y1.1.1) (some ((none, false, ()), ())) (qa (L72_5 n (((k_0.1.length : Int), k_0.1, (k_0.1.length : Int), 0, ()), (k_0, ()), ())) fun o10 => qaP o10 (fun d11 => some ((d11.1.1, d11.1.2.1, ()), ())) (fun d12 => qa (g98 (d12.2.1.1, d12.2.1.1.2.2, ())) fun y13 => some ((y13.1.1, y13.1.2.1, ()), ())))))
noncomputable def g72 (d : zTh × Unit) : Option zVi := F72 fuel d.1
noncomputable def p72 : qH := ⟨[.v (.str zTc)], [.v (.ptr (.str (.pair (.str zTc) (.pair (.list false 26 jE) (.list false 26 jE))))), .v .bool], g72⟩
noncomputable def c72 : qW := ⟨80, tyT, [], [(74, p74), (98, p98)], [(11, l72_11), (5, l72_5)], [], [], [], [], [], [], [], [], [], none⟩
theorem F72_eq (n : Nat) (d) : qz c72 n Tryz.f72 (body Tryz.f72) p72.ps p72.rs d = F72 n d.1 := by kernel_rfl
theorem L72_5_eq (n : Nat) (d) : (l72_5).g (n + 1) d = run c72 n (j7 0 (qe (body Tryz.f72))) ((l72_5).ins.fill d) (qJ (l72_5) n) := by kernel_rfl
theorem L72_11_eq (n : Nat) (d) : (l72_11).g (n + 1) d = run c72 n (j7 1 (qe (body Tryz.f72))) ((l72_11).ins.fill d) (qJ (l72_11) n) := by kernel_rfl
theorem ls72 : qe (body Tryz.f72) = [j7 0 (qe (body Tryz.f72)), j7 1 (qe (body Tryz.f72))] := by kernel_rfl
theorem d72 : ql c72 (body Tryz.f72) = true := by kernel_rfl
theorem h72 : qx Tryz.prog 72 p72 := hQ (cfg := c72) (qn qq (qd h74 (qd h98 qh)) rfl (by kernel_rfl)) Tryz.func72 (by kernel_rfl) (by rw [ls72]; simp only [List.forall_mem_cons]; exact ⟨qF (key := 5) (li := l72_5) (by kernel_rfl) rfl (fun _ => rfl) (L72_5_eq), qF (key := 11) (li := l72_11) (by kernel_rfl) rfl (fun _ => rfl) (L72_11_eq), fun _ h => by cases h⟩) d72 (F72_eq fuel)
noncomputable def F73 (_n : Nat) (p_0 : Int) (t_1 : (List Int)) : Option zTm :=
  qg t_1 p_0 fun e1 => some (((decide (e1 > 0)), ()), ())
noncomputable def g73 (d : Int × (List Int) × Unit) : Option zTm := F73 fuel d.1 d.2.1
noncomputable def p73 : qH := ⟨[.v zI, .r jE], [.v .bool], g73⟩
noncomputable def c73 : qW := ⟨9, tyT, [], [], [], [], [], [], [], [], [], [], [], [], none⟩
theorem F73_eq (n : Nat) (d) : qz c73 n Tryz.f73 (body Tryz.f73) p73.ps p73.rs d = F73 n d.1 d.2.1 := by kernel_rfl
theorem d73 : ql c73 (body Tryz.f73) = true := by kernel_rfl
theorem h73 : qx Tryz.prog 73 p73 := hQ (cfg := c73) (qn qq (qh) rfl (by kernel_rfl)) Tryz.func73 (by kernel_rfl) (qr (by kernel_rfl)) d73 (F73_eq fuel)
noncomputable def F118 (_n : Nat) (p_0 : Int) (t_1 : (List Bool)) : Option zTm :=
  qg t_1 p_0 fun e1 => some (((!e1), ()), ())
noncomputable def g118 (d : Int × (List Bool) × Unit) : Option zTm := F118 fuel d.1 d.2.1
noncomputable def p118 : qH := ⟨[.v zI, .r zUk], [.v .bool], g118⟩
noncomputable def c118 : qW := ⟨9, tyT, [], [], [], [], [], [], [], [], [], [], [], [], none⟩
theorem F118_eq (n : Nat) (d) : qz c118 n Tryz.f118 (body Tryz.f118) p118.ps p118.rs d = F118 n d.1 d.2.1 := by kernel_rfl
theorem d118 : ql c118 (body Tryz.f118) = true := by kernel_rfl
theorem h118 : qx Tryz.prog 118 p118 := hQ (cfg := c118) (qn qq (qh) rfl (by kernel_rfl)) Tryz.func118 (by kernel_rfl) (qr (by kernel_rfl)) d118 (F118_eq fuel)
noncomputable def F99 (_n : Nat) (s_0 : (List Bool)) (l_1 : (List Int)) : Option zTm :=
  qa (g26 (l_1, (fun v1 => qa (g118 (v1, s_0, ())) fun y2 => some y2.1.1), ())) fun y3 => some (((!y3.1.1), ()), ())
noncomputable def g99 (d : (List Bool) × (List Int) × Unit) : Option zTm := F99 fuel d.1 d.2.1
noncomputable def p99 : qH := ⟨[.v zUk, .v jE], [.v .bool], g99⟩
noncomputable def c99 : qW := ⟨9, tyT, [], [(26, p26), (118, p118)], [], [], [], [], [], [], [], [], [], [], none⟩
theorem F99_eq (n : Nat) (d) : qz c99 n Tryz.f99 (body Tryz.f99) p99.ps p99.rs d = F99 n d.1 d.2.1 := by kernel_rfl
theorem d99 : ql c99 (body Tryz.f99) = true := by kernel_rfl
theorem h99 : qx Tryz.prog 99 p99 := hQ (cfg := c99) (qn qq (qd h26 (qd h118 qh)) rfl (by kernel_rfl)) Tryz.func99 (by kernel_rfl) (qr (by kernel_rfl)) d99 (F99_eq fuel)
noncomputable def F75 (_n : Nat) (y_0 : zTp) (s_1 : (List Bool)) (p_2 : Int) : Option zTm :=
  qg s_1 p_2 fun e1 => cond (!e1) (qg y_0.1.1 p_2 fun e2 => qa (g99 (s_1, e2.2.2.2, ())) fun y3 => cond y3.1.1 (qg y_0.1.1 p_2 fun e4 => cond (decide (e4.1 ≤ y_0.1.2.1)) (qg y_0.2.1 p_2 fun e5 => qa (g99 (s_1, e5, ())) fun y6 => some ((y6.1.1, ()), ())) (some ((false, ()), ()))) (some ((false, ()), ()))) (some ((false, ()), ()))
noncomputable def g75 (d : zTp × (List Bool) × Int × Unit) : Option zTm := F75 fuel d.1 d.2.1 d.2.2.1
noncomputable def p75 : qH := ⟨[.r (.str (.pair (.str zTc) (.pair (.list false 26 jE) (.list false 26 jE)))), .v zUk, .v zI], [.v .bool], g75⟩
noncomputable def c75 : qW := ⟨53, tyT, [], [(99, p99)], [], [], [], [], [], [], [], [], [], [], none⟩
theorem F75_eq (n : Nat) (d) : qz c75 n Tryz.f75 (body Tryz.f75) p75.ps p75.rs d = F75 n d.1 d.2.1 d.2.2.1 := by kernel_rfl
theorem d75 : ql c75 (body Tryz.f75) = true := by kernel_rfl
theorem h75 : qx Tryz.prog 75 p75 := hQ (cfg := c75) (qn qq (qd h99 qh) rfl (by kernel_rfl)) Tryz.func75 (by kernel_rfl) (qr (by kernel_rfl)) d75 (F75_eq fuel)
noncomputable def B42_8 (_n : Nat) (L : ((List (Int × Int)) × (Option zTp) × (List zTy) × Int × Int × Unit) × zUh × Unit → Option zVg) (l_1 : List (Int × Int)) (y_8 : Option zTp) (t_31 : List zTy) (t_32 : Int) (t_33 : Int) (o_5 : List Int) (o_29 : List Bool) : Option zVg :=
  cond (decide (t_33 < t_32)) (qg t_31 t_33 fun e2 => qX ((o_5.length : Int) + [e2.2.2.1].length) (L ((l_1, y_8, t_31, t_32, (IntKind.wrap .i64 (t_33 + 1)), ()), ((o_5 ++ [e2.2.2.1]), o_29, ()), ()))) (some ((l_1, y_8, ()), (o_5, o_29, ()), ()))
noncomputable def L42_8 : Nat → ((List (Int × Int)) × (Option zTp) × (List zTy) × Int × Int × Unit) × zUh × Unit → Option zVg
  | 0, _ => none
  | n + 1, d => B42_8 n (L42_8 n) d.1.1 d.1.2.1 d.1.2.2.1 d.1.2.2.2.1 d.1.2.2.2.2.1 d.2.1.1 d.2.1.2.1
noncomputable def l42_8 : jC := ⟨⟨[(1, .v (.list false 135 (.str j6))), (4, .c (.view 29 [])), (5, .c (.ptr 5 [])), (8, .v (.ptr (.str (.pair (.str zTc) (.pair (.list false 26 jE) (.list false 26 jE)))))), (31, .v (.list false 100 (.str (.pair zI (.pair zI (.pair zI jE)))))), (32, .v zI), (33, .v zI)], [(5, false, .list true 3 zI), (29, true, .list true 4 .bool)], none⟩, [(.exit 0, ⟨[(1, .v (.list false 135 (.str j6))), (4, .c (.view 29 [])), (5, .c (.ptr 5 [])), (8, .v (.ptr (.str (.pair (.str zTc) (.pair (.list false 26 jE) (.list false 26 jE))))))], [(5, false, .list true 3 zI), (29, true, .list true 4 .bool)], none⟩)], L42_8⟩
noncomputable def B42_14 (_n : Nat) (L : ((Option zTp) × (List (Int × Int)) × Int × Int × Unit) × zUh × Unit → Option (zVf ⊕ ((Unit) × zUh × Unit))) (y_8 : Option zTp) (t_44 : List (Int × Int)) (t_45 : Int) (t_46 : Int) (o_5 : List Int) (o_29 : List Bool) : Option (zVf ⊕ ((Unit) × zUh × Unit)) :=
  cond (decide (t_46 < t_45)) (qg t_44 t_46 fun e4 => qa (g74 (e4.2, 0, (IntKind.wrap .i64 ((o_29.length : Int) - 1)), ())) fun y5 => cond y5.1.1 (cond (e4.1 == 1) (qa y_8 fun q6 => qa (g75 (q6, o_29, e4.2, ())) fun y7 => cond y7.1.1 (qa y_8 fun q8 => qg q8.1.1 e4.2 fun e9 => qa (g26 (e9.2.2.2, (fun v10 => qa (g73 (v10, o_5, ())) fun y11 => some y11.1.1), ())) fun y12 => cond (!y12.1.1) (jL e4.2 o_29.length (qg o_29 e4.2 fun _ => L ((y_8, t_44, t_45, (IntKind.wrap .i64 (t_46 + 1)), ()), (o_5, (o_29.set e4.2.toNat true), ()), ()))) (cond y5.1.1 (cond (e4.1 == 2) (jL e4.2 o_29.length (qg o_29 e4.2 fun e14 => cond e14 (qa (g73 (e4.2, o_5, ())) fun y15 => cond y15.1.1 (jL e4.2 o_5.length (qg o_5 e4.2 fun e16 => jL e4.2 o_5.length (qg o_5 e4.2 fun _ => L ((y_8, t_44, t_45, (IntKind.wrap .i64 (t_46 + 1)), ()), ((o_5.set e4.2.toNat (IntKind.wrap .i64 (e16 - 1))), o_29, ()), ())))) (some (.inl ((t_46, 81, ()), (([] : List Bool), [], ()), ())))) (some (.inl ((t_46, 81, ()), (([] : List Bool), [], ()), ()))))) (some (.inl ((t_46, 81, ()), (([] : List Bool), [], ()), ())))) (some (.inl ((t_46, 81, ()), (([] : List Bool), [], ()), ()))))) (cond y5.1.1 (cond (e4.1 == 2) (jL e4.2 o_29.length (qg o_29 e4.2 fun e18 => cond e18 (qa (g73 (e4.2, o_5, ())) fun y19 => cond y19.1.1 (jL e4.2 o_5.length (qg o_5 e4.2 fun e20 => jL e4.2 o_5.length (qg o_5 e4.2 fun _ => L ((y_8, t_44, t_45, (IntKind.wrap .i64 (t_46 + 1)), ()), ((o_5.set e4.2.toNat (IntKind.wrap .i64 (e20 - 1))), o_29, ()), ())))) (some (.inl ((t_46, 81, ()), (([] : List Bool), [], ()), ())))) (some (.inl ((t_46, 81, ()), (([] : List Bool), [], ()), ()))))) (some (.inl ((t_46, 81, ()), (([] : List Bool), [], ()), ())))) (some (.inl ((t_46, 81, ()), (([] : List Bool), [], ()), ()))))) (cond y5.1.1 (cond (e4.1 == 2) (jL e4.2 o_29.length (qg o_29 e4.2 fun e22 => cond e22 (qa (g73 (e4.2, o_5, ())) fun y23 => cond y23.1.1 (jL e4.2 o_5.length (qg o_5 e4.2 fun e24 => jL e4.2 o_5.length (qg o_5 e4.2 fun _ => L ((y_8, t_44, t_45, (IntKind.wrap .i64 (t_46 + 1)), ()), ((o_5.set e4.2.toNat (IntKind.wrap .i64 (e24 - 1))), o_29, ()), ())))) (some (.inl ((t_46, 81, ()), (([] : List Bool), [], ()), ())))) (some (.inl ((t_46, 81, ()), (([] : List Bool), [], ()), ()))))) (some (.inl ((t_46, 81, ()), (([] : List Bool), [], ()), ())))) (some (.inl ((t_46, 81, ()), (([] : List Bool), [], ()), ()))))) (cond y5.1.1 (cond (e4.1 == 2) (jL e4.2 o_29.length (qg o_29 e4.2 fun e26 => cond e26 (qa (g73 (e4.2, o_5, ())) fun y27 => cond y27.1.1 (jL e4.2 o_5.length (qg o_5 e4.2 fun e28 => jL e4.2 o_5.length (qg o_5 e4.2 fun _ => L ((y_8, t_44, t_45, (IntKind.wrap .i64 (t_46 + 1)), ()), ((o_5.set e4.2.toNat (IntKind.wrap .i64 (e28 - 1))), o_29, ()), ())))) (some (.inl ((t_46, 81, ()), (([] : List Bool), [], ()), ())))) (some (.inl ((t_46, 81, ()), (([] : List Bool), [], ()), ()))))) (some (.inl ((t_46, 81, ()), (([] : List Bool), [], ()), ())))) (some (.inl ((t_46, 81, ()), (([] : List Bool), [], ()), ()))))) (some (.inr ((), (o_5, o_29, ()), ())))
noncomputable def L42_14 : Nat → ((Option zTp) × (List (Int × Int)) × Int × Int × Unit) × zUh × Unit → Option (zVf ⊕ ((Unit) × zUh × Unit))
  | 0, _ => none
  | n + 1, d => B42_14 n (L42_14 n) d.1.1 d.1.2.1 d.1.2.2.1 d.1.2.2.2.1 d.2.1.1 d.2.1.2.1
noncomputable def l42_14 : jC := ⟨⟨[(4, .c (.view 29 [])), (5, .c (.ptr 5 [])), (8, .v (.ptr (.str (.pair (.str zTc) (.pair (.list false 26 jE) (.list false 26 jE)))))), (12, .c (.fn 73 .nil (.cons (.ptr 5 []) .nil))), (44, .v (.list false 135 (.str j6))), (45, .v zI), (46, .v zI)], [(5, false, .list true 3 zI), (29, true, .list true 4 .bool)], none⟩, [(.ret, ⟨[(4, .c (.view 4 [])), (5, .c (.ptr 5 [])), (6, .v zI), (7, .v zI)], [(4, true, .list true 4 .bool), (5, false, .list true 3 zI)], none⟩), (.exit 2, ⟨[(4, .c (.view 29 [])), (5, .c (.ptr 5 []))], [(5, false, .list true 3 zI), (29, true, .list true 4 .bool)], none⟩)], L42_14⟩
noncomputable def F42 (n : Nat) (k_0 : zTh) (l_1 : (List (Int × Int))) : Option (((List Bool) × (List Int) × Int × Int × Unit) × (Unit)) :=
  qa (g72 (k_0, ())) fun y1 => cond (!y1.1.2.1) (some ((([] : List Bool), [], 0, 80, ()), ())) (cond (decide ((l_1.length : Int) > 300)) (some ((([] : List Bool), [], 0, 2, ()), ())) (leK 0 (k_0.1.length : Int) (leK (k_0.1.length : Int) (k_0.1.length : Int) (qX (k_0.1.length : Int) (qa (L42_8 n ((l_1, y1.1.1, k_0.1, (k_0.1.length : Int), 0, ()), (([] : List Int), (List.replicate (k_0.1.length : Int).toNat false), ()), ())) fun o3 => qa (L42_14 n ((o3.1.2.1, o3.1.1, (o3.1.1.length : Int), 0, ()), (o3.2.1.1, o3.2.1.2.1, ()), ())) fun o30 => qaP o30 (fun d31 => some ((d31.2.1.1, d31.2.1.2.1, d31.1.1, d31.1.2.1, ()), ())) (fun d32 => some ((d32.2.1.2.1, d32.2.1.1, 0, 0, ()), ())))))))
noncomputable def g42 (d : zTh × (List (Int × Int)) × Unit) : Option (((List Bool) × (List Int) × Int × Int × Unit) × (Unit)) := F42 fuel d.1 d.2.1
noncomputable def p42 : qH := ⟨[.v (.str zTc), .v (.list false 135 (.str j6))], [.own 4 .bool, .v jE, .v zI, .v zI], g42⟩
noncomputable def c42 : qW := ⟨121, tyT, [(5, .list true 3 zI)], [(26, p26), (72, p72), (73, p73), (74, p74), (75, p75)], [(8, l42_8), (14, l42_14)], [], [], [], [], [], [], [], [], [], none⟩
theorem F42_eq (n : Nat) (d) : qz c42 n Tryz.f42 (body Tryz.f42) p42.ps p42.rs d = F42 n d.1 d.2.1 := by kernel_rfl
theorem L42_8_eq (n : Nat) (d) : (l42_8).g (n + 1) d = run c42 n (j7 0 (qe (body Tryz.f42))) ((l42_8).ins.fill d) (qJ (l42_8) n) := by kernel_rfl
theorem L42_14_eq (n : Nat) (d) : (l42_14).g (n + 1) d = run c42 n (j7 1 (qe (body Tryz.f42))) ((l42_14).ins.fill d) (qJ (l42_14) n) := by kernel_rfl
theorem ls42 : qe (body Tryz.f42) = [j7 0 (qe (body Tryz.f42)), j7 1 (qe (body Tryz.f42))] := by kernel_rfl
theorem d42 : ql c42 (body Tryz.f42) = true := by kernel_rfl
theorem h42 : qx Tryz.prog 42 p42 := hQ (cfg := c42) (qn qq (qd h26 (qd h72 (qd h73 (qd h74 (qd h75 qh))))) rfl (by kernel_rfl)) Tryz.func42 (by kernel_rfl) (by rw [ls42]; simp only [List.forall_mem_cons]; exact ⟨qF (key := 8) (li := l42_8) (by kernel_rfl) rfl (fun _ => rfl) (L42_8_eq), qF (key := 14) (li := l42_14) (by kernel_rfl) rfl (fun _ => rfl) (L42_14_eq), fun _ h => by cases h⟩) d42 (F42_eq fuel)
noncomputable def B76_2 (_n : Nat) (L : ((List Bool) × Bool × Int × Int × Unit) × (Unit) × Unit → Option (zTn ⊕ zTr)) (s_0 : List Bool) (v_1 : Bool) (t_7 : Int) (t_8 : Int) : Option (zTn ⊕ zTr) :=
  cond (decide (t_8 < t_7)) (qg s_0 t_8 fun e1 => cond (v_1 == e1) (some (.inl ((t_8, ()), (), ()))) (L ((s_0, v_1, t_7, (IntKind.wrap .i64 (t_8 + 1)), ()), (), ()))) (some (.inr ((), (), ())))
noncomputable def L76_2 : Nat → ((List Bool) × Bool × Int × Int × Unit) × (Unit) × Unit → Option (zTn ⊕ zTr)
  | 0, _ => none
  | n + 1, d => B76_2 n (L76_2 n) d.1.1 d.1.2.1 d.1.2.2.1 d.1.2.2.2.1
noncomputable def l76_2 : jC := ⟨⟨[(0, .v zUk), (1, .v .bool), (7, .v zI), (8, .v zI)], [], none⟩, [(.ret, ⟨[(4, .v zI)], [], none⟩), (.exit 0, ⟨[], [], none⟩)], L76_2⟩
noncomputable def F76 (n : Nat) (s_0 : (List Bool)) (v_1 : Bool) : Option zTu :=
  qa (L76_2 n ((s_0, v_1, (s_0.length : Int), 0, ()), (), ())) fun o2 => qaP o2 (fun d3 => some ((d3.1.1, ()), ())) (fun _ => some (((-1), ()), ()))
noncomputable def g76 (d : (List Bool) × Bool × Unit) : Option zTu := F76 fuel d.1 d.2.1
noncomputable def p76 : qH := ⟨[.v zUk, .v .bool], [.v zI], g76⟩
noncomputable def c76 : qW := ⟨19, tyT, [], [], [(2, l76_2)], [], [], [], [], [], [], [], [], [], none⟩
theorem F76_eq (n : Nat) (d) : qz c76 n Tryz.f76 (body Tryz.f76) p76.ps p76.rs d = F76 n d.1 d.2.1 := by kernel_rfl
theorem L76_2_eq (n : Nat) (d) : (l76_2).g (n + 1) d = run c76 n (j7 0 (qe (body Tryz.f76))) ((l76_2).ins.fill d) (qJ (l76_2) n) := by kernel_rfl
theorem ls76 : qe (body Tryz.f76) = [j7 0 (qe (body Tryz.f76))] := by kernel_rfl
theorem d76 : ql c76 (body Tryz.f76) = true := by kernel_rfl
theorem h76 : qx Tryz.prog 76 p76 := hQ (cfg := c76) (qn qq (qh) rfl (by kernel_rfl)) Tryz.func76 (by kernel_rfl) (by rw [ls76]; simp only [List.forall_mem_cons]; exact ⟨qF (key := 2) (li := l76_2) (by kernel_rfl) rfl (fun _ => rfl) (L76_2_eq), fun _ h => by cases h⟩) d76 (F76_eq fuel)
noncomputable def F43 (_n : Nat) (s_0 : (List Bool)) (v_1 : Bool) : Option zTm :=
  qa (g76 (s_0, v_1, ())) fun y1 => some (((decide (y1.1.1 ≥ 0)), ()), ())
noncomputable def g43 (d : (List Bool) × Bool × Unit) : Option zTm := F43 fuel d.1 d.2.1
noncomputable def p43 : qH := ⟨[.v zUk, .v .bool], [.v .bool], g43⟩
noncomputable def c43 : qW := ⟨9, tyT, [], [(76, p76)], [], [], [], [], [], [], [], [], [], [], none⟩
theorem F43_eq (n : Nat) (d) : qz c43 n Tryz.f43 (body Tryz.f43) p43.ps p43.rs d = F43 n d.1 d.2.1 := by kernel_rfl
theorem d43 : ql c43 (body Tryz.f43) = true := by kernel_rfl
theorem h43 : qx Tryz.prog 43 p43 := hQ (cfg := c43) (qn qq (qd h76 qh) rfl (by kernel_rfl)) Tryz.func43 (by kernel_rfl) (qr (by kernel_rfl)) d43 (F43_eq fuel)
noncomputable def F44 (_n : Nat) (n_0 : Int) : Option zTm :=
  some (((decide (n_0 > 0)), ()), ())
noncomputable def g44 (d : Int × Unit) : Option zTm := F44 fuel d.1
noncomputable def p44 : qH := ⟨[.v zI], [.v .bool], g44⟩
noncomputable def c44 : qW := ⟨5, tyT, [], [], [], [], [], [], [], [], [], [], [], [], none⟩
theorem F44_eq (n : Nat) (d) : qz c44 n Tryz.f44 (body Tryz.f44) p44.ps p44.rs d = F44 n d.1 := by kernel_rfl
theorem d44 : ql c44 (body Tryz.f44) = true := by kernel_rfl
theorem h44 : qx Tryz.prog 44 p44 := hQ (cfg := c44) (qn qq (qh) rfl (by kernel_rfl)) Tryz.func44 (by kernel_rfl) (qr (by kernel_rfl)) d44 (F44_eq fuel)
noncomputable def F16 (_n : Nat) (k_0 : zTh) (l_1 : (List (Int × Int))) : Option ((Bool × (List Int) × Int × Unit) × (Unit)) :=
  qa (g42 (k_0, l_1, ())) fun y1 => cond (y1.1.2.2.2.1 != 0) (some ((false, ([] : List Int), y1.1.2.2.2.1, ()), ())) (qa (g43 (y1.1.1, false, ())) fun y2 => cond (!y2.1.1) (qa (g26 (y1.1.2.1, (fun v3 => qa (g44 (v3, ())) fun y4 => some y4.1.1), ())) fun y5 => some (((!y5.1.1), y1.1.2.1, 0, ()), ())) (some ((false, y1.1.2.1, 0, ()), ())))
noncomputable def g16 (d : zTh × (List (Int × Int)) × Unit) : Option ((Bool × (List Int) × Int × Unit) × (Unit)) := F16 fuel d.1 d.2.1
noncomputable def p16 : qH := ⟨[.v (.str zTc), .v (.list false 135 (.str j6))], [.v .bool, .v jE, .v zI], g16⟩
noncomputable def c16 : qW := ⟨31, tyT, [], [(26, p26), (42, p42), (43, p43), (44, p44)], [], [], [], [], [], [], [], [], [], [], none⟩
theorem F16_eq (n : Nat) (d) : qz c16 n Tryz.f16 (body Tryz.f16) p16.ps p16.rs d = F16 n d.1 d.2.1 := by kernel_rfl
theorem d16 : ql c16 (body Tryz.f16) = true := by kernel_rfl
theorem h16 : qx Tryz.prog 16 p16 := hQ (cfg := c16) (qn qq (qd h26 (qd h42 (qd h43 (qd h44 qh)))) rfl (by kernel_rfl)) Tryz.func16 (by kernel_rfl) (qr (by kernel_rfl)) d16 (F16_eq fuel)
noncomputable def B17_2 (_n : Nat) (L : zUw × (Unit) × Unit → Option (zUe ⊕ zTr)) (l_0 : List Int) (n_1 : Int) (i_5 : Int) : Option (zUe ⊕ zTr) :=
  cond (decide (i_5 < (l_0.length : Int))) (qg l_0 i_5 fun e1 => cond (e1 == n_1) (some (.inl ((true, ()), (), ()))) (L ((l_0, n_1, (IntKind.wrap .i64 (i_5 + 1)), ()), (), ()))) (some (.inr ((), (), ())))
noncomputable def L17_2 : Nat → zUw × (Unit) × Unit → Option (zUe ⊕ zTr)
  | 0, _ => none
  | n + 1, d => B17_2 n (L17_2 n) d.1.1 d.1.2.1 d.1.2.2.1
noncomputable def l17_2 : jC := ⟨⟨[(0, .v jE), (1, .v zI), (5, .v zI)], [], none⟩, [(.ret, ⟨[(4, .v .bool)], [], none⟩), (.exit 0, ⟨[], [], none⟩)], L17_2⟩
noncomputable def F17 (n : Nat) (l_0 : (List Int)) (n_1 : Int) : Option zTm :=
  qa (L17_2 n ((l_0, n_1, 0, ()), (), ())) fun o2 => qaP o2 (fun d3 => some ((d3.1.1, ()), ())) (fun _ => some ((false, ()), ()))
noncomputable def g17 (d : (List Int) × Int × Unit) : Option zTm := F17 fuel d.1 d.2.1
noncomputable def p17 : qH := ⟨[.v jE, .v zI], [.v .bool], g17⟩
noncomputable def c17 : qW := ⟨18, tyT, [], [], [(2, l17_2)], [], [], [], [], [], [], [], [], [], none⟩
theorem F17_eq (n : Nat) (d) : qz c17 n Tryz.f17 (body Tryz.f17) p17.ps p17.rs d = F17 n d.1 d.2.1 := by kernel_rfl
theorem L17_2_eq (n : Nat) (d) : (l17_2).g (n + 1) d = run c17 n (j7 0 (qe (body Tryz.f17))) ((l17_2).ins.fill d) (qJ (l17_2) n) := by kernel_rfl
theorem ls17 : qe (body Tryz.f17) = [j7 0 (qe (body Tryz.f17))] := by kernel_rfl
theorem d17 : ql c17 (body Tryz.f17) = true := by kernel_rfl
theorem h17 : qx Tryz.prog 17 p17 := hQ (cfg := c17) (qn qq (qh) rfl (by kernel_rfl)) Tryz.func17 (by kernel_rfl) (by rw [ls17]; simp only [List.forall_mem_cons]; exact ⟨qF (key := 2) (li := l17_2) (by kernel_rfl) rfl (fun _ => rfl) (L17_2_eq), fun _ h => by cases h⟩) d17 (F17_eq fuel)
noncomputable def B4_9 (_n : Nat) (L : (Int × zTd × Int × Unit) × (zTd × Unit) × Unit → Option (zUe ⊕ ((Int × Unit) × (zTd × Unit) × Unit))) (n_2 : Int) (g_3 : zTw × zUg) (i_11 : Int) (o_10 : zTw × zUg) : Option (zUe ⊕ ((Int × Unit) × (zTd × Unit) × Unit)) :=
  cond (decide (i_11 < (g_3.2.2.1.length : Int))) (qg g_3.2.2.1 i_11 fun e14 => cond (e14.2.1 == 3) (qa (g6 ()) fun y15 => some (.inl ((y15.1.1, ()), (), ()))) (cond (e14.2.1 != 4) (qX ((o_10.2.2.1.length : Int) + [e14].length) (L ((n_2, g_3, (IntKind.wrap .i64 (i_11 + 1)), ()), ((o_10.1, (o_10.2.1, ((o_10.2.2.1 ++ [e14]), o_10.2.2.2))), ()), ()))) (cond (e14.2.2.1 != n_2) (qX ((o_10.2.2.1.length : Int) + [e14].length) (L ((n_2, g_3, (IntKind.wrap .i64 (i_11 + 1)), ()), ((o_10.1, (o_10.2.1, ((o_10.2.2.1 ++ [e14]), o_10.2.2.2))), ()), ()))) (cond (e14.1 != g_3.2.2.2.1) (qX ((o_10.2.2.1.length : Int) + [e14].length) (L ((n_2, g_3, (IntKind.wrap .i64 (i_11 + 1)), ()), ((o_10.1, (o_10.2.1, ((o_10.2.2.1 ++ [e14]), o_10.2.2.2))), ()), ()))) (L ((n_2, g_3, (IntKind.wrap .i64 (i_11 + 1)), ()), (o_10, ()), ())))))) (some (.inr ((n_2, ()), (o_10, ()), ())))
noncomputable def L4_9 : Nat → (Int × zTd × Int × Unit) × (zTd × Unit) × Unit → Option (zUe ⊕ ((Int × Unit) × (zTd × Unit) × Unit))
  | 0, _ => none
  | n + 1, d => B4_9 n (L4_9 n) d.1.1 d.1.2.1 d.1.2.2.1 d.2.1.1
noncomputable def l4_9 : jC := ⟨⟨[(2, .v zI), (3, .r (.str (.pair (.str zTe) (.pair (.str zTb) (.pair (.list false 68 (.str (.pair zI qR))) (.pair zI (.pair (.str (.pair (.list false 51 (.str qR)) (.pair (.list false 116 (.str qR)) (.pair zI j6)))) (.pair jE jE)))))))), (10, .c (.ptr 10 [])), (11, .v zI)], [(10, false, .str (.pair (.str zTe) (.pair (.str zTb) (.pair (.list true 68 (.str (.pair zI qR))) (.pair zI (.pair (.str (.pair (.list true 51 (.str qR)) (.pair (.list true 116 (.str qR)) (.pair zI j6)))) (.pair jE jE)))))))], none⟩, [(.ret, ⟨[(6, .v .bool)], [], none⟩), (.exit 0, ⟨[(2, .v zI), (10, .c (.ptr 10 []))], [(10, false, .str (.pair (.str zTe) (.pair (.str zTb) (.pair (.list true 68 (.str (.pair zI qR))) (.pair zI (.pair (.str (.pair (.list true 51 (.str qR)) (.pair (.list true 116 (.str qR)) (.pair zI j6)))) (.pair jE jE)))))))], none⟩)], L4_9⟩
noncomputable def F4 (n : Nat) (g_0 : zTd) (w_1 : (zTh × (List (Int × Int)))) (n_2 : Int) : Option zTm :=
  qa (g5 (g_0, ())) fun y1 => cond y1.1.1 (qa (g6 ()) fun y2 => some ((y2.1.1, ()), ())) (qa (g15 (w_1.1, ())) fun y3 => cond (y3.1.1 != 0) (qa (g6 ()) fun y4 => some ((y4.1.1, ()), ())) (cond (decide ((w_1.2.length : Int) > 200)) (qa (g6 ()) fun y5 => some ((y5.1.1, ()), ())) (qa (g9 (g_0, ())) fun y6 => cond (y6.1.1 != 0) (qa (g6 ()) fun y7 => some ((y7.1.1, ()), ())) (cond (decide (n_2 < 0)) (qa (g6 ()) fun y8 => some ((y8.1.1, ()), ())) (cond (decide (n_2 ≥ (g_0.1.1.length : Int))) (qa (g6 ()) fun y9 => some ((y9.1.1, ()), ())) (qa (qX ((([] : List (Int × Int)).length : Int) + w_1.2.length) (qa (g16 (w_1.1, (([] : List (Int × Int)) ++ w_1.2), ())) fun y10 => qP [qP [qP [some ((n_2, g_0, y10.1.1, y10.1.2.2.1, ()), (), ()), qP [some ((n_2, g_0, y10.1.1, y10.1.2.2.1, ()), (), ()), some ((n_2, g_0, y10.1.1, y10.1.2.2.1, ()), (), ())]], qP [some ((n_2, g_0, y10.1.1, y10.1.2.2.1, ()), (), ()), some ((n_2, g_0, y10.1.1, y10.1.2.2.1, ()), (), ())], qP [qP [some ((n_2, g_0, y10.1.1, y10.1.2.2.1, ()), (), ()), some ((n_2, g_0, y10.1.1, y10.1.2.2.1, ()), (), ())], some ((n_2, g_0, y10.1.1, y10.1.2.2.1, ()), (), ())]], qP [qP [some ((n_2, g_0, y10.1.1, y10.1.2.2.1, ()), (), ()), qP [some ((n_2, g_0, y10.1.1, y10.1.2.2.1, ()), (), ()), some ((n_2, g_0, y10.1.1, y10.1.2.2.1, ()), (), ())]], some ((n_2, g_0, y10.1.1, y10.1.2.2.1, ()), (), ())], qP [qP [some ((n_2, g_0, y10.1.1, y10.1.2.2.1, ()), (), ()), some ((n_2, g_0, y10.1.1, y10.1.2.2.1, ()), (), ())], some ((n_2, g_0, y10.1.1, y10.1.2.2.1, ()), (), ())]])) fun d11 => cond (d11.1.2.2.2.1 == 0) (cond d11.1.2.2.1 (qa (g6 ()) fun y12 => some ((y12.1.1, ()), ())) (qa (g7 (d11.1.2.1, ())) fun y13 => qa (L4_9 n ((d11.1.1, d11.1.2.1, 0, ()), ((y13.1.1.1, (y13.1.1.2.1, ([], y13.1.1.2.2.2))), ()), ())) fun o16 => qaP o16 (fun d17 => some ((d17.1.1, ()), ())) (fun d18 => qa (g12 (d18.2.1.1, ())) fun y19 => cond (y19.1.2.1 == 0) (qa (g17 (y19.1.1, d18.1.1, ())) fun y20 => cond (!y20.1.1) (qa (g6 ()) fun y21 => some ((y21.1.1, ()), ())) (some ((false, ()), ()))) (some ((false, ()), ()))))) (qa (g7 (d11.1.2.1, ())) fun y22 => qa (L4_9 n ((d11.1.1, d11.1.2.1, 0, ()), ((y22.1.1.1, (y22.1.1.2.1, ([], y22.1.1.2.2.2))), ()), ())) fun o23 => qaP o23 (fun d24 => some ((d24.1.1, ()), ())) (fun d25 => qa (g12 (d25.2.1.1, ())) fun y26 => cond (y26.1.2.1 == 0) (qa (g17 (y26.1.1, d25.1.1, ())) fun y27 => cond (!y27.1.1) (qa (g6 ()) fun y28 => some ((y28.1.1, ()), ())) (some ((false, ()), ()))) (some ((false, ()), ()))))))))))
noncomputable def g4 (d : zTd × (zTh × (List (Int × Int))) × Int × Unit) : Option zTm := F4 fuel d.1 d.2.1 d.2.2.1
noncomputable def p4 : qH := ⟨[.v (.str (.pair (.str zTe) (.pair (.str zTb) (.pair (.list false 68 (.str (.pair zI qR))) (.pair zI (.pair (.str (.pair (.list false 51 (.str qR)) (.pair (.list false 116 (.str qR)) (.pair zI j6)))) (.pair jE jE))))))), .v (.str (.pair (.str zTc) (.list false 135 (.str j6)))), .v zI], [.v .bool], g4⟩
noncomputable def c4 : qW := ⟨121, tyT, [(3, .str (.pair (.str zTe) (.pair (.str zTb) (.pair (.list false 68 (.str (.pair zI qR))) (.pair zI (.pair (.str (.pair (.list false 51 (.str qR)) (.pair (.list false 116 (.str qR)) (.pair zI j6)))) (.pair jE jE))))))), (4, .str (.pair (.str zTc) (.list false 135 (.str j6)))), (10, .str (.pair (.str zTe) (.pair (.str zTb) (.pair (.list true 68 (.str (.pair zI qR))) (.pair zI (.pair (.str (.pair (.list true 51 (.str qR)) (.pair (.list true 116 (.str qR)) (.pair zI j6)))) (.pair jE jE)))))))], [(5, p5), (6, p6), (7, p7), (9, p9), (12, p12), (15, p15), (16, p16), (17, p17)], [(9, l4_9)], [], [3], [], [], [], [], [], [], [(3, ⟨[(2, .v zI), (3, .r (.str (.pair (.str zTe) (.pair (.str zTb) (.pair (.list false 68 (.str (.pair zI qR))) (.pair zI (.pair (.str (.pair (.list false 51 (.str qR)) (.pair (.list false 116 (.str qR)) (.pair zI j6)))) (.pair jE jE)))))))), (7, .v .bool), (9, .v zI)], [], none⟩)], none⟩
theorem F4_eq (n : Nat) (d) : qz c4 n Tryz.f4 (body Tryz.f4) p4.ps p4.rs d = F4 n d.1 d.2.1 d.2.2.1 := by kernel_rfl
theorem L4_9_eq (n : Nat) (d) : (l4_9).g (n + 1) d = run c4 n (j7 0 (qe (body Tryz.f4))) ((l4_9).ins.fill d) (qJ (l4_9) n) := by kernel_rfl
theorem ls4 : qe (body Tryz.f4) = [j7 0 (qe (body Tryz.f4))] := by kernel_rfl
theorem d4 : ql c4 (body Tryz.f4) = true := by kernel_rfl
theorem h4 : qx Tryz.prog 4 p4 := hQ (cfg := c4) (qn qq (qd h5 (qd h6 (qd h7 (qd h9 (qd h12 (qd h15 (qd h16 (qd h17 qh)))))))) rfl (by kernel_rfl)) Tryz.func4 (by kernel_rfl) (by rw [ls4]; simp only [List.forall_mem_cons]; exact ⟨qF (key := 9) (li := l4_9) (by kernel_rfl) rfl (fun _ => rfl) (L4_9_eq), fun _ h => by cases h⟩) d4 (F4_eq fuel)
end Go.Proofs.Tryz.V
