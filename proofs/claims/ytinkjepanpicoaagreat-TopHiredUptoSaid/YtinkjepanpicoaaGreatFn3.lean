/- The contracts of functions of the program, printed by program from the interpreter: each says what a call returns. No condition beyond those typed in each theorem. -/
import Derived.Test.YtinkjepanpicoaaGreatFn2
namespace Go.Proofs.Tryz.V
open Go.Vi
set_option maxRecDepth 100000
noncomputable def F30 (_n : Nat) (n_0 : Int) (low_1 : Int) (high_2 : Int) : Option zTl :=
  cond (decide (n_0 ≥ low_1)) (some (((decide (n_0 ≤ high_2)), ()), ())) (some ((false, ()), ()))
noncomputable def g30 (d : Int × Int × Int × Unit) : Option zTl := F30 fuel d.1 d.2.1 d.2.2.1
noncomputable def p30 : qI := ⟨[.v zI, .v zI, .v zI], [.v .bool], g30⟩
noncomputable def c30 : qX := ⟨15, tyT, [], [], [], [], [], [], [], [], [], [], [], [], none⟩
theorem F30_eq (n : Nat) (d) : qA c30 n Tryz.f30 (body Tryz.f30) p30.ps p30.rs d = F30 n d.1 d.2.1 d.2.2.1 := by kernel_rfl
theorem d30 : qn c30 (body Tryz.f30) = true := by kernel_rfl
theorem h30 : qz Tryz.prog 30 p30 := hQ (cfg := c30) (qo qq (qh) rfl (by kernel_rfl)) Tryz.func30 (by kernel_rfl) (qr (by kernel_rfl)) d30 (F30_eq fuel)
noncomputable def B9_14 (_n : Nat) (L : (Int × Int × Unit) × (zTc × Unit) × Unit → Option (zTm ⊕ zTr)) (n_4 : Int) (i_5 : Int) (o_1 : zTt × zUi) : Option (zTm ⊕ zTr) :=
  cond (decide (i_5 < n_4)) (qi o_1.2.2.2.2.2.1 i_5 fun e5 => qa (g30 (e5, 0, 200, ())) fun y6 => cond (!y6.1.1) (some (.inl ((120, ()), (), ()))) (qi o_1.2.2.2.2.2.2 i_5 fun e7 => qa (g30 (e7, 0, 100, ())) fun y8 => cond (!y8.1.1) (some (.inl ((120, ()), (), ()))) (L ((n_4, (IntKind.wrap .i64 (i_5 + 1)), ()), (o_1, ()), ())))) (some (.inr ((), (), ())))
noncomputable def L9_14 : Nat → (Int × Int × Unit) × (zTc × Unit) × Unit → Option (zTm ⊕ zTr)
  | 0, _ => none
  | n + 1, d => B9_14 n (L9_14 n) d.1.1 d.1.2.1 d.2.1.1
noncomputable def l9_14 : jL := ⟨⟨[(1, .c (.ptr 1 [])), (4, .v zI), (5, .v zI)], [(1, false, .str (.pair (.str zTd) (.pair (.str zTb) (.pair (.list false 68 (.str (.pair zI qQ))) (.pair zI (.pair (.str (.pair (.list false 51 (.str qQ)) (.pair (.list false 116 (.str qQ)) (.pair zI zTh)))) (.pair jD jD)))))))], none⟩, [(.ret, ⟨[(2, .v zI)], [], none⟩), (.exit 0, ⟨[], [], none⟩)], L9_14⟩
noncomputable def F9 (n : Nat) (g_0 : zTc) : Option zTq :=
  qa (g27 (g_0.1, [], ())) fun y1 => cond (y1.1.1 != 0) (some ((y1.1.1, ()), ())) (qa (g28 (g_0.2.1, g_0.2.2.1, ())) fun y2 => cond (y2.1.2.1 != 0) (some ((y2.1.2.1, ()), ())) (qa (g29 (g_0.2.2.2.2.1, ())) fun y3 => cond (y3.1.1 != 0) (some ((y3.1.1, ()), ())) (cond ((g_0.2.1.2.2.length : Int) != (g_0.1.1.length : Int)) (some ((120, ()), ())) (cond ((g_0.2.2.2.2.1.2.1.length : Int) != (g_0.1.1.length : Int)) (some ((120, ()), ())) (cond ((g_0.2.2.2.2.2.1.length : Int) != (g_0.1.1.length : Int)) (some ((120, ()), ())) (cond ((g_0.2.2.2.2.2.2.length : Int) != (g_0.1.1.length : Int)) (some ((120, ()), ())) (qa (g30 (g_0.2.2.2.1, 0, 10000, ())) fun y4 => cond (!y4.1.1) (some ((120, ()), ())) (qa (L9_14 n (((g_0.1.1.length : Int), 0, ()), (g_0, ()), ())) fun o9 => qbS o9 (fun d10 => some ((d10.1.1, ()), ())) (fun _ => some ((0, ()), ()))))))))))
noncomputable def g9 (d : zTc × Unit) : Option zTq := F9 fuel d.1
noncomputable def p9 : qI := ⟨[.v (.str (.pair (.str zTd) (.pair (.str zTb) (.pair (.list false 68 (.str (.pair zI qQ))) (.pair zI (.pair (.str (.pair (.list false 51 (.str qQ)) (.pair (.list false 116 (.str qQ)) (.pair zI zTh)))) (.pair jD jD)))))))], [.v zI], g9⟩
noncomputable def c9 : qX := ⟨88, tyT, [], [(27, p27), (28, p28), (29, p29), (30, p30)], [(14, l9_14)], [], [], [], [], [], [], [], [], [], none⟩
theorem F9_eq (n : Nat) (d) : qA c9 n Tryz.f9 (body Tryz.f9) p9.ps p9.rs d = F9 n d.1 := by kernel_rfl
theorem L9_14_eq (n : Nat) (d) : (l9_14).g (n + 1) d = run c9 n (nth 0 (qe (body Tryz.f9))) ((l9_14).ins.fill d) (qO (l9_14) n) := by kernel_rfl
theorem ls9 : qe (body Tryz.f9) = [nth 0 (qe (body Tryz.f9))] := by kernel_rfl
theorem d9 : qn c9 (body Tryz.f9) = true := by kernel_rfl
theorem h9 : qz Tryz.prog 9 p9 := hQ (cfg := c9) (qo qq (qd h27 (qd h28 (qd h29 (qd h30 qh)))) rfl (by kernel_rfl)) Tryz.func9 (by kernel_rfl) (by rw [ls9]; simp only [List.forall_mem_cons]; exact ⟨qJ (key := 14) (li := l9_14) (by kernel_rfl) rfl (fun _ => rfl) (L9_14_eq), fun _ h => by cases h⟩) d9 (F9_eq fuel)
noncomputable def F60 (_n : Nat) (s_0 : zTk) (set_1 : Int) : Option zTl :=
  qbU (s_0.2.1.length : Int) (qa (g35 (set_1, 0, (IntKind.wrap .i64 ((qeh .i64 1 (s_0.2.1.length : Int)) - 1)), ())) fun y1 => some ((y1.1.1, ()), ()))
noncomputable def g60 (d : zTk × Int × Unit) : Option zTl := F60 fuel d.1 d.2.1
noncomputable def p60 : qI := ⟨[.v (.str (.pair (.list false 51 (.str qQ)) (.pair (.list false 116 (.str qQ)) (.pair zI zTh)))), .v zI], [.v .bool], g60⟩
noncomputable def c60 : qX := ⟨12, tyT, [], [(35, p35)], [], [], [], [], [], [], [], [], [], [], none⟩
theorem F60_eq (n : Nat) (d) : qA c60 n Tryz.f60 (body Tryz.f60) p60.ps p60.rs d = F60 n d.1 d.2.1 := by kernel_rfl
theorem d60 : qn c60 (body Tryz.f60) = true := by kernel_rfl
theorem h60 : qz Tryz.prog 60 p60 := hQ (cfg := c60) (qo qq (qd h35 qh) rfl (by kernel_rfl)) Tryz.func60 (by kernel_rfl) (qr (by kernel_rfl)) d60 (F60_eq fuel)
noncomputable def F31 (_n : Nat) (s_0 : zTk) (set_1 : Int) : Option zTq :=
  qa (g22 (s_0, ())) fun y1 => cond (y1.1.1 != 0) (some ((y1.1.1, ()), ())) (qa (g60 (s_0, set_1, ())) fun y2 => cond (!y2.1.1) (some ((1, ()), ())) (some ((0, ()), ())))
noncomputable def g31 (d : zTk × Int × Unit) : Option zTq := F31 fuel d.1 d.2.1
noncomputable def p31 : qI := ⟨[.v (.str (.pair (.list false 51 (.str qQ)) (.pair (.list false 116 (.str qQ)) (.pair zI zTh)))), .v zI], [.v zI], g31⟩
noncomputable def c31 : qX := ⟨15, tyT, [], [(22, p22), (60, p60)], [], [], [], [], [], [], [], [], [], [], none⟩
theorem F31_eq (n : Nat) (d) : qA c31 n Tryz.f31 (body Tryz.f31) p31.ps p31.rs d = F31 n d.1 d.2.1 := by kernel_rfl
theorem d31 : qn c31 (body Tryz.f31) = true := by kernel_rfl
theorem h31 : qz Tryz.prog 31 p31 := hQ (cfg := c31) (qo qq (qd h22 (qd h60 qh)) rfl (by kernel_rfl)) Tryz.func31 (by kernel_rfl) (qr (by kernel_rfl)) d31 (F31_eq fuel)
noncomputable def Q32_7 (_n : Nat) (L : (zTk × (List (List Int)) × zTf × Unit) → Option (X × zTn)) (t_31 : Int) (s_2 : zTk) (out_5 : (List (List Int))) (l_7 : zTf) : Option (X × zTn) :=
  cond (t_31 == (-1)) (qjn (fun (e5 : Int) (e6 : List Int) => L (s_2, (out_5.set (s_2.1.length : Int).toNat (e6.set l_7.2.1.toNat (IntKind.wrap .i64 (e5 + l_7.2.2.1)))), l_7, ())) fun E => qE [jQ (s_2.1.length : Int) out_5.length (qE [jQ l_7.2.1 3 (qE [qi out_5 (s_2.1.length : Int) fun e4 => qi e4 l_7.2.1 fun e5 => jQ (s_2.1.length : Int) out_5.length (jQ l_7.2.1 3 (qi out_5 (s_2.1.length : Int) fun e6 => qi e6 l_7.2.1 fun _ => E e5 e6)), jQ (s_2.1.length : Int) out_5.length (qi out_5 (s_2.1.length : Int) fun e8 => qi e8 l_7.2.1 fun e9 => jQ l_7.2.1 3 (qi out_5 (s_2.1.length : Int) fun e10 => qi e10 l_7.2.1 fun _ => E e9 e10))]), jQ (s_2.1.length : Int) out_5.length (jQ l_7.2.1 3 (qi out_5 (s_2.1.length : Int) fun e12 => qi e12 l_7.2.1 fun e13 => jQ l_7.2.1 3 (qi out_5 (s_2.1.length : Int) fun e14 => qi e14 l_7.2.1 fun _ => E e13 e14)))]), jQ (s_2.1.length : Int) out_5.length (jQ (s_2.1.length : Int) out_5.length (jQ l_7.2.1 3 (qi out_5 (s_2.1.length : Int) fun e16 => qi e16 l_7.2.1 fun e17 => jQ l_7.2.1 3 (qi out_5 (s_2.1.length : Int) fun e18 => qi e18 l_7.2.1 fun _ => E e17 e18))))]) (qjn (fun (e21 : Int) (e22 : List Int) => L (s_2, (out_5.set t_31.toNat (e22.set l_7.2.1.toNat (IntKind.wrap .i64 (e21 + l_7.2.2.1)))), l_7, ())) fun E => qE [jQ t_31 out_5.length (qE [jQ l_7.2.1 3 (qE [qi out_5 t_31 fun e20 => qi e20 l_7.2.1 fun e21 => jQ t_31 out_5.length (jQ l_7.2.1 3 (qi out_5 t_31 fun e22 => qi e22 l_7.2.1 fun _ => E e21 e22)), jQ t_31 out_5.length (qi out_5 t_31 fun e24 => qi e24 l_7.2.1 fun e25 => jQ l_7.2.1 3 (qi out_5 t_31 fun e26 => qi e26 l_7.2.1 fun _ => E e25 e26))]), jQ t_31 out_5.length (jQ l_7.2.1 3 (qi out_5 t_31 fun e28 => qi e28 l_7.2.1 fun e29 => jQ l_7.2.1 3 (qi out_5 t_31 fun e30 => qi e30 l_7.2.1 fun _ => E e29 e30)))]), jQ t_31 out_5.length (jQ t_31 out_5.length (jQ l_7.2.1 3 (qi out_5 t_31 fun e32 => qi e32 l_7.2.1 fun e33 => jQ l_7.2.1 3 (qi out_5 t_31 fun e34 => qi e34 l_7.2.1 fun _ => E e33 e34))))])
noncomputable def R32_7 (n : Nat) : List Int → (zTk × (List (List Int)) × zTf × Unit) → Option (X × zTn)
  | [], d => some (.norm, (d.2.1, ()))
  | x :: r, d => Q32_7 n (R32_7 n r) x d.1 d.2.1 d.2.2.1
noncomputable def qiX : qcF := ⟨.int .i64, [2, 5, 7], [.r (.str (.pair (.list false 51 (.str qQ)) (.pair (.list false 116 (.str qQ)) (.pair zI zTh)))), .m (.list true 89 zUb), .r (.str qQ)], [.norm], R32_7⟩
noncomputable def B32_3 (n : Nat) (L : (Int × zTk × (List zTf) × Int × Int × Unit) × zTn × Unit → Option zUw) (set_1 : Int) (s_2 : (List zTf) × zUj) (t_15 : List zTf) (t_16 : Int) (t_17 : Int) (o_5 : List (List Int)) : Option zUw :=
  cond (decide (t_17 < t_16)) (qi t_15 t_17 fun e2 => qbU t_17 (cond ((qbl .and .i64 (qdt .i64 set_1 t_17) 1) == 0) (L ((set_1, s_2, t_15, t_16, (IntKind.wrap .i64 (t_17 + 1)), ()), (o_5, ()), ())) (qa (It.m61.p.g (s_2, e2.1, ())) fun y3 => qa y3.1.2.1 fun q4 => qa (It.it90.g (y3.1.1, q4, ())) fun l6 => qa (R32_7 n l6 (s_2, o_5, e2, ())) fun o5 => cond (X.same .norm o5.1) (L ((set_1, s_2, t_15, t_16, (IntKind.wrap .i64 (t_17 + 1)), ()), (o5.2.1, ()), ())) (none)))) (some ((), (o_5, ()), ()))
noncomputable def L32_3 : Nat → (Int × zTk × (List zTf) × Int × Int × Unit) × zTn × Unit → Option zUw
  | 0, _ => none
  | n + 1, d => B32_3 n (L32_3 n) d.1.1 d.1.2.1 d.1.2.2.1 d.1.2.2.2.1 d.1.2.2.2.2.1 d.2.1.1
noncomputable def l32_3 : jL := ⟨⟨[(1, .v zI), (2, .r (.str (.pair (.list false 51 (.str qQ)) (.pair (.list false 116 (.str qQ)) (.pair zI zTh))))), (5, .c (.ptr 5 [])), (15, .v (.list false 116 (.str qQ))), (16, .v zI), (17, .v zI)], [(5, false, .list true 89 zUb)], none⟩, [(.exit 0, ⟨[(5, .c (.ptr 5 []))], [(5, false, .list true 89 zUb)], none⟩)], L32_3⟩
noncomputable def F32 (n : Nat) (s_0 : zTk) (set_1 : Int) : Option (zTn × (Unit)) :=
  leK 0 (IntKind.wrap .i64 ((s_0.1.length : Int) + 1)) (leK (IntKind.wrap .i64 ((s_0.1.length : Int) + 1)) (IntKind.wrap .i64 ((s_0.1.length : Int) + 1)) (jF (IntKind.wrap .i64 ((s_0.1.length : Int) + 1)) (qbG (List.replicate (IntKind.wrap .i64 ((s_0.1.length : Int) + 1)).toNat (List.replicate 3 (0 : Int))) fun z1 => qa (L32_3 n ((set_1, s_0, s_0.2.1, (s_0.2.1.length : Int), 0, ()), (z1, ()), ())) fun o7 => some ((o7.2.1.1, ()), ()))))
noncomputable def g32 (d : zTk × Int × Unit) : Option (zTn × (Unit)) := F32 fuel d.1 d.2.1
noncomputable def p32 : qI := ⟨[.v (.str (.pair (.list false 51 (.str qQ)) (.pair (.list false 116 (.str qQ)) (.pair zI zTh)))), .v zI], [.own 89 zUb], g32⟩
noncomputable def c32 : qX := ⟨51, tyT, [(2, .str (.pair (.list false 51 (.str qQ)) (.pair (.list false 116 (.str qQ)) (.pair zI zTh)))), (5, .list true 89 zUb), (7, .str qQ)], [], [(3, l32_3)], [], [10], [(90, It.it90)], [(7, qiX)], [(61, It.m61)], [], [], [], [], none⟩
theorem F32_eq (n : Nat) (d) : qA c32 n Tryz.f32 (body Tryz.f32) p32.ps p32.rs d = F32 n d.1 d.2.1 := by kernel_rfl
theorem L32_3_eq (n : Nat) (d) : (l32_3).g (n + 1) d = run c32 n (nth 0 (qe (body Tryz.f32))) ((l32_3).ins.fill d) (qO (l32_3) n) := by kernel_rfl
theorem ls32 : qe (body Tryz.f32) = [nth 0 (qe (body Tryz.f32))] := by kernel_rfl
theorem R32_7_eq (n : Nat) (x r d) : (qiX).g n (x :: r) d = run c32 n (asR (nth 0 (j3 (body Tryz.f32)))) (qeL qiX 31 d x) (qgb (qhX c32 qiX n (bdR (nth 0 (j3 (body Tryz.f32)))) r d) qjl) := by kernel_rfl
theorem rs32 : j3 (body Tryz.f32) = [nth 0 (j3 (body Tryz.f32))] := by kernel_rfl
theorem d32 : qco c32 (body Tryz.f32) = true := by kernel_rfl
theorem h32 : qz Tryz.prog 32 p32 := qgQ mixed (cfg := c32) (qo qq (qh) rfl (by kernel_rfl) (qhF (qfb It.k61 qhH))) (qjS It.it90_ok itNil) Tryz.func32 rfl rfl (by kernel_rfl) rfl (by rw [ls32]; simp only [List.forall_mem_cons]; exact ⟨qJ (key := 3) (li := l32_3) (by kernel_rfl) rfl (fun _ => rfl) (L32_3_eq), fun _ h => by cases h⟩) (by rw [rs32]; simp only [List.forall_mem_cons]; exact ⟨qgq (key := 7) (li := qiX) (p := 31) (by kernel_rfl) rfl (by kernel_rfl) (by kernel_rfl) (qr (by kernel_rfl)) (fun _ _ => rfl) R32_7_eq, fun _ h => by cases h⟩) d32 (fun d y h => ⟨fuel, (F32_eq fuel d).trans h⟩)
noncomputable def B10_5 (_n : Nat) (L : (Int × Int × Unit) × ((List (List Int)) × (List (List Int)) × Unit) × Unit → Option zUw) (t_18 : Int) (t_19 : Int) (o_4 : List (List Int)) (o_18000 : List (List Int)) : Option zUw :=
  cond (decide (t_19 < t_18)) (jQ t_19 o_18000.length (qi o_18000 t_19 fun e3 => jF ((o_4.length : Int) + [e3].length) (L ((t_18, (IntKind.wrap .i64 (t_19 + 1)), ()), ((o_4 ++ [e3]), o_18000, ()), ())))) (some ((), (o_4, ()), ()))
noncomputable def L10_5 : Nat → (Int × Int × Unit) × ((List (List Int)) × (List (List Int)) × Unit) × Unit → Option zUw
  | 0, _ => none
  | n + 1, d => B10_5 n (L10_5 n) d.1.1 d.1.2.1 d.2.1.1 d.2.1.2.1
noncomputable def l10_5 : jL := ⟨⟨[(4, .c (.view 4 [])), (17, .c (.view 18000 [])), (18, .v zI), (19, .v zI)], [(4, true, .list true 47 zUb), (18000, true, .list true 89 zUb)], none⟩, [(.exit 0, ⟨[(4, .c (.view 4 []))], [(4, true, .list true 47 zUb)], none⟩)], L10_5⟩
noncomputable def F10 (n : Nat) (s_0 : zTk) (set_1 : Int) : Option (((List (List Int)) × Int × Unit) × (Unit)) :=
  qa (g31 (s_0, set_1, ())) fun y1 => cond (y1.1.1 != 0) (some ((([] : List (List Int)), y1.1.1, ()), ())) (qa (g32 (s_0, set_1, ())) fun y2 => qa (L10_5 n (((y2.1.1.length : Int), 0, ()), (([] : List (List Int)), y2.1.1, ()), ())) fun o4 => some ((o4.2.1.1, 0, ()), ()))
noncomputable def g10 (d : zTk × Int × Unit) : Option (((List (List Int)) × Int × Unit) × (Unit)) := F10 fuel d.1 d.2.1
noncomputable def p10 : qI := ⟨[.v (.str (.pair (.list false 51 (.str qQ)) (.pair (.list false 116 (.str qQ)) (.pair zI zTh)))), .v zI], [.own 47 zUb, .v zI], g10⟩
noncomputable def c10 : qX := ⟨29, tyT, [], [(31, p31), (32, p32)], [(5, l10_5)], [], [], [], [], [], [], [], [], [], none⟩
theorem F10_eq (n : Nat) (d) : qA c10 n Tryz.f10 (body Tryz.f10) p10.ps p10.rs d = F10 n d.1 d.2.1 := by kernel_rfl
theorem L10_5_eq (n : Nat) (d) : (l10_5).g (n + 1) d = run c10 n (nth 0 (qe (body Tryz.f10))) ((l10_5).ins.fill d) (qO (l10_5) n) := by kernel_rfl
theorem ls10 : qe (body Tryz.f10) = [nth 0 (qe (body Tryz.f10))] := by kernel_rfl
theorem d10 : qn c10 (body Tryz.f10) = true := by kernel_rfl
theorem h10 : qz Tryz.prog 10 p10 := hQ (cfg := c10) (qo qq (qd h31 (qd h32 qh)) rfl (by kernel_rfl)) Tryz.func10 (by kernel_rfl) (by rw [ls10]; simp only [List.forall_mem_cons]; exact ⟨qJ (key := 5) (li := l10_5) (by kernel_rfl) rfl (fun _ => rfl) (L10_5_eq), fun _ h => by cases h⟩) d10 (F10_eq fuel)
noncomputable def F34 (_n : Nat) (n_0 : Int) (t_1 : Int) (t_2 : Int) : Option zTl :=
  qa (g35 (n_0, t_1, t_2, ())) fun y1 => some (((!y1.1.1), ()), ())
noncomputable def g34 (d : Int × Int × Int × Unit) : Option zTl := F34 fuel d.1 d.2.1 d.2.2.1
noncomputable def p34 : qI := ⟨[.v zI, .r zI, .r zI], [.v .bool], g34⟩
noncomputable def c34 : qX := ⟨10, tyT, [], [(35, p35)], [], [], [], [], [], [], [], [], [], [], none⟩
theorem F34_eq (n : Nat) (d) : qA c34 n Tryz.f34 (body Tryz.f34) p34.ps p34.rs d = F34 n d.1 d.2.1 d.2.2.1 := by kernel_rfl
theorem d34 : qn c34 (body Tryz.f34) = true := by kernel_rfl
theorem h34 : qz Tryz.prog 34 p34 := hQ (cfg := c34) (qo qq (qd h35 qh) rfl (by kernel_rfl)) Tryz.func34 (by kernel_rfl) (qr (by kernel_rfl)) d34 (F34_eq fuel)
noncomputable def B36_2 (_n : Nat) (L : (Int × Int × Unit) × zTs × Unit → Option zTz) (set_0 : Int) (i_3 : Int) (o_2 : List Int) : Option zTz :=
  qbU i_3 (cond (decide ((qdt .i64 set_0 i_3) > 0)) (qbU i_3 (cond ((qbl .and .i64 (qdt .i64 set_0 i_3) 1) == 1) (jF ((o_2.length : Int) + [i_3].length) (L ((set_0, (IntKind.wrap .i64 (i_3 + 1)), ()), ((o_2 ++ [i_3]), ()), ()))) (L ((set_0, (IntKind.wrap .i64 (i_3 + 1)), ()), (o_2, ()), ())))) (some ((), (o_2, ()), ())))
noncomputable def L36_2 : Nat → (Int × Int × Unit) × zTs × Unit → Option zTz
  | 0, _ => none
  | n + 1, d => B36_2 n (L36_2 n) d.1.1 d.1.2.1 d.2.1.1
noncomputable def l36_2 : jL := ⟨⟨[(0, .v zI), (2, .c (.view 2 [])), (3, .v zI)], [(2, true, .list true 3 zI)], none⟩, [(.exit 0, ⟨[(2, .c (.view 2 []))], [(2, true, .list true 3 zI)], none⟩)], L36_2⟩
noncomputable def F36 (n : Nat) (set_0 : Int) : Option (zTs × (Unit)) :=
  qa (L36_2 n ((set_0, 0, ()), (([] : List Int), ()), ())) fun o1 => some ((o1.2.1.1, ()), ())
noncomputable def g36 (d : Int × Unit) : Option (zTs × (Unit)) := F36 fuel d.1
noncomputable def p36 : qI := ⟨[.v zI], [.own 3 zI], g36⟩
noncomputable def c36 : qX := ⟨20, tyT, [], [], [(2, l36_2)], [], [], [], [], [], [], [], [], [], none⟩
theorem F36_eq (n : Nat) (d) : qA c36 n Tryz.f36 (body Tryz.f36) p36.ps p36.rs d = F36 n d.1 := by kernel_rfl
theorem L36_2_eq (n : Nat) (d) : (l36_2).g (n + 1) d = run c36 n (nth 0 (qe (body Tryz.f36))) ((l36_2).ins.fill d) (qO (l36_2) n) := by kernel_rfl
theorem ls36 : qe (body Tryz.f36) = [nth 0 (qe (body Tryz.f36))] := by kernel_rfl
theorem d36 : qn c36 (body Tryz.f36) = true := by kernel_rfl
theorem h36 : qz Tryz.prog 36 p36 := hQ (cfg := c36) (qo qq (qh) rfl (by kernel_rfl)) Tryz.func36 (by kernel_rfl) (by rw [ls36]; simp only [List.forall_mem_cons]; exact ⟨qJ (key := 2) (li := l36_2) (by kernel_rfl) rfl (fun _ => rfl) (L36_2_eq), fun _ h => by cases h⟩) d36 (F36_eq fuel)
noncomputable def F91 (_n : Nat) (x_0 : Int) : Option zTl :=
  some (((x_0 != x_0), ()), ())
noncomputable def g91 (d : Int × Unit) : Option zTl := F91 fuel d.1
noncomputable def p91 : qI := ⟨[.v zI], [.v .bool], g91⟩
noncomputable def c91 : qX := ⟨6, tyT, [], [], [], [], [], [], [], [], [], [], [], [], none⟩
theorem F91_eq (n : Nat) (d) : qA c91 n Tryz.f91 (body Tryz.f91) p91.ps p91.rs d = F91 n d.1 := by kernel_rfl
theorem d91 : qn c91 (body Tryz.f91) = true := by kernel_rfl
theorem h91 : qz Tryz.prog 91 p91 := hQ (cfg := c91) (qo qq (qh) rfl (by kernel_rfl)) Tryz.func91 (by kernel_rfl) (qr (by kernel_rfl)) d91 (F91_eq fuel)
noncomputable def F62 (_n : Nat) (x_0 : Int) (y_1 : Int) : Option zTq :=
  qa (g91 (x_0, ())) fun y1 => qa (g91 (y_1, ())) fun y2 => cond y1.1.1 (cond y2.1.1 (some ((0, ()), ())) (some (((-1), ()), ()))) (cond y2.1.1 (some ((1, ()), ())) (cond (decide (x_0 < y_1)) (some (((-1), ()), ())) (cond (decide (x_0 > y_1)) (some ((1, ()), ())) (some ((0, ()), ())))))
noncomputable def g62 (d : Int × Int × Unit) : Option zTq := F62 fuel d.1 d.2.1
noncomputable def p62 : qI := ⟨[.v zI, .v zI], [.v zI], g62⟩
noncomputable def c62 : qX := ⟨20, tyT, [], [(91, p91)], [], [], [], [], [], [], [], [], [], [], none⟩
theorem F62_eq (n : Nat) (d) : qA c62 n Tryz.f62 (body Tryz.f62) p62.ps p62.rs d = F62 n d.1 d.2.1 := by kernel_rfl
theorem d62 : qn c62 (body Tryz.f62) = true := by kernel_rfl
theorem h62 : qz Tryz.prog 62 p62 := hQ (cfg := c62) (qo qq (qd h91 qh) rfl (by kernel_rfl)) Tryz.func62 (by kernel_rfl) (qr (by kernel_rfl)) d62 (F62_eq fuel)
noncomputable def B37_2 (_n : Nat) (L : ((List Int) × (List Int) × (List Int) × Int × Int × Unit) × (Unit) × Unit → Option (zTm ⊕ zUx)) (s1_0 : List Int) (s2_1 : List Int) (t_9 : List Int) (t_10 : Int) (t_11 : Int) : Option (zTm ⊕ zUx) :=
  cond (decide (t_11 < t_10)) (qi t_9 t_11 fun e1 => cond (decide (t_11 ≥ (s2_1.length : Int))) (some (.inl ((1, ()), (), ()))) (qi s2_1 t_11 fun e2 => qa (g62 (e1, e2, ())) fun y3 => cond (y3.1.1 != 0) (some (.inl ((y3.1.1, ()), (), ()))) (L ((s1_0, s2_1, t_9, t_10, (IntKind.wrap .i64 (t_11 + 1)), ()), (), ())))) (some (.inr ((s1_0, s2_1, ()), (), ())))
noncomputable def L37_2 : Nat → ((List Int) × (List Int) × (List Int) × Int × Int × Unit) × (Unit) × Unit → Option (zTm ⊕ zUx)
  | 0, _ => none
  | n + 1, d => B37_2 n (L37_2 n) d.1.1 d.1.2.1 d.1.2.2.1 d.1.2.2.2.1 d.1.2.2.2.2.1
noncomputable def l37_2 : jL := ⟨⟨[(0, .v jD), (1, .v jD), (9, .v jD), (10, .v zI), (11, .v zI)], [], none⟩, [(.ret, ⟨[(4, .v zI)], [], none⟩), (.exit 0, ⟨[(0, .v jD), (1, .v jD)], [], none⟩)], L37_2⟩
noncomputable def F37 (n : Nat) (s1_0 : (List Int)) (s2_1 : (List Int)) : Option zTq :=
  qa (L37_2 n ((s1_0, s2_1, s1_0, (s1_0.length : Int), 0, ()), (), ())) fun o4 => qbS o4 (fun d5 => some ((d5.1.1, ()), ())) (fun d6 => cond (decide ((d6.1.1.length : Int) < (d6.1.2.1.length : Int))) (some (((-1), ()), ())) (some ((0, ()), ())))
noncomputable def g37 (d : (List Int) × (List Int) × Unit) : Option zTq := F37 fuel d.1 d.2.1
noncomputable def p37 : qI := ⟨[.v jD, .v jD], [.v zI], g37⟩
noncomputable def c37 : qX := ⟨36, tyT, [], [(62, p62)], [(2, l37_2)], [], [], [], [], [], [], [], [], [], none⟩
theorem F37_eq (n : Nat) (d) : qA c37 n Tryz.f37 (body Tryz.f37) p37.ps p37.rs d = F37 n d.1 d.2.1 := by kernel_rfl
theorem L37_2_eq (n : Nat) (d) : (l37_2).g (n + 1) d = run c37 n (nth 0 (qe (body Tryz.f37))) ((l37_2).ins.fill d) (qO (l37_2) n) := by kernel_rfl
theorem ls37 : qe (body Tryz.f37) = [nth 0 (qe (body Tryz.f37))] := by kernel_rfl
theorem d37 : qn c37 (body Tryz.f37) = true := by kernel_rfl
theorem h37 : qz Tryz.prog 37 p37 := hQ (cfg := c37) (qo qq (qd h62 qh) rfl (by kernel_rfl)) Tryz.func37 (by kernel_rfl) (by rw [ls37]; simp only [List.forall_mem_cons]; exact ⟨qJ (key := 2) (li := l37_2) (by kernel_rfl) rfl (fun _ => rfl) (L37_2_eq), fun _ h => by cases h⟩) d37 (F37_eq fuel)
noncomputable def B11_13 (_n : Nat) (L : ((List Int) × (List Int) × Int × (List Int) × Int × Bool × Int × Int × Int × Int × Int × Int × Unit) × zTs × Unit → Option zUf) (power_0 : List Int) (price_1 : List Int) (need_2 : Int) (which_6 : List Int) (sum_7 : Int) (found_10 : Bool) (amps_13 : Int) (cents_14 : Int) (t_44 : Int) (t_45 : Int) (t_51 : Int) (t_52 : Int) (o_50000 : List Int) : Option zUf :=
  cond (decide (t_52 < t_51)) (jQ t_52 o_50000.length (qi o_50000 t_52 fun e15 => qi power_0 e15 fun e16 => qi price_1 e15 fun e17 => L ((power_0, price_1, need_2, which_6, sum_7, found_10, (IntKind.wrap .i64 (amps_13 + e16)), (IntKind.wrap .i64 (cents_14 + e17)), t_44, t_45, t_51, (IntKind.wrap .i64 (t_52 + 1)), ()), (o_50000, ()), ()))) (some ((power_0, price_1, need_2, which_6, sum_7, found_10, amps_13, cents_14, t_44, t_45, ()), (o_50000, ()), ()))
noncomputable def L11_13 : Nat → ((List Int) × (List Int) × Int × (List Int) × Int × Bool × Int × Int × Int × Int × Int × Int × Unit) × zTs × Unit → Option zUf
  | 0, _ => none
  | n + 1, d => B11_13 n (L11_13 n) d.1.1 d.1.2.1 d.1.2.2.1 d.1.2.2.2.1 d.1.2.2.2.2.1 d.1.2.2.2.2.2.1 d.1.2.2.2.2.2.2.1 d.1.2.2.2.2.2.2.2.1 d.1.2.2.2.2.2.2.2.2.1 d.1.2.2.2.2.2.2.2.2.2.1 d.1.2.2.2.2.2.2.2.2.2.2.1 d.1.2.2.2.2.2.2.2.2.2.2.2.1 d.2.1.1
noncomputable def l11_13 : jL := ⟨⟨[(0, .v jD), (1, .v jD), (2, .v zI), (6, .v jD), (7, .v zI), (10, .v .bool), (12, .c (.view 50000 [])), (13, .v zI), (14, .v zI), (44, .v zI), (45, .v zI), (50, .c (.view 50000 [])), (51, .v zI), (52, .v zI)], [(50000, true, .list true 3 zI)], none⟩, [(.exit 2, ⟨[(0, .v jD), (1, .v jD), (2, .v zI), (6, .v jD), (7, .v zI), (10, .v .bool), (12, .c (.view 50000 [])), (13, .v zI), (14, .v zI), (44, .v zI), (45, .v zI)], [(50000, true, .list true 3 zI)], none⟩)], L11_13⟩
noncomputable def B11_8 (n : Nat) (L : ((List Int) × (List Int) × Int × (List Int) × Int × Bool × Int × Int × Unit) × (Unit) × Unit → Option zUv) (power_0 : List Int) (price_1 : List Int) (need_2 : Int) (which_6 : List Int) (sum_7 : Int) (found_10 : Bool) (t_44 : Int) (t_45 : Int) : Option zUv :=
  cond (decide (t_45 < t_44)) (qa (g36 (t_45, ())) fun y14 => qa (L11_13 n ((power_0, price_1, need_2, which_6, sum_7, found_10, 0, 0, t_44, t_45, (y14.1.1.length : Int), 0, ()), (y14.1.1, ()), ())) fun o18 => cond (decide (o18.1.2.2.2.2.2.2.1 < o18.1.2.2.1)) (L ((o18.1.1, o18.1.2.1, o18.1.2.2.1, o18.1.2.2.2.1, o18.1.2.2.2.2.1, o18.1.2.2.2.2.2.1, o18.1.2.2.2.2.2.2.2.2.1, (IntKind.wrap .i64 (o18.1.2.2.2.2.2.2.2.2.2.1 + 1)), ()), (), ())) (cond (!o18.1.2.2.2.2.2.1) (L ((o18.1.1, o18.1.2.1, o18.1.2.2.1, o18.2.1.1, o18.1.2.2.2.2.2.2.2.1, true, o18.1.2.2.2.2.2.2.2.2.1, (IntKind.wrap .i64 (o18.1.2.2.2.2.2.2.2.2.2.1 + 1)), ()), (), ())) (cond (decide (o18.1.2.2.2.2.2.2.2.1 < o18.1.2.2.2.2.1)) (L ((o18.1.1, o18.1.2.1, o18.1.2.2.1, o18.2.1.1, o18.1.2.2.2.2.2.2.2.1, true, o18.1.2.2.2.2.2.2.2.2.1, (IntKind.wrap .i64 (o18.1.2.2.2.2.2.2.2.2.2.1 + 1)), ()), (), ())) (cond (o18.1.2.2.2.2.2.2.2.1 == o18.1.2.2.2.2.1) (cond (decide ((o18.2.1.1.length : Int) < (o18.1.2.2.2.1.length : Int))) (L ((o18.1.1, o18.1.2.1, o18.1.2.2.1, o18.2.1.1, o18.1.2.2.2.2.2.2.2.1, true, o18.1.2.2.2.2.2.2.2.2.1, (IntKind.wrap .i64 (o18.1.2.2.2.2.2.2.2.2.2.1 + 1)), ()), (), ())) (cond ((o18.2.1.1.length : Int) == (o18.1.2.2.2.1.length : Int)) (qa (g37 (o18.2.1.1, o18.1.2.2.2.1, ())) fun y19 => cond (decide (y19.1.1 < 0)) (L ((o18.1.1, o18.1.2.1, o18.1.2.2.1, o18.2.1.1, o18.1.2.2.2.2.2.2.2.1, true, o18.1.2.2.2.2.2.2.2.2.1, (IntKind.wrap .i64 (o18.1.2.2.2.2.2.2.2.2.2.1 + 1)), ()), (), ())) (L ((o18.1.1, o18.1.2.1, o18.1.2.2.1, o18.1.2.2.2.1, o18.1.2.2.2.2.1, o18.1.2.2.2.2.2.1, o18.1.2.2.2.2.2.2.2.2.1, (IntKind.wrap .i64 (o18.1.2.2.2.2.2.2.2.2.2.1 + 1)), ()), (), ()))) (L ((o18.1.1, o18.1.2.1, o18.1.2.2.1, o18.1.2.2.2.1, o18.1.2.2.2.2.1, o18.1.2.2.2.2.2.1, o18.1.2.2.2.2.2.2.2.2.1, (IntKind.wrap .i64 (o18.1.2.2.2.2.2.2.2.2.2.1 + 1)), ()), (), ())))) (L ((o18.1.1, o18.1.2.1, o18.1.2.2.1, o18.1.2.2.2.1, o18.1.2.2.2.2.1, o18.1.2.2.2.2.2.1, o18.1.2.2.2.2.2.2.2.2.1, (IntKind.wrap .i64 (o18.1.2.2.2.2.2.2.2.2.2.1 + 1)), ()), (), ())))))) (some ((which_6, sum_7, found_10, ()), (), ()))
noncomputable def L11_8 : Nat → ((List Int) × (List Int) × Int × (List Int) × Int × Bool × Int × Int × Unit) × (Unit) × Unit → Option zUv
  | 0, _ => none
  | n + 1, d => B11_8 n (L11_8 n) d.1.1 d.1.2.1 d.1.2.2.1 d.1.2.2.2.1 d.1.2.2.2.2.1 d.1.2.2.2.2.2.1 d.1.2.2.2.2.2.2.1 d.1.2.2.2.2.2.2.2.1
noncomputable def l11_8 : jL := ⟨⟨[(0, .v jD), (1, .v jD), (2, .v zI), (6, .v jD), (7, .v zI), (10, .v .bool), (44, .v zI), (45, .v zI)], [], none⟩, [(.exit 0, ⟨[(6, .v jD), (7, .v zI), (10, .v .bool)], [], none⟩)], L11_8⟩
noncomputable def F11 (n : Nat) (power_0 : (List Int)) (price_1 : (List Int)) (need_2 : Int) : Option zUg :=
  cond (decide ((power_0.length : Int) > 10)) (some (([], 0, 2, ()), ())) (cond ((price_1.length : Int) != (power_0.length : Int)) (some (([], 0, 1, ()), ())) (qa (Mk.m33.p.g (1, 1000, ())) fun y1 => qa (g26 (power_0, (fun v2 => qa y1.1.1 fun q4 => qa y1.1.2.1 fun q5 => qa (g34 (v2, q4, q5, ())) fun y3 => some y3.1.1), ())) fun y6 => cond y6.1.1 (some (([], 0, 1, ()), ())) (qa (Mk.m33.p.g (0, 1000000, ())) fun y7 => qa (g26 (price_1, (fun v8 => qa y7.1.1 fun q10 => qa y7.1.2.1 fun q11 => qa (g34 (v8, q10, q11, ())) fun y9 => some y9.1.1), ())) fun y12 => cond y12.1.1 (some (([], 0, 1, ()), ())) (qa (g35 (need_2, 0, 10000, ())) fun y13 => cond (!y13.1.1) (some (([], 0, 1, ()), ())) (qbU (power_0.length : Int) (qa (L11_8 n ((power_0, price_1, need_2, [], 0, false, (qeh .i64 1 (power_0.length : Int)), 0, ()), (), ())) fun o20 => cond (!o20.1.2.2.1) (some (([], 0, 3, ()), ())) (some ((o20.1.1, o20.1.2.1, 0, ()), ()))))))))
noncomputable def g11 (d : (List Int) × (List Int) × Int × Unit) : Option zUg := F11 fuel d.1 d.2.1 d.2.2.1
noncomputable def p11 : qI := ⟨[.v jD, .v jD, .v zI], [.v jD, .v zI, .v zI], g11⟩
noncomputable def c11 : qX := ⟨111, tyT, [(6, .list false 3 zI)], [(26, p26), (34, p34), (35, p35), (36, p36), (37, p37)], [(13, l11_13), (8, l11_8)], [], [], [], [], [(33, Mk.m33)], [], [], [], [], none⟩
theorem F11_eq (n : Nat) (d) : qA c11 n Tryz.f11 (body Tryz.f11) p11.ps p11.rs d = F11 n d.1 d.2.1 d.2.2.1 := by kernel_rfl
theorem L11_8_eq (n : Nat) (d) : (l11_8).g (n + 1) d = run c11 n (nth 0 (qe (body Tryz.f11))) ((l11_8).ins.fill d) (qO (l11_8) n) := by kernel_rfl
theorem L11_13_eq (n : Nat) (d) : (l11_13).g (n + 1) d = run c11 n (nth 1 (qe (body Tryz.f11))) ((l11_13).ins.fill d) (qO (l11_13) n) := by kernel_rfl
theorem ls11 : qe (body Tryz.f11) = [nth 0 (qe (body Tryz.f11)), nth 1 (qe (body Tryz.f11))] := by kernel_rfl
theorem d11 : qn c11 (body Tryz.f11) = true := by kernel_rfl
theorem h11 : qz Tryz.prog 11 p11 := hQ (cfg := c11) (qo qq (qd h26 (qd h34 (qd h35 (qd h36 (qd h37 qh))))) rfl (by kernel_rfl) (qhF (qfb Mk.k33 qhH))) Tryz.func11 (by kernel_rfl) (by rw [ls11]; simp only [List.forall_mem_cons]; exact ⟨qJ (key := 8) (li := l11_8) (by kernel_rfl) rfl (fun _ => rfl) (L11_8_eq), qJ (key := 13) (li := l11_13) (by kernel_rfl) rfl (fun _ => rfl) (L11_13_eq), fun _ h => by cases h⟩) d11 (F11_eq fuel)
noncomputable def F94 (_n : Nat) (x_0 : (Int × zTf)) (t_1 : Int) : Option zTl :=
  some (((decide (x_0.1 > t_1)), ()), ())
noncomputable def g94 (d : (Int × zTf) × Int × Unit) : Option zTl := F94 fuel d.1 d.2.1
noncomputable def p94 : qI := ⟨[.v (.str (.pair zI qQ)), .r zI], [.v .bool], g94⟩
noncomputable def c94 : qX := ⟨8, tyT, [], [], [], [], [], [], [], [], [], [], [], [], none⟩
theorem F94_eq (n : Nat) (d) : qA c94 n Tryz.f94 (body Tryz.f94) p94.ps p94.rs d = F94 n d.1 d.2.1 := by kernel_rfl
theorem d94 : qn c94 (body Tryz.f94) = true := by kernel_rfl
theorem h94 : qz Tryz.prog 94 p94 := hQ (cfg := c94) (qo qq (qh) rfl (by kernel_rfl)) Tryz.func94 (by kernel_rfl) (qr (by kernel_rfl)) d94 (F94_eq fuel)
noncomputable def F65 (_n : Nat) (l_0 : zTp) (day_1 : Int) : Option ((zTp × Unit) × (Unit)) :=
  qa (g93 (l_0.2, (fun v1 => qa (g94 (v1, day_1, ())) fun y2 => some y2.1.1), ())) fun y3 => cond (decide (y3.1.1 ≥ 0)) (leK 0 y3.1.1 (leK y3.1.1 (l_0.2.length : Int) (some (((l_0.1, (l_0.2.take y3.1.1.toNat)), ()), ())))) (some ((l_0, ()), ()))
noncomputable def g65 (d : zTp × Int × Unit) : Option ((zTp × Unit) × (Unit)) := F65 fuel d.1 d.2.1
noncomputable def p65 : qI := ⟨[.v (.str (.pair (.str zTb) (.list false 68 (.str (.pair zI qQ))))), .v zI], [.v (.str (.pair (.str zTb) (.list false 68 (.str (.pair zI qQ)))))], g65⟩
noncomputable def c65 : qX := ⟨18, tyT, [], [(93, p93), (94, p94)], [], [], [], [], [], [], [], [], [], [], none⟩
theorem F65_eq (n : Nat) (d) : qA c65 n Tryz.f65 (body Tryz.f65) p65.ps p65.rs d = F65 n d.1 d.2.1 := by kernel_rfl
theorem d65 : qn c65 (body Tryz.f65) = true := by kernel_rfl
theorem h65 : qz Tryz.prog 65 p65 := hQ (cfg := c65) (qo qq (qd h93 (qd h94 qh)) rfl (by kernel_rfl)) Tryz.func65 (by kernel_rfl) (qr (by kernel_rfl)) d65 (F65_eq fuel)
noncomputable def F39 (_n : Nat) (b_0 : zTe) (entries_1 : (List (Int × zTf))) (day_2 : Int) : Option ((zTp × Int × Unit) × (Unit)) :=
  qa (g53 (b_0, entries_1, ())) fun y1 => cond (y1.1.2.2.1 != 0) (some ((y1.1.1, y1.1.2.2.1, ()), ())) (qa (g64 (day_2, 0, 10000, ())) fun y2 => cond (!y2.1.1) (some ((y1.1.1, 1, ()), ())) (qa (g65 (y1.1.1, day_2, ())) fun y3 => some ((y3.1.1, 0, ()), ())))
noncomputable def g39 (d : zTe × (List (Int × zTf)) × Int × Unit) : Option ((zTp × Int × Unit) × (Unit)) := F39 fuel d.1 d.2.1 d.2.2.1
noncomputable def p39 : qI := ⟨[.v (.str zTb), .v (.list false 68 (.str (.pair zI qQ))), .v zI], [.v (.str (.pair (.str zTb) (.list false 68 (.str (.pair zI qQ))))), .v zI], g39⟩
noncomputable def c39 : qX := ⟨31, tyT, [], [(53, p53), (64, p64), (65, p65)], [], [], [], [], [], [], [], [], [], [], none⟩
theorem F39_eq (n : Nat) (d) : qA c39 n Tryz.f39 (body Tryz.f39) p39.ps p39.rs d = F39 n d.1 d.2.1 d.2.2.1 := by kernel_rfl
theorem d39 : qn c39 (body Tryz.f39) = true := by kernel_rfl
theorem h39 : qz Tryz.prog 39 p39 := hQ (cfg := c39) (qo qq (qd h53 (qd h64 (qd h65 qh))) rfl (by kernel_rfl)) Tryz.func39 (by kernel_rfl) (qr (by kernel_rfl)) d39 (F39_eq fuel)
noncomputable def F66 (_n : Nat) (reason_0 : Int) (is_1 : Bool) (t_2 : (List Int)) : Option ((Unit) × zTs) :=
  cond is_1 (jF ((t_2.length : Int) + [reason_0].length) (some ((), ((t_2 ++ [reason_0]), ())))) (some ((), (t_2, ())))
noncomputable def g66 (d : Int × Bool × (List Int) × Unit) : Option ((Unit) × zTs) := F66 fuel d.1 d.2.1 d.2.2.1
noncomputable def p66 : qI := ⟨[.v zI, .v .bool, .m zTw], [], g66⟩
noncomputable def c66 : qX := ⟨10, tyT, [], [], [], [], [], [], [], [], [], [], [], [], none⟩
theorem F66_eq (n : Nat) (d) : qA c66 n Tryz.f66 (body Tryz.f66) p66.ps p66.rs d = F66 n d.1 d.2.1 d.2.2.1 := by kernel_rfl
theorem d66 : qn c66 (body Tryz.f66) = true := by kernel_rfl
theorem h66 : qz Tryz.prog 66 p66 := hQ (cfg := c66) (qo qq (qh) rfl (by kernel_rfl)) Tryz.func66 (by kernel_rfl) (qr (by kernel_rfl)) d66 (F66_eq fuel)
noncomputable def Q69_2 (_n : Nat) (L : (Int × ((Int × zTf) → Option Bool) × Int × Unit) → Option (X × (Int × Unit))) (t_10 : (Int × zTf)) (ride_4 : Int) (wanted_5 : ((Int × zTf) → Option Bool)) (t_6 : Int) : Option (X × (Int × Unit)) :=
  qa (wanted_5 t_10) fun y2 => cond y2 (some (.ret, (t_10.1, ()))) (cond (t_10.2.1 == 6) (cond (t_10.2.2.1 == ride_4) (some (.ret, ((-1), ()))) (L (ride_4, wanted_5, t_6, ()))) (L (ride_4, wanted_5, t_6, ())))
noncomputable def R69_2 (n : Nat) : List (Int × zTf) → (Int × ((Int × zTf) → Option Bool) × Int × Unit) → Option (X × (Int × Unit))
  | [], d => some (.norm, (d.2.2.1, ()))
  | x :: r, d => Q69_2 n (R69_2 n r) x d.1 d.2.1 d.2.2.1
noncomputable def qiW : qcF := ⟨.str (.pair zI qQ), [4, 5, 6], [.r zI, .r (.fn (.str (.pair zI qQ)) .bool), .m zI], [.norm, .ret], R69_2⟩
noncomputable def F69 (n : Nat) (l_0 : zTp) (ride_1 : Int) (wanted_2 : ((Int × zTf) → Option Bool)) : Option zTq :=
  qa (Ib.m97.p.g (l_0, ())) fun y1 => qa y1.1.1 fun q3 => qa (Ib.it114.g (q3, ())) fun l5 => qa (R69_2 n l5 (ride_1, wanted_2, (0 : Int), ())) fun o4 => cond (X.same .norm o4.1) (some (((-1), ()), ())) (cond (X.same .ret o4.1) (some ((o4.2.1, ()), ())) (none))
noncomputable def g69 (d : zTp × Int × ((Int × zTf) → Option Bool) × Unit) : Option zTq := F69 fuel d.1 d.2.1 d.2.2.1
noncomputable def p69 : qI := ⟨[.v (.str (.pair (.str zTb) (.list false 68 (.str (.pair zI qQ))))), .v zI, .v (.fn (.str (.pair zI qQ)) .bool)], [.v zI], g69⟩
noncomputable def c69 : qX := ⟨27, tyT, [], [], [], [], [], [(114, Ib.it114)], [(2, qiW)], [(97, Ib.m97)], [], [], [], [], none⟩
theorem F69_eq (n : Nat) (d) : qA c69 n Tryz.f69 (body Tryz.f69) p69.ps p69.rs d = F69 n d.1 d.2.1 d.2.2.1 := by kernel_rfl
theorem R69_2_eq (n : Nat) (x r d) : (qiW).g n (x :: r) d = run c69 n (asR (nth 0 (j3 (body Tryz.f69)))) (qeL qiW 10 d x) (qgb (qhX c69 qiW n (bdR (nth 0 (j3 (body Tryz.f69)))) r d) qjl) := by kernel_rfl
theorem rs69 : j3 (body Tryz.f69) = [nth 0 (j3 (body Tryz.f69))] := by kernel_rfl
theorem d69 : qco c69 (body Tryz.f69) = true := by kernel_rfl
theorem h69 : qz Tryz.prog 69 p69 := qgQ mixed (cfg := c69) (qo qq (qh) rfl (by kernel_rfl) (qhF (qfb Ib.k97 qhH))) (qjS Ib.it114_ok itNil) Tryz.func69 rfl rfl (by kernel_rfl) rfl (qr (by kernel_rfl)) (by rw [rs69]; simp only [List.forall_mem_cons]; exact ⟨qgq (key := 2) (li := qiW) (p := 10) (by kernel_rfl) rfl (by kernel_rfl) (by kernel_rfl) (qr (by kernel_rfl)) (fun _ _ => rfl) R69_2_eq, fun _ h => by cases h⟩) d69 (fun d y h => ⟨fuel, (F69_eq fuel d).trans h⟩)
noncomputable def F113 (_n : Nat) (x_0 : (Int × zTf)) (t_1 : Int) : Option zTl :=
  cond (x_0.2.1 == 1) (some (((x_0.2.2.1 == t_1), ()), ())) (some ((false, ()), ()))
noncomputable def g113 (d : (Int × zTf) × Int × Unit) : Option zTl := F113 fuel d.1 d.2.1
noncomputable def p113 : qI := ⟨[.v (.str (.pair zI qQ)), .r zI], [.v .bool], g113⟩
noncomputable def c113 : qX := ⟨13, tyT, [], [], [], [], [], [], [], [], [], [], [], [], none⟩
theorem F113_eq (n : Nat) (d) : qA c113 n Tryz.f113 (body Tryz.f113) p113.ps p113.rs d = F113 n d.1 d.2.1 := by kernel_rfl
theorem d113 : qn c113 (body Tryz.f113) = true := by kernel_rfl
theorem h113 : qz Tryz.prog 113 p113 := hQ (cfg := c113) (qo qq (qh) rfl (by kernel_rfl)) Tryz.func113 (by kernel_rfl) (qr (by kernel_rfl)) d113 (F113_eq fuel)
noncomputable def F95 (_n : Nat) (l_0 : zTp) (rule_1 : Int) : Option zTq :=
  qi l_0.1.1 rule_1 fun e1 => qa (g69 (l_0, e1.1, (fun v2 => qa (g113 (v2, rule_1, ())) fun y3 => some y3.1.1), ())) fun y4 => cond (decide (y4.1.1 < 0)) (some (((-1), ()), ())) (qi l_0.1.1 rule_1 fun e5 => some (((IntKind.wrap .i64 ((IntKind.wrap .i64 (y4.1.1 + e5.2.1)) - 1)), ()), ()))
noncomputable def g95 (d : zTp × Int × Unit) : Option zTq := F95 fuel d.1 d.2.1
noncomputable def p95 : qI := ⟨[.v (.str (.pair (.str zTb) (.list false 68 (.str (.pair zI qQ))))), .v zI], [.v zI], g95⟩
noncomputable def c95 : qX := ⟨28, tyT, [], [(69, p69), (113, p113)], [], [], [], [], [], [], [], [], [], [], none⟩
theorem F95_eq (n : Nat) (d) : qA c95 n Tryz.f95 (body Tryz.f95) p95.ps p95.rs d = F95 n d.1 d.2.1 := by kernel_rfl
theorem d95 : qn c95 (body Tryz.f95) = true := by kernel_rfl
theorem h95 : qz Tryz.prog 95 p95 := hQ (cfg := c95) (qo qq (qd h69 (qd h113 qh)) rfl (by kernel_rfl)) Tryz.func95 (by kernel_rfl) (qr (by kernel_rfl)) d95 (F95_eq fuel)
noncomputable def B67_3 (_n : Nat) (L : (Int × Int × (List zTj) × Int × Int × Unit) × (zTp × Unit) × Unit → Option (zTm)) (ride_1 : Int) (day_5 : Int) (t_10 : List zTj) (t_11 : Int) (t_12 : Int) (o_2 : zTe × (List (Int × zTf))) : Option (zTm) :=
  cond (decide (t_12 < t_11)) (qi t_10 t_12 fun e1 => cond (e1.1 == ride_1) (qa (g95 (o_2, t_12, ())) fun y2 => L ((ride_1, (min day_5 y2.1.1), t_10, t_11, (IntKind.wrap .i64 (t_12 + 1)), ()), (o_2, ()), ())) (L ((ride_1, day_5, t_10, t_11, (IntKind.wrap .i64 (t_12 + 1)), ()), (o_2, ()), ()))) (some ((day_5, ()), (), ()))
noncomputable def L67_3 : Nat → (Int × Int × (List zTj) × Int × Int × Unit) × (zTp × Unit) × Unit → Option (zTm)
  | 0, _ => none
  | n + 1, d => B67_3 n (L67_3 n) d.1.1 d.1.2.1 d.1.2.2.1 d.1.2.2.2.1 d.1.2.2.2.2.1 d.2.1.1
noncomputable def l67_3 : jL := ⟨⟨[(1, .v zI), (2, .c (.ptr 2 [])), (5, .v zI), (10, .v (.list false 150 (.str zTi))), (11, .v zI), (12, .v zI)], [(2, false, .str (.pair (.str zTb) (.list false 68 (.str (.pair zI qQ)))))], none⟩, [(.exit 0, ⟨[(5, .v zI)], [], none⟩)], L67_3⟩
noncomputable def F67 (n : Nat) (l_0 : zTp) (ride_1 : Int) : Option zTq :=
  qa (L67_3 n ((ride_1, 10000, l_0.1.1, (l_0.1.1.length : Int), 0, ()), (l_0, ()), ())) fun o3 => some ((o3.1.1, ()), ())
noncomputable def g67 (d : zTp × Int × Unit) : Option zTq := F67 fuel d.1 d.2.1
noncomputable def p67 : qI := ⟨[.v (.str (.pair (.str zTb) (.list false 68 (.str (.pair zI qQ))))), .v zI], [.v zI], g67⟩
noncomputable def c67 : qX := ⟨28, tyT, [], [(95, p95)], [(3, l67_3)], [], [], [], [], [], [], [], [], [], none⟩
theorem F67_eq (n : Nat) (d) : qA c67 n Tryz.f67 (body Tryz.f67) p67.ps p67.rs d = F67 n d.1 d.2.1 := by kernel_rfl
theorem L67_3_eq (n : Nat) (d) : (l67_3).g (n + 1) d = run c67 n (nth 0 (qe (body Tryz.f67))) ((l67_3).ins.fill d) (qO (l67_3) n) := by kernel_rfl
theorem ls67 : qe (body Tryz.f67) = [nth 0 (qe (body Tryz.f67))] := by kernel_rfl
theorem d67 : qn c67 (body Tryz.f67) = true := by kernel_rfl
theorem h67 : qz Tryz.prog 67 p67 := hQ (cfg := c67) (qo qq (qd h95 qh) rfl (by kernel_rfl)) Tryz.func67 (by kernel_rfl) (by rw [ls67]; simp only [List.forall_mem_cons]; exact ⟨qJ (key := 3) (li := l67_3) (by kernel_rfl) rfl (fun _ => rfl) (L67_3_eq), fun _ h => by cases h⟩) d67 (F67_eq fuel)
noncomputable def B96_2 (_n : Nat) (L : zUm × (zTp × (List Int) × Unit) × Unit → Option zTz) (t_6 : List (Int × zTf)) (t_7 : Int) (t_8 : Int) (o_1 : zTe × (List (Int × zTf))) (o_2 : List Int) : Option zTz :=
  cond (decide (t_8 < t_7)) (qi t_6 t_8 fun e1 => cond (e1.2.1 == 2) (qa (g109 (o_1, t_8, ())) fun y2 => cond (!y2.1.1) (jF ((o_2.length : Int) + [t_8].length) (L ((t_6, t_7, (IntKind.wrap .i64 (t_8 + 1)), ()), (o_1, (o_2 ++ [t_8]), ()), ()))) (L ((t_6, t_7, (IntKind.wrap .i64 (t_8 + 1)), ()), (o_1, o_2, ()), ()))) (L ((t_6, t_7, (IntKind.wrap .i64 (t_8 + 1)), ()), (o_1, o_2, ()), ()))) (some ((), (o_2, ()), ()))
noncomputable def L96_2 : Nat → zUm × (zTp × (List Int) × Unit) × Unit → Option zTz
  | 0, _ => none
  | n + 1, d => B96_2 n (L96_2 n) d.1.1 d.1.2.1 d.1.2.2.1 d.2.1.1 d.2.1.2.1
noncomputable def l96_2 : jL := ⟨⟨[(1, .c (.ptr 1 [])), (2, .c (.view 2 [])), (6, .v (.list false 68 (.str (.pair zI qQ)))), (7, .v zI), (8, .v zI)], [(1, false, .str (.pair (.str zTb) (.list false 68 (.str (.pair zI qQ))))), (2, true, .list true 3 zI)], none⟩, [(.exit 0, ⟨[(2, .c (.view 2 []))], [(2, true, .list true 3 zI)], none⟩)], L96_2⟩
noncomputable def F96 (n : Nat) (l_0 : zTp) : Option (zTs × (Unit)) :=
  qa (L96_2 n ((l_0.2, (l_0.2.length : Int), 0, ()), (l_0, ([] : List Int), ()), ())) fun o3 => some ((o3.2.1.1, ()), ())
noncomputable def g96 (d : zTp × Unit) : Option (zTs × (Unit)) := F96 fuel d.1
noncomputable def p96 : qI := ⟨[.v (.str (.pair (.str zTb) (.list false 68 (.str (.pair zI qQ)))))], [.own 3 zI], g96⟩
noncomputable def c96 : qX := ⟨28, tyT, [], [(109, p109)], [(2, l96_2)], [], [], [], [], [], [], [], [], [], none⟩
theorem F96_eq (n : Nat) (d) : qA c96 n Tryz.f96 (body Tryz.f96) p96.ps p96.rs d = F96 n d.1 := by kernel_rfl
theorem L96_2_eq (n : Nat) (d) : (l96_2).g (n + 1) d = run c96 n (nth 0 (qe (body Tryz.f96))) ((l96_2).ins.fill d) (qO (l96_2) n) := by kernel_rfl
theorem ls96 : qe (body Tryz.f96) = [nth 0 (qe (body Tryz.f96))] := by kernel_rfl
theorem d96 : qn c96 (body Tryz.f96) = true := by kernel_rfl
theorem h96 : qz Tryz.prog 96 p96 := hQ (cfg := c96) (qo qq (qd h109 qh) rfl (by kernel_rfl)) Tryz.func96 (by kernel_rfl) (by rw [ls96]; simp only [List.forall_mem_cons]; exact ⟨qJ (key := 2) (li := l96_2) (by kernel_rfl) rfl (fun _ => rfl) (L96_2_eq), fun _ h => by cases h⟩) d96 (F96_eq fuel)
noncomputable def B68_3 (_n : Nat) (L : zUu × (zTp × (List Int) × (List Int) × Unit) × Unit → Option zTz) (ride_1 : Int) (t_11 : Int) (t_12 : Int) (o_2 : zTe × (List (Int × zTf))) (o_5 : List Int) (o_11000 : List Int) : Option zTz :=
  cond (decide (t_12 < t_11)) (jQ t_12 o_11000.length (qi o_11000 t_12 fun e2 => qi o_2.2 e2 fun e3 => cond (e3.2.2.1 == ride_1) (jQ e3.2.2.2.1 4 (qi o_5 e3.2.2.2.1 fun e4 => jQ e3.2.2.2.1 4 (qi o_5 e3.2.2.2.1 fun _ => L ((ride_1, t_11, (IntKind.wrap .i64 (t_12 + 1)), ()), (o_2, (o_5.set e3.2.2.2.1.toNat (IntKind.wrap .i64 (e4 + 1))), o_11000, ()), ())))) (L ((ride_1, t_11, (IntKind.wrap .i64 (t_12 + 1)), ()), (o_2, o_5, o_11000, ()), ())))) (some ((), (o_5, ()), ()))
noncomputable def L68_3 : Nat → zUu × (zTp × (List Int) × (List Int) × Unit) × Unit → Option zTz
  | 0, _ => none
  | n + 1, d => B68_3 n (L68_3 n) d.1.1 d.1.2.1 d.1.2.2.1 d.2.1.1 d.2.1.2.1 d.2.1.2.2.1
noncomputable def l68_3 : jL := ⟨⟨[(1, .v zI), (2, .c (.ptr 2 [])), (5, .c (.ptr 5 [])), (10, .c (.view 11000 [])), (11, .v zI), (12, .v zI)], [(2, false, .str (.pair (.str zTb) (.list false 68 (.str (.pair zI qQ))))), (5, false, .arr 4 zI), (11000, true, .list true 3 zI)], none⟩, [(.exit 0, ⟨[(5, .c (.ptr 5 []))], [(5, false, .arr 4 zI)], none⟩)], L68_3⟩
noncomputable def F68 (n : Nat) (l_0 : zTp) (ride_1 : Int) : Option zTl :=
  qa (g96 (l_0, ())) fun y1 => qa (L68_3 n ((ride_1, (y1.1.1.length : Int), 0, ()), (l_0, (List.replicate 4 (0 : Int)), y1.1.1, ()), ())) fun o6 => jQ 3 4 (qi o6.2.1.1 3 fun e7 => cond (e7 == 0) (jQ 2 4 (qi o6.2.1.1 2 fun e8 => some (((decide (e8 ≤ 1)), ()), ()))) (some ((false, ()), ())))
noncomputable def g68 (d : zTp × Int × Unit) : Option zTl := F68 fuel d.1 d.2.1
noncomputable def p68 : qI := ⟨[.v (.str (.pair (.str zTb) (.list false 68 (.str (.pair zI qQ))))), .v zI], [.v .bool], g68⟩
noncomputable def c68 : qX := ⟨40, tyT, [], [(96, p96)], [(3, l68_3)], [], [], [], [], [], [], [], [], [], none⟩
theorem F68_eq (n : Nat) (d) : qA c68 n Tryz.f68 (body Tryz.f68) p68.ps p68.rs d = F68 n d.1 d.2.1 := by kernel_rfl
theorem L68_3_eq (n : Nat) (d) : (l68_3).g (n + 1) d = run c68 n (nth 0 (qe (body Tryz.f68))) ((l68_3).ins.fill d) (qO (l68_3) n) := by kernel_rfl
theorem ls68 : qe (body Tryz.f68) = [nth 0 (qe (body Tryz.f68))] := by kernel_rfl
theorem d68 : qn c68 (body Tryz.f68) = true := by kernel_rfl
theorem h68 : qz Tryz.prog 68 p68 := hQ (cfg := c68) (qo qq (qd h96 qh) rfl (by kernel_rfl)) Tryz.func68 (by kernel_rfl) (by rw [ls68]; simp only [List.forall_mem_cons]; exact ⟨qJ (key := 3) (li := l68_3) (by kernel_rfl) rfl (fun _ => rfl) (L68_3_eq), fun _ h => by cases h⟩) d68 (F68_eq fuel)
noncomputable def F70 (_n : Nat) (x_0 : (Int × zTf)) (t_1 : Int) : Option zTl :=
  cond (x_0.2.1 == 4) (some (((x_0.2.2.1 == t_1), ()), ())) (some ((false, ()), ()))
noncomputable def g70 (d : (Int × zTf) × Int × Unit) : Option zTl := F70 fuel d.1 d.2.1
noncomputable def p70 : qI := ⟨[.v (.str (.pair zI qQ)), .r zI], [.v .bool], g70⟩
noncomputable def c70 : qX := ⟨13, tyT, [], [], [], [], [], [], [], [], [], [], [], [], none⟩
theorem F70_eq (n : Nat) (d) : qA c70 n Tryz.f70 (body Tryz.f70) p70.ps p70.rs d = F70 n d.1 d.2.1 := by kernel_rfl
theorem d70 : qn c70 (body Tryz.f70) = true := by kernel_rfl
theorem h70 : qz Tryz.prog 70 p70 := hQ (cfg := c70) (qo qq (qh) rfl (by kernel_rfl)) Tryz.func70 (by kernel_rfl) (qr (by kernel_rfl)) d70 (F70_eq fuel)
noncomputable def Q71_2 (_n : Nat) (L : (Int × Int × Unit) → Option (X × (Int × Unit))) (t_8 : (Int × zTf)) (ride_3 : Int) (t_4 : Int) : Option (X × (Int × Unit)) :=
  cond (t_8.2.1 == 5) (cond (t_8.2.2.1 == ride_3) (some (.ret, (t_8.2.2.2.1, ()))) (L (ride_3, t_4, ()))) (L (ride_3, t_4, ()))
noncomputable def R71_2 (n : Nat) : List (Int × zTf) → (Int × Int × Unit) → Option (X × (Int × Unit))
  | [], d => some (.norm, (d.2.1, ()))
  | x :: r, d => Q71_2 n (R71_2 n r) x d.1 d.2.1
noncomputable def qiV : qcF := ⟨.str (.pair zI qQ), [3, 4], [.r zI, .m zI], [.norm, .ret], R71_2⟩
noncomputable def F71 (n : Nat) (l_0 : zTp) (ride_1 : Int) : Option zTq :=
  qa (Ib.m97.p.g (l_0, ())) fun y1 => qa y1.1.1 fun q2 => qa (Ib.it114.g (q2, ())) fun l4 => qa (R71_2 n l4 (ride_1, (0 : Int), ())) fun o3 => cond (X.same .norm o3.1) (qi l_0.1.2.2 ride_1 fun e5 => some ((e5, ()), ())) (cond (X.same .ret o3.1) (some ((o3.2.1, ()), ())) (none))
noncomputable def g71 (d : zTp × Int × Unit) : Option zTq := F71 fuel d.1 d.2.1
noncomputable def p71 : qI := ⟨[.v (.str (.pair (.str zTb) (.list false 68 (.str (.pair zI qQ))))), .v zI], [.v zI], g71⟩
noncomputable def c71 : qX := ⟨26, tyT, [], [], [], [], [], [(114, Ib.it114)], [(2, qiV)], [(97, Ib.m97)], [], [], [], [], none⟩
theorem F71_eq (n : Nat) (d) : qA c71 n Tryz.f71 (body Tryz.f71) p71.ps p71.rs d = F71 n d.1 d.2.1 := by kernel_rfl
theorem R71_2_eq (n : Nat) (x r d) : (qiV).g n (x :: r) d = run c71 n (asR (nth 0 (j3 (body Tryz.f71)))) (qeL qiV 8 d x) (qgb (qhX c71 qiV n (bdR (nth 0 (j3 (body Tryz.f71)))) r d) qjl) := by kernel_rfl
theorem rs71 : j3 (body Tryz.f71) = [nth 0 (j3 (body Tryz.f71))] := by kernel_rfl
theorem d71 : qco c71 (body Tryz.f71) = true := by kernel_rfl
theorem h71 : qz Tryz.prog 71 p71 := qgQ mixed (cfg := c71) (qo qq (qh) rfl (by kernel_rfl) (qhF (qfb Ib.k97 qhH))) (qjS Ib.it114_ok itNil) Tryz.func71 rfl rfl (by kernel_rfl) rfl (qr (by kernel_rfl)) (by rw [rs71]; simp only [List.forall_mem_cons]; exact ⟨qgq (key := 2) (li := qiV) (p := 8) (by kernel_rfl) rfl (by kernel_rfl) (by kernel_rfl) (qr (by kernel_rfl)) (fun _ _ => rfl) R71_2_eq, fun _ h => by cases h⟩) d71 (fun d y h => ⟨fuel, (F71_eq fuel d).trans h⟩)
noncomputable def F40 (_n : Nat) (l_0 : zTp) (ride_1 : Int) (day_2 : Int) : Option (zTs × (Unit)) :=
  qa (g67 (l_0, ride_1, ())) fun y1 => qa (g66 (1, (decide (y1.1.1 < day_2)), ([] : List Int), ())) fun y2 => qa (g68 (l_0, ride_1, ())) fun y3 => qa (g66 (2, (!y3.1.1), y2.2.1, ())) fun y4 => qa (g69 (l_0, ride_1, (fun v5 => qa (g70 (v5, ride_1, ())) fun y6 => some y6.1.1), ())) fun y7 => qa (g66 (3, (y7.1.1 != day_2), y4.2.1, ())) fun y8 => qa (g71 (l_0, ride_1, ())) fun y9 => qa (g66 (4, (decide (y9.1.1 < day_2)), y8.2.1, ())) fun y10 => some ((y10.2.1, ()), ())
noncomputable def g40 (d : zTp × Int × Int × Unit) : Option (zTs × (Unit)) := F40 fuel d.1 d.2.1 d.2.2.1
noncomputable def p40 : qI := ⟨[.v (.str (.pair (.str zTb) (.list false 68 (.str (.pair zI qQ))))), .v zI, .v zI], [.v jD], g40⟩
noncomputable def c40 : qX := ⟨38, tyT, [(6, .list true 3 zI)], [(66, p66), (67, p67), (68, p68), (69, p69), (70, p70), (71, p71)], [], [], [], [], [], [], [], [], [], [], none⟩
theorem F40_eq (n : Nat) (d) : qA c40 n Tryz.f40 (body Tryz.f40) p40.ps p40.rs d = F40 n d.1 d.2.1 d.2.2.1 := by kernel_rfl
theorem d40 : qn c40 (body Tryz.f40) = true := by kernel_rfl
theorem h40 : qz Tryz.prog 40 p40 := hQ (cfg := c40) (qo qq (qd h66 (qd h67 (qd h68 (qd h69 (qd h70 (qd h71 qh)))))) rfl (by kernel_rfl)) Tryz.func40 (by kernel_rfl) (qr (by kernel_rfl)) d40 (F40_eq fuel)
noncomputable def B13_5 (_n : Nat) (L : zUu × ((List Int) × zTp × Unit) × Unit → Option zTz) (day_2 : Int) (t_23 : Int) (t_24 : Int) (o_6 : List Int) (o_8 : zTe × (List (Int × zTf))) : Option zTz :=
  cond (decide (t_24 < t_23)) (qa (g40 (o_8, t_24, day_2, ())) fun y2 => cond ((y2.1.1.length : Int) == 0) (jF ((o_6.length : Int) + [t_24].length) (L ((day_2, t_23, (IntKind.wrap .i64 (t_24 + 1)), ()), ((o_6 ++ [t_24]), o_8, ()), ()))) (L ((day_2, t_23, (IntKind.wrap .i64 (t_24 + 1)), ()), (o_6, o_8, ()), ()))) (some ((), (o_6, ()), ()))
noncomputable def L13_5 : Nat → zUu × ((List Int) × zTp × Unit) × Unit → Option zTz
  | 0, _ => none
  | n + 1, d => B13_5 n (L13_5 n) d.1.1 d.1.2.1 d.1.2.2.1 d.2.1.1 d.2.1.2.1
noncomputable def l13_5 : jL := ⟨⟨[(2, .v zI), (6, .c (.view 6 [])), (8, .c (.ptr 8 [])), (23, .v zI), (24, .v zI)], [(6, true, .list true 3 zI), (8, false, .str (.pair (.str zTb) (.list false 68 (.str (.pair zI qQ)))))], none⟩, [(.exit 0, ⟨[(6, .c (.view 6 []))], [(6, true, .list true 3 zI)], none⟩)], L13_5⟩
noncomputable def F13 (n : Nat) (b_0 : zTe) (entries_1 : (List (Int × zTf))) (day_2 : Int) : Option zUd :=
  qa (g39 (b_0, entries_1, day_2, ())) fun y1 => cond (y1.1.2.1 != 0) (some ((([] : List Int), y1.1.2.1, ()), ())) (qa (L13_5 n ((day_2, (y1.1.1.1.2.2.length : Int), 0, ()), (([] : List Int), y1.1.1, ()), ())) fun o3 => some ((o3.2.1.1, 0, ()), ()))
noncomputable def g13 (d : zTe × (List (Int × zTf)) × Int × Unit) : Option zUd := F13 fuel d.1 d.2.1 d.2.2.1
noncomputable def p13 : qI := ⟨[.v (.str zTb), .v (.list false 68 (.str (.pair zI qQ))), .v zI], [.own 3 zI, .v zI], g13⟩
noncomputable def c13 : qX := ⟨39, tyT, [], [(39, p39), (40, p40)], [(5, l13_5)], [], [], [], [], [], [], [], [], [], none⟩
theorem F13_eq (n : Nat) (d) : qA c13 n Tryz.f13 (body Tryz.f13) p13.ps p13.rs d = F13 n d.1 d.2.1 d.2.2.1 := by kernel_rfl
theorem L13_5_eq (n : Nat) (d) : (l13_5).g (n + 1) d = run c13 n (nth 0 (qe (body Tryz.f13))) ((l13_5).ins.fill d) (qO (l13_5) n) := by kernel_rfl
theorem ls13 : qe (body Tryz.f13) = [nth 0 (qe (body Tryz.f13))] := by kernel_rfl
theorem d13 : qn c13 (body Tryz.f13) = true := by kernel_rfl
theorem h13 : qz Tryz.prog 13 p13 := hQ (cfg := c13) (qo qq (qd h39 (qd h40 qh)) rfl (by kernel_rfl)) Tryz.func13 (by kernel_rfl) (by rw [ls13]; simp only [List.forall_mem_cons]; exact ⟨qJ (key := 5) (li := l13_5) (by kernel_rfl) rfl (fun _ => rfl) (L13_5_eq), fun _ h => by cases h⟩) d13 (F13_eq fuel)
noncomputable def F111 (_n : Nat) (a_0 : (List Int)) : Option zTq :=
  jQ 0 3 (qi a_0 0 fun e1 => jQ 1 3 (qi a_0 1 fun e2 => jQ 2 3 (qi a_0 2 fun e3 => some (((max (max e1 e2) e3), ()), ()))))
noncomputable def g111 (d : (List Int) × Unit) : Option zTq := F111 fuel d.1
noncomputable def p111 : qI := ⟨[.v zUb], [.v zI], g111⟩
noncomputable def c111 : qX := ⟨10, tyT, [], [], [], [], [], [], [], [], [], [], [], [], none⟩
theorem F111_eq (n : Nat) (d) : qA c111 n Tryz.f111 (body Tryz.f111) p111.ps p111.rs d = F111 n d.1 := by kernel_rfl
theorem d111 : qn c111 (body Tryz.f111) = true := by kernel_rfl
theorem h111 : qz Tryz.prog 111 p111 := hQ (cfg := c111) (qo qq (qh) rfl (by kernel_rfl)) Tryz.func111 (by kernel_rfl) (qr (by kernel_rfl)) d111 (F111_eq fuel)
noncomputable def F112 (_n : Nat) (s_0 : zTk) (b_1 : Int) : Option zTq :=
  cond (b_1 == (s_0.1.length : Int)) (some ((s_0.2.2.1, ()), ())) (cond (b_1 == (-1)) (some ((s_0.2.2.1, ()), ())) (qi s_0.1 b_1 fun e1 => some ((e1.2.1, ()), ())))
noncomputable def g112 (d : zTk × Int × Unit) : Option zTq := F112 fuel d.1 d.2.1
noncomputable def p112 : qI := ⟨[.v (.str (.pair (.list false 51 (.str qQ)) (.pair (.list false 116 (.str qQ)) (.pair zI zTh)))), .v zI], [.v zI], g112⟩
noncomputable def c112 : qX := ⟨22, tyT, [], [], [], [], [], [], [], [], [], [], [], [], none⟩
theorem F112_eq (n : Nat) (d) : qA c112 n Tryz.f112 (body Tryz.f112) p112.ps p112.rs d = F112 n d.1 d.2.1 := by kernel_rfl
theorem d112 : qn c112 (body Tryz.f112) = true := by kernel_rfl
theorem h112 : qz Tryz.prog 112 p112 := hQ (cfg := c112) (qo qq (qh) rfl (by kernel_rfl)) Tryz.func112 (by kernel_rfl) (qr (by kernel_rfl)) d112 (F112_eq fuel)
noncomputable def B92_5 (_n : Nat) (L : (Int × Int × Unit) × (zTk × (List (List Int)) × Unit) × Unit → Option (((Int × Bool × Unit) × (Unit) × Unit) ⊕ zTr)) (t_23 : Int) (t_24 : Int) (o_2 : (List zTf) × zUj) (o_11000 : List (List Int)) : Option (((Int × Bool × Unit) × (Unit) × Unit) ⊕ zTr) :=
  cond (decide (t_24 < t_23)) (jQ t_24 o_11000.length (qi o_11000 t_24 fun e4 => qa (g111 (e4, ())) fun y5 => qa (g112 (o_2, t_24, ())) fun y6 => cond (decide (y5.1.1 > y6.1.1)) (some (.inl ((t_24, true, ()), (), ()))) (L ((t_23, (IntKind.wrap .i64 (t_24 + 1)), ()), (o_2, o_11000, ()), ())))) (some (.inr ((), (), ())))
noncomputable def L92_5 : Nat → (Int × Int × Unit) × (zTk × (List (List Int)) × Unit) × Unit → Option (((Int × Bool × Unit) × (Unit) × Unit) ⊕ zTr)
  | 0, _ => none
  | n + 1, d => B92_5 n (L92_5 n) d.1.1 d.1.2.1 d.2.1.1 d.2.1.2.1
noncomputable def l92_5 : jL := ⟨⟨[(2, .c (.ptr 2 [])), (6, .c (.view 11000 [])), (23, .v zI), (24, .v zI)], [(2, false, .str (.pair (.list false 51 (.str qQ)) (.pair (.list false 116 (.str qQ)) (.pair zI zTh)))), (11000, true, .list true 89 zUb)], none⟩, [(.ret, ⟨[(4, .v zI), (5, .v .bool)], [], none⟩), (.exit 0, ⟨[], [], none⟩)], L92_5⟩
noncomputable def F92 (n : Nat) (s_0 : zTk) (set_1 : Int) : Option ((Int × Bool × Unit) × (Unit)) :=
  qa (g32 (s_0, set_1, ())) fun y1 => jQ (s_0.1.length : Int) y1.1.1.length (qi y1.1.1 (s_0.1.length : Int) fun e2 => qa (g111 (e2, ())) fun y3 => cond (decide (y3.1.1 > s_0.2.2.1)) (some (((-1), true, ()), ())) (qa (L92_5 n (((s_0.1.length : Int), 0, ()), (s_0, y1.1.1, ()), ())) fun o7 => qbS o7 (fun d8 => some ((d8.1.1, d8.1.2.1, ()), ())) (fun _ => some ((0, false, ()), ()))))
noncomputable def g92 (d : zTk × Int × Unit) : Option ((Int × Bool × Unit) × (Unit)) := F92 fuel d.1 d.2.1
noncomputable def p92 : qI := ⟨[.v (.str (.pair (.list false 51 (.str qQ)) (.pair (.list false 116 (.str qQ)) (.pair zI zTh)))), .v zI], [.v zI, .v .bool], g92⟩
noncomputable def c92 : qX := ⟨38, tyT, [], [(32, p32), (111, p111), (112, p112)], [(5, l92_5)], [], [], [], [], [], [], [], [], [], none⟩
theorem F92_eq (n : Nat) (d) : qA c92 n Tryz.f92 (body Tryz.f92) p92.ps p92.rs d = F92 n d.1 d.2.1 := by kernel_rfl
theorem L92_5_eq (n : Nat) (d) : (l92_5).g (n + 1) d = run c92 n (nth 0 (qe (body Tryz.f92))) ((l92_5).ins.fill d) (qO (l92_5) n) := by kernel_rfl
theorem ls92 : qe (body Tryz.f92) = [nth 0 (qe (body Tryz.f92))] := by kernel_rfl
theorem d92 : qn c92 (body Tryz.f92) = true := by kernel_rfl
theorem h92 : qz Tryz.prog 92 p92 := hQ (cfg := c92) (qo qq (qd h32 (qd h111 (qd h112 qh))) rfl (by kernel_rfl)) Tryz.func92 (by kernel_rfl) (by rw [ls92]; simp only [List.forall_mem_cons]; exact ⟨qJ (key := 5) (li := l92_5) (by kernel_rfl) rfl (fun _ => rfl) (L92_5_eq), fun _ h => by cases h⟩) d92 (F92_eq fuel)
noncomputable def F63 (_n : Nat) (s_0 : zTk) (set_1 : Int) : Option ((Int × Bool × Int × Unit) × (Unit)) :=
  qa (g31 (s_0, set_1, ())) fun y1 => cond (y1.1.1 != 0) (some ((0, false, y1.1.1, ()), ())) (qa (g92 (s_0, set_1, ())) fun y2 => some ((y2.1.1, (!y2.1.2.1), 0, ()), ()))
noncomputable def g63 (d : zTk × Int × Unit) : Option ((Int × Bool × Int × Unit) × (Unit)) := F63 fuel d.1 d.2.1
noncomputable def p63 : qI := ⟨[.v (.str (.pair (.list false 51 (.str qQ)) (.pair (.list false 116 (.str qQ)) (.pair zI zTh)))), .v zI], [.v zI, .v .bool, .v zI], g63⟩
noncomputable def c63 : qX := ⟨25, tyT, [], [(31, p31), (92, p92)], [], [], [], [], [], [], [], [], [], [], none⟩
theorem F63_eq (n : Nat) (d) : qA c63 n Tryz.f63 (body Tryz.f63) p63.ps p63.rs d = F63 n d.1 d.2.1 := by kernel_rfl
theorem d63 : qn c63 (body Tryz.f63) = true := by kernel_rfl
theorem h63 : qz Tryz.prog 63 p63 := hQ (cfg := c63) (qo qq (qd h31 (qd h92 qh)) rfl (by kernel_rfl)) Tryz.func63 (by kernel_rfl) (qr (by kernel_rfl)) d63 (F63_eq fuel)
noncomputable def B38_6 (_n : Nat) (L : zUu × (zTc × (List Int) × (List Int) × Unit) × Unit → Option zTz) (set_5 : Int) (t_24 : Int) (t_25 : Int) (o_1 : zTt × zUi) (o_2 : List Int) (o_19000 : List Int) : Option zTz :=
  cond (decide (t_25 < t_24)) (jQ t_25 o_19000.length (qi o_19000 t_25 fun e2 => qbU e2 (qa (g63 (o_1.2.2.2.2.1, (qbl .or .i64 set_5 (qeh .i64 1 e2)), ())) fun y3 => cond (y3.1.2.2.1 == 0) (cond y3.1.2.1 (qbU e2 (jF ((o_2.length : Int) + [e2].length) (L (((qbl .or .i64 set_5 (qeh .i64 1 e2)), t_24, (IntKind.wrap .i64 (t_25 + 1)), ()), (o_1, (o_2 ++ [e2]), o_19000, ()), ())))) (L ((set_5, t_24, (IntKind.wrap .i64 (t_25 + 1)), ()), (o_1, o_2, o_19000, ()), ()))) (L ((set_5, t_24, (IntKind.wrap .i64 (t_25 + 1)), ()), (o_1, o_2, o_19000, ()), ()))))) (some ((), (o_2, ()), ()))
noncomputable def L38_6 : Nat → zUu × (zTc × (List Int) × (List Int) × Unit) × Unit → Option zTz
  | 0, _ => none
  | n + 1, d => B38_6 n (L38_6 n) d.1.1 d.1.2.1 d.1.2.2.1 d.2.1.1 d.2.1.2.1 d.2.1.2.2.1
noncomputable def l38_6 : jL := ⟨⟨[(1, .c (.ptr 1 [])), (2, .c (.view 2 [])), (5, .v zI), (23, .c (.view 19000 [])), (24, .v zI), (25, .v zI)], [(1, false, .str (.pair (.str zTd) (.pair (.str zTb) (.pair (.list false 68 (.str (.pair zI qQ))) (.pair zI (.pair (.str (.pair (.list false 51 (.str qQ)) (.pair (.list false 116 (.str qQ)) (.pair zI zTh)))) (.pair jD jD))))))), (2, true, .list true 3 zI), (19000, true, .list true 3 zI)], none⟩, [(.exit 0, ⟨[(2, .c (.view 2 []))], [(2, true, .list true 3 zI)], none⟩)], L38_6⟩
noncomputable def F38 (n : Nat) (g_0 : zTc) : Option (zTs × (Unit)) :=
  qa (g13 (g_0.2.1, g_0.2.2.1, g_0.2.2.2.1, ())) fun y1 => cond (y1.1.2.1 != 0) (some ((([] : List Int), ()), ())) (qa (L38_6 n ((0, (y1.1.1.length : Int), 0, ()), (g_0, ([] : List Int), y1.1.1, ()), ())) fun o4 => some ((o4.2.1.1, ()), ()))
noncomputable def g38 (d : zTc × Unit) : Option (zTs × (Unit)) := F38 fuel d.1
noncomputable def p38 : qI := ⟨[.v (.str (.pair (.str zTd) (.pair (.str zTb) (.pair (.list false 68 (.str (.pair zI qQ))) (.pair zI (.pair (.str (.pair (.list false 51 (.str qQ)) (.pair (.list false 116 (.str qQ)) (.pair zI zTh)))) (.pair jD jD)))))))], [.own 3 zI], g38⟩
noncomputable def c38 : qX := ⟨55, tyT, [], [(13, p13), (63, p63)], [(6, l38_6)], [], [], [], [], [], [], [], [], [], none⟩
theorem F38_eq (n : Nat) (d) : qA c38 n Tryz.f38 (body Tryz.f38) p38.ps p38.rs d = F38 n d.1 := by kernel_rfl
theorem L38_6_eq (n : Nat) (d) : (l38_6).g (n + 1) d = run c38 n (nth 0 (qe (body Tryz.f38))) ((l38_6).ins.fill d) (qO (l38_6) n) := by kernel_rfl
theorem ls38 : qe (body Tryz.f38) = [nth 0 (qe (body Tryz.f38))] := by kernel_rfl
theorem d38 : qn c38 (body Tryz.f38) = true := by kernel_rfl
theorem h38 : qz Tryz.prog 38 p38 := hQ (cfg := c38) (qo qq (qd h13 (qd h63 qh)) rfl (by kernel_rfl)) Tryz.func38 (by kernel_rfl) (by rw [ls38]; simp only [List.forall_mem_cons]; exact ⟨qJ (key := 6) (li := l38_6) (by kernel_rfl) rfl (fun _ => rfl) (L38_6_eq), fun _ h => by cases h⟩) d38 (F38_eq fuel)
noncomputable def F12 (_n : Nat) (g_0 : zTc) : Option zUd :=
  qa (g8 (g_0, ())) fun y1 => cond (y1.1.1 != 0) (some ((([] : List Int), y1.1.1, ()), ())) (qa (g38 (g_0, ())) fun y2 => some ((y2.1.1, 0, ()), ()))
noncomputable def g12 (d : zTc × Unit) : Option zUd := F12 fuel d.1
noncomputable def p12 : qI := ⟨[.v (.str (.pair (.str zTd) (.pair (.str zTb) (.pair (.list false 68 (.str (.pair zI qQ))) (.pair zI (.pair (.str (.pair (.list false 51 (.str qQ)) (.pair (.list false 116 (.str qQ)) (.pair zI zTh)))) (.pair jD jD)))))))], [.own 3 zI, .v zI], g12⟩
noncomputable def c12 : qX := ⟨12, tyT, [], [(8, p8), (38, p38)], [], [], [], [], [], [], [], [], [], [], none⟩
theorem F12_eq (n : Nat) (d) : qA c12 n Tryz.f12 (body Tryz.f12) p12.ps p12.rs d = F12 n d.1 := by kernel_rfl
theorem d12 : qn c12 (body Tryz.f12) = true := by kernel_rfl
theorem h12 : qz Tryz.prog 12 p12 := hQ (cfg := c12) (qo qq (qd h8 (qd h38 qh)) rfl (by kernel_rfl)) Tryz.func12 (by kernel_rfl) (qr (by kernel_rfl)) d12 (F12_eq fuel)
end Go.Proofs.Tryz.V
