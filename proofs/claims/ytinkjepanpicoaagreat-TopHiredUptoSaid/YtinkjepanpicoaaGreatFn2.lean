/- The contracts of functions of the program, printed by program from the interpreter: each says what a call returns. No condition beyond those typed in each theorem. -/
import Derived.Test.YtinkjepanpicoaaGreatFn1
namespace Go.Proofs.Tryz.V
open Go.Vi
set_option maxRecDepth 100000
noncomputable def F49 (_n : Nat) (g_0 : zTo) (t_1 : zTt) : Option zTl :=
  qa (g51 (g_0.1, 0, 2000, ())) fun y1 => cond (!y1.1.1) (some ((true, ()), ())) (qa (g51 (g_0.2.1, 1, 40, ())) fun y2 => cond (!y2.1.1) (some ((true, ()), ())) (qa (g51 (g_0.2.2.1, 0, 10000, ())) fun y3 => cond (!y3.1.1) (some ((true, ()), ())) (qa (g51 (g_0.2.2.2.2, 0, 2000, ())) fun y4 => cond (!y4.1.1) (some ((true, ()), ())) (cond (decide ((g_0.2.2.2.1.length : Int) > 10)) (some ((true, ()), ())) (qa (g26 (g_0.2.2.2.1, (fun v5 => qa (g50 (v5, t_1, ())) fun y6 => some y6.1.1), ())) fun y7 => some ((y7.1.1, ()), ()))))))
noncomputable def g49 (d : zTo × zTt × Unit) : Option zTl := F49 fuel d.1 d.2.1
noncomputable def p49 : qI := ⟨[.v (.str (.pair zI (.pair zI (.pair zI (.pair jD zI))))), .r (.str zTd)], [.v .bool], g49⟩
noncomputable def c49 : qX := ⟨40, tyT, [], [(26, p26), (50, p50), (51, p51)], [], [], [], [], [], [], [], [], [], [], none⟩
theorem F49_eq (n : Nat) (d) : qA c49 n Tryz.f49 (body Tryz.f49) p49.ps p49.rs d = F49 n d.1 d.2.1 := by kernel_rfl
theorem d49 : qn c49 (body Tryz.f49) = true := by kernel_rfl
theorem h49 : qz Tryz.prog 49 p49 := hQ (cfg := c49) (qo qq (qd h26 (qd h50 (qd h51 qh))) rfl (by kernel_rfl)) Tryz.func49 (by kernel_rfl) (qr (by kernel_rfl)) d49 (F49_eq fuel)
noncomputable def B84_2 (_n : Nat) (L : ((List zTo) × (zTo → Option Bool) × Int × Int × Unit) × (Unit) × Unit → Option (zTm ⊕ zTr)) (s_0 : List zTo) (f_1 : zTo → Option Bool) (t_7 : Int) (t_8 : Int) : Option (zTm ⊕ zTr) :=
  cond (decide (t_8 < t_7)) (qi s_0 t_8 fun e1 => qa (f_1 e1) fun y2 => cond y2 (some (.inl ((t_8, ()), (), ()))) (L ((s_0, f_1, t_7, (IntKind.wrap .i64 (t_8 + 1)), ()), (), ()))) (some (.inr ((), (), ())))
noncomputable def L84_2 : Nat → ((List zTo) × (zTo → Option Bool) × Int × Int × Unit) × (Unit) × Unit → Option (zTm ⊕ zTr)
  | 0, _ => none
  | n + 1, d => B84_2 n (L84_2 n) d.1.1 d.1.2.1 d.1.2.2.1 d.1.2.2.2.1
noncomputable def l84_2 : jL := ⟨⟨[(0, .v (.list false 110 (.str (.pair zI (.pair zI (.pair zI (.pair jD zI))))))), (1, .v (.fn (.str (.pair zI (.pair zI (.pair zI (.pair jD zI))))) .bool)), (7, .v zI), (8, .v zI)], [], none⟩, [(.ret, ⟨[(4, .v zI)], [], none⟩), (.exit 0, ⟨[], [], none⟩)], L84_2⟩
noncomputable def F84 (n : Nat) (s_0 : (List zTo)) (f_1 : (zTo → Option Bool)) : Option zTq :=
  qa (L84_2 n ((s_0, f_1, (s_0.length : Int), 0, ()), (), ())) fun o3 => qbS o3 (fun d4 => some ((d4.1.1, ()), ())) (fun _ => some (((-1), ()), ()))
noncomputable def g84 (d : (List zTo) × (zTo → Option Bool) × Unit) : Option zTq := F84 fuel d.1 d.2.1
noncomputable def p84 : qI := ⟨[.v (.list false 110 (.str (.pair zI (.pair zI (.pair zI (.pair jD zI)))))), .v (.fn (.str (.pair zI (.pair zI (.pair zI (.pair jD zI))))) .bool)], [.v zI], g84⟩
noncomputable def c84 : qX := ⟨19, tyT, [], [], [(2, l84_2)], [], [], [], [], [], [], [], [], [], none⟩
theorem F84_eq (n : Nat) (d) : qA c84 n Tryz.f84 (body Tryz.f84) p84.ps p84.rs d = F84 n d.1 d.2.1 := by kernel_rfl
theorem L84_2_eq (n : Nat) (d) : (l84_2).g (n + 1) d = run c84 n (nth 0 (qe (body Tryz.f84))) ((l84_2).ins.fill d) (qO (l84_2) n) := by kernel_rfl
theorem ls84 : qe (body Tryz.f84) = [nth 0 (qe (body Tryz.f84))] := by kernel_rfl
theorem d84 : qn c84 (body Tryz.f84) = true := by kernel_rfl
theorem h84 : qz Tryz.prog 84 p84 := hQ (cfg := c84) (qo qq (qh) rfl (by kernel_rfl)) Tryz.func84 (by kernel_rfl) (by rw [ls84]; simp only [List.forall_mem_cons]; exact ⟨qJ (key := 2) (li := l84_2) (by kernel_rfl) rfl (fun _ => rfl) (L84_2_eq), fun _ h => by cases h⟩) d84 (F84_eq fuel)
noncomputable def F52 (_n : Nat) (s_0 : (List zTo)) (f_1 : (zTo → Option Bool)) : Option zTl :=
  qa (g84 (s_0, f_1, ())) fun y1 => some (((decide (y1.1.1 ≥ 0)), ()), ())
noncomputable def g52 (d : (List zTo) × (zTo → Option Bool) × Unit) : Option zTl := F52 fuel d.1 d.2.1
noncomputable def p52 : qI := ⟨[.v (.list false 110 (.str (.pair zI (.pair zI (.pair zI (.pair jD zI)))))), .v (.fn (.str (.pair zI (.pair zI (.pair zI (.pair jD zI))))) .bool)], [.v .bool], g52⟩
noncomputable def c52 : qX := ⟨9, tyT, [], [(84, p84)], [], [], [], [], [], [], [], [], [], [], none⟩
theorem F52_eq (n : Nat) (d) : qA c52 n Tryz.f52 (body Tryz.f52) p52.ps p52.rs d = F52 n d.1 d.2.1 := by kernel_rfl
theorem d52 : qn c52 (body Tryz.f52) = true := by kernel_rfl
theorem h52 : qz Tryz.prog 52 p52 := hQ (cfg := c52) (qo qq (qd h84 qh) rfl (by kernel_rfl)) Tryz.func52 (by kernel_rfl) (qr (by kernel_rfl)) d52 (F52_eq fuel)
noncomputable def F20 (_n : Nat) (f_0 : zTt) (l_1 : (List zTo)) : Option zTq :=
  qa (g48 (f_0, ())) fun y1 => cond (y1.1.1 != 0) (some ((y1.1.1, ()), ())) (cond (decide ((l_1.length : Int) > 60)) (some ((71, ()), ())) (qa (g52 (l_1, (fun v2 => qa (g49 (v2, f_0, ())) fun y3 => some y3.1.1), ())) fun y4 => cond y4.1.1 (some ((71, ()), ())) (some ((0, ()), ()))))
noncomputable def g20 (d : zTt × (List zTo) × Unit) : Option zTq := F20 fuel d.1 d.2.1
noncomputable def p20 : qI := ⟨[.v (.str zTd), .v (.list false 110 (.str (.pair zI (.pair zI (.pair zI (.pair jD zI))))))], [.v zI], g20⟩
noncomputable def c20 : qX := ⟨21, tyT, [], [(48, p48), (49, p49), (52, p52)], [], [], [], [], [], [], [], [], [], [], none⟩
theorem F20_eq (n : Nat) (d) : qA c20 n Tryz.f20 (body Tryz.f20) p20.ps p20.rs d = F20 n d.1 d.2.1 := by kernel_rfl
theorem d20 : qn c20 (body Tryz.f20) = true := by kernel_rfl
theorem h20 : qz Tryz.prog 20 p20 := hQ (cfg := c20) (qo qq (qd h48 (qd h49 (qd h52 qh))) rfl (by kernel_rfl)) Tryz.func20 (by kernel_rfl) (qr (by kernel_rfl)) d20 (F20_eq fuel)
noncomputable def B120_2 (_n : Nat) (L : ((List zTj) × (zTj → Option Bool) × Int × Int × Unit) × (Unit) × Unit → Option (zTm ⊕ zTr)) (s_0 : List zTj) (f_1 : zTj → Option Bool) (t_7 : Int) (t_8 : Int) : Option (zTm ⊕ zTr) :=
  cond (decide (t_8 < t_7)) (qi s_0 t_8 fun e1 => qa (f_1 e1) fun y2 => cond y2 (some (.inl ((t_8, ()), (), ()))) (L ((s_0, f_1, t_7, (IntKind.wrap .i64 (t_8 + 1)), ()), (), ()))) (some (.inr ((), (), ())))
noncomputable def L120_2 : Nat → ((List zTj) × (zTj → Option Bool) × Int × Int × Unit) × (Unit) × Unit → Option (zTm ⊕ zTr)
  | 0, _ => none
  | n + 1, d => B120_2 n (L120_2 n) d.1.1 d.1.2.1 d.1.2.2.1 d.1.2.2.2.1
noncomputable def l120_2 : jL := ⟨⟨[(0, .v (.list false 150 (.str zTi))), (1, .v (.fn (.str zTi) .bool)), (7, .v zI), (8, .v zI)], [], none⟩, [(.ret, ⟨[(4, .v zI)], [], none⟩), (.exit 0, ⟨[], [], none⟩)], L120_2⟩
noncomputable def F120 (n : Nat) (s_0 : (List zTj)) (f_1 : (zTj → Option Bool)) : Option zTq :=
  qa (L120_2 n ((s_0, f_1, (s_0.length : Int), 0, ()), (), ())) fun o3 => qbS o3 (fun d4 => some ((d4.1.1, ()), ())) (fun _ => some (((-1), ()), ()))
noncomputable def g120 (d : (List zTj) × (zTj → Option Bool) × Unit) : Option zTq := F120 fuel d.1 d.2.1
noncomputable def p120 : qI := ⟨[.v (.list false 150 (.str zTi)), .v (.fn (.str zTi) .bool)], [.v zI], g120⟩
noncomputable def c120 : qX := ⟨19, tyT, [], [], [(2, l120_2)], [], [], [], [], [], [], [], [], [], none⟩
theorem F120_eq (n : Nat) (d) : qA c120 n Tryz.f120 (body Tryz.f120) p120.ps p120.rs d = F120 n d.1 d.2.1 := by kernel_rfl
theorem L120_2_eq (n : Nat) (d) : (l120_2).g (n + 1) d = run c120 n (nth 0 (qe (body Tryz.f120))) ((l120_2).ins.fill d) (qO (l120_2) n) := by kernel_rfl
theorem ls120 : qe (body Tryz.f120) = [nth 0 (qe (body Tryz.f120))] := by kernel_rfl
theorem d120 : qn c120 (body Tryz.f120) = true := by kernel_rfl
theorem h120 : qz Tryz.prog 120 p120 := hQ (cfg := c120) (qo qq (qh) rfl (by kernel_rfl)) Tryz.func120 (by kernel_rfl) (by rw [ls120]; simp only [List.forall_mem_cons]; exact ⟨qJ (key := 2) (li := l120_2) (by kernel_rfl) rfl (fun _ => rfl) (L120_2_eq), fun _ h => by cases h⟩) d120 (F120_eq fuel)
noncomputable def F103 (_n : Nat) (s_0 : (List zTj)) (f_1 : (zTj → Option Bool)) : Option zTl :=
  qa (g120 (s_0, f_1, ())) fun y1 => some (((decide (y1.1.1 ≥ 0)), ()), ())
noncomputable def g103 (d : (List zTj) × (zTj → Option Bool) × Unit) : Option zTl := F103 fuel d.1 d.2.1
noncomputable def p103 : qI := ⟨[.v (.list false 150 (.str zTi)), .v (.fn (.str zTi) .bool)], [.v .bool], g103⟩
noncomputable def c103 : qX := ⟨9, tyT, [], [(120, p120)], [], [], [], [], [], [], [], [], [], [], none⟩
theorem F103_eq (n : Nat) (d) : qA c103 n Tryz.f103 (body Tryz.f103) p103.ps p103.rs d = F103 n d.1 d.2.1 := by kernel_rfl
theorem d103 : qn c103 (body Tryz.f103) = true := by kernel_rfl
theorem h103 : qz Tryz.prog 103 p103 := hQ (cfg := c103) (qo qq (qd h120 qh) rfl (by kernel_rfl)) Tryz.func103 (by kernel_rfl) (qr (by kernel_rfl)) d103 (F103_eq fuel)
noncomputable def F64 (_n : Nat) (n_0 : Int) (low_1 : Int) (high_2 : Int) : Option zTl :=
  cond (decide (n_0 ≥ low_1)) (some (((decide (n_0 ≤ high_2)), ()), ())) (some ((false, ()), ()))
noncomputable def g64 (d : Int × Int × Int × Unit) : Option zTl := F64 fuel d.1 d.2.1 d.2.2.1
noncomputable def p64 : qI := ⟨[.v zI, .v zI, .v zI], [.v .bool], g64⟩
noncomputable def c64 : qX := ⟨15, tyT, [], [], [], [], [], [], [], [], [], [], [], [], none⟩
theorem F64_eq (n : Nat) (d) : qA c64 n Tryz.f64 (body Tryz.f64) p64.ps p64.rs d = F64 n d.1 d.2.1 d.2.2.1 := by kernel_rfl
theorem d64 : qn c64 (body Tryz.f64) = true := by kernel_rfl
theorem h64 : qz Tryz.prog 64 p64 := hQ (cfg := c64) (qo qq (qh) rfl (by kernel_rfl)) Tryz.func64 (by kernel_rfl) (qr (by kernel_rfl)) d64 (F64_eq fuel)
noncomputable def F104 (_n : Nat) (r_0 : zTj) (t_1 : zTe) : Option zTl :=
  qa (g64 (r_0.1, 0, (IntKind.wrap .i64 ((t_1.2.2.length : Int) - 1)), ())) fun y1 => cond (!y1.1.1) (some ((true, ()), ())) (qa (g64 (r_0.2.1, 1, 10000, ())) fun y2 => cond (!y2.1.1) (some ((true, ()), ())) (qa (g64 (r_0.2.2.1, 0, 9, ())) fun y3 => some (((!y3.1.1), ()), ())))
noncomputable def g104 (d : zTj × zTe × Unit) : Option zTl := F104 fuel d.1 d.2.1
noncomputable def p104 : qI := ⟨[.v (.str zTi), .r (.str zTb)], [.v .bool], g104⟩
noncomputable def c104 : qX := ⟨24, tyT, [], [(64, p64)], [], [], [], [], [], [], [], [], [], [], none⟩
theorem F104_eq (n : Nat) (d) : qA c104 n Tryz.f104 (body Tryz.f104) p104.ps p104.rs d = F104 n d.1 d.2.1 := by kernel_rfl
theorem d104 : qn c104 (body Tryz.f104) = true := by kernel_rfl
theorem h104 : qz Tryz.prog 104 p104 := hQ (cfg := c104) (qo qq (qd h64 qh) rfl (by kernel_rfl)) Tryz.func104 (by kernel_rfl) (qr (by kernel_rfl)) d104 (F104_eq fuel)
noncomputable def F105 (_n : Nat) (n_0 : Int) : Option zTl :=
  qa (g64 (n_0, 0, 9, ())) fun y1 => some (((!y1.1.1), ()), ())
noncomputable def g105 (d : Int × Unit) : Option zTl := F105 fuel d.1
noncomputable def p105 : qI := ⟨[.v zI], [.v .bool], g105⟩
noncomputable def c105 : qX := ⟨6, tyT, [], [(64, p64)], [], [], [], [], [], [], [], [], [], [], none⟩
theorem F105_eq (n : Nat) (d) : qA c105 n Tryz.f105 (body Tryz.f105) p105.ps p105.rs d = F105 n d.1 := by kernel_rfl
theorem d105 : qn c105 (body Tryz.f105) = true := by kernel_rfl
theorem h105 : qz Tryz.prog 105 p105 := hQ (cfg := c105) (qo qq (qd h64 qh) rfl (by kernel_rfl)) Tryz.func105 (by kernel_rfl) (qr (by kernel_rfl)) d105 (F105_eq fuel)
noncomputable def F106 (_n : Nat) (n_0 : Int) : Option zTl :=
  qa (g64 (n_0, 0, 10000, ())) fun y1 => some (((!y1.1.1), ()), ())
noncomputable def g106 (d : Int × Unit) : Option zTl := F106 fuel d.1
noncomputable def p106 : qI := ⟨[.v zI], [.v .bool], g106⟩
noncomputable def c106 : qX := ⟨6, tyT, [], [(64, p64)], [], [], [], [], [], [], [], [], [], [], none⟩
theorem F106_eq (n : Nat) (d) : qA c106 n Tryz.f106 (body Tryz.f106) p106.ps p106.rs d = F106 n d.1 := by kernel_rfl
theorem d106 : qn c106 (body Tryz.f106) = true := by kernel_rfl
theorem h106 : qz Tryz.prog 106 p106 := hQ (cfg := c106) (qo qq (qd h64 qh) rfl (by kernel_rfl)) Tryz.func106 (by kernel_rfl) (qr (by kernel_rfl)) d106 (F106_eq fuel)
noncomputable def F85 (_n : Nat) (b_0 : zTe) : Option zTq :=
  cond (decide ((b_0.1.length : Int) > 20)) (some ((100, ()), ())) (cond (decide ((b_0.2.1.length : Int) > 8)) (some ((100, ()), ())) (cond (decide ((b_0.2.2.length : Int) > 10)) (some ((100, ()), ())) (qa (g103 (b_0.1, (fun v1 => qa (g104 (v1, b_0, ())) fun y2 => some y2.1.1), ())) fun y3 => cond y3.1.1 (some ((100, ()), ())) (qa (g26 (b_0.2.1, (fun v4 => qa (g105 (v4, ())) fun y5 => some y5.1.1), ())) fun y6 => cond y6.1.1 (some ((100, ()), ())) (qa (g26 (b_0.2.2, (fun v7 => qa (g106 (v7, ())) fun y8 => some y8.1.1), ())) fun y9 => cond y9.1.1 (some ((100, ()), ())) (some ((0, ()), ())))))))
noncomputable def g85 (d : zTe × Unit) : Option zTq := F85 fuel d.1
noncomputable def p85 : qI := ⟨[.v (.str zTb)], [.v zI], g85⟩
noncomputable def c85 : qX := ⟨39, tyT, [], [(26, p26), (103, p103), (104, p104), (105, p105), (106, p106)], [], [], [], [], [], [], [], [], [], [], none⟩
theorem F85_eq (n : Nat) (d) : qA c85 n Tryz.f85 (body Tryz.f85) p85.ps p85.rs d = F85 n d.1 := by kernel_rfl
theorem d85 : qn c85 (body Tryz.f85) = true := by kernel_rfl
theorem h85 : qz Tryz.prog 85 p85 := hQ (cfg := c85) (qo qq (qd h26 (qd h103 (qd h104 (qd h105 (qd h106 qh))))) rfl (by kernel_rfl)) Tryz.func85 (by kernel_rfl) (qr (by kernel_rfl)) d85 (F85_eq fuel)
noncomputable def F110 (_n : Nat) (l_0 : zTp) (n_1 : Int) : Option zTl :=
  qa (g64 (n_1, 0, (IntKind.wrap .i64 ((l_0.1.2.1.length : Int) - 1)), ())) fun y1 => some ((y1.1.1, ()), ())
noncomputable def g110 (d : zTp × Int × Unit) : Option zTl := F110 fuel d.1 d.2.1
noncomputable def p110 : qI := ⟨[.v (.str (.pair (.str zTb) (.list false 68 (.str (.pair zI qQ))))), .v zI], [.v .bool], g110⟩
noncomputable def c110 : qX := ⟨12, tyT, [], [(64, p64)], [], [], [], [], [], [], [], [], [], [], none⟩
theorem F110_eq (n : Nat) (d) : qA c110 n Tryz.f110 (body Tryz.f110) p110.ps p110.rs d = F110 n d.1 d.2.1 := by kernel_rfl
theorem d110 : qn c110 (body Tryz.f110) = true := by kernel_rfl
theorem h110 : qz Tryz.prog 110 p110 := hQ (cfg := c110) (qo qq (qd h64 qh) rfl (by kernel_rfl)) Tryz.func110 (by kernel_rfl) (qr (by kernel_rfl)) d110 (F110_eq fuel)
noncomputable def F121 (_n : Nat) (l_0 : zTp) (rule_1 : Int) (n_2 : Int) : Option zTl :=
  qa (g110 (l_0, n_2, ())) fun y1 => cond y1.1.1 (qi l_0.1.2.1 n_2 fun e2 => qi l_0.1.1 rule_1 fun e3 => some (((decide (e2 ≥ e3.2.2.1)), ()), ())) (some ((false, ()), ()))
noncomputable def g121 (d : zTp × Int × Int × Unit) : Option zTl := F121 fuel d.1 d.2.1 d.2.2.1
noncomputable def p121 : qI := ⟨[.v (.str (.pair (.str zTb) (.list false 68 (.str (.pair zI qQ))))), .v zI, .v zI], [.v .bool], g121⟩
noncomputable def c121 : qX := ⟨26, tyT, [], [(110, p110)], [], [], [], [], [], [], [], [], [], [], none⟩
theorem F121_eq (n : Nat) (d) : qA c121 n Tryz.f121 (body Tryz.f121) p121.ps p121.rs d = F121 n d.1 d.2.1 d.2.2.1 := by kernel_rfl
theorem d121 : qn c121 (body Tryz.f121) = true := by kernel_rfl
theorem h121 : qz Tryz.prog 121 p121 := hQ (cfg := c121) (qo qq (qd h110 qh) rfl (by kernel_rfl)) Tryz.func121 (by kernel_rfl) (qr (by kernel_rfl)) d121 (F121_eq fuel)
noncomputable def F107 (_n : Nat) (l_0 : zTp) (rule_1 : Int) (a_2 : Int) (b_3 : Int) : Option zTl :=
  qi l_0.1.1 rule_1 fun e1 => cond (!e1.2.2.2) (qa (g121 (l_0, rule_1, a_2, ())) fun y2 => cond y2.1.1 (some (((b_3 == (-1)), ()), ())) (some ((false, ()), ()))) (qa (g121 (l_0, rule_1, a_2, ())) fun y3 => cond y3.1.1 (qa (g121 (l_0, rule_1, b_3, ())) fun y4 => cond y4.1.1 (some (((a_2 != b_3), ()), ())) (some ((false, ()), ()))) (some ((false, ()), ())))
noncomputable def g107 (d : zTp × Int × Int × Int × Unit) : Option zTl := F107 fuel d.1 d.2.1 d.2.2.1 d.2.2.2.1
noncomputable def p107 : qI := ⟨[.v (.str (.pair (.str zTb) (.list false 68 (.str (.pair zI qQ))))), .v zI, .v zI, .v zI], [.v .bool], g107⟩
noncomputable def c107 : qX := ⟨40, tyT, [], [(121, p121)], [], [], [], [], [], [], [], [], [], [], none⟩
theorem F107_eq (n : Nat) (d) : qA c107 n Tryz.f107 (body Tryz.f107) p107.ps p107.rs d = F107 n d.1 d.2.1 d.2.2.1 d.2.2.2.1 := by kernel_rfl
theorem d107 : qn c107 (body Tryz.f107) = true := by kernel_rfl
theorem h107 : qz Tryz.prog 107 p107 := hQ (cfg := c107) (qo qq (qd h121 qh) rfl (by kernel_rfl)) Tryz.func107 (by kernel_rfl) (qr (by kernel_rfl)) d107 (F107_eq fuel)
noncomputable def F108 (_n : Nat) (l_0 : zTp) (n_1 : Int) : Option zTl :=
  qa (g64 (n_1, 0, (IntKind.wrap .i64 ((l_0.1.2.2.length : Int) - 1)), ())) fun y1 => some ((y1.1.1, ()), ())
noncomputable def g108 (d : zTp × Int × Unit) : Option zTl := F108 fuel d.1 d.2.1
noncomputable def p108 : qI := ⟨[.v (.str (.pair (.str zTb) (.list false 68 (.str (.pair zI qQ))))), .v zI], [.v .bool], g108⟩
noncomputable def c108 : qX := ⟨12, tyT, [], [(64, p64)], [], [], [], [], [], [], [], [], [], [], none⟩
theorem F108_eq (n : Nat) (d) : qA c108 n Tryz.f108 (body Tryz.f108) p108.ps p108.rs d = F108 n d.1 d.2.1 := by kernel_rfl
theorem d108 : qn c108 (body Tryz.f108) = true := by kernel_rfl
theorem h108 : qz Tryz.prog 108 p108 := hQ (cfg := c108) (qo qq (qd h64 qh) rfl (by kernel_rfl)) Tryz.func108 (by kernel_rfl) (qr (by kernel_rfl)) d108 (F108_eq fuel)
noncomputable def B93_2 (_n : Nat) (L : ((List (Int × zTf)) × ((Int × zTf) → Option Bool) × Int × Int × Unit) × (Unit) × Unit → Option (zTm ⊕ zTr)) (s_0 : List (Int × zTf)) (f_1 : (Int × zTf) → Option Bool) (t_7 : Int) (t_8 : Int) : Option (zTm ⊕ zTr) :=
  cond (decide (t_8 < t_7)) (qi s_0 t_8 fun e1 => qa (f_1 e1) fun y2 => cond y2 (some (.inl ((t_8, ()), (), ()))) (L ((s_0, f_1, t_7, (IntKind.wrap .i64 (t_8 + 1)), ()), (), ()))) (some (.inr ((), (), ())))
noncomputable def L93_2 : Nat → ((List (Int × zTf)) × ((Int × zTf) → Option Bool) × Int × Int × Unit) × (Unit) × Unit → Option (zTm ⊕ zTr)
  | 0, _ => none
  | n + 1, d => B93_2 n (L93_2 n) d.1.1 d.1.2.1 d.1.2.2.1 d.1.2.2.2.1
noncomputable def l93_2 : jL := ⟨⟨[(0, .v (.list false 68 (.str (.pair zI qQ)))), (1, .v (.fn (.str (.pair zI qQ)) .bool)), (7, .v zI), (8, .v zI)], [], none⟩, [(.ret, ⟨[(4, .v zI)], [], none⟩), (.exit 0, ⟨[], [], none⟩)], L93_2⟩
noncomputable def F93 (n : Nat) (s_0 : (List (Int × zTf))) (f_1 : ((Int × zTf) → Option Bool)) : Option zTq :=
  qa (L93_2 n ((s_0, f_1, (s_0.length : Int), 0, ()), (), ())) fun o3 => qbS o3 (fun d4 => some ((d4.1.1, ()), ())) (fun _ => some (((-1), ()), ()))
noncomputable def g93 (d : (List (Int × zTf)) × ((Int × zTf) → Option Bool) × Unit) : Option zTq := F93 fuel d.1 d.2.1
noncomputable def p93 : qI := ⟨[.v (.list false 68 (.str (.pair zI qQ))), .v (.fn (.str (.pair zI qQ)) .bool)], [.v zI], g93⟩
noncomputable def c93 : qX := ⟨19, tyT, [], [], [(2, l93_2)], [], [], [], [], [], [], [], [], [], none⟩
theorem F93_eq (n : Nat) (d) : qA c93 n Tryz.f93 (body Tryz.f93) p93.ps p93.rs d = F93 n d.1 d.2.1 := by kernel_rfl
theorem L93_2_eq (n : Nat) (d) : (l93_2).g (n + 1) d = run c93 n (nth 0 (qe (body Tryz.f93))) ((l93_2).ins.fill d) (qO (l93_2) n) := by kernel_rfl
theorem ls93 : qe (body Tryz.f93) = [nth 0 (qe (body Tryz.f93))] := by kernel_rfl
theorem d93 : qn c93 (body Tryz.f93) = true := by kernel_rfl
theorem h93 : qz Tryz.prog 93 p93 := hQ (cfg := c93) (qo qq (qh) rfl (by kernel_rfl)) Tryz.func93 (by kernel_rfl) (by rw [ls93]; simp only [List.forall_mem_cons]; exact ⟨qJ (key := 2) (li := l93_2) (by kernel_rfl) rfl (fun _ => rfl) (L93_2_eq), fun _ h => by cases h⟩) d93 (F93_eq fuel)
noncomputable def F122 (_n : Nat) (s_0 : (List (Int × zTf))) (f_1 : ((Int × zTf) → Option Bool)) : Option zTl :=
  qa (g93 (s_0, f_1, ())) fun y1 => some (((decide (y1.1.1 ≥ 0)), ()), ())
noncomputable def g122 (d : (List (Int × zTf)) × ((Int × zTf) → Option Bool) × Unit) : Option zTl := F122 fuel d.1 d.2.1
noncomputable def p122 : qI := ⟨[.v (.list false 68 (.str (.pair zI qQ))), .v (.fn (.str (.pair zI qQ)) .bool)], [.v .bool], g122⟩
noncomputable def c122 : qX := ⟨9, tyT, [], [(93, p93)], [], [], [], [], [], [], [], [], [], [], none⟩
theorem F122_eq (n : Nat) (d) : qA c122 n Tryz.f122 (body Tryz.f122) p122.ps p122.rs d = F122 n d.1 d.2.1 := by kernel_rfl
theorem d122 : qn c122 (body Tryz.f122) = true := by kernel_rfl
theorem h122 : qz Tryz.prog 122 p122 := hQ (cfg := c122) (qo qq (qd h93 qh) rfl (by kernel_rfl)) Tryz.func122 (by kernel_rfl) (qr (by kernel_rfl)) d122 (F122_eq fuel)
noncomputable def F123 (_n : Nat) (x_0 : (Int × zTf)) (t_1 : Int) : Option zTl :=
  cond (x_0.2.1 == 3) (some (((x_0.2.2.1 == t_1), ()), ())) (some ((false, ()), ()))
noncomputable def g123 (d : (Int × zTf) × Int × Unit) : Option zTl := F123 fuel d.1 d.2.1
noncomputable def p123 : qI := ⟨[.v (.str (.pair zI qQ)), .r zI], [.v .bool], g123⟩
noncomputable def c123 : qX := ⟨13, tyT, [], [], [], [], [], [], [], [], [], [], [], [], none⟩
theorem F123_eq (n : Nat) (d) : qA c123 n Tryz.f123 (body Tryz.f123) p123.ps p123.rs d = F123 n d.1 d.2.1 := by kernel_rfl
theorem d123 : qn c123 (body Tryz.f123) = true := by kernel_rfl
theorem h123 : qz Tryz.prog 123 p123 := hQ (cfg := c123) (qo qq (qh) rfl (by kernel_rfl)) Tryz.func123 (by kernel_rfl) (qr (by kernel_rfl)) d123 (F123_eq fuel)
noncomputable def F109 (_n : Nat) (l_0 : zTp) (n_1 : Int) : Option zTl :=
  qa (g122 (l_0.2, (fun v1 => qa (g123 (v1, n_1, ())) fun y2 => some y2.1.1), ())) fun y3 => some ((y3.1.1, ()), ())
noncomputable def g109 (d : zTp × Int × Unit) : Option zTl := F109 fuel d.1 d.2.1
noncomputable def p109 : qI := ⟨[.v (.str (.pair (.str zTb) (.list false 68 (.str (.pair zI qQ))))), .v zI], [.v .bool], g109⟩
noncomputable def c109 : qX := ⟨9, tyT, [], [(122, p122), (123, p123)], [], [], [], [], [], [], [], [], [], [], none⟩
theorem F109_eq (n : Nat) (d) : qA c109 n Tryz.f109 (body Tryz.f109) p109.ps p109.rs d = F109 n d.1 d.2.1 := by kernel_rfl
theorem d109 : qn c109 (body Tryz.f109) = true := by kernel_rfl
theorem h109 : qz Tryz.prog 109 p109 := hQ (cfg := c109) (qo qq (qd h122 (qd h123 qh)) rfl (by kernel_rfl)) Tryz.func109 (by kernel_rfl) (qr (by kernel_rfl)) d109 (F109_eq fuel)
noncomputable def F86 (_n : Nat) (l_0 : zTp) (x_1 : (Int × zTf)) : Option zTl :=
  cond (decide ((l_0.2.length : Int) > 0)) (qi l_0.2 (IntKind.wrap .i64 ((l_0.2.length : Int) - 1)) fun e1 => qa (g64 (x_1.1, e1.1, 10000, ())) fun y2 => cond (!y2.1.1) (some ((false, ()), ())) (cond (x_1.2.1 == 1) (qa (g64 (x_1.2.2.1, 0, (IntKind.wrap .i64 ((l_0.1.1.length : Int) - 1)), ())) fun y3 => cond y3.1.1 (qa (g107 (l_0, x_1.2.2.1, x_1.2.2.2.1, x_1.2.2.2.2, ())) fun y4 => some ((y4.1.1, ()), ())) (some ((false, ()), ()))) (cond (x_1.2.1 == 2) (qa (g108 (l_0, x_1.2.2.1, ())) fun y5 => cond y5.1.1 (qa (g64 (x_1.2.2.2.1, 1, 3, ())) fun y6 => cond y6.1.1 (some (((x_1.2.2.2.2 == 0), ()), ())) (some ((false, ()), ()))) (some ((false, ()), ()))) (cond (x_1.2.1 == 3) (qa (g64 (x_1.2.2.1, 0, (IntKind.wrap .i64 ((l_0.2.length : Int) - 1)), ())) fun y7 => cond y7.1.1 (qi l_0.2 x_1.2.2.1 fun e8 => cond (e8.2.1 == 2) (qa (g109 (l_0, x_1.2.2.1, ())) fun y9 => cond (!y9.1.1) (qa (g110 (l_0, x_1.2.2.2.1, ())) fun y10 => cond y10.1.1 (some (((x_1.2.2.2.2 == 0), ()), ())) (some ((false, ()), ()))) (some ((false, ()), ()))) (some ((false, ()), ()))) (some ((false, ()), ()))) (cond (x_1.2.1 == 4) (qa (g108 (l_0, x_1.2.2.1, ())) fun y11 => cond y11.1.1 (qa (g110 (l_0, x_1.2.2.2.1, ())) fun y12 => cond y12.1.1 (some (((x_1.2.2.2.2 == 0), ()), ())) (some ((false, ()), ()))) (some ((false, ()), ()))) (cond (x_1.2.1 == 5) (qa (g108 (l_0, x_1.2.2.1, ())) fun y13 => cond y13.1.1 (qa (g64 (x_1.2.2.2.1, 0, 10000, ())) fun y14 => cond y14.1.1 (some (((x_1.2.2.2.2 == 0), ()), ())) (some ((false, ()), ()))) (some ((false, ()), ()))) (cond (x_1.2.1 == 6) (qa (g108 (l_0, x_1.2.2.1, ())) fun y15 => cond y15.1.1 (cond (x_1.2.2.2.1 == 0) (some (((x_1.2.2.2.2 == 0), ()), ())) (some ((false, ()), ()))) (some ((false, ()), ()))) (some ((false, ()), ()))))))))) (qa (g64 (x_1.1, 0, 10000, ())) fun y16 => cond (!y16.1.1) (some ((false, ()), ())) (cond (x_1.2.1 == 1) (qa (g64 (x_1.2.2.1, 0, (IntKind.wrap .i64 ((l_0.1.1.length : Int) - 1)), ())) fun y17 => cond y17.1.1 (qa (g107 (l_0, x_1.2.2.1, x_1.2.2.2.1, x_1.2.2.2.2, ())) fun y18 => some ((y18.1.1, ()), ())) (some ((false, ()), ()))) (cond (x_1.2.1 == 2) (qa (g108 (l_0, x_1.2.2.1, ())) fun y19 => cond y19.1.1 (qa (g64 (x_1.2.2.2.1, 1, 3, ())) fun y20 => cond y20.1.1 (some (((x_1.2.2.2.2 == 0), ()), ())) (some ((false, ()), ()))) (some ((false, ()), ()))) (cond (x_1.2.1 == 3) (qa (g64 (x_1.2.2.1, 0, (IntKind.wrap .i64 ((l_0.2.length : Int) - 1)), ())) fun y21 => cond y21.1.1 (qi l_0.2 x_1.2.2.1 fun e22 => cond (e22.2.1 == 2) (qa (g109 (l_0, x_1.2.2.1, ())) fun y23 => cond (!y23.1.1) (qa (g110 (l_0, x_1.2.2.2.1, ())) fun y24 => cond y24.1.1 (some (((x_1.2.2.2.2 == 0), ()), ())) (some ((false, ()), ()))) (some ((false, ()), ()))) (some ((false, ()), ()))) (some ((false, ()), ()))) (cond (x_1.2.1 == 4) (qa (g108 (l_0, x_1.2.2.1, ())) fun y25 => cond y25.1.1 (qa (g110 (l_0, x_1.2.2.2.1, ())) fun y26 => cond y26.1.1 (some (((x_1.2.2.2.2 == 0), ()), ())) (some ((false, ()), ()))) (some ((false, ()), ()))) (cond (x_1.2.1 == 5) (qa (g108 (l_0, x_1.2.2.1, ())) fun y27 => cond y27.1.1 (qa (g64 (x_1.2.2.2.1, 0, 10000, ())) fun y28 => cond y28.1.1 (some (((x_1.2.2.2.2 == 0), ()), ())) (some ((false, ()), ()))) (some ((false, ()), ()))) (cond (x_1.2.1 == 6) (qa (g108 (l_0, x_1.2.2.1, ())) fun y29 => cond y29.1.1 (cond (x_1.2.2.2.1 == 0) (some (((x_1.2.2.2.2 == 0), ()), ())) (some ((false, ()), ()))) (some ((false, ()), ()))) (some ((false, ()), ())))))))))
noncomputable def g86 (d : zTp × (Int × zTf) × Unit) : Option zTl := F86 fuel d.1 d.2.1
noncomputable def p86 : qI := ⟨[.v (.str (.pair (.str zTb) (.list false 68 (.str (.pair zI qQ))))), .v (.str (.pair zI qQ))], [.v .bool], g86⟩
noncomputable def c86 : qX := ⟨148, tyT, [], [(64, p64), (107, p107), (108, p108), (109, p109), (110, p110)], [], [], [], [], [], [], [], [], [], [], none⟩
theorem F86_eq (n : Nat) (d) : qA c86 n Tryz.f86 (body Tryz.f86) p86.ps p86.rs d = F86 n d.1 d.2.1 := by kernel_rfl
theorem d86 : qn c86 (body Tryz.f86) = true := by kernel_rfl
theorem h86 : qz Tryz.prog 86 p86 := hQ (cfg := c86) (qo qq (qd h64 (qd h107 (qd h108 (qd h109 (qd h110 qh))))) rfl (by kernel_rfl)) Tryz.func86 (by kernel_rfl) (qr (by kernel_rfl)) d86 (F86_eq fuel)
noncomputable def B53_8 (_n : Nat) (L : zUm × (zTp × Unit) × Unit → Option (((Int × Int × Unit) × (zTp × Unit) × Unit) ⊕ ((Unit) × (zTp × Unit) × Unit))) (t_22 : List (Int × zTf)) (t_23 : Int) (t_24 : Int) (o_4 : zTe × (List (Int × zTf))) : Option (((Int × Int × Unit) × (zTp × Unit) × Unit) ⊕ ((Unit) × (zTp × Unit) × Unit)) :=
  cond (decide (t_24 < t_23)) (qi t_22 t_24 fun e2 => qa (g86 (o_4, e2, ())) fun y3 => cond (!y3.1.1) (some (.inl ((t_24, 101, ()), (o_4, ()), ()))) (jF ((o_4.2.length : Int) + [e2].length) (L ((t_22, t_23, (IntKind.wrap .i64 (t_24 + 1)), ()), ((o_4.1, (o_4.2 ++ [e2])), ()), ())))) (some (.inr ((), (o_4, ()), ())))
noncomputable def L53_8 : Nat → zUm × (zTp × Unit) × Unit → Option (((Int × Int × Unit) × (zTp × Unit) × Unit) ⊕ ((Unit) × (zTp × Unit) × Unit))
  | 0, _ => none
  | n + 1, d => B53_8 n (L53_8 n) d.1.1 d.1.2.1 d.1.2.2.1 d.2.1.1
noncomputable def l53_8 : jL := ⟨⟨[(4, .c (.ptr 4 [])), (22, .v (.list false 68 (.str (.pair zI qQ)))), (23, .v zI), (24, .v zI)], [(4, false, .str (.pair (.str zTb) (.list true 68 (.str (.pair zI qQ)))))], none⟩, [(.ret, ⟨[(4, .c (.ptr 4 [])), (5, .v zI), (6, .v zI)], [(4, false, .str (.pair (.str zTb) (.list true 68 (.str (.pair zI qQ)))))], none⟩), (.exit 0, ⟨[(4, .c (.ptr 4 []))], [(4, false, .str (.pair (.str zTb) (.list true 68 (.str (.pair zI qQ)))))], none⟩)], L53_8⟩
noncomputable def F53 (n : Nat) (b_0 : zTe) (entries_1 : (List (Int × zTf))) : Option ((zTp × Int × Int × Unit) × (Unit)) :=
  qa (g85 (b_0, ())) fun y1 => cond (y1.1.1 != 0) (some ((((([] : List zTj), (([] : List Int), ([] : List Int))), ([] : List (Int × zTf))), 0, y1.1.1, ()), ())) (cond (decide ((entries_1.length : Int) > 100)) (some ((((([] : List zTj), (([] : List Int), ([] : List Int))), ([] : List (Int × zTf))), 0, 2, ()), ())) (qa (L53_8 n ((entries_1, (entries_1.length : Int), 0, ()), ((b_0, ([] : List (Int × zTf))), ()), ())) fun o4 => qbS o4 (fun d5 => some ((d5.2.1.1, d5.1.1, d5.1.2.1, ()), ())) (fun d6 => some ((d6.2.1.1, 0, 0, ()), ()))))
noncomputable def g53 (d : zTe × (List (Int × zTf)) × Unit) : Option ((zTp × Int × Int × Unit) × (Unit)) := F53 fuel d.1 d.2.1
noncomputable def p53 : qI := ⟨[.v (.str zTb), .v (.list false 68 (.str (.pair zI qQ)))], [.v (.str (.pair (.str zTb) (.list false 68 (.str (.pair zI qQ))))), .v zI, .v zI], g53⟩
noncomputable def c53 : qX := ⟨43, tyT, [(4, .str (.pair (.str zTb) (.list true 68 (.str (.pair zI qQ))))), (21, .str (.pair (.str zTb) (.list true 68 (.str (.pair zI qQ)))))], [(85, p85), (86, p86)], [(8, l53_8)], [], [], [], [], [], [], [], [], [], none⟩
theorem F53_eq (n : Nat) (d) : qA c53 n Tryz.f53 (body Tryz.f53) p53.ps p53.rs d = F53 n d.1 d.2.1 := by kernel_rfl
theorem L53_8_eq (n : Nat) (d) : (l53_8).g (n + 1) d = run c53 n (nth 0 (qe (body Tryz.f53))) ((l53_8).ins.fill d) (qO (l53_8) n) := by kernel_rfl
theorem ls53 : qe (body Tryz.f53) = [nth 0 (qe (body Tryz.f53))] := by kernel_rfl
theorem d53 : qn c53 (body Tryz.f53) = true := by kernel_rfl
theorem h53 : qz Tryz.prog 53 p53 := hQ (cfg := c53) (qo qq (qd h85 (qd h86 qh)) rfl (by kernel_rfl)) Tryz.func53 (by kernel_rfl) (by rw [ls53]; simp only [List.forall_mem_cons]; exact ⟨qJ (key := 8) (li := l53_8) (by kernel_rfl) rfl (fun _ => rfl) (L53_8_eq), fun _ h => by cases h⟩) d53 (F53_eq fuel)
noncomputable def F21 (_n : Nat) (b_0 : zTe) (l_1 : (List (Int × zTf))) : Option zUl :=
  qa (g53 (b_0, l_1, ())) fun y1 => some ((y1.1.2.1, y1.1.2.2.1, ()), ())
noncomputable def g21 (d : zTe × (List (Int × zTf)) × Unit) : Option zUl := F21 fuel d.1 d.2.1
noncomputable def p21 : qI := ⟨[.v (.str zTb), .v (.list false 68 (.str (.pair zI qQ)))], [.v zI, .v zI], g21⟩
noncomputable def c21 : qX := ⟨15, tyT, [], [(53, p53)], [], [], [], [], [], [], [], [], [], [], none⟩
theorem F21_eq (n : Nat) (d) : qA c21 n Tryz.f21 (body Tryz.f21) p21.ps p21.rs d = F21 n d.1 d.2.1 := by kernel_rfl
theorem d21 : qn c21 (body Tryz.f21) = true := by kernel_rfl
theorem h21 : qz Tryz.prog 21 p21 := hQ (cfg := c21) (qo qq (qd h53 qh) rfl (by kernel_rfl)) Tryz.func21 (by kernel_rfl) (qr (by kernel_rfl)) d21 (F21_eq fuel)
noncomputable def F35 (_n : Nat) (n_0 : Int) (low_1 : Int) (high_2 : Int) : Option zTl :=
  cond (decide (n_0 ≥ low_1)) (some (((decide (n_0 ≤ high_2)), ()), ())) (some ((false, ()), ()))
noncomputable def g35 (d : Int × Int × Int × Unit) : Option zTl := F35 fuel d.1 d.2.1 d.2.2.1
noncomputable def p35 : qI := ⟨[.v zI, .v zI, .v zI], [.v .bool], g35⟩
noncomputable def c35 : qX := ⟨15, tyT, [], [], [], [], [], [], [], [], [], [], [], [], none⟩
theorem F35_eq (n : Nat) (d) : qA c35 n Tryz.f35 (body Tryz.f35) p35.ps p35.rs d = F35 n d.1 d.2.1 d.2.2.1 := by kernel_rfl
theorem d35 : qn c35 (body Tryz.f35) = true := by kernel_rfl
theorem h35 : qz Tryz.prog 35 p35 := hQ (cfg := c35) (qo qq (qh) rfl (by kernel_rfl)) Tryz.func35 (by kernel_rfl) (qr (by kernel_rfl)) d35 (F35_eq fuel)
noncomputable def B22_4 (_n : Nat) (L : ((List zTf) × Int × Int × Unit) × (zTk × Unit) × Unit → Option (zTm ⊕ zUr)) (t_36 : List zTf) (t_37 : Int) (t_38 : Int) (o_1 : (List zTf) × zUj) : Option (zTm ⊕ zUr) :=
  cond (decide (t_38 < t_37)) (qi t_36 t_38 fun e4 => qa (g35 (e4.1, (-1), (IntKind.wrap .i64 (t_38 - 1)), ())) fun y5 => cond (!y5.1.1) (some (.inl ((50, ()), (), ()))) (qa (g35 (e4.2.1, 1, 1000, ())) fun y6 => cond (!y6.1.1) (some (.inl ((50, ()), (), ()))) (qa (g35 (e4.2.2.1, 0, 20, ())) fun y7 => cond (!y7.1.1) (some (.inl ((50, ()), (), ()))) (qa (g35 (e4.2.2.2, 1, 10000, ())) fun y8 => cond (!y8.1.1) (some (.inl ((50, ()), (), ()))) (L ((t_36, t_37, (IntKind.wrap .i64 (t_38 + 1)), ()), (o_1, ()), ())))))) (some (.inr ((), (o_1, ()), ())))
noncomputable def L22_4 : Nat → ((List zTf) × Int × Int × Unit) × (zTk × Unit) × Unit → Option (zTm ⊕ zUr)
  | 0, _ => none
  | n + 1, d => B22_4 n (L22_4 n) d.1.1 d.1.2.1 d.1.2.2.1 d.2.1.1
noncomputable def l22_4 : jL := ⟨⟨[(1, .c (.ptr 1 [])), (36, .v (.list false 51 (.str qQ))), (37, .v zI), (38, .v zI)], [(1, false, .str (.pair (.list false 51 (.str qQ)) (.pair (.list false 116 (.str qQ)) (.pair zI zTh))))], none⟩, [(.ret, ⟨[(2, .v zI)], [], none⟩), (.exit 0, ⟨[(1, .c (.ptr 1 []))], [(1, false, .str (.pair (.list false 51 (.str qQ)) (.pair (.list false 116 (.str qQ)) (.pair zI zTh))))], none⟩)], L22_4⟩
noncomputable def B22_10 (_n : Nat) (L : ((List zTf) × Int × Int × Unit) × (zTk × Unit) × Unit → Option (zTm ⊕ zTr)) (t_69 : List zTf) (t_70 : Int) (t_71 : Int) (o_1 : (List zTf) × zUj) : Option (zTm ⊕ zTr) :=
  cond (decide (t_71 < t_70)) (qi t_69 t_71 fun e12 => qa (g35 (e12.1, 0, (IntKind.wrap .i64 ((o_1.1.length : Int) - 1)), ())) fun y13 => cond (!y13.1.1) (some (.inl ((50, ()), (), ()))) (qa (g35 (e12.2.1, 0, 2, ())) fun y14 => cond (!y14.1.1) (some (.inl ((50, ()), (), ()))) (qa (g35 (e12.2.2.1, 1, 1000, ())) fun y15 => cond (!y15.1.1) (some (.inl ((50, ()), (), ()))) (qa (g35 (e12.2.2.2, 0, 1000, ())) fun y16 => cond (!y16.1.1) (some (.inl ((50, ()), (), ()))) (L ((t_69, t_70, (IntKind.wrap .i64 (t_71 + 1)), ()), (o_1, ()), ())))))) (some (.inr ((), (), ())))
noncomputable def L22_10 : Nat → ((List zTf) × Int × Int × Unit) × (zTk × Unit) × Unit → Option (zTm ⊕ zTr)
  | 0, _ => none
  | n + 1, d => B22_10 n (L22_10 n) d.1.1 d.1.2.1 d.1.2.2.1 d.2.1.1
noncomputable def l22_10 : jL := ⟨⟨[(1, .c (.ptr 1 [])), (69, .v (.list false 116 (.str qQ))), (70, .v zI), (71, .v zI)], [(1, false, .str (.pair (.list false 51 (.str qQ)) (.pair (.list false 116 (.str qQ)) (.pair zI zTh))))], none⟩, [(.ret, ⟨[(2, .v zI)], [], none⟩), (.exit 2, ⟨[], [], none⟩)], L22_10⟩
noncomputable def F22 (n : Nat) (s_0 : zTk) : Option zTq :=
  cond (decide ((s_0.1.length : Int) > 10)) (some ((50, ()), ())) (cond (decide ((s_0.2.1.length : Int) > 16)) (some ((50, ()), ())) (qa (g35 (s_0.2.2.1, 1, 1000, ())) fun y1 => cond (!y1.1.1) (some ((50, ()), ())) (qa (g35 (s_0.2.2.2.1, 0, 20, ())) fun y2 => cond (!y2.1.1) (some ((50, ()), ())) (qa (g35 (s_0.2.2.2.2, 1, 1000, ())) fun y3 => cond (!y3.1.1) (some ((50, ()), ())) (qa (L22_4 n ((s_0.1, (s_0.1.length : Int), 0, ()), (s_0, ()), ())) fun o9 => qbS o9 (fun d10 => some ((d10.1.1, ()), ())) (fun d11 => qa (L22_10 n ((d11.2.1.1.2.1, (d11.2.1.1.2.1.length : Int), 0, ()), (d11.2.1.1, ()), ())) fun o17 => qbS o17 (fun d18 => some ((d18.1.1, ()), ())) (fun _ => some ((0, ()), ()))))))))
noncomputable def g22 (d : zTk × Unit) : Option zTq := F22 fuel d.1
noncomputable def p22 : qI := ⟨[.v (.str (.pair (.list false 51 (.str qQ)) (.pair (.list false 116 (.str qQ)) (.pair zI zTh))))], [.v zI], g22⟩
noncomputable def c22 : qX := ⟨102, tyT, [], [(35, p35)], [(4, l22_4), (10, l22_10)], [], [], [], [], [], [], [], [], [], none⟩
theorem F22_eq (n : Nat) (d) : qA c22 n Tryz.f22 (body Tryz.f22) p22.ps p22.rs d = F22 n d.1 := by kernel_rfl
theorem L22_4_eq (n : Nat) (d) : (l22_4).g (n + 1) d = run c22 n (nth 0 (qe (body Tryz.f22))) ((l22_4).ins.fill d) (qO (l22_4) n) := by kernel_rfl
theorem L22_10_eq (n : Nat) (d) : (l22_10).g (n + 1) d = run c22 n (nth 1 (qe (body Tryz.f22))) ((l22_10).ins.fill d) (qO (l22_10) n) := by kernel_rfl
theorem ls22 : qe (body Tryz.f22) = [nth 0 (qe (body Tryz.f22)), nth 1 (qe (body Tryz.f22))] := by kernel_rfl
theorem d22 : qn c22 (body Tryz.f22) = true := by kernel_rfl
theorem h22 : qz Tryz.prog 22 p22 := hQ (cfg := c22) (qo qq (qd h35 qh) rfl (by kernel_rfl)) Tryz.func22 (by kernel_rfl) (by rw [ls22]; simp only [List.forall_mem_cons]; exact ⟨qJ (key := 4) (li := l22_4) (by kernel_rfl) rfl (fun _ => rfl) (L22_4_eq), qJ (key := 10) (li := l22_10) (by kernel_rfl) rfl (fun _ => rfl) (L22_10_eq), fun _ h => by cases h⟩) d22 (F22_eq fuel)
noncomputable def F25 (_n : Nat) (n_0 : Int) (low_1 : Int) (high_2 : Int) : Option zTl :=
  cond (decide (n_0 ≥ low_1)) (some (((decide (n_0 ≤ high_2)), ()), ())) (some ((false, ()), ()))
noncomputable def g25 (d : Int × Int × Int × Unit) : Option zTl := F25 fuel d.1 d.2.1 d.2.2.1
noncomputable def p25 : qI := ⟨[.v zI, .v zI, .v zI], [.v .bool], g25⟩
noncomputable def c25 : qX := ⟨15, tyT, [], [], [], [], [], [], [], [], [], [], [], [], none⟩
theorem F25_eq (n : Nat) (d) : qA c25 n Tryz.f25 (body Tryz.f25) p25.ps p25.rs d = F25 n d.1 d.2.1 d.2.2.1 := by kernel_rfl
theorem d25 : qn c25 (body Tryz.f25) = true := by kernel_rfl
theorem h25 : qz Tryz.prog 25 p25 := hQ (cfg := c25) (qo qq (qh) rfl (by kernel_rfl)) Tryz.func25 (by kernel_rfl) (qr (by kernel_rfl)) d25 (F25_eq fuel)
noncomputable def F24 (_n : Nat) (x_0 : Int) (t_1 : Int) : Option zTl :=
  qa (g25 (x_0, 0, t_1, ())) fun y1 => some (((!y1.1.1), ()), ())
noncomputable def g24 (d : Int × Int × Unit) : Option zTl := F24 fuel d.1 d.2.1
noncomputable def p24 : qI := ⟨[.v zI, .r zI], [.v .bool], g24⟩
noncomputable def c24 : qX := ⟨8, tyT, [], [(25, p25)], [], [], [], [], [], [], [], [], [], [], none⟩
theorem F24_eq (n : Nat) (d) : qA c24 n Tryz.f24 (body Tryz.f24) p24.ps p24.rs d = F24 n d.1 d.2.1 := by kernel_rfl
theorem d24 : qn c24 (body Tryz.f24) = true := by kernel_rfl
theorem h24 : qz Tryz.prog 24 p24 := hQ (cfg := c24) (qo qq (qd h25 qh) rfl (by kernel_rfl)) Tryz.func24 (by kernel_rfl) (qr (by kernel_rfl)) d24 (F24_eq fuel)
noncomputable def F8 (_n : Nat) (g_0 : zTc) : Option zTq :=
  qa (g20 (g_0.1, [], ())) fun y1 => cond (y1.1.1 != 0) (some ((y1.1.1, ()), ())) (qa (g21 (g_0.2.1, g_0.2.2.1, ())) fun y2 => cond (y2.1.2.1 != 0) (some ((y2.1.2.1, ()), ())) (qa (g22 (g_0.2.2.2.2.1, ())) fun y3 => cond (y3.1.1 != 0) (some ((y3.1.1, ()), ())) (cond ((g_0.2.1.2.2.length : Int) != (g_0.1.1.length : Int)) (cond ((g_0.2.1.2.2.length : Int) != (g_0.1.1.length : Int)) (some ((120, ()), ())) (qa (Mk.m23.p.g (200, ())) fun y4 => qa (g26 (g_0.2.2.2.2.2.1, (fun v5 => qa y4.1.1 fun q7 => qa (g24 (v5, q7, ())) fun y6 => some y6.1.1), ())) fun y8 => cond y8.1.1 (cond y8.1.1 (some ((120, ()), ())) (some ((0, ()), ()))) (qa (Mk.m23.p.g (100, ())) fun y9 => qa (g26 (g_0.2.2.2.2.2.2, (fun v10 => qa y9.1.1 fun q12 => qa (g24 (v10, q12, ())) fun y11 => some y11.1.1), ())) fun y13 => cond y13.1.1 (some ((120, ()), ())) (some ((0, ()), ()))))) (cond ((g_0.2.2.2.2.1.2.1.length : Int) != (g_0.1.1.length : Int)) (cond ((g_0.2.2.2.2.1.2.1.length : Int) != (g_0.1.1.length : Int)) (some ((120, ()), ())) (qa (Mk.m23.p.g (200, ())) fun y14 => qa (g26 (g_0.2.2.2.2.2.1, (fun v15 => qa y14.1.1 fun q17 => qa (g24 (v15, q17, ())) fun y16 => some y16.1.1), ())) fun y18 => cond y18.1.1 (cond y18.1.1 (some ((120, ()), ())) (some ((0, ()), ()))) (qa (Mk.m23.p.g (100, ())) fun y19 => qa (g26 (g_0.2.2.2.2.2.2, (fun v20 => qa y19.1.1 fun q22 => qa (g24 (v20, q22, ())) fun y21 => some y21.1.1), ())) fun y23 => cond y23.1.1 (some ((120, ()), ())) (some ((0, ()), ()))))) (cond ((g_0.2.2.2.2.2.1.length : Int) != (g_0.1.1.length : Int)) (cond ((g_0.2.2.2.2.2.1.length : Int) != (g_0.1.1.length : Int)) (some ((120, ()), ())) (qa (Mk.m23.p.g (200, ())) fun y24 => qa (g26 (g_0.2.2.2.2.2.1, (fun v25 => qa y24.1.1 fun q27 => qa (g24 (v25, q27, ())) fun y26 => some y26.1.1), ())) fun y28 => cond y28.1.1 (cond y28.1.1 (some ((120, ()), ())) (some ((0, ()), ()))) (qa (Mk.m23.p.g (100, ())) fun y29 => qa (g26 (g_0.2.2.2.2.2.2, (fun v30 => qa y29.1.1 fun q32 => qa (g24 (v30, q32, ())) fun y31 => some y31.1.1), ())) fun y33 => cond y33.1.1 (some ((120, ()), ())) (some ((0, ()), ()))))) (cond ((g_0.2.2.2.2.2.2.length : Int) != (g_0.1.1.length : Int)) (cond ((g_0.2.2.2.2.2.2.length : Int) != (g_0.1.1.length : Int)) (some ((120, ()), ())) (qa (Mk.m23.p.g (200, ())) fun y34 => qa (g26 (g_0.2.2.2.2.2.1, (fun v35 => qa y34.1.1 fun q37 => qa (g24 (v35, q37, ())) fun y36 => some y36.1.1), ())) fun y38 => cond y38.1.1 (cond y38.1.1 (some ((120, ()), ())) (some ((0, ()), ()))) (qa (Mk.m23.p.g (100, ())) fun y39 => qa (g26 (g_0.2.2.2.2.2.2, (fun v40 => qa y39.1.1 fun q42 => qa (g24 (v40, q42, ())) fun y41 => some y41.1.1), ())) fun y43 => cond y43.1.1 (some ((120, ()), ())) (some ((0, ()), ()))))) (qa (g25 (g_0.2.2.2.1, 0, 10000, ())) fun y44 => cond (!y44.1.1) (some ((120, ()), ())) (qa (Mk.m23.p.g (200, ())) fun y45 => qa (g26 (g_0.2.2.2.2.2.1, (fun v46 => qa y45.1.1 fun q48 => qa (g24 (v46, q48, ())) fun y47 => some y47.1.1), ())) fun y49 => cond y49.1.1 (cond y49.1.1 (some ((120, ()), ())) (some ((0, ()), ()))) (qa (Mk.m23.p.g (100, ())) fun y50 => qa (g26 (g_0.2.2.2.2.2.2, (fun v51 => qa y50.1.1 fun q53 => qa (g24 (v51, q53, ())) fun y52 => some y52.1.1), ())) fun y54 => cond y54.1.1 (some ((120, ()), ())) (some ((0, ()), ())))))))))))
noncomputable def g8 (d : zTc × Unit) : Option zTq := F8 fuel d.1
noncomputable def p8 : qI := ⟨[.v (.str (.pair (.str zTd) (.pair (.str zTb) (.pair (.list false 68 (.str (.pair zI qQ))) (.pair zI (.pair (.str (.pair (.list false 51 (.str qQ)) (.pair (.list false 116 (.str qQ)) (.pair zI zTh)))) (.pair jD jD)))))))], [.v zI], g8⟩
noncomputable def c8 : qX := ⟨74, tyT, [(1, .str (.pair (.str zTd) (.pair (.str zTb) (.pair (.list false 68 (.str (.pair zI qQ))) (.pair zI (.pair (.str (.pair (.list false 51 (.str qQ)) (.pair (.list false 116 (.str qQ)) (.pair zI zTh)))) (.pair jD jD)))))))], [(20, p20), (21, p21), (22, p22), (24, p24), (25, p25), (26, p26)], [], [], [18, 19], [], [], [(23, Mk.m23)], [], [], [], [], none⟩
theorem F8_eq (n : Nat) (d) : qA c8 n Tryz.f8 (body Tryz.f8) p8.ps p8.rs d = F8 n d.1 := by kernel_rfl
theorem d8 : qn c8 (body Tryz.f8) = true := by kernel_rfl
theorem h8 : qz Tryz.prog 8 p8 := hQ (cfg := c8) (qo qq (qd h20 (qd h21 (qd h22 (qd h24 (qd h25 (qd h26 qh)))))) rfl (by kernel_rfl) (qhF (qfb Mk.k23 qhH))) Tryz.func8 (by kernel_rfl) (qr (by kernel_rfl)) d8 (F8_eq fuel)
noncomputable def F56 (_n : Nat) (n_0 : Int) (low_1 : Int) (high_2 : Int) : Option zTl :=
  cond (decide (n_0 ≥ low_1)) (some (((decide (n_0 ≤ high_2)), ()), ())) (some ((false, ()), ()))
noncomputable def g56 (d : Int × Int × Int × Unit) : Option zTl := F56 fuel d.1 d.2.1 d.2.2.1
noncomputable def p56 : qI := ⟨[.v zI, .v zI, .v zI], [.v .bool], g56⟩
noncomputable def c56 : qX := ⟨15, tyT, [], [], [], [], [], [], [], [], [], [], [], [], none⟩
theorem F56_eq (n : Nat) (d) : qA c56 n Tryz.f56 (body Tryz.f56) p56.ps p56.rs d = F56 n d.1 d.2.1 d.2.2.1 := by kernel_rfl
theorem d56 : qn c56 (body Tryz.f56) = true := by kernel_rfl
theorem h56 : qz Tryz.prog 56 p56 := hQ (cfg := c56) (qo qq (qh) rfl (by kernel_rfl)) Tryz.func56 (by kernel_rfl) (qr (by kernel_rfl)) d56 (F56_eq fuel)
noncomputable def B55_4 (_n : Nat) (L : (Int × Unit) × (zTt × Unit) × Unit → Option (zTm ⊕ zTr)) (i_3 : Int) (o_1 : (List (Int × zTj)) × Int) : Option (zTm ⊕ zTr) :=
  cond (decide (i_3 < (o_1.1.length : Int))) (qi o_1.1 i_3 fun e2 => qa (g56 (e2.1, 1, 40, ())) fun y3 => cond (!y3.1.1) (some (.inl ((70, ()), (), ()))) (qa (g56 (e2.2.1, 0, 100, ())) fun y4 => cond (!y4.1.1) (some (.inl ((70, ()), (), ()))) (qa (g56 (e2.2.2.1, 1, 100, ())) fun y5 => cond (!y5.1.1) (some (.inl ((70, ()), (), ()))) (qa (g56 (e2.2.2.2.1, 0, 100, ())) fun y6 => cond (!y6.1.1) (some (.inl ((70, ()), (), ()))) (L (((IntKind.wrap .i64 (i_3 + 1)), ()), (o_1, ()), ())))))) (some (.inr ((), (), ())))
noncomputable def L55_4 : Nat → (Int × Unit) × (zTt × Unit) × Unit → Option (zTm ⊕ zTr)
  | 0, _ => none
  | n + 1, d => B55_4 n (L55_4 n) d.1.1 d.2.1.1
noncomputable def l55_4 : jL := ⟨⟨[(1, .c (.ptr 1 [])), (3, .v zI)], [(1, false, .str zTd)], none⟩, [(.ret, ⟨[(2, .v zI)], [], none⟩), (.exit 0, ⟨[], [], none⟩)], L55_4⟩
noncomputable def F55 (n : Nat) (f_0 : zTt) : Option zTq :=
  cond (decide ((f_0.1.length : Int) > 8)) (some ((70, ()), ())) (qa (g56 (f_0.2, 0, 100, ())) fun y1 => cond (!y1.1.1) (some ((70, ()), ())) (qa (L55_4 n ((0, ()), (f_0, ()), ())) fun o7 => qbS o7 (fun d8 => some ((d8.1.1, ()), ())) (fun _ => some ((0, ()), ()))))
noncomputable def g55 (d : zTt × Unit) : Option zTq := F55 fuel d.1
noncomputable def p55 : qI := ⟨[.v (.str zTd)], [.v zI], g55⟩
noncomputable def c55 : qX := ⟨49, tyT, [], [(56, p56)], [(4, l55_4)], [], [], [], [], [], [], [], [], [], none⟩
theorem F55_eq (n : Nat) (d) : qA c55 n Tryz.f55 (body Tryz.f55) p55.ps p55.rs d = F55 n d.1 := by kernel_rfl
theorem L55_4_eq (n : Nat) (d) : (l55_4).g (n + 1) d = run c55 n (nth 0 (qe (body Tryz.f55))) ((l55_4).ins.fill d) (qO (l55_4) n) := by kernel_rfl
theorem ls55 : qe (body Tryz.f55) = [nth 0 (qe (body Tryz.f55))] := by kernel_rfl
theorem d55 : qn c55 (body Tryz.f55) = true := by kernel_rfl
theorem h55 : qz Tryz.prog 55 p55 := hQ (cfg := c55) (qo qq (qd h56 qh) rfl (by kernel_rfl)) Tryz.func55 (by kernel_rfl) (by rw [ls55]; simp only [List.forall_mem_cons]; exact ⟨qJ (key := 4) (li := l55_4) (by kernel_rfl) rfl (fun _ => rfl) (L55_4_eq), fun _ h => by cases h⟩) d55 (F55_eq fuel)
noncomputable def B27_13 (_n : Nat) (L : ((List zTo) × Int × Int × Unit) × (zTt × zTo × Unit) × Unit → Option (zTm ⊕ zUy)) (l_1 : List zTo) (i_6 : Int) (k_8 : Int) (o_2 : (List (Int × zTj)) × Int) (o_7 : Int × (Int × (Int × ((List Int) × Int)))) : Option (zTm ⊕ zUy) :=
  cond (decide (k_8 < (o_7.2.2.2.1.length : Int))) (qi o_7.2.2.2.1 k_8 fun e7 => qa (g56 (e7, 0, (IntKind.wrap .i64 ((o_2.1.length : Int) - 1)), ())) fun y8 => cond (!y8.1.1) (some (.inl ((71, ()), (), ()))) (L ((l_1, i_6, (IntKind.wrap .i64 (k_8 + 1)), ()), (o_2, o_7, ()), ()))) (some (.inr ((l_1, i_6, ()), (o_2, ()), ())))
noncomputable def L27_13 : Nat → ((List zTo) × Int × Int × Unit) × (zTt × zTo × Unit) × Unit → Option (zTm ⊕ zUy)
  | 0, _ => none
  | n + 1, d => B27_13 n (L27_13 n) d.1.1 d.1.2.1 d.1.2.2.1 d.2.1.1 d.2.1.2.1
noncomputable def l27_13 : jL := ⟨⟨[(1, .v (.list false 110 (.str (.pair zI (.pair zI (.pair zI (.pair jD zI))))))), (2, .c (.ptr 2 [])), (6, .v zI), (7, .c (.ptr 7 [])), (8, .v zI)], [(2, false, .str zTd), (7, false, .str (.pair zI (.pair zI (.pair zI (.pair jD zI)))))], none⟩, [(.ret, ⟨[(4, .v zI)], [], none⟩), (.exit 2, ⟨[(1, .v (.list false 110 (.str (.pair zI (.pair zI (.pair zI (.pair jD zI))))))), (2, .c (.ptr 2 [])), (6, .v zI)], [(2, false, .str zTd)], none⟩)], L27_13⟩
noncomputable def B27_7 (n : Nat) (L : ((List zTo) × Int × Unit) × (zTt × Unit) × Unit → Option (zTm ⊕ zTr)) (l_1 : List zTo) (i_6 : Int) (o_2 : (List (Int × zTj)) × Int) : Option (zTm ⊕ zTr) :=
  cond (decide (i_6 < (l_1.length : Int))) (qi l_1 i_6 fun e2 => qa (g56 (e2.1, 0, 2000, ())) fun y3 => cond (!y3.1.1) (some (.inl ((71, ()), (), ()))) (qa (g56 (e2.2.1, 1, 40, ())) fun y4 => cond (!y4.1.1) (some (.inl ((71, ()), (), ()))) (qa (g56 (e2.2.2.1, 0, 10000, ())) fun y5 => cond (!y5.1.1) (some (.inl ((71, ()), (), ()))) (cond (decide ((e2.2.2.2.1.length : Int) > 10)) (some (.inl ((71, ()), (), ()))) (qa (g56 (e2.2.2.2.2, 0, 2000, ())) fun y6 => cond (!y6.1.1) (some (.inl ((71, ()), (), ()))) (qa (L27_13 n ((l_1, i_6, 0, ()), (o_2, e2, ()), ())) fun o9 => qbS o9 (fun d10 => some (.inl ((d10.1.1, ()), (), ()))) (fun d11 => L ((d11.1.1, (IntKind.wrap .i64 (d11.1.2.1 + 1)), ()), (d11.2.1.1, ()), ())))))))) (some (.inr ((), (), ())))
noncomputable def L27_7 : Nat → ((List zTo) × Int × Unit) × (zTt × Unit) × Unit → Option (zTm ⊕ zTr)
  | 0, _ => none
  | n + 1, d => B27_7 n (L27_7 n) d.1.1 d.1.2.1 d.2.1.1
noncomputable def l27_7 : jL := ⟨⟨[(1, .v (.list false 110 (.str (.pair zI (.pair zI (.pair zI (.pair jD zI))))))), (2, .c (.ptr 2 [])), (6, .v zI)], [(2, false, .str zTd)], none⟩, [(.ret, ⟨[(4, .v zI)], [], none⟩), (.exit 0, ⟨[], [], none⟩)], L27_7⟩
noncomputable def F27 (n : Nat) (f_0 : zTt) (l_1 : (List zTo)) : Option zTq :=
  qa (g55 (f_0, ())) fun y1 => cond (y1.1.1 != 0) (some ((y1.1.1, ()), ())) (cond (decide ((l_1.length : Int) > 60)) (some ((71, ()), ())) (qa (L27_7 n ((l_1, 0, ()), (f_0, ()), ())) fun o12 => qbS o12 (fun d13 => some ((d13.1.1, ()), ())) (fun _ => some ((0, ()), ()))))
noncomputable def g27 (d : zTt × (List zTo) × Unit) : Option zTq := F27 fuel d.1 d.2.1
noncomputable def p27 : qI := ⟨[.v (.str zTd), .v (.list false 110 (.str (.pair zI (.pair zI (.pair zI (.pair jD zI))))))], [.v zI], g27⟩
noncomputable def c27 : qX := ⟨73, tyT, [], [(55, p55), (56, p56)], [(13, l27_13), (7, l27_7)], [], [], [], [], [], [], [], [], [], none⟩
theorem F27_eq (n : Nat) (d) : qA c27 n Tryz.f27 (body Tryz.f27) p27.ps p27.rs d = F27 n d.1 d.2.1 := by kernel_rfl
theorem L27_7_eq (n : Nat) (d) : (l27_7).g (n + 1) d = run c27 n (nth 0 (qe (body Tryz.f27))) ((l27_7).ins.fill d) (qO (l27_7) n) := by kernel_rfl
theorem L27_13_eq (n : Nat) (d) : (l27_13).g (n + 1) d = run c27 n (nth 1 (qe (body Tryz.f27))) ((l27_13).ins.fill d) (qO (l27_13) n) := by kernel_rfl
theorem ls27 : qe (body Tryz.f27) = [nth 0 (qe (body Tryz.f27)), nth 1 (qe (body Tryz.f27))] := by kernel_rfl
theorem d27 : qn c27 (body Tryz.f27) = true := by kernel_rfl
theorem h27 : qz Tryz.prog 27 p27 := hQ (cfg := c27) (qo qq (qd h55 (qd h56 qh)) rfl (by kernel_rfl)) Tryz.func27 (by kernel_rfl) (by rw [ls27]; simp only [List.forall_mem_cons]; exact ⟨qJ (key := 7) (li := l27_7) (by kernel_rfl) rfl (fun _ => rfl) (L27_7_eq), qJ (key := 13) (li := l27_13) (by kernel_rfl) rfl (fun _ => rfl) (L27_13_eq), fun _ h => by cases h⟩) d27 (F27_eq fuel)
noncomputable def F87 (_n : Nat) (n_0 : Int) (low_1 : Int) (high_2 : Int) : Option zTl :=
  cond (decide (n_0 ≥ low_1)) (some (((decide (n_0 ≤ high_2)), ()), ())) (some ((false, ()), ()))
noncomputable def g87 (d : Int × Int × Int × Unit) : Option zTl := F87 fuel d.1 d.2.1 d.2.2.1
noncomputable def p87 : qI := ⟨[.v zI, .v zI, .v zI], [.v .bool], g87⟩
noncomputable def c87 : qX := ⟨15, tyT, [], [], [], [], [], [], [], [], [], [], [], [], none⟩
theorem F87_eq (n : Nat) (d) : qA c87 n Tryz.f87 (body Tryz.f87) p87.ps p87.rs d = F87 n d.1 d.2.1 d.2.2.1 := by kernel_rfl
theorem d87 : qn c87 (body Tryz.f87) = true := by kernel_rfl
theorem h87 : qz Tryz.prog 87 p87 := hQ (cfg := c87) (qo qq (qh) rfl (by kernel_rfl)) Tryz.func87 (by kernel_rfl) (qr (by kernel_rfl)) d87 (F87_eq fuel)
noncomputable def B57_4 (_n : Nat) (L : (Int × Unit) × (zTe × Unit) × Unit → Option (zTm ⊕ zUs)) (i_3 : Int) (o_1 : (List zTj) × zUa) : Option (zTm ⊕ zUs) :=
  cond (decide (i_3 < (o_1.1.length : Int))) (qi o_1.1 i_3 fun e1 => qa (g87 (e1.1, 0, (IntKind.wrap .i64 ((o_1.2.2.length : Int) - 1)), ())) fun y2 => cond (!y2.1.1) (some (.inl ((100, ()), (), ()))) (qa (g87 (e1.2.1, 1, 10000, ())) fun y3 => cond (!y3.1.1) (some (.inl ((100, ()), (), ()))) (qa (g87 (e1.2.2.1, 0, 9, ())) fun y4 => cond (!y4.1.1) (some (.inl ((100, ()), (), ()))) (L (((IntKind.wrap .i64 (i_3 + 1)), ()), (o_1, ()), ()))))) (some (.inr ((), (o_1, ()), ())))
noncomputable def L57_4 : Nat → (Int × Unit) × (zTe × Unit) × Unit → Option (zTm ⊕ zUs)
  | 0, _ => none
  | n + 1, d => B57_4 n (L57_4 n) d.1.1 d.2.1.1
noncomputable def l57_4 : jL := ⟨⟨[(1, .c (.ptr 1 [])), (3, .v zI)], [(1, false, .str zTb)], none⟩, [(.ret, ⟨[(2, .v zI)], [], none⟩), (.exit 0, ⟨[(1, .c (.ptr 1 []))], [(1, false, .str zTb)], none⟩)], L57_4⟩
noncomputable def B57_10 (_n : Nat) (L : (Int × Unit) × (zTe × Unit) × Unit → Option (zTm ⊕ zUs)) (i_5 : Int) (o_1 : (List zTj) × zUa) : Option (zTm ⊕ zUs) :=
  cond (decide (i_5 < (o_1.2.1.length : Int))) (qi o_1.2.1 i_5 fun e8 => qa (g87 (e8, 0, 9, ())) fun y9 => cond (!y9.1.1) (some (.inl ((100, ()), (), ()))) (L (((IntKind.wrap .i64 (i_5 + 1)), ()), (o_1, ()), ()))) (some (.inr ((), (o_1, ()), ())))
noncomputable def L57_10 : Nat → (Int × Unit) × (zTe × Unit) × Unit → Option (zTm ⊕ zUs)
  | 0, _ => none
  | n + 1, d => B57_10 n (L57_10 n) d.1.1 d.2.1.1
noncomputable def l57_10 : jL := ⟨⟨[(1, .c (.ptr 1 [])), (5, .v zI)], [(1, false, .str zTb)], none⟩, [(.ret, ⟨[(2, .v zI)], [], none⟩), (.exit 2, ⟨[(1, .c (.ptr 1 []))], [(1, false, .str zTb)], none⟩)], L57_10⟩
noncomputable def B57_15 (_n : Nat) (L : (Int × Unit) × (zTe × Unit) × Unit → Option (zTm ⊕ zTr)) (i_6 : Int) (o_1 : (List zTj) × zUa) : Option (zTm ⊕ zTr) :=
  cond (decide (i_6 < (o_1.2.2.length : Int))) (qi o_1.2.2 i_6 fun e13 => qa (g87 (e13, 0, 10000, ())) fun y14 => cond (!y14.1.1) (some (.inl ((100, ()), (), ()))) (L (((IntKind.wrap .i64 (i_6 + 1)), ()), (o_1, ()), ()))) (some (.inr ((), (), ())))
noncomputable def L57_15 : Nat → (Int × Unit) × (zTe × Unit) × Unit → Option (zTm ⊕ zTr)
  | 0, _ => none
  | n + 1, d => B57_15 n (L57_15 n) d.1.1 d.2.1.1
noncomputable def l57_15 : jL := ⟨⟨[(1, .c (.ptr 1 [])), (6, .v zI)], [(1, false, .str zTb)], none⟩, [(.ret, ⟨[(2, .v zI)], [], none⟩), (.exit 4, ⟨[], [], none⟩)], L57_15⟩
noncomputable def F57 (n : Nat) (b_0 : zTe) : Option zTq :=
  cond (decide ((b_0.1.length : Int) > 20)) (some ((100, ()), ())) (cond (decide ((b_0.2.1.length : Int) > 8)) (some ((100, ()), ())) (cond (decide ((b_0.2.2.length : Int) > 10)) (some ((100, ()), ())) (qa (L57_4 n ((0, ()), (b_0, ()), ())) fun o5 => qbS o5 (fun d6 => some ((d6.1.1, ()), ())) (fun d7 => qa (L57_10 n ((0, ()), (d7.2.1.1, ()), ())) fun o10 => qbS o10 (fun d11 => some ((d11.1.1, ()), ())) (fun d12 => qa (L57_15 n ((0, ()), (d12.2.1.1, ()), ())) fun o15 => qbS o15 (fun d16 => some ((d16.1.1, ()), ())) (fun _ => some ((0, ()), ())))))))
noncomputable def g57 (d : zTe × Unit) : Option zTq := F57 fuel d.1
noncomputable def p57 : qI := ⟨[.v (.str zTb)], [.v zI], g57⟩
noncomputable def c57 : qX := ⟨83, tyT, [], [(87, p87)], [(4, l57_4), (10, l57_10), (15, l57_15)], [], [], [], [], [], [], [], [], [], none⟩
theorem F57_eq (n : Nat) (d) : qA c57 n Tryz.f57 (body Tryz.f57) p57.ps p57.rs d = F57 n d.1 := by kernel_rfl
theorem L57_4_eq (n : Nat) (d) : (l57_4).g (n + 1) d = run c57 n (nth 0 (qe (body Tryz.f57))) ((l57_4).ins.fill d) (qO (l57_4) n) := by kernel_rfl
theorem L57_10_eq (n : Nat) (d) : (l57_10).g (n + 1) d = run c57 n (nth 1 (qe (body Tryz.f57))) ((l57_10).ins.fill d) (qO (l57_10) n) := by kernel_rfl
theorem L57_15_eq (n : Nat) (d) : (l57_15).g (n + 1) d = run c57 n (nth 2 (qe (body Tryz.f57))) ((l57_15).ins.fill d) (qO (l57_15) n) := by kernel_rfl
theorem ls57 : qe (body Tryz.f57) = [nth 0 (qe (body Tryz.f57)), nth 1 (qe (body Tryz.f57)), nth 2 (qe (body Tryz.f57))] := by kernel_rfl
theorem d57 : qn c57 (body Tryz.f57) = true := by kernel_rfl
theorem h57 : qz Tryz.prog 57 p57 := hQ (cfg := c57) (qo qq (qd h87 qh) rfl (by kernel_rfl)) Tryz.func57 (by kernel_rfl) (by rw [ls57]; simp only [List.forall_mem_cons]; exact ⟨qJ (key := 4) (li := l57_4) (by kernel_rfl) rfl (fun _ => rfl) (L57_4_eq), qJ (key := 10) (li := l57_10) (by kernel_rfl) rfl (fun _ => rfl) (L57_10_eq), qJ (key := 15) (li := l57_15) (by kernel_rfl) rfl (fun _ => rfl) (L57_15_eq), fun _ h => by cases h⟩) d57 (F57_eq fuel)
noncomputable def F88 (_n : Nat) (b_0 : zTe) (rule_1 : Int) (first_2 : Int) (second_3 : Int) : Option zTl :=
  qi b_0.1 rule_1 fun e1 => qa (g87 (first_2, 0, (IntKind.wrap .i64 ((b_0.2.1.length : Int) - 1)), ())) fun y2 => cond (!y2.1.1) (some ((false, ()), ())) (qi b_0.2.1 first_2 fun e3 => cond (decide (e3 < e1.2.2.1)) (some ((false, ()), ())) (cond (!e1.2.2.2) (some (((second_3 == (-1)), ()), ())) (qa (g87 (second_3, 0, (IntKind.wrap .i64 ((b_0.2.1.length : Int) - 1)), ())) fun y4 => cond y4.1.1 (cond (second_3 != first_2) (qi b_0.2.1 second_3 fun e5 => some (((decide (e5 ≥ e1.2.2.1)), ()), ())) (some ((false, ()), ()))) (some ((false, ()), ())))))
noncomputable def g88 (d : zTe × Int × Int × Int × Unit) : Option zTl := F88 fuel d.1 d.2.1 d.2.2.1 d.2.2.2.1
noncomputable def p88 : qI := ⟨[.v (.str zTb), .v zI, .v zI, .v zI], [.v .bool], g88⟩
noncomputable def c88 : qX := ⟨58, tyT, [], [(87, p87)], [], [], [], [], [], [], [], [], [], [], none⟩
theorem F88_eq (n : Nat) (d) : qA c88 n Tryz.f88 (body Tryz.f88) p88.ps p88.rs d = F88 n d.1 d.2.1 d.2.2.1 d.2.2.2.1 := by kernel_rfl
theorem d88 : qn c88 (body Tryz.f88) = true := by kernel_rfl
theorem h88 : qz Tryz.prog 88 p88 := hQ (cfg := c88) (qo qq (qd h87 qh) rfl (by kernel_rfl)) Tryz.func88 (by kernel_rfl) (qr (by kernel_rfl)) d88 (F88_eq fuel)
noncomputable def B89_4 (_n : Nat) (L : zUm × (Unit) × Unit → Option (zUe ⊕ zTr)) (l_0 : List (Int × zTf)) (n_1 : Int) (i_5 : Int) : Option (zUe ⊕ zTr) :=
  cond (decide (i_5 < (l_0.length : Int))) (qi l_0 i_5 fun e3 => cond (e3.2.1 == 3) (qi l_0 i_5 fun e4 => cond (e4.2.2.1 == n_1) (some (.inl ((false, ()), (), ()))) (L ((l_0, n_1, (IntKind.wrap .i64 (i_5 + 1)), ()), (), ()))) (L ((l_0, n_1, (IntKind.wrap .i64 (i_5 + 1)), ()), (), ()))) (some (.inr ((), (), ())))
noncomputable def L89_4 : Nat → zUm × (Unit) × Unit → Option (zUe ⊕ zTr)
  | 0, _ => none
  | n + 1, d => B89_4 n (L89_4 n) d.1.1 d.1.2.1 d.1.2.2.1
noncomputable def l89_4 : jL := ⟨⟨[(0, .v (.list false 68 (.str (.pair zI qQ)))), (1, .v zI), (5, .v zI)], [], none⟩, [(.ret, ⟨[(4, .v .bool)], [], none⟩), (.exit 0, ⟨[], [], none⟩)], L89_4⟩
noncomputable def F89 (n : Nat) (l_0 : (List (Int × zTf))) (n_1 : Int) : Option zTl :=
  qa (g87 (n_1, 0, (IntKind.wrap .i64 ((l_0.length : Int) - 1)), ())) fun y1 => cond (!y1.1.1) (some ((false, ()), ())) (qi l_0 n_1 fun e2 => cond (e2.2.1 != 2) (some ((false, ()), ())) (qa (L89_4 n ((l_0, n_1, 0, ()), (), ())) fun o5 => qbS o5 (fun d6 => some ((d6.1.1, ()), ())) (fun _ => some ((true, ()), ()))))
noncomputable def g89 (d : (List (Int × zTf)) × Int × Unit) : Option zTl := F89 fuel d.1 d.2.1
noncomputable def p89 : qI := ⟨[.v (.list false 68 (.str (.pair zI qQ))), .v zI], [.v .bool], g89⟩
noncomputable def c89 : qX := ⟨41, tyT, [], [(87, p87)], [(4, l89_4)], [], [], [], [], [], [], [], [], [], none⟩
theorem F89_eq (n : Nat) (d) : qA c89 n Tryz.f89 (body Tryz.f89) p89.ps p89.rs d = F89 n d.1 d.2.1 := by kernel_rfl
theorem L89_4_eq (n : Nat) (d) : (l89_4).g (n + 1) d = run c89 n (nth 0 (qe (body Tryz.f89))) ((l89_4).ins.fill d) (qO (l89_4) n) := by kernel_rfl
theorem ls89 : qe (body Tryz.f89) = [nth 0 (qe (body Tryz.f89))] := by kernel_rfl
theorem d89 : qn c89 (body Tryz.f89) = true := by kernel_rfl
theorem h89 : qz Tryz.prog 89 p89 := hQ (cfg := c89) (qo qq (qd h87 qh) rfl (by kernel_rfl)) Tryz.func89 (by kernel_rfl) (by rw [ls89]; simp only [List.forall_mem_cons]; exact ⟨qJ (key := 4) (li := l89_4) (by kernel_rfl) rfl (fun _ => rfl) (L89_4_eq), fun _ h => by cases h⟩) d89 (F89_eq fuel)
noncomputable def F58 (_n : Nat) (b_0 : zTe) (before_1 : (List (Int × zTf))) (x_2 : (Int × zTf)) : Option zTl :=
  cond (decide ((before_1.length : Int) > 0)) (qi before_1 (IntKind.wrap .i64 ((before_1.length : Int) - 1)) fun e1 => qa (g87 (x_2.1, e1.1, 10000, ())) fun y2 => cond (!y2.1.1) (some ((false, ()), ())) (qa (g87 (x_2.2.2.1, 0, (IntKind.wrap .i64 ((b_0.2.2.length : Int) - 1)), ())) fun y3 => qa (g87 (x_2.2.2.2.1, 0, (IntKind.wrap .i64 ((b_0.2.1.length : Int) - 1)), ())) fun y4 => cond (x_2.2.1 == 1) (qa (g87 (x_2.2.2.1, 0, (IntKind.wrap .i64 ((b_0.1.length : Int) - 1)), ())) fun y5 => cond y5.1.1 (qa (g88 (b_0, x_2.2.2.1, x_2.2.2.2.1, x_2.2.2.2.2, ())) fun y6 => some ((y6.1.1, ()), ())) (some ((false, ()), ()))) (cond (x_2.2.1 == 2) (cond y3.1.1 (qa (g87 (x_2.2.2.2.1, 1, 3, ())) fun y7 => cond y7.1.1 (some (((x_2.2.2.2.2 == 0), ()), ())) (some ((false, ()), ()))) (some ((false, ()), ()))) (cond (x_2.2.1 == 3) (qa (g89 (before_1, x_2.2.2.1, ())) fun y8 => cond y8.1.1 (cond y4.1.1 (some (((x_2.2.2.2.2 == 0), ()), ())) (some ((false, ()), ()))) (some ((false, ()), ()))) (cond (x_2.2.1 == 4) (cond y3.1.1 (cond y4.1.1 (some (((x_2.2.2.2.2 == 0), ()), ())) (some ((false, ()), ()))) (some ((false, ()), ()))) (cond (x_2.2.1 == 5) (cond y3.1.1 (qa (g87 (x_2.2.2.2.1, 0, 10000, ())) fun y9 => cond y9.1.1 (some (((x_2.2.2.2.2 == 0), ()), ())) (some ((false, ()), ()))) (some ((false, ()), ()))) (cond (x_2.2.1 == 6) (cond y3.1.1 (cond (x_2.2.2.2.1 == 0) (some (((x_2.2.2.2.2 == 0), ()), ())) (some ((false, ()), ()))) (some ((false, ()), ()))) (some ((false, ()), ()))))))))) (qa (g87 (x_2.1, 0, 10000, ())) fun y10 => cond (!y10.1.1) (some ((false, ()), ())) (qa (g87 (x_2.2.2.1, 0, (IntKind.wrap .i64 ((b_0.2.2.length : Int) - 1)), ())) fun y11 => qa (g87 (x_2.2.2.2.1, 0, (IntKind.wrap .i64 ((b_0.2.1.length : Int) - 1)), ())) fun y12 => cond (x_2.2.1 == 1) (qa (g87 (x_2.2.2.1, 0, (IntKind.wrap .i64 ((b_0.1.length : Int) - 1)), ())) fun y13 => cond y13.1.1 (qa (g88 (b_0, x_2.2.2.1, x_2.2.2.2.1, x_2.2.2.2.2, ())) fun y14 => some ((y14.1.1, ()), ())) (some ((false, ()), ()))) (cond (x_2.2.1 == 2) (cond y11.1.1 (qa (g87 (x_2.2.2.2.1, 1, 3, ())) fun y15 => cond y15.1.1 (some (((x_2.2.2.2.2 == 0), ()), ())) (some ((false, ()), ()))) (some ((false, ()), ()))) (cond (x_2.2.1 == 3) (qa (g89 (before_1, x_2.2.2.1, ())) fun y16 => cond y16.1.1 (cond y12.1.1 (some (((x_2.2.2.2.2 == 0), ()), ())) (some ((false, ()), ()))) (some ((false, ()), ()))) (cond (x_2.2.1 == 4) (cond y11.1.1 (cond y12.1.1 (some (((x_2.2.2.2.2 == 0), ()), ())) (some ((false, ()), ()))) (some ((false, ()), ()))) (cond (x_2.2.1 == 5) (cond y11.1.1 (qa (g87 (x_2.2.2.2.1, 0, 10000, ())) fun y17 => cond y17.1.1 (some (((x_2.2.2.2.2 == 0), ()), ())) (some ((false, ()), ()))) (some ((false, ()), ()))) (cond (x_2.2.1 == 6) (cond y11.1.1 (cond (x_2.2.2.2.1 == 0) (some (((x_2.2.2.2.2 == 0), ()), ())) (some ((false, ()), ()))) (some ((false, ()), ()))) (some ((false, ()), ())))))))))
noncomputable def g58 (d : zTe × (List (Int × zTf)) × (Int × zTf) × Unit) : Option zTl := F58 fuel d.1 d.2.1 d.2.2.1
noncomputable def p58 : qI := ⟨[.v (.str zTb), .v (.list false 68 (.str (.pair zI qQ))), .v (.str (.pair zI qQ))], [.v .bool], g58⟩
noncomputable def c58 : qX := ⟨124, tyT, [], [(87, p87), (88, p88), (89, p89)], [], [], [], [], [], [], [], [], [], [], none⟩
theorem F58_eq (n : Nat) (d) : qA c58 n Tryz.f58 (body Tryz.f58) p58.ps p58.rs d = F58 n d.1 d.2.1 d.2.2.1 := by kernel_rfl
theorem d58 : qn c58 (body Tryz.f58) = true := by kernel_rfl
theorem h58 : qz Tryz.prog 58 p58 := hQ (cfg := c58) (qo qq (qd h87 (qd h88 (qd h89 qh))) rfl (by kernel_rfl)) Tryz.func58 (by kernel_rfl) (qr (by kernel_rfl)) d58 (F58_eq fuel)
noncomputable def B28_7 (_n : Nat) (L : ((List (Int × zTf)) × Int × Unit) × (zTe × Unit) × Unit → Option (((Int × Int × Unit) × (Unit) × Unit) ⊕ zTr)) (l_1 : List (Int × zTf)) (i_7 : Int) (o_2 : (List zTj) × zUa) : Option (((Int × Int × Unit) × (Unit) × Unit) ⊕ zTr) :=
  cond (decide (i_7 < (l_1.length : Int))) (leK 0 i_7 (leK i_7 (l_1.length : Int) (qi l_1 i_7 fun e2 => qa (g58 (o_2, (l_1.take i_7.toNat), e2, ())) fun y3 => cond (!y3.1.1) (some (.inl ((i_7, 101, ()), (), ()))) (L ((l_1, (IntKind.wrap .i64 (i_7 + 1)), ()), (o_2, ()), ()))))) (some (.inr ((), (), ())))
noncomputable def L28_7 : Nat → ((List (Int × zTf)) × Int × Unit) × (zTe × Unit) × Unit → Option (((Int × Int × Unit) × (Unit) × Unit) ⊕ zTr)
  | 0, _ => none
  | n + 1, d => B28_7 n (L28_7 n) d.1.1 d.1.2.1 d.2.1.1
noncomputable def l28_7 : jL := ⟨⟨[(1, .v (.list false 68 (.str (.pair zI qQ)))), (2, .c (.ptr 2 [])), (7, .v zI)], [(2, false, .str zTb)], none⟩, [(.ret, ⟨[(4, .v zI), (5, .v zI)], [], none⟩), (.exit 0, ⟨[], [], none⟩)], L28_7⟩
noncomputable def F28 (n : Nat) (b_0 : zTe) (l_1 : (List (Int × zTf))) : Option zUl :=
  qa (g57 (b_0, ())) fun y1 => cond (y1.1.1 != 0) (some ((0, y1.1.1, ()), ())) (cond (decide ((l_1.length : Int) > 100)) (some ((0, 2, ()), ())) (qa (L28_7 n ((l_1, 0, ()), (b_0, ()), ())) fun o4 => qbS o4 (fun d5 => some ((d5.1.1, d5.1.2.1, ()), ())) (fun _ => some ((0, 0, ()), ()))))
noncomputable def g28 (d : zTe × (List (Int × zTf)) × Unit) : Option zUl := F28 fuel d.1 d.2.1
noncomputable def p28 : qI := ⟨[.v (.str zTb), .v (.list false 68 (.str (.pair zI qQ)))], [.v zI, .v zI], g28⟩
noncomputable def c28 : qX := ⟨33, tyT, [], [(57, p57), (58, p58)], [(7, l28_7)], [], [], [], [], [], [], [], [], [], none⟩
theorem F28_eq (n : Nat) (d) : qA c28 n Tryz.f28 (body Tryz.f28) p28.ps p28.rs d = F28 n d.1 d.2.1 := by kernel_rfl
theorem L28_7_eq (n : Nat) (d) : (l28_7).g (n + 1) d = run c28 n (nth 0 (qe (body Tryz.f28))) ((l28_7).ins.fill d) (qO (l28_7) n) := by kernel_rfl
theorem ls28 : qe (body Tryz.f28) = [nth 0 (qe (body Tryz.f28))] := by kernel_rfl
theorem d28 : qn c28 (body Tryz.f28) = true := by kernel_rfl
theorem h28 : qz Tryz.prog 28 p28 := hQ (cfg := c28) (qo qq (qd h57 (qd h58 qh)) rfl (by kernel_rfl)) Tryz.func28 (by kernel_rfl) (by rw [ls28]; simp only [List.forall_mem_cons]; exact ⟨qJ (key := 7) (li := l28_7) (by kernel_rfl) rfl (fun _ => rfl) (L28_7_eq), fun _ h => by cases h⟩) d28 (F28_eq fuel)
noncomputable def F59 (_n : Nat) (n_0 : Int) (low_1 : Int) (high_2 : Int) : Option zTl :=
  cond (decide (n_0 ≥ low_1)) (some (((decide (n_0 ≤ high_2)), ()), ())) (some ((false, ()), ()))
noncomputable def g59 (d : Int × Int × Int × Unit) : Option zTl := F59 fuel d.1 d.2.1 d.2.2.1
noncomputable def p59 : qI := ⟨[.v zI, .v zI, .v zI], [.v .bool], g59⟩
noncomputable def c59 : qX := ⟨15, tyT, [], [], [], [], [], [], [], [], [], [], [], [], none⟩
theorem F59_eq (n : Nat) (d) : qA c59 n Tryz.f59 (body Tryz.f59) p59.ps p59.rs d = F59 n d.1 d.2.1 d.2.2.1 := by kernel_rfl
theorem d59 : qn c59 (body Tryz.f59) = true := by kernel_rfl
theorem h59 : qz Tryz.prog 59 p59 := hQ (cfg := c59) (qo qq (qh) rfl (by kernel_rfl)) Tryz.func59 (by kernel_rfl) (qr (by kernel_rfl)) d59 (F59_eq fuel)
noncomputable def B29_4 (_n : Nat) (L : (Int × Unit) × (zTk × Unit) × Unit → Option (zTm ⊕ zUr)) (i_3 : Int) (o_1 : (List zTf) × zUj) : Option (zTm ⊕ zUr) :=
  cond (decide (i_3 < (o_1.1.length : Int))) (qi o_1.1 i_3 fun e4 => qa (g59 (e4.1, (-1), (IntKind.wrap .i64 (i_3 - 1)), ())) fun y5 => cond (!y5.1.1) (some (.inl ((50, ()), (), ()))) (qa (g59 (e4.2.1, 1, 1000, ())) fun y6 => cond (!y6.1.1) (some (.inl ((50, ()), (), ()))) (qa (g59 (e4.2.2.1, 0, 20, ())) fun y7 => cond (!y7.1.1) (some (.inl ((50, ()), (), ()))) (qa (g59 (e4.2.2.2, 1, 10000, ())) fun y8 => cond (!y8.1.1) (some (.inl ((50, ()), (), ()))) (L (((IntKind.wrap .i64 (i_3 + 1)), ()), (o_1, ()), ())))))) (some (.inr ((), (o_1, ()), ())))
noncomputable def L29_4 : Nat → (Int × Unit) × (zTk × Unit) × Unit → Option (zTm ⊕ zUr)
  | 0, _ => none
  | n + 1, d => B29_4 n (L29_4 n) d.1.1 d.2.1.1
noncomputable def l29_4 : jL := ⟨⟨[(1, .c (.ptr 1 [])), (3, .v zI)], [(1, false, .str (.pair (.list false 51 (.str qQ)) (.pair (.list false 116 (.str qQ)) (.pair zI zTh))))], none⟩, [(.ret, ⟨[(2, .v zI)], [], none⟩), (.exit 0, ⟨[(1, .c (.ptr 1 []))], [(1, false, .str (.pair (.list false 51 (.str qQ)) (.pair (.list false 116 (.str qQ)) (.pair zI zTh))))], none⟩)], L29_4⟩
noncomputable def B29_10 (_n : Nat) (L : (Int × Unit) × (zTk × Unit) × Unit → Option (zTm ⊕ zTr)) (i_5 : Int) (o_1 : (List zTf) × zUj) : Option (zTm ⊕ zTr) :=
  cond (decide (i_5 < (o_1.2.1.length : Int))) (qi o_1.2.1 i_5 fun e12 => qa (g59 (e12.1, 0, (IntKind.wrap .i64 ((o_1.1.length : Int) - 1)), ())) fun y13 => cond (!y13.1.1) (some (.inl ((50, ()), (), ()))) (qa (g59 (e12.2.1, 0, 2, ())) fun y14 => cond (!y14.1.1) (some (.inl ((50, ()), (), ()))) (qa (g59 (e12.2.2.1, 1, 1000, ())) fun y15 => cond (!y15.1.1) (some (.inl ((50, ()), (), ()))) (qa (g59 (e12.2.2.2, 0, 1000, ())) fun y16 => cond (!y16.1.1) (some (.inl ((50, ()), (), ()))) (L (((IntKind.wrap .i64 (i_5 + 1)), ()), (o_1, ()), ())))))) (some (.inr ((), (), ())))
noncomputable def L29_10 : Nat → (Int × Unit) × (zTk × Unit) × Unit → Option (zTm ⊕ zTr)
  | 0, _ => none
  | n + 1, d => B29_10 n (L29_10 n) d.1.1 d.2.1.1
noncomputable def l29_10 : jL := ⟨⟨[(1, .c (.ptr 1 [])), (5, .v zI)], [(1, false, .str (.pair (.list false 51 (.str qQ)) (.pair (.list false 116 (.str qQ)) (.pair zI zTh))))], none⟩, [(.ret, ⟨[(2, .v zI)], [], none⟩), (.exit 2, ⟨[], [], none⟩)], L29_10⟩
noncomputable def F29 (n : Nat) (s_0 : zTk) : Option zTq :=
  cond (decide ((s_0.1.length : Int) > 10)) (some ((50, ()), ())) (cond (decide ((s_0.2.1.length : Int) > 16)) (some ((50, ()), ())) (qa (g59 (s_0.2.2.1, 1, 1000, ())) fun y1 => cond (!y1.1.1) (some ((50, ()), ())) (qa (g59 (s_0.2.2.2.1, 0, 20, ())) fun y2 => cond (!y2.1.1) (some ((50, ()), ())) (qa (g59 (s_0.2.2.2.2, 1, 1000, ())) fun y3 => cond (!y3.1.1) (some ((50, ()), ())) (qa (L29_4 n ((0, ()), (s_0, ()), ())) fun o9 => qbS o9 (fun d10 => some ((d10.1.1, ()), ())) (fun d11 => qa (L29_10 n ((0, ()), (d11.2.1.1, ()), ())) fun o17 => qbS o17 (fun d18 => some ((d18.1.1, ()), ())) (fun _ => some ((0, ()), ()))))))))
noncomputable def g29 (d : zTk × Unit) : Option zTq := F29 fuel d.1
noncomputable def p29 : qI := ⟨[.v (.str (.pair (.list false 51 (.str qQ)) (.pair (.list false 116 (.str qQ)) (.pair zI zTh))))], [.v zI], g29⟩
noncomputable def c29 : qX := ⟨109, tyT, [], [(59, p59)], [(4, l29_4), (10, l29_10)], [], [], [], [], [], [], [], [], [], none⟩
theorem F29_eq (n : Nat) (d) : qA c29 n Tryz.f29 (body Tryz.f29) p29.ps p29.rs d = F29 n d.1 := by kernel_rfl
theorem L29_4_eq (n : Nat) (d) : (l29_4).g (n + 1) d = run c29 n (nth 0 (qe (body Tryz.f29))) ((l29_4).ins.fill d) (qO (l29_4) n) := by kernel_rfl
theorem L29_10_eq (n : Nat) (d) : (l29_10).g (n + 1) d = run c29 n (nth 1 (qe (body Tryz.f29))) ((l29_10).ins.fill d) (qO (l29_10) n) := by kernel_rfl
theorem ls29 : qe (body Tryz.f29) = [nth 0 (qe (body Tryz.f29)), nth 1 (qe (body Tryz.f29))] := by kernel_rfl
theorem d29 : qn c29 (body Tryz.f29) = true := by kernel_rfl
theorem h29 : qz Tryz.prog 29 p29 := hQ (cfg := c29) (qo qq (qd h59 qh) rfl (by kernel_rfl)) Tryz.func29 (by kernel_rfl) (by rw [ls29]; simp only [List.forall_mem_cons]; exact ⟨qJ (key := 4) (li := l29_4) (by kernel_rfl) rfl (fun _ => rfl) (L29_4_eq), qJ (key := 10) (li := l29_10) (by kernel_rfl) rfl (fun _ => rfl) (L29_10_eq), fun _ h => by cases h⟩) d29 (F29_eq fuel)
end Go.Proofs.Tryz.V
