/- The contracts of functions of the program, printed by program from the interpreter: each says what a call returns. No condition beyond those typed in each theorem. -/
import Derived.Test.YtinkjepanpicoaaGreatFn1
namespace Go.Proofs.Tryz.V
open Go.Vi
set_option maxRecDepth 100000
noncomputable def F87 (_n : Nat) (n_0 : Int) (low_1 : Int) (high_2 : Int) : Option zTm :=
  cond (decide (n_0 ≥ low_1)) (some (((decide (n_0 ≤ high_2)), ()), ())) (some ((false, ()), ()))
noncomputable def g87 (d : Int × Int × Int × Unit) : Option zTm := F87 fuel d.1 d.2.1 d.2.2.1
noncomputable def p87 : qH := ⟨[.v zI, .v zI, .v zI], [.v .bool], g87⟩
noncomputable def c87 : qW := ⟨15, tyT, [], [], [], [], [], [], [], [], [], [], [], [], none⟩
theorem F87_eq (n : Nat) (d) : qz c87 n Tryz.f87 (body Tryz.f87) p87.ps p87.rs d = F87 n d.1 d.2.1 d.2.2.1 := by kernel_rfl
theorem d87 : ql c87 (body Tryz.f87) = true := by kernel_rfl
theorem h87 : qx Tryz.prog 87 p87 := hQ (cfg := c87) (qn qq (qh) rfl (by kernel_rfl)) Tryz.func87 (by kernel_rfl) (qr (by kernel_rfl)) d87 (F87_eq fuel)
noncomputable def B57_4 (_n : Nat) (L : (Int × Unit) × (zTf × Unit) × Unit → Option (zTn ⊕ zUy)) (i_3 : Int) (o_1 : (List zTl) × zVh) : Option (zTn ⊕ zUy) :=
  cond (decide (i_3 < (o_1.1.length : Int))) (qg o_1.1 i_3 fun e1 => qa (g87 (e1.1, 0, (IntKind.wrap .i64 ((o_1.2.2.length : Int) - 1)), ())) fun y2 => cond (!y2.1.1) (some (.inl ((100, ()), (), ()))) (qa (g87 (e1.2.1, 1, 10000, ())) fun y3 => cond (!y3.1.1) (some (.inl ((100, ()), (), ()))) (qa (g87 (e1.2.2.1, 0, 9, ())) fun y4 => cond (!y4.1.1) (some (.inl ((100, ()), (), ()))) (L (((IntKind.wrap .i64 (i_3 + 1)), ()), (o_1, ()), ()))))) (some (.inr ((), (o_1, ()), ())))
noncomputable def L57_4 : Nat → (Int × Unit) × (zTf × Unit) × Unit → Option (zTn ⊕ zUy)
  | 0, _ => none
  | n + 1, d => B57_4 n (L57_4 n) d.1.1 d.2.1.1
noncomputable def l57_4 : jC := ⟨⟨[(1, .c (.ptr 1 [])), (3, .v zI)], [(1, false, .str zTb)], none⟩, [(.ret, ⟨[(2, .v zI)], [], none⟩), (.exit 0, ⟨[(1, .c (.ptr 1 []))], [(1, false, .str zTb)], none⟩)], L57_4⟩
noncomputable def B57_10 (_n : Nat) (L : (Int × Unit) × (zTf × Unit) × Unit → Option (zTn ⊕ zUy)) (i_5 : Int) (o_1 : (List zTl) × zVh) : Option (zTn ⊕ zUy) :=
  cond (decide (i_5 < (o_1.2.1.length : Int))) (qg o_1.2.1 i_5 fun e8 => qa (g87 (e8, 0, 9, ())) fun y9 => cond (!y9.1.1) (some (.inl ((100, ()), (), ()))) (L (((IntKind.wrap .i64 (i_5 + 1)), ()), (o_1, ()), ()))) (some (.inr ((), (o_1, ()), ())))
noncomputable def L57_10 : Nat → (Int × Unit) × (zTf × Unit) × Unit → Option (zTn ⊕ zUy)
  | 0, _ => none
  | n + 1, d => B57_10 n (L57_10 n) d.1.1 d.2.1.1
noncomputable def l57_10 : jC := ⟨⟨[(1, .c (.ptr 1 [])), (5, .v zI)], [(1, false, .str zTb)], none⟩, [(.ret, ⟨[(2, .v zI)], [], none⟩), (.exit 2, ⟨[(1, .c (.ptr 1 []))], [(1, false, .str zTb)], none⟩)], L57_10⟩
noncomputable def B57_15 (_n : Nat) (L : (Int × Unit) × (zTf × Unit) × Unit → Option (zTn ⊕ zTr)) (i_6 : Int) (o_1 : (List zTl) × zVh) : Option (zTn ⊕ zTr) :=
  cond (decide (i_6 < (o_1.2.2.length : Int))) (qg o_1.2.2 i_6 fun e13 => qa (g87 (e13, 0, 10000, ())) fun y14 => cond (!y14.1.1) (some (.inl ((100, ()), (), ()))) (L (((IntKind.wrap .i64 (i_6 + 1)), ()), (o_1, ()), ()))) (some (.inr ((), (), ())))
noncomputable def L57_15 : Nat → (Int × Unit) × (zTf × Unit) × Unit → Option (zTn ⊕ zTr)
  | 0, _ => none
  | n + 1, d => B57_15 n (L57_15 n) d.1.1 d.2.1.1
noncomputable def l57_15 : jC := ⟨⟨[(1, .c (.ptr 1 [])), (6, .v zI)], [(1, false, .str zTb)], none⟩, [(.ret, ⟨[(2, .v zI)], [], none⟩), (.exit 4, ⟨[], [], none⟩)], L57_15⟩
noncomputable def F57 (n : Nat) (b_0 : zTf) : Option zTu :=
  cond (decide ((b_0.1.length : Int) > 20)) (some ((100, ()), ())) (cond (decide ((b_0.2.1.length : Int) > 8)) (some ((100, ()), ())) (cond (decide ((b_0.2.2.length : Int) > 10)) (some ((100, ()), ())) (qa (L57_4 n ((0, ()), (b_0, ()), ())) fun o5 => qaP o5 (fun d6 => some ((d6.1.1, ()), ())) (fun d7 => qa (L57_10 n ((0, ()), (d7.2.1.1, ()), ())) fun o10 => qaP o10 (fun d11 => some ((d11.1.1, ()), ())) (fun d12 => qa (L57_15 n ((0, ()), (d12.2.1.1, ()), ())) fun o15 => qaP o15 (fun d16 => some ((d16.1.1, ()), ())) (fun _ => some ((0, ()), ())))))))
noncomputable def g57 (d : zTf × Unit) : Option zTu := F57 fuel d.1
noncomputable def p57 : qH := ⟨[.v (.str zTb)], [.v zI], g57⟩
noncomputable def c57 : qW := ⟨83, tyT, [], [(87, p87)], [(4, l57_4), (10, l57_10), (15, l57_15)], [], [], [], [], [], [], [], [], [], none⟩
theorem F57_eq (n : Nat) (d) : qz c57 n Tryz.f57 (body Tryz.f57) p57.ps p57.rs d = F57 n d.1 := by kernel_rfl
theorem L57_4_eq (n : Nat) (d) : (l57_4).g (n + 1) d = run c57 n (j7 0 (qe (body Tryz.f57))) ((l57_4).ins.fill d) (qJ (l57_4) n) := by kernel_rfl
theorem L57_10_eq (n : Nat) (d) : (l57_10).g (n + 1) d = run c57 n (j7 1 (qe (body Tryz.f57))) ((l57_10).ins.fill d) (qJ (l57_10) n) := by kernel_rfl
theorem L57_15_eq (n : Nat) (d) : (l57_15).g (n + 1) d = run c57 n (j7 2 (qe (body Tryz.f57))) ((l57_15).ins.fill d) (qJ (l57_15) n) := by kernel_rfl
theorem ls57 : qe (body Tryz.f57) = [j7 0 (qe (body Tryz.f57)), j7 1 (qe (body Tryz.f57)), j7 2 (qe (body Tryz.f57))] := by kernel_rfl
theorem d57 : ql c57 (body Tryz.f57) = true := by kernel_rfl
theorem h57 : qx Tryz.prog 57 p57 := hQ (cfg := c57) (qn qq (qd h87 qh) rfl (by kernel_rfl)) Tryz.func57 (by kernel_rfl) (by rw [ls57]; simp only [List.forall_mem_cons]; exact ⟨qF (key := 4) (li := l57_4) (by kernel_rfl) rfl (fun _ => rfl) (L57_4_eq), qF (key := 10) (li := l57_10) (by kernel_rfl) rfl (fun _ => rfl) (L57_10_eq), qF (key := 15) (li := l57_15) (by kernel_rfl) rfl (fun _ => rfl) (L57_15_eq), fun _ h => by cases h⟩) d57 (F57_eq fuel)
noncomputable def F88 (_n : Nat) (b_0 : zTf) (rule_1 : Int) (first_2 : Int) (second_3 : Int) : Option zTm :=
  qg b_0.1 rule_1 fun e1 => qa (g87 (first_2, 0, (IntKind.wrap .i64 ((b_0.2.1.length : Int) - 1)), ())) fun y2 => cond (!y2.1.1) (some ((false, ()), ())) (qg b_0.2.1 first_2 fun e3 => cond (decide (e3 < e1.2.2.1)) (some ((false, ()), ())) (cond (!e1.2.2.2) (some (((second_3 == (-1)), ()), ())) (qa (g87 (second_3, 0, (IntKind.wrap .i64 ((b_0.2.1.length : Int) - 1)), ())) fun y4 => cond y4.1.1 (cond (second_3 != first_2) (qg b_0.2.1 second_3 fun e5 => some (((decide (e5 ≥ e1.2.2.1)), ()), ())) (some ((false, ()), ()))) (some ((false, ()), ())))))
noncomputable def g88 (d : zTf × Int × Int × Int × Unit) : Option zTm := F88 fuel d.1 d.2.1 d.2.2.1 d.2.2.2.1
noncomputable def p88 : qH := ⟨[.v (.str zTb), .v zI, .v zI, .v zI], [.v .bool], g88⟩
noncomputable def c88 : qW := ⟨58, tyT, [], [(87, p87)], [], [], [], [], [], [], [], [], [], [], none⟩
theorem F88_eq (n : Nat) (d) : qz c88 n Tryz.f88 (body Tryz.f88) p88.ps p88.rs d = F88 n d.1 d.2.1 d.2.2.1 d.2.2.2.1 := by kernel_rfl
theorem d88 : ql c88 (body Tryz.f88) = true := by kernel_rfl
theorem h88 : qx Tryz.prog 88 p88 := hQ (cfg := c88) (qn qq (qd h87 qh) rfl (by kernel_rfl)) Tryz.func88 (by kernel_rfl) (qr (by kernel_rfl)) d88 (F88_eq fuel)
noncomputable def B89_4 (_n : Nat) (L : zUq × (Unit) × Unit → Option (zUe ⊕ zTr)) (l_0 : List (Int × zTg)) (n_1 : Int) (i_5 : Int) : Option (zUe ⊕ zTr) :=
  cond (decide (i_5 < (l_0.length : Int))) (qg l_0 i_5 fun e3 => cond (e3.2.1 == 3) (qg l_0 i_5 fun e4 => cond (e4.2.2.1 == n_1) (some (.inl ((false, ()), (), ()))) (L ((l_0, n_1, (IntKind.wrap .i64 (i_5 + 1)), ()), (), ()))) (L ((l_0, n_1, (IntKind.wrap .i64 (i_5 + 1)), ()), (), ()))) (some (.inr ((), (), ())))
noncomputable def L89_4 : Nat → zUq × (Unit) × Unit → Option (zUe ⊕ zTr)
  | 0, _ => none
  | n + 1, d => B89_4 n (L89_4 n) d.1.1 d.1.2.1 d.1.2.2.1
noncomputable def l89_4 : jC := ⟨⟨[(0, .v (.list false 68 (.str (.pair zI qR)))), (1, .v zI), (5, .v zI)], [], none⟩, [(.ret, ⟨[(4, .v .bool)], [], none⟩), (.exit 0, ⟨[], [], none⟩)], L89_4⟩
noncomputable def F89 (n : Nat) (l_0 : (List (Int × zTg))) (n_1 : Int) : Option zTm :=
  qa (g87 (n_1, 0, (IntKind.wrap .i64 ((l_0.length : Int) - 1)), ())) fun y1 => cond (!y1.1.1) (some ((false, ()), ())) (qg l_0 n_1 fun e2 => cond (e2.2.1 != 2) (some ((false, ()), ())) (qa (L89_4 n ((l_0, n_1, 0, ()), (), ())) fun o5 => qaP o5 (fun d6 => some ((d6.1.1, ()), ())) (fun _ => some ((true, ()), ()))))
noncomputable def g89 (d : (List (Int × zTg)) × Int × Unit) : Option zTm := F89 fuel d.1 d.2.1
noncomputable def p89 : qH := ⟨[.v (.list false 68 (.str (.pair zI qR))), .v zI], [.v .bool], g89⟩
noncomputable def c89 : qW := ⟨41, tyT, [], [(87, p87)], [(4, l89_4)], [], [], [], [], [], [], [], [], [], none⟩
theorem F89_eq (n : Nat) (d) : qz c89 n Tryz.f89 (body Tryz.f89) p89.ps p89.rs d = F89 n d.1 d.2.1 := by kernel_rfl
theorem L89_4_eq (n : Nat) (d) : (l89_4).g (n + 1) d = run c89 n (j7 0 (qe (body Tryz.f89))) ((l89_4).ins.fill d) (qJ (l89_4) n) := by kernel_rfl
theorem ls89 : qe (body Tryz.f89) = [j7 0 (qe (body Tryz.f89))] := by kernel_rfl
theorem d89 : ql c89 (body Tryz.f89) = true := by kernel_rfl
theorem h89 : qx Tryz.prog 89 p89 := hQ (cfg := c89) (qn qq (qd h87 qh) rfl (by kernel_rfl)) Tryz.func89 (by kernel_rfl) (by rw [ls89]; simp only [List.forall_mem_cons]; exact ⟨qF (key := 4) (li := l89_4) (by kernel_rfl) rfl (fun _ => rfl) (L89_4_eq), fun _ h => by cases h⟩) d89 (F89_eq fuel)
noncomputable def F58 (_n : Nat) (b_0 : zTf) (before_1 : (List (Int × zTg))) (x_2 : (Int × zTg)) : Option zTm :=
  cond (decide ((before_1.length : Int) > 0)) (qg before_1 (IntKind.wrap .i64 ((before_1.length : Int) - 1)) fun e1 => qa (g87 (x_2.1, e1.1, 10000, ())) fun y2 => cond (!y2.1.1) (some ((false, ()), ())) (qa (g87 (x_2.2.2.1, 0, (IntKind.wrap .i64 ((b_0.2.2.length : Int) - 1)), ())) fun y3 => qa (g87 (x_2.2.2.2.1, 0, (IntKind.wrap .i64 ((b_0.2.1.length : Int) - 1)), ())) fun y4 => cond (x_2.2.1 == 1) (qa (g87 (x_2.2.2.1, 0, (IntKind.wrap .i64 ((b_0.1.length : Int) - 1)), ())) fun y5 => cond y5.1.1 (qa (g88 (b_0, x_2.2.2.1, x_2.2.2.2.1, x_2.2.2.2.2, ())) fun y6 => some ((y6.1.1, ()), ())) (some ((false, ()), ()))) (cond (x_2.2.1 == 2) (cond y3.1.1 (qa (g87 (x_2.2.2.2.1, 1, 3, ())) fun y7 => cond y7.1.1 (some (((x_2.2.2.2.2 == 0), ()), ())) (some ((false, ()), ()))) (some ((false, ()), ()))) (cond (x_2.2.1 == 3) (qa (g89 (before_1, x_2.2.2.1, ())) fun y8 => cond y8.1.1 (cond y4.1.1 (some (((x_2.2.2.2.2 == 0), ()), ())) (some ((false, ()), ()))) (some ((false, ()), ()))) (cond (x_2.2.1 == 4) (cond y3.1.1 (cond y4.1.1 (some (((x_2.2.2.2.2 == 0), ()), ())) (some ((false, ()), ()))) (some ((false, ()), ()))) (cond (x_2.2.1 == 5) (cond y3.1.1 (qa (g87 (x_2.2.2.2.1, 0, 10000, ())) fun y9 => cond y9.1.1 (some (((x_2.2.2.2.2 == 0), ()), ())) (some ((false, ()), ()))) (some ((false, ()), ()))) (cond (x_2.2.1 == 6) (cond y3.1.1 (cond (x_2.2.2.2.1 == 0) (some (((x_2.2.2.2.2 == 0), ()), ())) (some ((false, ()), ()))) (some ((false, ()), ()))) (some ((false, ()), ()))))))))) (qa (g87 (x_2.1, 0, 10000, ())) fun y10 => cond (!y10.1.1) (some ((false, ()), ())) (qa (g87 (x_2.2.2.1, 0, (IntKind.wrap .i64 ((b_0.2.2.length : Int) - 1)), ())) fun y11 => qa (g87 (x_2.2.2.2.1, 0, (IntKind.wrap .i64 ((b_0.2.1.length : Int) - 1)), ())) fun y12 => cond (x_2.2.1 == 1) (qa (g87 (x_2.2.2.1, 0, (IntKind.wrap .i64 ((b_0.1.length : Int) - 1)), ())) fun y13 => cond y13.1.1 (qa (g88 (b_0, x_2.2.2.1, x_2.2.2.2.1, x_2.2.2.2.2, ())) fun y14 => some ((y14.1.1, ()), ())) (some ((false, ()), ()))) (cond (x_2.2.1 == 2) (cond y11.1.1 (qa (g87 (x_2.2.2.2.1, 1, 3, ())) fun y15 => cond y15.1.1 (some (((x_2.2.2.2.2 == 0), ()), ())) (some ((false, ()), ()))) (some ((false, ()), ()))) (cond (x_2.2.1 == 3) (qa (g89 (before_1, x_2.2.2.1, ())) fun y16 => cond y16.1.1 (cond y12.1.1 (some (((x_2.2.2.2.2 == 0), ()), ())) (some ((false, ()), ()))) (some ((false, ()), ()))) (cond (x_2.2.1 == 4) (cond y11.1.1 (cond y12.1.1 (some (((x_2.2.2.2.2 == 0), ()), ())) (some ((false, ()), ()))) (some ((false, ()), ()))) (cond (x_2.2.1 == 5) (cond y11.1.1 (qa (g87 (x_2.2.2.2.1, 0, 10000, ())) fun y17 => cond y17.1.1 (some (((x_2.2.2.2.2 == 0), ()), ())) (some ((false, ()), ()))) (some ((false, ()), ()))) (cond (x_2.2.1 == 6) (cond y11.1.1 (cond (x_2.2.2.2.1 == 0) (some (((x_2.2.2.2.2 == 0), ()), ())) (some ((false, ()), ()))) (some ((false, ()), ()))) (some ((false, ()), ())))))))))
noncomputable def g58 (d : zTf × (List (Int × zTg)) × (Int × zTg) × Unit) : Option zTm := F58 fuel d.1 d.2.1 d.2.2.1
noncomputable def p58 : qH := ⟨[.v (.str zTb), .v (.list false 68 (.str (.pair zI qR))), .v (.str (.pair zI qR))], [.v .bool], g58⟩
noncomputable def c58 : qW := ⟨124, tyT, [], [(87, p87), (88, p88), (89, p89)], [], [], [], [], [], [], [], [], [], [], none⟩
theorem F58_eq (n : Nat) (d) : qz c58 n Tryz.f58 (body Tryz.f58) p58.ps p58.rs d = F58 n d.1 d.2.1 d.2.2.1 := by kernel_rfl
theorem d58 : ql c58 (body Tryz.f58) = true := by kernel_rfl
theorem h58 : qx Tryz.prog 58 p58 := hQ (cfg := c58) (qn qq (qd h87 (qd h88 (qd h89 qh))) rfl (by kernel_rfl)) Tryz.func58 (by kernel_rfl) (qr (by kernel_rfl)) d58 (F58_eq fuel)
noncomputable def B28_7 (_n : Nat) (L : ((List (Int × zTg)) × Int × Unit) × (zTf × Unit) × Unit → Option (((Int × Int × Unit) × (Unit) × Unit) ⊕ zTr)) (l_1 : List (Int × zTg)) (i_7 : Int) (o_2 : (List zTl) × zVh) : Option (((Int × Int × Unit) × (Unit) × Unit) ⊕ zTr) :=
  cond (decide (i_7 < (l_1.length : Int))) (leK 0 i_7 (leK i_7 (l_1.length : Int) (qg l_1 i_7 fun e2 => qa (g58 (o_2, (l_1.take i_7.toNat), e2, ())) fun y3 => cond (!y3.1.1) (some (.inl ((i_7, 101, ()), (), ()))) (L ((l_1, (IntKind.wrap .i64 (i_7 + 1)), ()), (o_2, ()), ()))))) (some (.inr ((), (), ())))
noncomputable def L28_7 : Nat → ((List (Int × zTg)) × Int × Unit) × (zTf × Unit) × Unit → Option (((Int × Int × Unit) × (Unit) × Unit) ⊕ zTr)
  | 0, _ => none
  | n + 1, d => B28_7 n (L28_7 n) d.1.1 d.1.2.1 d.2.1.1
noncomputable def l28_7 : jC := ⟨⟨[(1, .v (.list false 68 (.str (.pair zI qR)))), (2, .c (.ptr 2 [])), (7, .v zI)], [(2, false, .str zTb)], none⟩, [(.ret, ⟨[(4, .v zI), (5, .v zI)], [], none⟩), (.exit 0, ⟨[], [], none⟩)], L28_7⟩
noncomputable def F28 (n : Nat) (b_0 : zTf) (l_1 : (List (Int × zTg))) : Option zUp :=
  qa (g57 (b_0, ())) fun y1 => cond (y1.1.1 != 0) (some ((0, y1.1.1, ()), ())) (cond (decide ((l_1.length : Int) > 100)) (some ((0, 2, ()), ())) (qa (L28_7 n ((l_1, 0, ()), (b_0, ()), ())) fun o4 => qaP o4 (fun d5 => some ((d5.1.1, d5.1.2.1, ()), ())) (fun _ => some ((0, 0, ()), ()))))
noncomputable def g28 (d : zTf × (List (Int × zTg)) × Unit) : Option zUp := F28 fuel d.1 d.2.1
noncomputable def p28 : qH := ⟨[.v (.str zTb), .v (.list false 68 (.str (.pair zI qR)))], [.v zI, .v zI], g28⟩
noncomputable def c28 : qW := ⟨33, tyT, [], [(57, p57), (58, p58)], [(7, l28_7)], [], [], [], [], [], [], [], [], [], none⟩
theorem F28_eq (n : Nat) (d) : qz c28 n Tryz.f28 (body Tryz.f28) p28.ps p28.rs d = F28 n d.1 d.2.1 := by kernel_rfl
theorem L28_7_eq (n : Nat) (d) : (l28_7).g (n + 1) d = run c28 n (j7 0 (qe (body Tryz.f28))) ((l28_7).ins.fill d) (qJ (l28_7) n) := by kernel_rfl
theorem ls28 : qe (body Tryz.f28) = [j7 0 (qe (body Tryz.f28))] := by kernel_rfl
theorem d28 : ql c28 (body Tryz.f28) = true := by kernel_rfl
theorem h28 : qx Tryz.prog 28 p28 := hQ (cfg := c28) (qn qq (qd h57 (qd h58 qh)) rfl (by kernel_rfl)) Tryz.func28 (by kernel_rfl) (by rw [ls28]; simp only [List.forall_mem_cons]; exact ⟨qF (key := 7) (li := l28_7) (by kernel_rfl) rfl (fun _ => rfl) (L28_7_eq), fun _ h => by cases h⟩) d28 (F28_eq fuel)
noncomputable def F59 (_n : Nat) (n_0 : Int) (low_1 : Int) (high_2 : Int) : Option zTm :=
  cond (decide (n_0 ≥ low_1)) (some (((decide (n_0 ≤ high_2)), ()), ())) (some ((false, ()), ()))
noncomputable def g59 (d : Int × Int × Int × Unit) : Option zTm := F59 fuel d.1 d.2.1 d.2.2.1
noncomputable def p59 : qH := ⟨[.v zI, .v zI, .v zI], [.v .bool], g59⟩
noncomputable def c59 : qW := ⟨15, tyT, [], [], [], [], [], [], [], [], [], [], [], [], none⟩
theorem F59_eq (n : Nat) (d) : qz c59 n Tryz.f59 (body Tryz.f59) p59.ps p59.rs d = F59 n d.1 d.2.1 d.2.2.1 := by kernel_rfl
theorem d59 : ql c59 (body Tryz.f59) = true := by kernel_rfl
theorem h59 : qx Tryz.prog 59 p59 := hQ (cfg := c59) (qn qq (qh) rfl (by kernel_rfl)) Tryz.func59 (by kernel_rfl) (qr (by kernel_rfl)) d59 (F59_eq fuel)
noncomputable def B29_4 (_n : Nat) (L : (Int × Unit) × (zTo × Unit) × Unit → Option (zTn ⊕ zUz)) (i_3 : Int) (o_1 : (List zTg) × zUn) : Option (zTn ⊕ zUz) :=
  cond (decide (i_3 < (o_1.1.length : Int))) (qg o_1.1 i_3 fun e4 => qa (g59 (e4.1, (-1), (IntKind.wrap .i64 (i_3 - 1)), ())) fun y5 => cond (!y5.1.1) (some (.inl ((50, ()), (), ()))) (qa (g59 (e4.2.1, 1, 1000, ())) fun y6 => cond (!y6.1.1) (some (.inl ((50, ()), (), ()))) (qa (g59 (e4.2.2.1, 0, 20, ())) fun y7 => cond (!y7.1.1) (some (.inl ((50, ()), (), ()))) (qa (g59 (e4.2.2.2, 1, 10000, ())) fun y8 => cond (!y8.1.1) (some (.inl ((50, ()), (), ()))) (L (((IntKind.wrap .i64 (i_3 + 1)), ()), (o_1, ()), ())))))) (some (.inr ((), (o_1, ()), ())))
noncomputable def L29_4 : Nat → (Int × Unit) × (zTo × Unit) × Unit → Option (zTn ⊕ zUz)
  | 0, _ => none
  | n + 1, d => B29_4 n (L29_4 n) d.1.1 d.2.1.1
noncomputable def l29_4 : jC := ⟨⟨[(1, .c (.ptr 1 [])), (3, .v zI)], [(1, false, .str (.pair (.list false 51 (.str qR)) (.pair (.list false 116 (.str qR)) (.pair zI j6))))], none⟩, [(.ret, ⟨[(2, .v zI)], [], none⟩), (.exit 0, ⟨[(1, .c (.ptr 1 []))], [(1, false, .str (.pair (.list false 51 (.str qR)) (.pair (.list false 116 (.str qR)) (.pair zI j6))))], none⟩)], L29_4⟩
noncomputable def B29_10 (_n : Nat) (L : (Int × Unit) × (zTo × Unit) × Unit → Option (zTn ⊕ zTr)) (i_5 : Int) (o_1 : (List zTg) × zUn) : Option (zTn ⊕ zTr) :=
  cond (decide (i_5 < (o_1.2.1.length : Int))) (qg o_1.2.1 i_5 fun e12 => qa (g59 (e12.1, 0, (IntKind.wrap .i64 ((o_1.1.length : Int) - 1)), ())) fun y13 => cond (!y13.1.1) (some (.inl ((50, ()), (), ()))) (qa (g59 (e12.2.1, 0, 2, ())) fun y14 => cond (!y14.1.1) (some (.inl ((50, ()), (), ()))) (qa (g59 (e12.2.2.1, 1, 1000, ())) fun y15 => cond (!y15.1.1) (some (.inl ((50, ()), (), ()))) (qa (g59 (e12.2.2.2, 0, 1000, ())) fun y16 => cond (!y16.1.1) (some (.inl ((50, ()), (), ()))) (L (((IntKind.wrap .i64 (i_5 + 1)), ()), (o_1, ()), ())))))) (some (.inr ((), (), ())))
noncomputable def L29_10 : Nat → (Int × Unit) × (zTo × Unit) × Unit → Option (zTn ⊕ zTr)
  | 0, _ => none
  | n + 1, d => B29_10 n (L29_10 n) d.1.1 d.2.1.1
noncomputable def l29_10 : jC := ⟨⟨[(1, .c (.ptr 1 [])), (5, .v zI)], [(1, false, .str (.pair (.list false 51 (.str qR)) (.pair (.list false 116 (.str qR)) (.pair zI j6))))], none⟩, [(.ret, ⟨[(2, .v zI)], [], none⟩), (.exit 2, ⟨[], [], none⟩)], L29_10⟩
noncomputable def F29 (n : Nat) (s_0 : zTo) : Option zTu :=
  cond (decide ((s_0.1.length : Int) > 10)) (some ((50, ()), ())) (cond (decide ((s_0.2.1.length : Int) > 16)) (some ((50, ()), ())) (qa (g59 (s_0.2.2.1, 1, 1000, ())) fun y1 => cond (!y1.1.1) (some ((50, ()), ())) (qa (g59 (s_0.2.2.2.1, 0, 20, ())) fun y2 => cond (!y2.1.1) (some ((50, ()), ())) (qa (g59 (s_0.2.2.2.2, 1, 1000, ())) fun y3 => cond (!y3.1.1) (some ((50, ()), ())) (qa (L29_4 n ((0, ()), (s_0, ()), ())) fun o9 => qaP o9 (fun d10 => some ((d10.1.1, ()), ())) (fun d11 => qa (L29_10 n ((0, ()), (d11.2.1.1, ()), ())) fun o17 => qaP o17 (fun d18 => some ((d18.1.1, ()), ())) (fun _ => some ((0, ()), ()))))))))
noncomputable def g29 (d : zTo × Unit) : Option zTu := F29 fuel d.1
noncomputable def p29 : qH := ⟨[.v (.str (.pair (.list false 51 (.str qR)) (.pair (.list false 116 (.str qR)) (.pair zI j6))))], [.v zI], g29⟩
noncomputable def c29 : qW := ⟨109, tyT, [], [(59, p59)], [(4, l29_4), (10, l29_10)], [], [], [], [], [], [], [], [], [], none⟩
theorem F29_eq (n : Nat) (d) : qz c29 n Tryz.f29 (body Tryz.f29) p29.ps p29.rs d = F29 n d.1 := by kernel_rfl
theorem L29_4_eq (n : Nat) (d) : (l29_4).g (n + 1) d = run c29 n (j7 0 (qe (body Tryz.f29))) ((l29_4).ins.fill d) (qJ (l29_4) n) := by kernel_rfl
theorem L29_10_eq (n : Nat) (d) : (l29_10).g (n + 1) d = run c29 n (j7 1 (qe (body Tryz.f29))) ((l29_10).ins.fill d) (qJ (l29_10) n) := by kernel_rfl
theorem ls29 : qe (body Tryz.f29) = [j7 0 (qe (body Tryz.f29)), j7 1 (qe (body Tryz.f29))] := by kernel_rfl
theorem d29 : ql c29 (body Tryz.f29) = true := by kernel_rfl
theorem h29 : qx Tryz.prog 29 p29 := hQ (cfg := c29) (qn qq (qd h59 qh) rfl (by kernel_rfl)) Tryz.func29 (by kernel_rfl) (by rw [ls29]; simp only [List.forall_mem_cons]; exact ⟨qF (key := 4) (li := l29_4) (by kernel_rfl) rfl (fun _ => rfl) (L29_4_eq), qF (key := 10) (li := l29_10) (by kernel_rfl) rfl (fun _ => rfl) (L29_10_eq), fun _ h => by cases h⟩) d29 (F29_eq fuel)
noncomputable def F30 (_n : Nat) (n_0 : Int) (low_1 : Int) (high_2 : Int) : Option zTm :=
  cond (decide (n_0 ≥ low_1)) (some (((decide (n_0 ≤ high_2)), ()), ())) (some ((false, ()), ()))
noncomputable def g30 (d : Int × Int × Int × Unit) : Option zTm := F30 fuel d.1 d.2.1 d.2.2.1
noncomputable def p30 : qH := ⟨[.v zI, .v zI, .v zI], [.v .bool], g30⟩
noncomputable def c30 : qW := ⟨15, tyT, [], [], [], [], [], [], [], [], [], [], [], [], none⟩
theorem F30_eq (n : Nat) (d) : qz c30 n Tryz.f30 (body Tryz.f30) p30.ps p30.rs d = F30 n d.1 d.2.1 d.2.2.1 := by kernel_rfl
theorem d30 : ql c30 (body Tryz.f30) = true := by kernel_rfl
theorem h30 : qx Tryz.prog 30 p30 := hQ (cfg := c30) (qn qq (qh) rfl (by kernel_rfl)) Tryz.func30 (by kernel_rfl) (qr (by kernel_rfl)) d30 (F30_eq fuel)
noncomputable def B9_14 (_n : Nat) (L : (Int × Int × Unit) × (zTd × Unit) × Unit → Option (zTn ⊕ zTr)) (n_4 : Int) (i_5 : Int) (o_1 : zTw × zUg) : Option (zTn ⊕ zTr) :=
  cond (decide (i_5 < n_4)) (qg o_1.2.2.2.2.2.1 i_5 fun e5 => qa (g30 (e5, 0, 200, ())) fun y6 => cond (!y6.1.1) (some (.inl ((120, ()), (), ()))) (qg o_1.2.2.2.2.2.2 i_5 fun e7 => qa (g30 (e7, 0, 100, ())) fun y8 => cond (!y8.1.1) (some (.inl ((120, ()), (), ()))) (L ((n_4, (IntKind.wrap .i64 (i_5 + 1)), ()), (o_1, ()), ())))) (some (.inr ((), (), ())))
noncomputable def L9_14 : Nat → (Int × Int × Unit) × (zTd × Unit) × Unit → Option (zTn ⊕ zTr)
  | 0, _ => none
  | n + 1, d => B9_14 n (L9_14 n) d.1.1 d.1.2.1 d.2.1.1
noncomputable def l9_14 : jC := ⟨⟨[(1, .c (.ptr 1 [])), (4, .v zI), (5, .v zI)], [(1, false, .str (.pair (.str zTe) (.pair (.str zTb) (.pair (.list false 68 (.str (.pair zI qR))) (.pair zI (.pair (.str (.pair (.list false 51 (.str qR)) (.pair (.list false 116 (.str qR)) (.pair zI j6)))) (.pair jE jE)))))))], none⟩, [(.ret, ⟨[(2, .v zI)], [], none⟩), (.exit 0, ⟨[], [], none⟩)], L9_14⟩
noncomputable def F9 (n : Nat) (g_0 : zTd) : Option zTu :=
  qa (g27 (g_0.1, [], ())) fun y1 => cond (y1.1.1 != 0) (some ((y1.1.1, ()), ())) (qa (g28 (g_0.2.1, g_0.2.2.1, ())) fun y2 => cond (y2.1.2.1 != 0) (some ((y2.1.2.1, ()), ())) (qa (g29 (g_0.2.2.2.2.1, ())) fun y3 => cond (y3.1.1 != 0) (some ((y3.1.1, ()), ())) (cond ((g_0.2.1.2.2.length : Int) != (g_0.1.1.length : Int)) (some ((120, ()), ())) (cond ((g_0.2.2.2.2.1.2.1.length : Int) != (g_0.1.1.length : Int)) (some ((120, ()), ())) (cond ((g_0.2.2.2.2.2.1.length : Int) != (g_0.1.1.length : Int)) (some ((120, ()), ())) (cond ((g_0.2.2.2.2.2.2.length : Int) != (g_0.1.1.length : Int)) (some ((120, ()), ())) (qa (g30 (g_0.2.2.2.1, 0, 10000, ())) fun y4 => cond (!y4.1.1) (some ((120, ()), ())) (qa (L9_14 n (((g_0.1.1.length : Int), 0, ()), (g_0, ()), ())) fun o9 => qaP o9 (fun d10 => some ((d10.1.1, ()), ())) (fun _ => some ((0, ()), ()))))))))))
noncomputable def g9 (d : zTd × Unit) : Option zTu := F9 fuel d.1
noncomputable def p9 : qH := ⟨[.v (.str (.pair (.str zTe) (.pair (.str zTb) (.pair (.list false 68 (.str (.pair zI qR))) (.pair zI (.pair (.str (.pair (.list false 51 (.str qR)) (.pair (.list false 116 (.str qR)) (.pair zI j6)))) (.pair jE jE)))))))], [.v zI], g9⟩
noncomputable def c9 : qW := ⟨88, tyT, [], [(27, p27), (28, p28), (29, p29), (30, p30)], [(14, l9_14)], [], [], [], [], [], [], [], [], [], none⟩
theorem F9_eq (n : Nat) (d) : qz c9 n Tryz.f9 (body Tryz.f9) p9.ps p9.rs d = F9 n d.1 := by kernel_rfl
theorem L9_14_eq (n : Nat) (d) : (l9_14).g (n + 1) d = run c9 n (j7 0 (qe (body Tryz.f9))) ((l9_14).ins.fill d) (qJ (l9_14) n) := by kernel_rfl
theorem ls9 : qe (body Tryz.f9) = [j7 0 (qe (body Tryz.f9))] := by kernel_rfl
theorem d9 : ql c9 (body Tryz.f9) = true := by kernel_rfl
theorem h9 : qx Tryz.prog 9 p9 := hQ (cfg := c9) (qn qq (qd h27 (qd h28 (qd h29 (qd h30 qh)))) rfl (by kernel_rfl)) Tryz.func9 (by kernel_rfl) (by rw [ls9]; simp only [List.forall_mem_cons]; exact ⟨qF (key := 14) (li := l9_14) (by kernel_rfl) rfl (fun _ => rfl) (L9_14_eq), fun _ h => by cases h⟩) d9 (F9_eq fuel)
noncomputable def F51 (_n : Nat) (n_0 : Int) (low_1 : Int) (high_2 : Int) : Option zTm :=
  cond (decide (n_0 ≥ low_1)) (some (((decide (n_0 ≤ high_2)), ()), ())) (some ((false, ()), ()))
noncomputable def g51 (d : Int × Int × Int × Unit) : Option zTm := F51 fuel d.1 d.2.1 d.2.2.1
noncomputable def p51 : qH := ⟨[.v zI, .v zI, .v zI], [.v .bool], g51⟩
noncomputable def c51 : qW := ⟨15, tyT, [], [], [], [], [], [], [], [], [], [], [], [], none⟩
theorem F51_eq (n : Nat) (d) : qz c51 n Tryz.f51 (body Tryz.f51) p51.ps p51.rs d = F51 n d.1 d.2.1 d.2.2.1 := by kernel_rfl
theorem d51 : ql c51 (body Tryz.f51) = true := by kernel_rfl
theorem h51 : qx Tryz.prog 51 p51 := hQ (cfg := c51) (qn qq (qh) rfl (by kernel_rfl)) Tryz.func51 (by kernel_rfl) (qr (by kernel_rfl)) d51 (F51_eq fuel)
noncomputable def F82 (_n : Nat) (b_0 : (Int × zTl)) : Option zTm :=
  qa (g51 (b_0.1, 1, 40, ())) fun y1 => cond (!y1.1.1) (some ((true, ()), ())) (qa (g51 (b_0.2.1, 0, 100, ())) fun y2 => cond (!y2.1.1) (some ((true, ()), ())) (qa (g51 (b_0.2.2.1, 1, 100, ())) fun y3 => cond (!y3.1.1) (some ((true, ()), ())) (qa (g51 (b_0.2.2.2.1, 0, 100, ())) fun y4 => some (((!y4.1.1), ()), ()))))
noncomputable def g82 (d : (Int × zTl) × Unit) : Option zTm := F82 fuel d.1
noncomputable def p82 : qH := ⟨[.v (.str (.pair zI zTk))], [.v .bool], g82⟩
noncomputable def c82 : qW := ⟨25, tyT, [], [(51, p51)], [], [], [], [], [], [], [], [], [], [], none⟩
theorem F82_eq (n : Nat) (d) : qz c82 n Tryz.f82 (body Tryz.f82) p82.ps p82.rs d = F82 n d.1 := by kernel_rfl
theorem d82 : ql c82 (body Tryz.f82) = true := by kernel_rfl
theorem h82 : qx Tryz.prog 82 p82 := hQ (cfg := c82) (qn qq (qd h51 qh) rfl (by kernel_rfl)) Tryz.func82 (by kernel_rfl) (qr (by kernel_rfl)) d82 (F82_eq fuel)
noncomputable def B102_2 (_n : Nat) (L : ((List (Int × zTl)) × ((Int × zTl) → Option Bool) × Int × Int × Unit) × (Unit) × Unit → Option (zTn ⊕ zTr)) (s_0 : List (Int × zTl)) (f_1 : (Int × zTl) → Option Bool) (t_7 : Int) (t_8 : Int) : Option (zTn ⊕ zTr) :=
  cond (decide (t_8 < t_7)) (qg s_0 t_8 fun e1 => qa (f_1 e1) fun y2 => cond y2 (some (.inl ((t_8, ()), (), ()))) (L ((s_0, f_1, t_7, (IntKind.wrap .i64 (t_8 + 1)), ()), (), ()))) (some (.inr ((), (), ())))
noncomputable def L102_2 : Nat → ((List (Int × zTl)) × ((Int × zTl) → Option Bool) × Int × Int × Unit) × (Unit) × Unit → Option (zTn ⊕ zTr)
  | 0, _ => none
  | n + 1, d => B102_2 n (L102_2 n) d.1.1 d.1.2.1 d.1.2.2.1 d.1.2.2.2.1
noncomputable def l102_2 : jC := ⟨⟨[(0, .v (.list false 145 (.str (.pair zI zTk)))), (1, .v (.fn (.str (.pair zI zTk)) .bool)), (7, .v zI), (8, .v zI)], [], none⟩, [(.ret, ⟨[(4, .v zI)], [], none⟩), (.exit 0, ⟨[], [], none⟩)], L102_2⟩
noncomputable def F102 (n : Nat) (s_0 : (List (Int × zTl))) (f_1 : ((Int × zTl) → Option Bool)) : Option zTu :=
  qa (L102_2 n ((s_0, f_1, (s_0.length : Int), 0, ()), (), ())) fun o3 => qaP o3 (fun d4 => some ((d4.1.1, ()), ())) (fun _ => some (((-1), ()), ()))
noncomputable def g102 (d : (List (Int × zTl)) × ((Int × zTl) → Option Bool) × Unit) : Option zTu := F102 fuel d.1 d.2.1
noncomputable def p102 : qH := ⟨[.v (.list false 145 (.str (.pair zI zTk))), .v (.fn (.str (.pair zI zTk)) .bool)], [.v zI], g102⟩
noncomputable def c102 : qW := ⟨19, tyT, [], [], [(2, l102_2)], [], [], [], [], [], [], [], [], [], none⟩
theorem F102_eq (n : Nat) (d) : qz c102 n Tryz.f102 (body Tryz.f102) p102.ps p102.rs d = F102 n d.1 d.2.1 := by kernel_rfl
theorem L102_2_eq (n : Nat) (d) : (l102_2).g (n + 1) d = run c102 n (j7 0 (qe (body Tryz.f102))) ((l102_2).ins.fill d) (qJ (l102_2) n) := by kernel_rfl
theorem ls102 : qe (body Tryz.f102) = [j7 0 (qe (body Tryz.f102))] := by kernel_rfl
theorem d102 : ql c102 (body Tryz.f102) = true := by kernel_rfl
theorem h102 : qx Tryz.prog 102 p102 := hQ (cfg := c102) (qn qq (qh) rfl (by kernel_rfl)) Tryz.func102 (by kernel_rfl) (by rw [ls102]; simp only [List.forall_mem_cons]; exact ⟨qF (key := 2) (li := l102_2) (by kernel_rfl) rfl (fun _ => rfl) (L102_2_eq), fun _ h => by cases h⟩) d102 (F102_eq fuel)
noncomputable def F83 (_n : Nat) (s_0 : (List (Int × zTl))) (f_1 : ((Int × zTl) → Option Bool)) : Option zTm :=
  qa (g102 (s_0, f_1, ())) fun y1 => some (((decide (y1.1.1 ≥ 0)), ()), ())
noncomputable def g83 (d : (List (Int × zTl)) × ((Int × zTl) → Option Bool) × Unit) : Option zTm := F83 fuel d.1 d.2.1
noncomputable def p83 : qH := ⟨[.v (.list false 145 (.str (.pair zI zTk))), .v (.fn (.str (.pair zI zTk)) .bool)], [.v .bool], g83⟩
noncomputable def c83 : qW := ⟨9, tyT, [], [(102, p102)], [], [], [], [], [], [], [], [], [], [], none⟩
theorem F83_eq (n : Nat) (d) : qz c83 n Tryz.f83 (body Tryz.f83) p83.ps p83.rs d = F83 n d.1 d.2.1 := by kernel_rfl
theorem d83 : ql c83 (body Tryz.f83) = true := by kernel_rfl
theorem h83 : qx Tryz.prog 83 p83 := hQ (cfg := c83) (qn qq (qd h102 qh) rfl (by kernel_rfl)) Tryz.func83 (by kernel_rfl) (qr (by kernel_rfl)) d83 (F83_eq fuel)
noncomputable def F48 (_n : Nat) (f_0 : zTw) : Option zTu :=
  cond (decide ((f_0.1.length : Int) > 8)) (some ((70, ()), ())) (qa (g51 (f_0.2, 0, 100, ())) fun y1 => cond (!y1.1.1) (some ((70, ()), ())) (qa (g83 (f_0.1, (fun v2 => qa (g82 (v2, ())) fun y3 => some y3.1.1), ())) fun y4 => cond y4.1.1 (some ((70, ()), ())) (some ((0, ()), ()))))
noncomputable def g48 (d : zTw × Unit) : Option zTu := F48 fuel d.1
noncomputable def p48 : qH := ⟨[.v (.str zTe)], [.v zI], g48⟩
noncomputable def c48 : qW := ⟨20, tyT, [], [(51, p51), (82, p82), (83, p83)], [], [], [], [], [], [], [], [], [], [], none⟩
theorem F48_eq (n : Nat) (d) : qz c48 n Tryz.f48 (body Tryz.f48) p48.ps p48.rs d = F48 n d.1 := by kernel_rfl
theorem d48 : ql c48 (body Tryz.f48) = true := by kernel_rfl
theorem h48 : qx Tryz.prog 48 p48 := hQ (cfg := c48) (qn qq (qd h51 (qd h82 (qd h83 qh))) rfl (by kernel_rfl)) Tryz.func48 (by kernel_rfl) (qr (by kernel_rfl)) d48 (F48_eq fuel)
noncomputable def F50 (_n : Nat) (n_0 : Int) (t_1 : zTw) : Option zTm :=
  qa (g51 (n_0, 0, (IntKind.wrap .i64 ((t_1.1.length : Int) - 1)), ())) fun y1 => some (((!y1.1.1), ()), ())
noncomputable def g50 (d : Int × zTw × Unit) : Option zTm := F50 fuel d.1 d.2.1
noncomputable def p50 : qH := ⟨[.v zI, .r (.str zTe)], [.v .bool], g50⟩
noncomputable def c50 : qW := ⟨11, tyT, [], [(51, p51)], [], [], [], [], [], [], [], [], [], [], none⟩
theorem F50_eq (n : Nat) (d) : qz c50 n Tryz.f50 (body Tryz.f50) p50.ps p50.rs d = F50 n d.1 d.2.1 := by kernel_rfl
theorem d50 : ql c50 (body Tryz.f50) = true := by kernel_rfl
theorem h50 : qx Tryz.prog 50 p50 := hQ (cfg := c50) (qn qq (qd h51 qh) rfl (by kernel_rfl)) Tryz.func50 (by kernel_rfl) (qr (by kernel_rfl)) d50 (F50_eq fuel)
noncomputable def F49 (_n : Nat) (g_0 : zTq) (t_1 : zTw) : Option zTm :=
  qa (g51 (g_0.1, 0, 2000, ())) fun y1 => cond (!y1.1.1) (some ((true, ()), ())) (qa (g51 (g_0.2.1, 1, 40, ())) fun y2 => cond (!y2.1.1) (some ((true, ()), ())) (qa (g51 (g_0.2.2.1, 0, 10000, ())) fun y3 => cond (!y3.1.1) (some ((true, ()), ())) (qa (g51 (g_0.2.2.2.2, 0, 2000, ())) fun y4 => cond (!y4.1.1) (some ((true, ()), ())) (cond (decide ((g_0.2.2.2.1.length : Int) > 10)) (some ((true, ()), ())) (qa (g26 (g_0.2.2.2.1, (fun v5 => qa (g50 (v5, t_1, ())) fun y6 => some y6.1.1), ())) fun y7 => some ((y7.1.1, ()), ()))))))
noncomputable def g49 (d : zTq × zTw × Unit) : Option zTm := F49 fuel d.1 d.2.1
noncomputable def p49 : qH := ⟨[.v (.str (.pair zI (.pair zI (.pair zI (.pair jE zI))))), .r (.str zTe)], [.v .bool], g49⟩
noncomputable def c49 : qW := ⟨40, tyT, [], [(26, p26), (50, p50), (51, p51)], [], [], [], [], [], [], [], [], [], [], none⟩
theorem F49_eq (n : Nat) (d) : qz c49 n Tryz.f49 (body Tryz.f49) p49.ps p49.rs d = F49 n d.1 d.2.1 := by kernel_rfl
theorem d49 : ql c49 (body Tryz.f49) = true := by kernel_rfl
theorem h49 : qx Tryz.prog 49 p49 := hQ (cfg := c49) (qn qq (qd h26 (qd h50 (qd h51 qh))) rfl (by kernel_rfl)) Tryz.func49 (by kernel_rfl) (qr (by kernel_rfl)) d49 (F49_eq fuel)
noncomputable def B84_2 (_n : Nat) (L : ((List zTq) × (zTq → Option Bool) × Int × Int × Unit) × (Unit) × Unit → Option (zTn ⊕ zTr)) (s_0 : List zTq) (f_1 : zTq → Option Bool) (t_7 : Int) (t_8 : Int) : Option (zTn ⊕ zTr) :=
  cond (decide (t_8 < t_7)) (qg s_0 t_8 fun e1 => qa (f_1 e1) fun y2 => cond y2 (some (.inl ((t_8, ()), (), ()))) (L ((s_0, f_1, t_7, (IntKind.wrap .i64 (t_8 + 1)), ()), (), ()))) (some (.inr ((), (), ())))
noncomputable def L84_2 : Nat → ((List zTq) × (zTq → Option Bool) × Int × Int × Unit) × (Unit) × Unit → Option (zTn ⊕ zTr)
  | 0, _ => none
  | n + 1, d => B84_2 n (L84_2 n) d.1.1 d.1.2.1 d.1.2.2.1 d.1.2.2.2.1
noncomputable def l84_2 : jC := ⟨⟨[(0, .v (.list false 110 (.str (.pair zI (.pair zI (.pair zI (.pair jE zI))))))), (1, .v (.fn (.str (.pair zI (.pair zI (.pair zI (.pair jE zI))))) .bool)), (7, .v zI), (8, .v zI)], [], none⟩, [(.ret, ⟨[(4, .v zI)], [], none⟩), (.exit 0, ⟨[], [], none⟩)], L84_2⟩
noncomputable def F84 (n : Nat) (s_0 : (List zTq)) (f_1 : (zTq → Option Bool)) : Option zTu :=
  qa (L84_2 n ((s_0, f_1, (s_0.length : Int), 0, ()), (), ())) fun o3 => qaP o3 (fun d4 => some ((d4.1.1, ()), ())) (fun _ => some (((-1), ()), ()))
noncomputable def g84 (d : (List zTq) × (zTq → Option Bool) × Unit) : Option zTu := F84 fuel d.1 d.2.1
noncomputable def p84 : qH := ⟨[.v (.list false 110 (.str (.pair zI (.pair zI (.pair zI (.pair jE zI)))))), .v (.fn (.str (.pair zI (.pair zI (.pair zI (.pair jE zI))))) .bool)], [.v zI], g84⟩
noncomputable def c84 : qW := ⟨19, tyT, [], [], [(2, l84_2)], [], [], [], [], [], [], [], [], [], none⟩
theorem F84_eq (n : Nat) (d) : qz c84 n Tryz.f84 (body Tryz.f84) p84.ps p84.rs d = F84 n d.1 d.2.1 := by kernel_rfl
theorem L84_2_eq (n : Nat) (d) : (l84_2).g (n + 1) d = run c84 n (j7 0 (qe (body Tryz.f84))) ((l84_2).ins.fill d) (qJ (l84_2) n) := by kernel_rfl
theorem ls84 : qe (body Tryz.f84) = [j7 0 (qe (body Tryz.f84))] := by kernel_rfl
theorem d84 : ql c84 (body Tryz.f84) = true := by kernel_rfl
theorem h84 : qx Tryz.prog 84 p84 := hQ (cfg := c84) (qn qq (qh) rfl (by kernel_rfl)) Tryz.func84 (by kernel_rfl) (by rw [ls84]; simp only [List.forall_mem_cons]; exact ⟨qF (key := 2) (li := l84_2) (by kernel_rfl) rfl (fun _ => rfl) (L84_2_eq), fun _ h => by cases h⟩) d84 (F84_eq fuel)
noncomputable def F52 (_n : Nat) (s_0 : (List zTq)) (f_1 : (zTq → Option Bool)) : Option zTm :=
  qa (g84 (s_0, f_1, ())) fun y1 => some (((decide (y1.1.1 ≥ 0)), ()), ())
noncomputable def g52 (d : (List zTq) × (zTq → Option Bool) × Unit) : Option zTm := F52 fuel d.1 d.2.1
noncomputable def p52 : qH := ⟨[.v (.list false 110 (.str (.pair zI (.pair zI (.pair zI (.pair jE zI)))))), .v (.fn (.str (.pair zI (.pair zI (.pair zI (.pair jE zI))))) .bool)], [.v .bool], g52⟩
noncomputable def c52 : qW := ⟨9, tyT, [], [(84, p84)], [], [], [], [], [], [], [], [], [], [], none⟩
theorem F52_eq (n : Nat) (d) : qz c52 n Tryz.f52 (body Tryz.f52) p52.ps p52.rs d = F52 n d.1 d.2.1 := by kernel_rfl
theorem d52 : ql c52 (body Tryz.f52) = true := by kernel_rfl
theorem h52 : qx Tryz.prog 52 p52 := hQ (cfg := c52) (qn qq (qd h84 qh) rfl (by kernel_rfl)) Tryz.func52 (by kernel_rfl) (qr (by kernel_rfl)) d52 (F52_eq fuel)
noncomputable def F20 (_n : Nat) (f_0 : zTw) (l_1 : (List zTq)) : Option zTu :=
  qa (g48 (f_0, ())) fun y1 => cond (y1.1.1 != 0) (some ((y1.1.1, ()), ())) (cond (decide ((l_1.length : Int) > 60)) (some ((71, ()), ())) (qa (g52 (l_1, (fun v2 => qa (g49 (v2, f_0, ())) fun y3 => some y3.1.1), ())) fun y4 => cond y4.1.1 (some ((71, ()), ())) (some ((0, ()), ()))))
noncomputable def g20 (d : zTw × (List zTq) × Unit) : Option zTu := F20 fuel d.1 d.2.1
noncomputable def p20 : qH := ⟨[.v (.str zTe), .v (.list false 110 (.str (.pair zI (.pair zI (.pair zI (.pair jE zI))))))], [.v zI], g20⟩
noncomputable def c20 : qW := ⟨21, tyT, [], [(48, p48), (49, p49), (52, p52)], [], [], [], [], [], [], [], [], [], [], none⟩
theorem F20_eq (n : Nat) (d) : qz c20 n Tryz.f20 (body Tryz.f20) p20.ps p20.rs d = F20 n d.1 d.2.1 := by kernel_rfl
theorem d20 : ql c20 (body Tryz.f20) = true := by kernel_rfl
theorem h20 : qx Tryz.prog 20 p20 := hQ (cfg := c20) (qn qq (qd h48 (qd h49 (qd h52 qh))) rfl (by kernel_rfl)) Tryz.func20 (by kernel_rfl) (qr (by kernel_rfl)) d20 (F20_eq fuel)
noncomputable def B120_2 (_n : Nat) (L : ((List zTl) × (zTl → Option Bool) × Int × Int × Unit) × (Unit) × Unit → Option (zTn ⊕ zTr)) (s_0 : List zTl) (f_1 : zTl → Option Bool) (t_7 : Int) (t_8 : Int) : Option (zTn ⊕ zTr) :=
  cond (decide (t_8 < t_7)) (qg s_0 t_8 fun e1 => qa (f_1 e1) fun y2 => cond y2 (some (.inl ((t_8, ()), (), ()))) (L ((s_0, f_1, t_7, (IntKind.wrap .i64 (t_8 + 1)), ()), (), ()))) (some (.inr ((), (), ())))
noncomputable def L120_2 : Nat → ((List zTl) × (zTl → Option Bool) × Int × Int × Unit) × (Unit) × Unit → Option (zTn ⊕ zTr)
  | 0, _ => none
  | n + 1, d => B120_2 n (L120_2 n) d.1.1 d.1.2.1 d.1.2.2.1 d.1.2.2.2.1
noncomputable def l120_2 : jC := ⟨⟨[(0, .v (.list false 150 (.str zTk))), (1, .v (.fn (.str zTk) .bool)), (7, .v zI), (8, .v zI)], [], none⟩, [(.ret, ⟨[(4, .v zI)], [], none⟩), (.exit 0, ⟨[], [], none⟩)], L120_2⟩
noncomputable def F120 (n : Nat) (s_0 : (List zTl)) (f_1 : (zTl → Option Bool)) : Option zTu :=
  qa (L120_2 n ((s_0, f_1, (s_0.length : Int), 0, ()), (), ())) fun o3 => qaP o3 (fun d4 => some ((d4.1.1, ()), ())) (fun _ => some (((-1), ()), ()))
noncomputable def g120 (d : (List zTl) × (zTl → Option Bool) × Unit) : Option zTu := F120 fuel d.1 d.2.1
noncomputable def p120 : qH := ⟨[.v (.list false 150 (.str zTk)), .v (.fn (.str zTk) .bool)], [.v zI], g120⟩
noncomputable def c120 : qW := ⟨19, tyT, [], [], [(2, l120_2)], [], [], [], [], [], [], [], [], [], none⟩
theorem F120_eq (n : Nat) (d) : qz c120 n Tryz.f120 (body Tryz.f120) p120.ps p120.rs d = F120 n d.1 d.2.1 := by kernel_rfl
theorem L120_2_eq (n : Nat) (d) : (l120_2).g (n + 1) d = run c120 n (j7 0 (qe (body Tryz.f120))) ((l120_2).ins.fill d) (qJ (l120_2) n) := by kernel_rfl
theorem ls120 : qe (body Tryz.f120) = [j7 0 (qe (body Tryz.f120))] := by kernel_rfl
theorem d120 : ql c120 (body Tryz.f120) = true := by kernel_rfl
theorem h120 : qx Tryz.prog 120 p120 := hQ (cfg := c120) (qn qq (qh) rfl (by kernel_rfl)) Tryz.func120 (by kernel_rfl) (by rw [ls120]; simp only [List.forall_mem_cons]; exact ⟨qF (key := 2) (li := l120_2) (by kernel_rfl) rfl (fun _ => rfl) (L120_2_eq), fun _ h => by cases h⟩) d120 (F120_eq fuel)
noncomputable def F103 (_n : Nat) (s_0 : (List zTl)) (f_1 : (zTl → Option Bool)) : Option zTm :=
  qa (g120 (s_0, f_1, ())) fun y1 => some (((decide (y1.1.1 ≥ 0)), ()), ())
noncomputable def g103 (d : (List zTl) × (zTl → Option Bool) × Unit) : Option zTm := F103 fuel d.1 d.2.1
noncomputable def p103 : qH := ⟨[.v (.list false 150 (.str zTk)), .v (.fn (.str zTk) .bool)], [.v .bool], g103⟩
noncomputable def c103 : qW := ⟨9, tyT, [], [(120, p120)], [], [], [], [], [], [], [], [], [], [], none⟩
theorem F103_eq (n : Nat) (d) : qz c103 n Tryz.f103 (body Tryz.f103) p103.ps p103.rs d = F103 n d.1 d.2.1 := by kernel_rfl
theorem d103 : ql c103 (body Tryz.f103) = true := by kernel_rfl
theorem h103 : qx Tryz.prog 103 p103 := hQ (cfg := c103) (qn qq (qd h120 qh) rfl (by kernel_rfl)) Tryz.func103 (by kernel_rfl) (qr (by kernel_rfl)) d103 (F103_eq fuel)
noncomputable def F64 (_n : Nat) (n_0 : Int) (low_1 : Int) (high_2 : Int) : Option zTm :=
  cond (decide (n_0 ≥ low_1)) (some (((decide (n_0 ≤ high_2)), ()), ())) (some ((false, ()), ()))
noncomputable def g64 (d : Int × Int × Int × Unit) : Option zTm := F64 fuel d.1 d.2.1 d.2.2.1
noncomputable def p64 : qH := ⟨[.v zI, .v zI, .v zI], [.v .bool], g64⟩
noncomputable def c64 : qW := ⟨15, tyT, [], [], [], [], [], [], [], [], [], [], [], [], none⟩
theorem F64_eq (n : Nat) (d) : qz c64 n Tryz.f64 (body Tryz.f64) p64.ps p64.rs d = F64 n d.1 d.2.1 d.2.2.1 := by kernel_rfl
theorem d64 : ql c64 (body Tryz.f64) = true := by kernel_rfl
theorem h64 : qx Tryz.prog 64 p64 := hQ (cfg := c64) (qn qq (qh) rfl (by kernel_rfl)) Tryz.func64 (by kernel_rfl) (qr (by kernel_rfl)) d64 (F64_eq fuel)
noncomputable def F104 (_n : Nat) (r_0 : zTl) (t_1 : zTf) : Option zTm :=
  qa (g64 (r_0.1, 0, (IntKind.wrap .i64 ((t_1.2.2.length : Int) - 1)), ())) fun y1 => cond (!y1.1.1) (some ((true, ()), ())) (qa (g64 (r_0.2.1, 1, 10000, ())) fun y2 => cond (!y2.1.1) (some ((true, ()), ())) (qa (g64 (r_0.2.2.1, 0, 9, ())) fun y3 => some (((!y3.1.1), ()), ())))
noncomputable def g104 (d : zTl × zTf × Unit) : Option zTm := F104 fuel d.1 d.2.1
noncomputable def p104 : qH := ⟨[.v (.str zTk), .r (.str zTb)], [.v .bool], g104⟩
noncomputable def c104 : qW := ⟨24, tyT, [], [(64, p64)], [], [], [], [], [], [], [], [], [], [], none⟩
theorem F104_eq (n : Nat) (d) : qz c104 n Tryz.f104 (body Tryz.f104) p104.ps p104.rs d = F104 n d.1 d.2.1 := by kernel_rfl
theorem d104 : ql c104 (body Tryz.f104) = true := by kernel_rfl
theorem h104 : qx Tryz.prog 104 p104 := hQ (cfg := c104) (qn qq (qd h64 qh) rfl (by kernel_rfl)) Tryz.func104 (by kernel_rfl) (qr (by kernel_rfl)) d104 (F104_eq fuel)
noncomputable def F105 (_n : Nat) (n_0 : Int) : Option zTm :=
  qa (g64 (n_0, 0, 9, ())) fun y1 => some (((!y1.1.1), ()), ())
noncomputable def g105 (d : Int × Unit) : Option zTm := F105 fuel d.1
noncomputable def p105 : qH := ⟨[.v zI], [.v .bool], g105⟩
noncomputable def c105 : qW := ⟨6, tyT, [], [(64, p64)], [], [], [], [], [], [], [], [], [], [], none⟩
theorem F105_eq (n : Nat) (d) : qz c105 n Tryz.f105 (body Tryz.f105) p105.ps p105.rs d = F105 n d.1 := by kernel_rfl
theorem d105 : ql c105 (body Tryz.f105) = true := by kernel_rfl
theorem h105 : qx Tryz.prog 105 p105 := hQ (cfg := c105) (qn qq (qd h64 qh) rfl (by kernel_rfl)) Tryz.func105 (by kernel_rfl) (qr (by kernel_rfl)) d105 (F105_eq fuel)
noncomputable def F106 (_n : Nat) (n_0 : Int) : Option zTm :=
  qa (g64 (n_0, 0, 10000, ())) fun y1 => some (((!y1.1.1), ()), ())
noncomputable def g106 (d : Int × Unit) : Option zTm := F106 fuel d.1
noncomputable def p106 : qH := ⟨[.v zI], [.v .bool], g106⟩
noncomputable def c106 : qW := ⟨6, tyT, [], [(64, p64)], [], [], [], [], [], [], [], [], [], [], none⟩
theorem F106_eq (n : Nat) (d) : qz c106 n Tryz.f106 (body Tryz.f106) p106.ps p106.rs d = F106 n d.1 := by kernel_rfl
theorem d106 : ql c106 (body Tryz.f106) = true := by kernel_rfl
theorem h106 : qx Tryz.prog 106 p106 := hQ (cfg := c106) (qn qq (qd h64 qh) rfl (by kernel_rfl)) Tryz.func106 (by kernel_rfl) (qr (by kernel_rfl)) d106 (F106_eq fuel)
noncomputable def F85 (_n : Nat) (b_0 : zTf) : Option zTu :=
  cond (decide ((b_0.1.length : Int) > 20)) (some ((100, ()), ())) (cond (decide ((b_0.2.1.length : Int) > 8)) (some ((100, ()), ())) (cond (decide ((b_0.2.2.length : Int) > 10)) (some ((100, ()), ())) (qa (g103 (b_0.1, (fun v1 => qa (g104 (v1, b_0, ())) fun y2 => some y2.1.1), ())) fun y3 => cond y3.1.1 (some ((100, ()), ())) (qa (g26 (b_0.2.1, (fun v4 => qa (g105 (v4, ())) fun y5 => some y5.1.1), ())) fun y6 => cond y6.1.1 (some ((100, ()), ())) (qa (g26 (b_0.2.2, (fun v7 => qa (g106 (v7, ())) fun y8 => some y8.1.1), ())) fun y9 => cond y9.1.1 (some ((100, ()), ())) (some ((0, ()), ())))))))
noncomputable def g85 (d : zTf × Unit) : Option zTu := F85 fuel d.1
noncomputable def p85 : qH := ⟨[.v (.str zTb)], [.v zI], g85⟩
noncomputable def c85 : qW := ⟨39, tyT, [], [(26, p26), (103, p103), (104, p104), (105, p105), (106, p106)], [], [], [], [], [], [], [], [], [], [], none⟩
theorem F85_eq (n : Nat) (d) : qz c85 n Tryz.f85 (body Tryz.f85) p85.ps p85.rs d = F85 n d.1 := by kernel_rfl
theorem d85 : ql c85 (body Tryz.f85) = true := by kernel_rfl
theorem h85 : qx Tryz.prog 85 p85 := hQ (cfg := c85) (qn qq (qd h26 (qd h103 (qd h104 (qd h105 (qd h106 qh))))) rfl (by kernel_rfl)) Tryz.func85 (by kernel_rfl) (qr (by kernel_rfl)) d85 (F85_eq fuel)
noncomputable def F110 (_n : Nat) (l_0 : zTt) (n_1 : Int) : Option zTm :=
  qa (g64 (n_1, 0, (IntKind.wrap .i64 ((l_0.1.2.1.length : Int) - 1)), ())) fun y1 => some ((y1.1.1, ()), ())
noncomputable def g110 (d : zTt × Int × Unit) : Option zTm := F110 fuel d.1 d.2.1
noncomputable def p110 : qH := ⟨[.v (.str (.pair (.str zTb) (.list false 68 (.str (.pair zI qR))))), .v zI], [.v .bool], g110⟩
noncomputable def c110 : qW := ⟨12, tyT, [], [(64, p64)], [], [], [], [], [], [], [], [], [], [], none⟩
theorem F110_eq (n : Nat) (d) : qz c110 n Tryz.f110 (body Tryz.f110) p110.ps p110.rs d = F110 n d.1 d.2.1 := by kernel_rfl
theorem d110 : ql c110 (body Tryz.f110) = true := by kernel_rfl
theorem h110 : qx Tryz.prog 110 p110 := hQ (cfg := c110) (qn qq (qd h64 qh) rfl (by kernel_rfl)) Tryz.func110 (by kernel_rfl) (qr (by kernel_rfl)) d110 (F110_eq fuel)
noncomputable def F121 (_n : Nat) (l_0 : zTt) (rule_1 : Int) (n_2 : Int) : Option zTm :=
  qa (g110 (l_0, n_2, ())) fun y1 => cond y1.1.1 (qg l_0.1.2.1 n_2 fun e2 => qg l_0.1.1 rule_1 fun e3 => some (((decide (e2 ≥ e3.2.2.1)), ()), ())) (some ((false, ()), ()))
noncomputable def g121 (d : zTt × Int × Int × Unit) : Option zTm := F121 fuel d.1 d.2.1 d.2.2.1
noncomputable def p121 : qH := ⟨[.v (.str (.pair (.str zTb) (.list false 68 (.str (.pair zI qR))))), .v zI, .v zI], [.v .bool], g121⟩
noncomputable def c121 : qW := ⟨26, tyT, [], [(110, p110)], [], [], [], [], [], [], [], [], [], [], none⟩
theorem F121_eq (n : Nat) (d) : qz c121 n Tryz.f121 (body Tryz.f121) p121.ps p121.rs d = F121 n d.1 d.2.1 d.2.2.1 := by kernel_rfl
theorem d121 : ql c121 (body Tryz.f121) = true := by kernel_rfl
theorem h121 : qx Tryz.prog 121 p121 := hQ (cfg := c121) (qn qq (qd h110 qh) rfl (by kernel_rfl)) Tryz.func121 (by kernel_rfl) (qr (by kernel_rfl)) d121 (F121_eq fuel)
noncomputable def F107 (_n : Nat) (l_0 : zTt) (rule_1 : Int) (a_2 : Int) (b_3 : Int) : Option zTm :=
  qg l_0.1.1 rule_1 fun e1 => cond (!e1.2.2.2) (qa (g121 (l_0, rule_1, a_2, ())) fun y2 => cond y2.1.1 (some (((b_3 == (-1)), ()), ())) (some ((false, ()), ()))) (qa (g121 (l_0, rule_1, a_2, ())) fun y3 => cond y3.1.1 (qa (g121 (l_0, rule_1, b_3, ())) fun y4 => cond y4.1.1 (some (((a_2 != b_3), ()), ())) (some ((false, ()), ()))) (some ((false, ()), ())))
noncomputable def g107 (d : zTt × Int × Int × Int × Unit) : Option zTm := F107 fuel d.1 d.2.1 d.2.2.1 d.2.2.2.1
noncomputable def p107 : qH := ⟨[.v (.str (.pair (.str zTb) (.list false 68 (.str (.pair zI qR))))), .v zI, .v zI, .v zI], [.v .bool], g107⟩
noncomputable def c107 : qW := ⟨40, tyT, [], [(121, p121)], [], [], [], [], [], [], [], [], [], [], none⟩
theorem F107_eq (n : Nat) (d) : qz c107 n Tryz.f107 (body Tryz.f107) p107.ps p107.rs d = F107 n d.1 d.2.1 d.2.2.1 d.2.2.2.1 := by kernel_rfl
theorem d107 : ql c107 (body Tryz.f107) = true := by kernel_rfl
theorem h107 : qx Tryz.prog 107 p107 := hQ (cfg := c107) (qn qq (qd h121 qh) rfl (by kernel_rfl)) Tryz.func107 (by kernel_rfl) (qr (by kernel_rfl)) d107 (F107_eq fuel)
noncomputable def F108 (_n : Nat) (l_0 : zTt) (n_1 : Int) : Option zTm :=
  qa (g64 (n_1, 0, (IntKind.wrap .i64 ((l_0.1.2.2.length : Int) - 1)), ())) fun y1 => some ((y1.1.1, ()), ())
noncomputable def g108 (d : zTt × Int × Unit) : Option zTm := F108 fuel d.1 d.2.1
noncomputable def p108 : qH := ⟨[.v (.str (.pair (.str zTb) (.list false 68 (.str (.pair zI qR))))), .v zI], [.v .bool], g108⟩
noncomputable def c108 : qW := ⟨12, tyT, [], [(64, p64)], [], [], [], [], [], [], [], [], [], [], none⟩
theorem F108_eq (n : Nat) (d) : qz c108 n Tryz.f108 (body Tryz.f108) p108.ps p108.rs d = F108 n d.1 d.2.1 := by kernel_rfl
theorem d108 : ql c108 (body Tryz.f108) = true := by kernel_rfl
theorem h108 : qx Tryz.prog 108 p108 := hQ (cfg := c108) (qn qq (qd h64 qh) rfl (by kernel_rfl)) Tryz.func108 (by kernel_rfl) (qr (by kernel_rfl)) d108 (F108_eq fuel)
noncomputable def B93_2 (_n : Nat) (L : ((List (Int × zTg)) × ((Int × zTg) → Option Bool) × Int × Int × Unit) × (Unit) × Unit → Option (zTn ⊕ zTr)) (s_0 : List (Int × zTg)) (f_1 : (Int × zTg) → Option Bool) (t_7 : Int) (t_8 : Int) : Option (zTn ⊕ zTr) :=
  cond (decide (t_8 < t_7)) (qg s_0 t_8 fun e1 => qa (f_1 e1) fun y2 => cond y2 (some (.inl ((t_8, ()), (), ()))) (L ((s_0, f_1, t_7, (IntKind.wrap .i64 (t_8 + 1)), ()), (), ()))) (some (.inr ((), (), ())))
noncomputable def L93_2 : Nat → ((List (Int × zTg)) × ((Int × zTg) → Option Bool) × Int × Int × Unit) × (Unit) × Unit → Option (zTn ⊕ zTr)
  | 0, _ => none
  | n + 1, d => B93_2 n (L93_2 n) d.1.1 d.1.2.1 d.1.2.2.1 d.1.2.2.2.1
noncomputable def l93_2 : jC := ⟨⟨[(0, .v (.list false 68 (.str (.pair zI qR)))), (1, .v (.fn (.str (.pair zI qR)) .bool)), (7, .v zI), (8, .v zI)], [], none⟩, [(.ret, ⟨[(4, .v zI)], [], none⟩), (.exit 0, ⟨[], [], none⟩)], L93_2⟩
noncomputable def F93 (n : Nat) (s_0 : (List (Int × zTg))) (f_1 : ((Int × zTg) → Option Bool)) : Option zTu :=
  qa (L93_2 n ((s_0, f_1, (s_0.length : Int), 0, ()), (), ())) fun o3 => qaP o3 (fun d4 => some ((d4.1.1, ()), ())) (fun _ => some (((-1), ()), ()))
noncomputable def g93 (d : (List (Int × zTg)) × ((Int × zTg) → Option Bool) × Unit) : Option zTu := F93 fuel d.1 d.2.1
noncomputable def p93 : qH := ⟨[.v (.list false 68 (.str (.pair zI qR))), .v (.fn (.str (.pair zI qR)) .bool)], [.v zI], g93⟩
noncomputable def c93 : qW := ⟨19, tyT, [], [], [(2, l93_2)], [], [], [], [], [], [], [], [], [], none⟩
theorem F93_eq (n : Nat) (d) : qz c93 n Tryz.f93 (body Tryz.f93) p93.ps p93.rs d = F93 n d.1 d.2.1 := by kernel_rfl
theorem L93_2_eq (n : Nat) (d) : (l93_2).g (n + 1) d = run c93 n (j7 0 (qe (body Tryz.f93))) ((l93_2).ins.fill d) (qJ (l93_2) n) := by kernel_rfl
theorem ls93 : qe (body Tryz.f93) = [j7 0 (qe (body Tryz.f93))] := by kernel_rfl
theorem d93 : ql c93 (body Tryz.f93) = true := by kernel_rfl
theorem h93 : qx Tryz.prog 93 p93 := hQ (cfg := c93) (qn qq (qh) rfl (by kernel_rfl)) Tryz.func93 (by kernel_rfl) (by rw [ls93]; simp only [List.forall_mem_cons]; exact ⟨qF (key := 2) (li := l93_2) (by kernel_rfl) rfl (fun _ => rfl) (L93_2_eq), fun _ h => by cases h⟩) d93 (F93_eq fuel)
noncomputable def F122 (_n : Nat) (s_0 : (List (Int × zTg))) (f_1 : ((Int × zTg) → Option Bool)) : Option zTm :=
  qa (g93 (s_0, f_1, ())) fun y1 => some (((decide (y1.1.1 ≥ 0)), ()), ())
noncomputable def g122 (d : (List (Int × zTg)) × ((Int × zTg) → Option Bool) × Unit) : Option zTm := F122 fuel d.1 d.2.1
noncomputable def p122 : qH := ⟨[.v (.list false 68 (.str (.pair zI qR))), .v (.fn (.str (.pair zI qR)) .bool)], [.v .bool], g122⟩
noncomputable def c122 : qW := ⟨9, tyT, [], [(93, p93)], [], [], [], [], [], [], [], [], [], [], none⟩
theorem F122_eq (n : Nat) (d) : qz c122 n Tryz.f122 (body Tryz.f122) p122.ps p122.rs d = F122 n d.1 d.2.1 := by kernel_rfl
theorem d122 : ql c122 (body Tryz.f122) = true := by kernel_rfl
theorem h122 : qx Tryz.prog 122 p122 := hQ (cfg := c122) (qn qq (qd h93 qh) rfl (by kernel_rfl)) Tryz.func122 (by kernel_rfl) (qr (by kernel_rfl)) d122 (F122_eq fuel)
noncomputable def F123 (_n : Nat) (x_0 : (Int × zTg)) (t_1 : Int) : Option zTm :=
  cond (x_0.2.1 == 3) (some (((x_0.2.2.1 == t_1), ()), ())) (some ((false, ()), ()))
noncomputable def g123 (d : (Int × zTg) × Int × Unit) : Option zTm := F123 fuel d.1 d.2.1
noncomputable def p123 : qH := ⟨[.v (.str (.pair zI qR)), .r zI], [.v .bool], g123⟩
noncomputable def c123 : qW := ⟨13, tyT, [], [], [], [], [], [], [], [], [], [], [], [], none⟩
theorem F123_eq (n : Nat) (d) : qz c123 n Tryz.f123 (body Tryz.f123) p123.ps p123.rs d = F123 n d.1 d.2.1 := by kernel_rfl
theorem d123 : ql c123 (body Tryz.f123) = true := by kernel_rfl
theorem h123 : qx Tryz.prog 123 p123 := hQ (cfg := c123) (qn qq (qh) rfl (by kernel_rfl)) Tryz.func123 (by kernel_rfl) (qr (by kernel_rfl)) d123 (F123_eq fuel)
noncomputable def F109 (_n : Nat) (l_0 : zTt) (n_1 : Int) : Option zTm :=
  qa (g122 (l_0.2, (fun v1 => qa (g123 (v1, n_1, ())) fun y2 => some y2.1.1), ())) fun y3 => some ((y3.1.1, ()), ())
noncomputable def g109 (d : zTt × Int × Unit) : Option zTm := F109 fuel d.1 d.2.1
noncomputable def p109 : qH := ⟨[.v (.str (.pair (.str zTb) (.list false 68 (.str (.pair zI qR))))), .v zI], [.v .bool], g109⟩
noncomputable def c109 : qW := ⟨9, tyT, [], [(122, p122), (123, p123)], [], [], [], [], [], [], [], [], [], [], none⟩
theorem F109_eq (n : Nat) (d) : qz c109 n Tryz.f109 (body Tryz.f109) p109.ps p109.rs d = F109 n d.1 d.2.1 := by kernel_rfl
theorem d109 : ql c109 (body Tryz.f109) = true := by kernel_rfl
theorem h109 : qx Tryz.prog 109 p109 := hQ (cfg := c109) (qn qq (qd h122 (qd h123 qh)) rfl (by kernel_rfl)) Tryz.func109 (by kernel_rfl) (qr (by kernel_rfl)) d109 (F109_eq fuel)
noncomputable def F86 (_n : Nat) (l_0 : zTt) (x_1 : (Int × zTg)) : Option zTm :=
  cond (decide ((l_0.2.length : Int) > 0)) (qg l_0.2 (IntKind.wrap .i64 ((l_0.2.length : Int) - 1)) fun e1 => qa (g64 (x_1.1, e1.1, 10000, ())) fun y2 => cond (!y2.1.1) (some ((false, ()), ())) (cond (x_1.2.1 == 1) (qa (g64 (x_1.2.2.1, 0, (IntKind.wrap .i64 ((l_0.1.1.length : Int) - 1)), ())) fun y3 => cond y3.1.1 (qa (g107 (l_0, x_1.2.2.1, x_1.2.2.2.1, x_1.2.2.2.2, ())) fun y4 => some ((y4.1.1, ()), ())) (some ((false, ()), ()))) (cond (x_1.2.1 == 2) (qa (g108 (l_0, x_1.2.2.1, ())) fun y5 => cond y5.1.1 (qa (g64 (x_1.2.2.2.1, 1, 3, ())) fun y6 => cond y6.1.1 (some (((x_1.2.2.2.2 == 0), ()), ())) (some ((false, ()), ()))) (some ((false, ()), ()))) (cond (x_1.2.1 == 3) (qa (g64 (x_1.2.2.1, 0, (IntKind.wrap .i64 ((l_0.2.length : Int) - 1)), ())) fun y7 => cond y7.1.1 (qg l_0.2 x_1.2.2.1 fun e8 => cond (e8.2.1 == 2) (qa (g109 (l_0, x_1.2.2.1, ())) fun y9 => cond (!y9.1.1) (qa (g110 (l_0, x_1.2.2.2.1, ())) fun y10 => cond y10.1.1 (some (((x_1.2.2.2.2 == 0), ()), ())) (some ((false, ()), ()))) (some ((false, ()), ()))) (some ((false, ()), ()))) (some ((false, ()), ()))) (cond (x_1.2.1 == 4) (qa (g108 (l_0, x_1.2.2.1, ())) fun y11 => cond y11.1.1 (qa (g110 (l_0, x_1.2.2.2.1, ())) fun y12 => cond y12.1.1 (some (((x_1.2.2.2.2 == 0), ()), ())) (some ((false, ()), ()))) (some ((false, ()), ()))) (cond (x_1.2.1 == 5) (qa (g108 (l_0, x_1.2.2.1, ())) fun y13 => cond y13.1.1 (qa (g64 (x_1.2.2.2.1, 0, 10000, ())) fun y14 => cond y14.1.1 (some (((x_1.2.2.2.2 == 0), ()), ())) (some ((false, ()), ()))) (some ((false, ()), ()))) (cond (x_1.2.1 == 6) (qa (g108 (l_0, x_1.2.2.1, ())) fun y15 => cond y15.1.1 (cond (x_1.2.2.2.1 == 0) (some (((x_1.2.2.2.2 == 0), ()), ())) (some ((false, ()), ()))) (some ((false, ()), ()))) (some ((false, ()), ()))))))))) (qa (g64 (x_1.1, 0, 10000, ())) fun y16 => cond (!y16.1.1) (some ((false, ()), ())) (cond (x_1.2.1 == 1) (qa (g64 (x_1.2.2.1, 0, (IntKind.wrap .i64 ((l_0.1.1.length : Int) - 1)), ())) fun y17 => cond y17.1.1 (qa (g107 (l_0, x_1.2.2.1, x_1.2.2.2.1, x_1.2.2.2.2, ())) fun y18 => some ((y18.1.1, ()), ())) (some ((false, ()), ()))) (cond (x_1.2.1 == 2) (qa (g108 (l_0, x_1.2.2.1, ())) fun y19 => cond y19.1.1 (qa (g64 (x_1.2.2.2.1, 1, 3, ())) fun y20 => cond y20.1.1 (some (((x_1.2.2.2.2 == 0), ()), ())) (some ((false, ()), ()))) (some ((false, ()), ()))) (cond (x_1.2.1 == 3) (qa (g64 (x_1.2.2.1, 0, (IntKind.wrap .i64 ((l_0.2.length : Int) - 1)), ())) fun y21 => cond y21.1.1 (qg l_0.2 x_1.2.2.1 fun e22 => cond (e22.2.1 == 2) (qa (g109 (l_0, x_1.2.2.1, ())) fun y23 => cond (!y23.1.1) (qa (g110 (l_0, x_1.2.2.2.1, ())) fun y24 => cond y24.1.1 (some (((x_1.2.2.2.2 == 0), ()), ())) (some ((false, ()), ()))) (some ((false, ()), ()))) (some ((false, ()), ()))) (some ((false, ()), ()))) (cond (x_1.2.1 == 4) (qa (g108 (l_0, x_1.2.2.1, ())) fun y25 => cond y25.1.1 (qa (g110 (l_0, x_1.2.2.2.1, ())) fun y26 => cond y26.1.1 (some (((x_1.2.2.2.2 == 0), ()), ())) (some ((false, ()), ()))) (some ((false, ()), ()))) (cond (x_1.2.1 == 5) (qa (g108 (l_0, x_1.2.2.1, ())) fun y27 => cond y27.1.1 (qa (g64 (x_1.2.2.2.1, 0, 10000, ())) fun y28 => cond y28.1.1 (some (((x_1.2.2.2.2 == 0), ()), ())) (some ((false, ()), ()))) (some ((false, ()), ()))) (cond (x_1.2.1 == 6) (qa (g108 (l_0, x_1.2.2.1, ())) fun y29 => cond y29.1.1 (cond (x_1.2.2.2.1 == 0) (some (((x_1.2.2.2.2 == 0), ()), ())) (some ((false, ()), ()))) (some ((false, ()), ()))) (some ((false, ()), ())))))))))
noncomputable def g86 (d : zTt × (Int × zTg) × Unit) : Option zTm := F86 fuel d.1 d.2.1
noncomputable def p86 : qH := ⟨[.v (.str (.pair (.str zTb) (.list false 68 (.str (.pair zI qR))))), .v (.str (.pair zI qR))], [.v .bool], g86⟩
noncomputable def c86 : qW := ⟨148, tyT, [], [(64, p64), (107, p107), (108, p108), (109, p109), (110, p110)], [], [], [], [], [], [], [], [], [], [], none⟩
theorem F86_eq (n : Nat) (d) : qz c86 n Tryz.f86 (body Tryz.f86) p86.ps p86.rs d = F86 n d.1 d.2.1 := by kernel_rfl
theorem d86 : ql c86 (body Tryz.f86) = true := by kernel_rfl
theorem h86 : qx Tryz.prog 86 p86 := hQ (cfg := c86) (qn qq (qd h64 (qd h107 (qd h108 (qd h109 (qd h110 qh))))) rfl (by kernel_rfl)) Tryz.func86 (by kernel_rfl) (qr (by kernel_rfl)) d86 (F86_eq fuel)
noncomputable def B53_8 (_n : Nat) (L : zUq × (zTt × Unit) × Unit → Option (((Int × Int × Unit) × (zTt × Unit) × Unit) ⊕ ((Unit) × (zTt × Unit) × Unit))) (t_22 : List (Int × zTg)) (t_23 : Int) (t_24 : Int) (o_4 : zTf × (List (Int × zTg))) : Option (((Int × Int × Unit) × (zTt × Unit) × Unit) ⊕ ((Unit) × (zTt × Unit) × Unit)) :=
  cond (decide (t_24 < t_23)) (qg t_22 t_24 fun e2 => qa (g86 (o_4, e2, ())) fun y3 => cond (!y3.1.1) (some (.inl ((t_24, 101, ()), (o_4, ()), ()))) (qX ((o_4.2.length : Int) + [e2].length) (L ((t_22, t_23, (IntKind.wrap .i64 (t_24 + 1)), ()), ((o_4.1, (o_4.2 ++ [e2])), ()), ())))) (some (.inr ((), (o_4, ()), ())))
noncomputable def L53_8 : Nat → zUq × (zTt × Unit) × Unit → Option (((Int × Int × Unit) × (zTt × Unit) × Unit) ⊕ ((Unit) × (zTt × Unit) × Unit))
  | 0, _ => none
  | n + 1, d => B53_8 n (L53_8 n) d.1.1 d.1.2.1 d.1.2.2.1 d.2.1.1
noncomputable def l53_8 : jC := ⟨⟨[(4, .c (.ptr 4 [])), (22, .v (.list false 68 (.str (.pair zI qR)))), (23, .v zI), (24, .v zI)], [(4, false, .str (.pair (.str zTb) (.list true 68 (.str (.pair zI qR)))))], none⟩, [(.ret, ⟨[(4, .c (.ptr 4 [])), (5, .v zI), (6, .v zI)], [(4, false, .str (.pair (.str zTb) (.list true 68 (.str (.pair zI qR)))))], none⟩), (.exit 0, ⟨[(4, .c (.ptr 4 []))], [(4, false, .str (.pair (.str zTb) (.list true 68 (.str (.pair zI qR)))))], none⟩)], L53_8⟩
noncomputable def F53 (n : Nat) (b_0 : zTf) (entries_1 : (List (Int × zTg))) : Option ((zTt × Int × Int × Unit) × (Unit)) :=
  qa (g85 (b_0, ())) fun y1 => cond (y1.1.1 != 0) (some ((((([] : List zTl), (([] : List Int), ([] : List Int))), ([] : List (Int × zTg))), 0, y1.1.1, ()), ())) (cond (decide ((entries_1.length : Int) > 100)) (some ((((([] : List zTl), (([] : List Int), ([] : List Int))), ([] : List (Int × zTg))), 0, 2, ()), ())) (qa (L53_8 n ((entries_1, (entries_1.length : Int), 0, ()), ((b_0, ([] : List (Int × zTg))), ()), ())) fun o4 => qaP o4 (fun d5 => some ((d5.2.1.1, d5.1.1, d5.1.2.1, ()), ())) (fun d6 => some ((d6.2.1.1, 0, 0, ()), ()))))
noncomputable def g53 (d : zTf × (List (Int × zTg)) × Unit) : Option ((zTt × Int × Int × Unit) × (Unit)) := F53 fuel d.1 d.2.1
noncomputable def p53 : qH := ⟨[.v (.str zTb), .v (.list false 68 (.str (.pair zI qR)))], [.v (.str (.pair (.str zTb) (.list false 68 (.str (.pair zI qR))))), .v zI, .v zI], g53⟩
noncomputable def c53 : qW := ⟨43, tyT, [(4, .str (.pair (.str zTb) (.list true 68 (.str (.pair zI qR))))), (21, .str (.pair (.str zTb) (.list true 68 (.str (.pair zI qR)))))], [(85, p85), (86, p86)], [(8, l53_8)], [], [], [], [], [], [], [], [], [], none⟩
theorem F53_eq (n : Nat) (d) : qz c53 n Tryz.f53 (body Tryz.f53) p53.ps p53.rs d = F53 n d.1 d.2.1 := by kernel_rfl
theorem L53_8_eq (n : Nat) (d) : (l53_8).g (n + 1) d = run c53 n (j7 0 (qe (body Tryz.f53))) ((l53_8).ins.fill d) (qJ (l53_8) n) := by kernel_rfl
theorem ls53 : qe (body Tryz.f53) = [j7 0 (qe (body Tryz.f53))] := by kernel_rfl
theorem d53 : ql c53 (body Tryz.f53) = true := by kernel_rfl
theorem h53 : qx Tryz.prog 53 p53 := hQ (cfg := c53) (qn qq (qd h85 (qd h86 qh)) rfl (by kernel_rfl)) Tryz.func53 (by kernel_rfl) (by rw [ls53]; simp only [List.forall_mem_cons]; exact ⟨qF (key := 8) (li := l53_8) (by kernel_rfl) rfl (fun _ => rfl) (L53_8_eq), fun _ h => by cases h⟩) d53 (F53_eq fuel)
noncomputable def F21 (_n : Nat) (b_0 : zTf) (l_1 : (List (Int × zTg))) : Option zUp :=
  qa (g53 (b_0, l_1, ())) fun y1 => some ((y1.1.2.1, y1.1.2.2.1, ()), ())
noncomputable def g21 (d : zTf × (List (Int × zTg)) × Unit) : Option zUp := F21 fuel d.1 d.2.1
noncomputable def p21 : qH := ⟨[.v (.str zTb), .v (.list false 68 (.str (.pair zI qR)))], [.v zI, .v zI], g21⟩
noncomputable def c21 : qW := ⟨15, tyT, [], [(53, p53)], [], [], [], [], [], [], [], [], [], [], none⟩
theorem F21_eq (n : Nat) (d) : qz c21 n Tryz.f21 (body Tryz.f21) p21.ps p21.rs d = F21 n d.1 d.2.1 := by kernel_rfl
theorem d21 : ql c21 (body Tryz.f21) = true := by kernel_rfl
theorem h21 : qx Tryz.prog 21 p21 := hQ (cfg := c21) (qn qq (qd h53 qh) rfl (by kernel_rfl)) Tryz.func21 (by kernel_rfl) (qr (by kernel_rfl)) d21 (F21_eq fuel)
noncomputable def F35 (_n : Nat) (n_0 : Int) (low_1 : Int) (high_2 : Int) : Option zTm :=
  cond (decide (n_0 ≥ low_1)) (some (((decide (n_0 ≤ high_2)), ()), ())) (some ((false, ()), ()))
noncomputable def g35 (d : Int × Int × Int × Unit) : Option zTm := F35 fuel d.1 d.2.1 d.2.2.1
noncomputable def p35 : qH := ⟨[.v zI, .v zI, .v zI], [.v .bool], g35⟩
noncomputable def c35 : qW := ⟨15, tyT, [], [], [], [], [], [], [], [], [], [], [], [], none⟩
theorem F35_eq (n : Nat) (d) : qz c35 n Tryz.f35 (body Tryz.f35) p35.ps p35.rs d = F35 n d.1 d.2.1 d.2.2.1 := by kernel_rfl
theorem d35 : ql c35 (body Tryz.f35) = true := by kernel_rfl
theorem h35 : qx Tryz.prog 35 p35 := hQ (cfg := c35) (qn qq (qh) rfl (by kernel_rfl)) Tryz.func35 (by kernel_rfl) (qr (by kernel_rfl)) d35 (F35_eq fuel)
noncomputable def B22_4 (_n : Nat) (L : ((List zTg) × Int × Int × Unit) × (zTo × Unit) × Unit → Option (zTn ⊕ zUz)) (t_36 : List zTg) (t_37 : Int) (t_38 : Int) (o_1 : (List zTg) × zUn) : Option (zTn ⊕ zUz) :=
  cond (decide (t_38 < t_37)) (qg t_36 t_38 fun e4 => qa (g35 (e4.1, (-1), (IntKind.wrap .i64 (t_38 - 1)), ())) fun y5 => cond (!y5.1.1) (some (.inl ((50, ()), (), ()))) (qa (g35 (e4.2.1, 1, 1000, ())) fun y6 => cond (!y6.1.1) (some (.inl ((50, ()), (), ()))) (qa (g35 (e4.2.2.1, 0, 20, ())) fun y7 => cond (!y7.1.1) (some (.inl ((50, ()), (), ()))) (qa (g35 (e4.2.2.2, 1, 10000, ())) fun y8 => cond (!y8.1.1) (some (.inl ((50, ()), (), ()))) (L ((t_36, t_37, (IntKind.wrap .i64 (t_38 + 1)), ()), (o_1, ()), ())))))) (some (.inr ((), (o_1, ()), ())))
noncomputable def L22_4 : Nat → ((List zTg) × Int × Int × Unit) × (zTo × Unit) × Unit → Option (zTn ⊕ zUz)
  | 0, _ => none
  | n + 1, d => B22_4 n (L22_4 n) d.1.1 d.1.2.1 d.1.2.2.1 d.2.1.1
noncomputable def l22_4 : jC := ⟨⟨[(1, .c (.ptr 1 [])), (36, .v (.list false 51 (.str qR))), (37, .v zI), (38, .v zI)], [(1, false, .str (.pair (.list false 51 (.str qR)) (.pair (.list false 116 (.str qR)) (.pair zI j6))))], none⟩, [(.ret, ⟨[(2, .v zI)], [], none⟩), (.exit 0, ⟨[(1, .c (.ptr 1 []))], [(1, false, .str (.pair (.list false 51 (.str qR)) (.pair (.list false 116 (.str qR)) (.pair zI j6))))], none⟩)], L22_4⟩
noncomputable def B22_10 (_n : Nat) (L : ((List zTg) × Int × Int × Unit) × (zTo × Unit) × Unit → Option (zTn ⊕ zTr)) (t_69 : List zTg) (t_70 : Int) (t_71 : Int) (o_1 : (List zTg) × zUn) : Option (zTn ⊕ zTr) :=
  cond (decide (t_71 < t_70)) (qg t_69 t_71 fun e12 => qa (g35 (e12.1, 0, (IntKind.wrap .i64 ((o_1.1.length : Int) - 1)), ())) fun y13 => cond (!y13.1.1) (some (.inl ((50, ()), (), ()))) (qa (g35 (e12.2.1, 0, 2, ())) fun y14 => cond (!y14.1.1) (some (.inl ((50, ()), (), ()))) (qa (g35 (e12.2.2.1, 1, 1000, ())) fun y15 => cond (!y15.1.1) (some (.inl ((50, ()), (), ()))) (qa (g35 (e12.2.2.2, 0, 1000, ())) fun y16 => cond (!y16.1.1) (some (.inl ((50, ()), (), ()))) (L ((t_69, t_70, (IntKind.wrap .i64 (t_71 + 1)), ()), (o_1, ()), ())))))) (some (.inr ((), (), ())))
noncomputable def L22_10 : Nat → ((List zTg) × Int × Int × Unit) × (zTo × Unit) × Unit → Option (zTn ⊕ zTr)
  | 0, _ => none
  | n + 1, d => B22_10 n (L22_10 n) d.1.1 d.1.2.1 d.1.2.2.1 d.2.1.1
noncomputable def l22_10 : jC := ⟨⟨[(1, .c (.ptr 1 [])), (69, .v (.list false 116 (.str qR))), (70, .v zI), (71, .v zI)], [(1, false, .str (.pair (.list false 51 (.str qR)) (.pair (.list false 116 (.str qR)) (.pair zI j6))))], none⟩, [(.ret, ⟨[(2, .v zI)], [], none⟩), (.exit 2, ⟨[], [], none⟩)], L22_10⟩
noncomputable def F22 (n : Nat) (s_0 : zTo) : Option zTu :=
  cond (decide ((s_0.1.length : Int) > 10)) (some ((50, ()), ())) (cond (decide ((s_0.2.1.length : Int) > 16)) (some ((50, ()), ())) (qa (g35 (s_0.2.2.1, 1, 1000, ())) fun y1 => cond (!y1.1.1) (some ((50, ()), ())) (qa (g35 (s_0.2.2.2.1, 0, 20, ())) fun y2 => cond (!y2.1.1) (some ((50, ()), ())) (qa (g35 (s_0.2.2.2.2, 1, 1000, ())) fun y3 => cond (!y3.1.1) (some ((50, ()), ())) (qa (L22_4 n ((s_0.1, (s_0.1.length : Int), 0, ()), (s_0, ()), ())) fun o9 => qaP o9 (fun d10 => some ((d10.1.1, ()), ())) (fun d11 => qa (L22_10 n ((d11.2.1.1.2.1, (d11.2.1.1.2.1.length : Int), 0, ()), (d11.2.1.1, ()), ())) fun o17 => qaP o17 (fun d18 => some ((d18.1.1, ()), ())) (fun _ => some ((0, ()), ()))))))))
noncomputable def g22 (d : zTo × Unit) : Option zTu := F22 fuel d.1
noncomputable def p22 : qH := ⟨[.v (.str (.pair (.list false 51 (.str qR)) (.pair (.list false 116 (.str qR)) (.pair zI j6))))], [.v zI], g22⟩
noncomputable def c22 : qW := ⟨102, tyT, [], [(35, p35)], [(4, l22_4), (10, l22_10)], [], [], [], [], [], [], [], [], [], none⟩
theorem F22_eq (n : Nat) (d) : qz c22 n Tryz.f22 (body Tryz.f22) p22.ps p22.rs d = F22 n d.1 := by kernel_rfl
theorem L22_4_eq (n : Nat) (d) : (l22_4).g (n + 1) d = run c22 n (j7 0 (qe (body Tryz.f22))) ((l22_4).ins.fill d) (qJ (l22_4) n) := by kernel_rfl
theorem L22_10_eq (n : Nat) (d) : (l22_10).g (n + 1) d = run c22 n (j7 1 (qe (body Tryz.f22))) ((l22_10).ins.fill d) (qJ (l22_10) n) := by kernel_rfl
theorem ls22 : qe (body Tryz.f22) = [j7 0 (qe (body Tryz.f22)), j7 1 (qe (body Tryz.f22))] := by kernel_rfl
theorem d22 : ql c22 (body Tryz.f22) = true := by kernel_rfl
theorem h22 : qx Tryz.prog 22 p22 := hQ (cfg := c22) (qn qq (qd h35 qh) rfl (by kernel_rfl)) Tryz.func22 (by kernel_rfl) (by rw [ls22]; simp only [List.forall_mem_cons]; exact ⟨qF (key := 4) (li := l22_4) (by kernel_rfl) rfl (fun _ => rfl) (L22_4_eq), qF (key := 10) (li := l22_10) (by kernel_rfl) rfl (fun _ => rfl) (L22_10_eq), fun _ h => by cases h⟩) d22 (F22_eq fuel)
noncomputable def F25 (_n : Nat) (n_0 : Int) (low_1 : Int) (high_2 : Int) : Option zTm :=
  cond (decide (n_0 ≥ low_1)) (some (((decide (n_0 ≤ high_2)), ()), ())) (some ((false, ()), ()))
noncomputable def g25 (d : Int × Int × Int × Unit) : Option zTm := F25 fuel d.1 d.2.1 d.2.2.1
noncomputable def p25 : qH := ⟨[.v zI, .v zI, .v zI], [.v .bool], g25⟩
noncomputable def c25 : qW := ⟨15, tyT, [], [], [], [], [], [], [], [], [], [], [], [], none⟩
theorem F25_eq (n : Nat) (d) : qz c25 n Tryz.f25 (body Tryz.f25) p25.ps p25.rs d = F25 n d.1 d.2.1 d.2.2.1 := by kernel_rfl
theorem d25 : ql c25 (body Tryz.f25) = true := by kernel_rfl
theorem h25 : qx Tryz.prog 25 p25 := hQ (cfg := c25) (qn qq (qh) rfl (by kernel_rfl)) Tryz.func25 (by kernel_rfl) (qr (by kernel_rfl)) d25 (F25_eq fuel)
noncomputable def F24 (_n : Nat) (x_0 : Int) (t_1 : Int) : Option zTm :=
  qa (g25 (x_0, 0, t_1, ())) fun y1 => some (((!y1.1.1), ()), ())
noncomputable def g24 (d : Int × Int × Unit) : Option zTm := F24 fuel d.1 d.2.1
noncomputable def p24 : qH := ⟨[.v zI, .r zI], [.v .bool], g24⟩
noncomputable def c24 : qW := ⟨8, tyT, [], [(25, p25)], [], [], [], [], [], [], [], [], [], [], none⟩
theorem F24_eq (n : Nat) (d) : qz c24 n Tryz.f24 (body Tryz.f24) p24.ps p24.rs d = F24 n d.1 d.2.1 := by kernel_rfl
theorem d24 : ql c24 (body Tryz.f24) = true := by kernel_rfl
theorem h24 : qx Tryz.prog 24 p24 := hQ (cfg := c24) (qn qq (qd h25 qh) rfl (by kernel_rfl)) Tryz.func24 (by kernel_rfl) (qr (by kernel_rfl)) d24 (F24_eq fuel)
end Go.Proofs.Tryz.V
