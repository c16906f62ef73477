/- The contracts of functions of the program, printed by program from the interpreter: each says what a call returns. No condition beyond those typed in each theorem. -/
import Derived.Test.YtinkjepanpicoaaFn1
namespace Go.Proofs.Try.V
open Go.Vi
set_option maxRecDepth 100000
noncomputable def B34_4 (_n : Nat) (L : (Int × Unit) × (zTf × Unit) × Unit → Option (zTn ⊕ zUv)) (i_3 : Int) (o_1 : (List zTj) × zUr) : Option (zTn ⊕ zUv) :=
  cond (decide (i_3 < (o_1.1.length : Int))) (getI o_1.1 i_3 fun e1 => derefK (g54 (e1.1, 0, (IntKind.wrap .i64 ((o_1.2.2.length : Int) - 1)), ())) fun y2 => cond (!y2.1.1) (some (.inl ((100, ()), (), ()))) (derefK (g54 (e1.2.1, 1, 10000, ())) fun y3 => cond (!y3.1.1) (some (.inl ((100, ()), (), ()))) (derefK (g54 (e1.2.2.1, 0, 9, ())) fun y4 => cond (!y4.1.1) (some (.inl ((100, ()), (), ()))) (L (((IntKind.wrap .i64 (i_3 + 1)), ()), (o_1, ()), ()))))) (some (.inr ((), (o_1, ()), ())))
noncomputable def L34_4 : Nat → (Int × Unit) × (zTf × Unit) × Unit → Option (zTn ⊕ zUv)
  | 0, _ => none
  | n + 1, d => B34_4 n (L34_4 n) d.1.1 d.2.1.1
noncomputable def l34_4 : LoopI := ⟨⟨[(1, .c (.ptr 1 [])), (3, .v zI)], [(1, false, .str zTb)], none⟩, [(.ret, ⟨[(2, .v zI)], [], none⟩), (.exit 0, ⟨[(1, .c (.ptr 1 []))], [(1, false, .str zTb)], none⟩)], L34_4⟩
noncomputable def B34_10 (_n : Nat) (L : (Int × Unit) × (zTf × Unit) × Unit → Option (zTn ⊕ zUv)) (i_5 : Int) (o_1 : (List zTj) × zUr) : Option (zTn ⊕ zUv) :=
  cond (decide (i_5 < (o_1.2.1.length : Int))) (getI o_1.2.1 i_5 fun e8 => derefK (g54 (e8, 0, 9, ())) fun y9 => cond (!y9.1.1) (some (.inl ((100, ()), (), ()))) (L (((IntKind.wrap .i64 (i_5 + 1)), ()), (o_1, ()), ()))) (some (.inr ((), (o_1, ()), ())))
noncomputable def L34_10 : Nat → (Int × Unit) × (zTf × Unit) × Unit → Option (zTn ⊕ zUv)
  | 0, _ => none
  | n + 1, d => B34_10 n (L34_10 n) d.1.1 d.2.1.1
noncomputable def l34_10 : LoopI := ⟨⟨[(1, .c (.ptr 1 [])), (5, .v zI)], [(1, false, .str zTb)], none⟩, [(.ret, ⟨[(2, .v zI)], [], none⟩), (.exit 2, ⟨[(1, .c (.ptr 1 []))], [(1, false, .str zTb)], none⟩)], L34_10⟩
noncomputable def B34_15 (_n : Nat) (L : (Int × Unit) × (zTf × Unit) × Unit → Option (zTn ⊕ zTr)) (i_6 : Int) (o_1 : (List zTj) × zUr) : Option (zTn ⊕ zTr) :=
  cond (decide (i_6 < (o_1.2.2.length : Int))) (getI o_1.2.2 i_6 fun e13 => derefK (g54 (e13, 0, 10000, ())) fun y14 => cond (!y14.1.1) (some (.inl ((100, ()), (), ()))) (L (((IntKind.wrap .i64 (i_6 + 1)), ()), (o_1, ()), ()))) (some (.inr ((), (), ())))
noncomputable def L34_15 : Nat → (Int × Unit) × (zTf × Unit) × Unit → Option (zTn ⊕ zTr)
  | 0, _ => none
  | n + 1, d => B34_15 n (L34_15 n) d.1.1 d.2.1.1
noncomputable def l34_15 : LoopI := ⟨⟨[(1, .c (.ptr 1 [])), (6, .v zI)], [(1, false, .str zTb)], none⟩, [(.ret, ⟨[(2, .v zI)], [], none⟩), (.exit 4, ⟨[], [], none⟩)], L34_15⟩
noncomputable def F34 (n : Nat) (b_0 : zTf) : Option zTs :=
  cond (decide ((b_0.1.length : Int) > 20)) (some ((100, ()), ())) (cond (decide ((b_0.2.1.length : Int) > 8)) (some ((100, ()), ())) (cond (decide ((b_0.2.2.length : Int) > 10)) (some ((100, ()), ())) (derefK (L34_4 n ((0, ()), (b_0, ()), ())) fun o5 => sumK o5 (fun d6 => some ((d6.1.1, ()), ())) (fun d7 => derefK (L34_10 n ((0, ()), (d7.2.1.1, ()), ())) fun o10 => sumK o10 (fun d11 => some ((d11.1.1, ()), ())) (fun d12 => derefK (L34_15 n ((0, ()), (d12.2.1.1, ()), ())) fun o15 => sumK o15 (fun d16 => some ((d16.1.1, ()), ())) (fun _ => some ((0, ()), ())))))))
noncomputable def g34 (d : zTf × Unit) : Option zTs := F34 fuel d.1
noncomputable def p34 : Prim := ⟨[.v (.str zTb)], [.v zI], g34⟩
noncomputable def c34 : Cfg := ⟨83, tyT, [], [(54, p54)], [(4, l34_4), (10, l34_10), (15, l34_15)], [], [], [], [], [], [], [], [], [], none⟩
theorem F34_eq (n : Nat) (d) : absFn c34 n Try.f34 (body Try.f34) p34.ps p34.rs d = F34 n d.1 := by kernel_rfl
theorem L34_4_eq (n : Nat) (d) : (l34_4).g (n + 1) d = run c34 n (nth 0 (loopsOf (body Try.f34))) ((l34_4).ins.fill d) (roundK (l34_4) n) := by kernel_rfl
theorem L34_10_eq (n : Nat) (d) : (l34_10).g (n + 1) d = run c34 n (nth 1 (loopsOf (body Try.f34))) ((l34_10).ins.fill d) (roundK (l34_10) n) := by kernel_rfl
theorem L34_15_eq (n : Nat) (d) : (l34_15).g (n + 1) d = run c34 n (nth 2 (loopsOf (body Try.f34))) ((l34_15).ins.fill d) (roundK (l34_15) n) := by kernel_rfl
theorem ls34 : loopsOf (body Try.f34) = [nth 0 (loopsOf (body Try.f34)), nth 1 (loopsOf (body Try.f34)), nth 2 (loopsOf (body Try.f34))] := by kernel_rfl
theorem d34 : drawOK c34 (body Try.f34) = true := by kernel_rfl
theorem h34 : GoodF Try.prog 34 p34 := hQ (cfg := c34) (cfg_ok tyT_ok (goodCons h54 goodNil) rfl (by kernel_rfl)) Try.func34 (by kernel_rfl) (by rw [ls34]; simp only [List.forall_mem_cons]; exact ⟨loopHas (key := 4) (li := l34_4) (by kernel_rfl) rfl (fun _ => rfl) (L34_4_eq), loopHas (key := 10) (li := l34_10) (by kernel_rfl) rfl (fun _ => rfl) (L34_10_eq), loopHas (key := 15) (li := l34_15) (by kernel_rfl) rfl (fun _ => rfl) (L34_15_eq), fun _ h => by cases h⟩) d34 (F34_eq fuel)
noncomputable def F55 (_n : Nat) (b_0 : zTf) (rule_1 : Int) (first_2 : Int) (second_3 : Int) : Option zTm :=
  getI b_0.1 rule_1 fun e1 => derefK (g54 (first_2, 0, (IntKind.wrap .i64 ((b_0.2.1.length : Int) - 1)), ())) fun y2 => cond (!y2.1.1) (some ((false, ()), ())) (getI b_0.2.1 first_2 fun e3 => cond (decide (e3 < e1.2.2.1)) (some ((false, ()), ())) (cond (!e1.2.2.2) (some (((second_3 == (-1)), ()), ())) (derefK (g54 (second_3, 0, (IntKind.wrap .i64 ((b_0.2.1.length : Int) - 1)), ())) fun y4 => cond y4.1.1 (cond (second_3 != first_2) (getI b_0.2.1 second_3 fun e5 => some (((decide (e5 ≥ e1.2.2.1)), ()), ())) (some ((false, ()), ()))) (some ((false, ()), ())))))
noncomputable def g55 (d : zTf × Int × Int × Int × Unit) : Option zTm := F55 fuel d.1 d.2.1 d.2.2.1 d.2.2.2.1
noncomputable def p55 : Prim := ⟨[.v (.str zTb), .v zI, .v zI, .v zI], [.v .bool], g55⟩
noncomputable def c55 : Cfg := ⟨58, tyT, [], [(54, p54)], [], [], [], [], [], [], [], [], [], [], none⟩
theorem F55_eq (n : Nat) (d) : absFn c55 n Try.f55 (body Try.f55) p55.ps p55.rs d = F55 n d.1 d.2.1 d.2.2.1 d.2.2.2.1 := by kernel_rfl
theorem d55 : drawOK c55 (body Try.f55) = true := by kernel_rfl
theorem h55 : GoodF Try.prog 55 p55 := hQ (cfg := c55) (cfg_ok tyT_ok (goodCons h54 goodNil) rfl (by kernel_rfl)) Try.func55 (by kernel_rfl) (noLoops (by kernel_rfl)) d55 (F55_eq fuel)
noncomputable def B56_4 (_n : Nat) (L : zUo × (Unit) × Unit → Option (zUd ⊕ zTr)) (l_0 : List (Int × zTe)) (n_1 : Int) (i_5 : Int) : Option (zUd ⊕ zTr) :=
  cond (decide (i_5 < (l_0.length : Int))) (getI l_0 i_5 fun e3 => cond (e3.2.1 == 3) (getI l_0 i_5 fun e4 => cond (e4.2.2.1 == n_1) (some (.inl ((false, ()), (), ()))) (L ((l_0, n_1, (IntKind.wrap .i64 (i_5 + 1)), ()), (), ()))) (L ((l_0, n_1, (IntKind.wrap .i64 (i_5 + 1)), ()), (), ()))) (some (.inr ((), (), ())))
noncomputable def L56_4 : Nat → zUo × (Unit) × Unit → Option (zUd ⊕ zTr)
  | 0, _ => none
  | n + 1, d => B56_4 n (L56_4 n) d.1.1 d.1.2.1 d.1.2.2.1
noncomputable def l56_4 : LoopI := ⟨⟨[(0, .v (.list false 48 (.str (.pair zI zTa)))), (1, .v zI), (5, .v zI)], [], none⟩, [(.ret, ⟨[(4, .v .bool)], [], none⟩), (.exit 0, ⟨[], [], none⟩)], L56_4⟩
noncomputable def F56 (n : Nat) (l_0 : (List (Int × zTe))) (n_1 : Int) : Option zTm :=
  derefK (g54 (n_1, 0, (IntKind.wrap .i64 ((l_0.length : Int) - 1)), ())) fun y1 => cond (!y1.1.1) (some ((false, ()), ())) (getI l_0 n_1 fun e2 => cond (e2.2.1 != 2) (some ((false, ()), ())) (derefK (L56_4 n ((l_0, n_1, 0, ()), (), ())) fun o5 => sumK o5 (fun d6 => some ((d6.1.1, ()), ())) (fun _ => some ((true, ()), ()))))
noncomputable def g56 (d : (List (Int × zTe)) × Int × Unit) : Option zTm := F56 fuel d.1 d.2.1
noncomputable def p56 : Prim := ⟨[.v (.list false 48 (.str (.pair zI zTa))), .v zI], [.v .bool], g56⟩
noncomputable def c56 : Cfg := ⟨41, tyT, [], [(54, p54)], [(4, l56_4)], [], [], [], [], [], [], [], [], [], none⟩
theorem F56_eq (n : Nat) (d) : absFn c56 n Try.f56 (body Try.f56) p56.ps p56.rs d = F56 n d.1 d.2.1 := by kernel_rfl
theorem L56_4_eq (n : Nat) (d) : (l56_4).g (n + 1) d = run c56 n (nth 0 (loopsOf (body Try.f56))) ((l56_4).ins.fill d) (roundK (l56_4) n) := by kernel_rfl
theorem ls56 : loopsOf (body Try.f56) = [nth 0 (loopsOf (body Try.f56))] := by kernel_rfl
theorem d56 : drawOK c56 (body Try.f56) = true := by kernel_rfl
theorem h56 : GoodF Try.prog 56 p56 := hQ (cfg := c56) (cfg_ok tyT_ok (goodCons h54 goodNil) rfl (by kernel_rfl)) Try.func56 (by kernel_rfl) (by rw [ls56]; simp only [List.forall_mem_cons]; exact ⟨loopHas (key := 4) (li := l56_4) (by kernel_rfl) rfl (fun _ => rfl) (L56_4_eq), fun _ h => by cases h⟩) d56 (F56_eq fuel)
noncomputable def F35 (_n : Nat) (b_0 : zTf) (before_1 : (List (Int × zTe))) (x_2 : (Int × zTe)) : Option zTm :=
  cond (decide ((before_1.length : Int) > 0)) (getI before_1 (IntKind.wrap .i64 ((before_1.length : Int) - 1)) fun e1 => derefK (g54 (x_2.1, e1.1, 10000, ())) fun y2 => cond (!y2.1.1) (some ((false, ()), ())) (derefK (g54 (x_2.2.2.1, 0, (IntKind.wrap .i64 ((b_0.2.2.length : Int) - 1)), ())) fun y3 => derefK (g54 (x_2.2.2.2.1, 0, (IntKind.wrap .i64 ((b_0.2.1.length : Int) - 1)), ())) fun y4 => cond (x_2.2.1 == 1) (derefK (g54 (x_2.2.2.1, 0, (IntKind.wrap .i64 ((b_0.1.length : Int) - 1)), ())) fun y5 => cond y5.1.1 (derefK (g55 (b_0, x_2.2.2.1, x_2.2.2.2.1, x_2.2.2.2.2, ())) fun y6 => some ((y6.1.1, ()), ())) (some ((false, ()), ()))) (cond (x_2.2.1 == 2) (cond y3.1.1 (derefK (g54 (x_2.2.2.2.1, 1, 3, ())) fun y7 => cond y7.1.1 (some (((x_2.2.2.2.2 == 0), ()), ())) (some ((false, ()), ()))) (some ((false, ()), ()))) (cond (x_2.2.1 == 3) (derefK (g56 (before_1, x_2.2.2.1, ())) fun y8 => cond y8.1.1 (cond y4.1.1 (some (((x_2.2.2.2.2 == 0), ()), ())) (some ((false, ()), ()))) (some ((false, ()), ()))) (cond (x_2.2.1 == 4) (cond y3.1.1 (cond y4.1.1 (some (((x_2.2.2.2.2 == 0), ()), ())) (some ((false, ()), ()))) (some ((false, ()), ()))) (cond (x_2.2.1 == 5) (cond y3.1.1 (derefK (g54 (x_2.2.2.2.1, 0, 10000, ())) fun y9 => cond y9.1.1 (some (((x_2.2.2.2.2 == 0), ()), ())) (some ((false, ()), ()))) (some ((false, ()), ()))) (cond (x_2.2.1 == 6) (cond y3.1.1 (cond (x_2.2.2.2.1 == 0) (some (((x_2.2.2.2.2 == 0), ()), ())) (some ((false, ()), ()))) (some ((false, ()), ()))) (some ((false, ()), ()))))))))) (derefK (g54 (x_2.1, 0, 10000, ())) fun y10 => cond (!y10.1.1) (some ((false, ()), ())) (derefK (g54 (x_2.2.2.1, 0, (IntKind.wrap .i64 ((b_0.2.2.length : Int) - 1)), ())) fun y11 => derefK (g54 (x_2.2.2.2.1, 0, (IntKind.wrap .i64 ((b_0.2.1.length : Int) - 1)), ())) fun y12 => cond (x_2.2.1 == 1) (derefK (g54 (x_2.2.2.1, 0, (IntKind.wrap .i64 ((b_0.1.length : Int) - 1)), ())) fun y13 => cond y13.1.1 (derefK (g55 (b_0, x_2.2.2.1, x_2.2.2.2.1, x_2.2.2.2.2, ())) fun y14 => some ((y14.1.1, ()), ())) (some ((false, ()), ()))) (cond (x_2.2.1 == 2) (cond y11.1.1 (derefK (g54 (x_2.2.2.2.1, 1, 3, ())) fun y15 => cond y15.1.1 (some (((x_2.2.2.2.2 == 0), ()), ())) (some ((false, ()), ()))) (some ((false, ()), ()))) (cond (x_2.2.1 == 3) (derefK (g56 (before_1, x_2.2.2.1, ())) fun y16 => cond y16.1.1 (cond y12.1.1 (some (((x_2.2.2.2.2 == 0), ()), ())) (some ((false, ()), ()))) (some ((false, ()), ()))) (cond (x_2.2.1 == 4) (cond y11.1.1 (cond y12.1.1 (some (((x_2.2.2.2.2 == 0), ()), ())) (some ((false, ()), ()))) (some ((false, ()), ()))) (cond (x_2.2.1 == 5) (cond y11.1.1 (derefK (g54 (x_2.2.2.2.1, 0, 10000, ())) fun y17 => cond y17.1.1 (some (((x_2.2.2.2.2 == 0), ()), ())) (some ((false, ()), ()))) (some ((false, ()), ()))) (cond (x_2.2.1 == 6) (cond y11.1.1 (cond (x_2.2.2.2.1 == 0) (some (((x_2.2.2.2.2 == 0), ()), ())) (some ((false, ()), ()))) (some ((false, ()), ()))) (some ((false, ()), ())))))))))
noncomputable def g35 (d : zTf × (List (Int × zTe)) × (Int × zTe) × Unit) : Option zTm := F35 fuel d.1 d.2.1 d.2.2.1
noncomputable def p35 : Prim := ⟨[.v (.str zTb), .v (.list false 48 (.str (.pair zI zTa))), .v (.str (.pair zI zTa))], [.v .bool], g35⟩
noncomputable def c35 : Cfg := ⟨124, tyT, [], [(54, p54), (55, p55), (56, p56)], [], [], [], [], [], [], [], [], [], [], none⟩
theorem F35_eq (n : Nat) (d) : absFn c35 n Try.f35 (body Try.f35) p35.ps p35.rs d = F35 n d.1 d.2.1 d.2.2.1 := by kernel_rfl
theorem d35 : drawOK c35 (body Try.f35) = true := by kernel_rfl
theorem h35 : GoodF Try.prog 35 p35 := hQ (cfg := c35) (cfg_ok tyT_ok (goodCons h54 (goodCons h55 (goodCons h56 goodNil))) rfl (by kernel_rfl)) Try.func35 (by kernel_rfl) (noLoops (by kernel_rfl)) d35 (F35_eq fuel)
noncomputable def B17_7 (_n : Nat) (L : ((List (Int × zTe)) × Int × Unit) × (zTf × Unit) × Unit → Option (((Int × Int × Unit) × (Unit) × Unit) ⊕ zTr)) (l_1 : List (Int × zTe)) (i_7 : Int) (o_2 : (List zTj) × zUr) : Option (((Int × Int × Unit) × (Unit) × Unit) ⊕ zTr) :=
  cond (decide (i_7 < (l_1.length : Int))) (leK 0 i_7 (leK i_7 (l_1.length : Int) (getI l_1 i_7 fun e2 => derefK (g35 (o_2, (l_1.take i_7.toNat), e2, ())) fun y3 => cond (!y3.1.1) (some (.inl ((i_7, 101, ()), (), ()))) (L ((l_1, (IntKind.wrap .i64 (i_7 + 1)), ()), (o_2, ()), ()))))) (some (.inr ((), (), ())))
noncomputable def L17_7 : Nat → ((List (Int × zTe)) × Int × Unit) × (zTf × Unit) × Unit → Option (((Int × Int × Unit) × (Unit) × Unit) ⊕ zTr)
  | 0, _ => none
  | n + 1, d => B17_7 n (L17_7 n) d.1.1 d.1.2.1 d.2.1.1
noncomputable def l17_7 : LoopI := ⟨⟨[(1, .v (.list false 48 (.str (.pair zI zTa)))), (2, .c (.ptr 2 [])), (7, .v zI)], [(2, false, .str zTb)], none⟩, [(.ret, ⟨[(4, .v zI), (5, .v zI)], [], none⟩), (.exit 0, ⟨[], [], none⟩)], L17_7⟩
noncomputable def F17 (n : Nat) (b_0 : zTf) (l_1 : (List (Int × zTe))) : Option zUn :=
  derefK (g34 (b_0, ())) fun y1 => cond (y1.1.1 != 0) (some ((0, y1.1.1, ()), ())) (cond (decide ((l_1.length : Int) > 100)) (some ((0, 2, ()), ())) (derefK (L17_7 n ((l_1, 0, ()), (b_0, ()), ())) fun o4 => sumK o4 (fun d5 => some ((d5.1.1, d5.1.2.1, ()), ())) (fun _ => some ((0, 0, ()), ()))))
noncomputable def g17 (d : zTf × (List (Int × zTe)) × Unit) : Option zUn := F17 fuel d.1 d.2.1
noncomputable def p17 : Prim := ⟨[.v (.str zTb), .v (.list false 48 (.str (.pair zI zTa)))], [.v zI, .v zI], g17⟩
noncomputable def c17 : Cfg := ⟨33, tyT, [], [(34, p34), (35, p35)], [(7, l17_7)], [], [], [], [], [], [], [], [], [], none⟩
theorem F17_eq (n : Nat) (d) : absFn c17 n Try.f17 (body Try.f17) p17.ps p17.rs d = F17 n d.1 d.2.1 := by kernel_rfl
theorem L17_7_eq (n : Nat) (d) : (l17_7).g (n + 1) d = run c17 n (nth 0 (loopsOf (body Try.f17))) ((l17_7).ins.fill d) (roundK (l17_7) n) := by kernel_rfl
theorem ls17 : loopsOf (body Try.f17) = [nth 0 (loopsOf (body Try.f17))] := by kernel_rfl
theorem d17 : drawOK c17 (body Try.f17) = true := by kernel_rfl
theorem h17 : GoodF Try.prog 17 p17 := hQ (cfg := c17) (cfg_ok tyT_ok (goodCons h34 (goodCons h35 goodNil)) rfl (by kernel_rfl)) Try.func17 (by kernel_rfl) (by rw [ls17]; simp only [List.forall_mem_cons]; exact ⟨loopHas (key := 7) (li := l17_7) (by kernel_rfl) rfl (fun _ => rfl) (L17_7_eq), fun _ h => by cases h⟩) d17 (F17_eq fuel)
noncomputable def F36 (_n : Nat) (n_0 : Int) (low_1 : Int) (high_2 : Int) : Option zTm :=
  cond (decide (n_0 ≥ low_1)) (some (((decide (n_0 ≤ high_2)), ()), ())) (some ((false, ()), ()))
noncomputable def g36 (d : Int × Int × Int × Unit) : Option zTm := F36 fuel d.1 d.2.1 d.2.2.1
noncomputable def p36 : Prim := ⟨[.v zI, .v zI, .v zI], [.v .bool], g36⟩
noncomputable def c36 : Cfg := ⟨15, tyT, [], [], [], [], [], [], [], [], [], [], [], [], none⟩
theorem F36_eq (n : Nat) (d) : absFn c36 n Try.f36 (body Try.f36) p36.ps p36.rs d = F36 n d.1 d.2.1 d.2.2.1 := by kernel_rfl
theorem d36 : drawOK c36 (body Try.f36) = true := by kernel_rfl
theorem h36 : GoodF Try.prog 36 p36 := hQ (cfg := c36) (cfg_ok tyT_ok (goodNil) rfl (by kernel_rfl)) Try.func36 (by kernel_rfl) (noLoops (by kernel_rfl)) d36 (F36_eq fuel)
noncomputable def B18_4 (_n : Nat) (L : (Int × Unit) × (zTl × Unit) × Unit → Option (zTn ⊕ zUw)) (i_3 : Int) (o_1 : (List zTe) × ((List zTe) × zUl)) : Option (zTn ⊕ zUw) :=
  cond (decide (i_3 < (o_1.1.length : Int))) (getI o_1.1 i_3 fun e4 => derefK (g36 (e4.1, (-1), (IntKind.wrap .i64 (i_3 - 1)), ())) fun y5 => cond (!y5.1.1) (some (.inl ((50, ()), (), ()))) (derefK (g36 (e4.2.1, 1, 1000, ())) fun y6 => cond (!y6.1.1) (some (.inl ((50, ()), (), ()))) (derefK (g36 (e4.2.2.1, 0, 20, ())) fun y7 => cond (!y7.1.1) (some (.inl ((50, ()), (), ()))) (derefK (g36 (e4.2.2.2, 1, 10000, ())) fun y8 => cond (!y8.1.1) (some (.inl ((50, ()), (), ()))) (L (((IntKind.wrap .i64 (i_3 + 1)), ()), (o_1, ()), ())))))) (some (.inr ((), (o_1, ()), ())))
noncomputable def L18_4 : Nat → (Int × Unit) × (zTl × Unit) × Unit → Option (zTn ⊕ zUw)
  | 0, _ => none
  | n + 1, d => B18_4 n (L18_4 n) d.1.1 d.2.1.1
noncomputable def l18_4 : LoopI := ⟨⟨[(1, .c (.ptr 1 [])), (3, .v zI)], [(1, false, .str (.pair (.list false 46 (.str zTa)) (.pair (.list false 44 (.str zTa)) zTg)))], none⟩, [(.ret, ⟨[(2, .v zI)], [], none⟩), (.exit 0, ⟨[(1, .c (.ptr 1 []))], [(1, false, .str (.pair (.list false 46 (.str zTa)) (.pair (.list false 44 (.str zTa)) zTg)))], none⟩)], L18_4⟩
noncomputable def B18_10 (_n : Nat) (L : (Int × Unit) × (zTl × Unit) × Unit → Option (zTn ⊕ zTr)) (i_5 : Int) (o_1 : (List zTe) × ((List zTe) × zUl)) : Option (zTn ⊕ zTr) :=
  cond (decide (i_5 < (o_1.2.1.length : Int))) (getI o_1.2.1 i_5 fun e12 => derefK (g36 (e12.1, 0, (IntKind.wrap .i64 ((o_1.1.length : Int) - 1)), ())) fun y13 => cond (!y13.1.1) (some (.inl ((50, ()), (), ()))) (derefK (g36 (e12.2.1, 0, 2, ())) fun y14 => cond (!y14.1.1) (some (.inl ((50, ()), (), ()))) (derefK (g36 (e12.2.2.1, 1, 1000, ())) fun y15 => cond (!y15.1.1) (some (.inl ((50, ()), (), ()))) (derefK (g36 (e12.2.2.2, 0, 1000, ())) fun y16 => cond (!y16.1.1) (some (.inl ((50, ()), (), ()))) (L (((IntKind.wrap .i64 (i_5 + 1)), ()), (o_1, ()), ())))))) (some (.inr ((), (), ())))
noncomputable def L18_10 : Nat → (Int × Unit) × (zTl × Unit) × Unit → Option (zTn ⊕ zTr)
  | 0, _ => none
  | n + 1, d => B18_10 n (L18_10 n) d.1.1 d.2.1.1
noncomputable def l18_10 : LoopI := ⟨⟨[(1, .c (.ptr 1 [])), (5, .v zI)], [(1, false, .str (.pair (.list false 46 (.str zTa)) (.pair (.list false 44 (.str zTa)) zTg)))], none⟩, [(.ret, ⟨[(2, .v zI)], [], none⟩), (.exit 2, ⟨[], [], none⟩)], L18_10⟩
noncomputable def F18 (n : Nat) (s_0 : zTl) : Option zTs :=
  cond (decide ((s_0.1.length : Int) > 10)) (some ((50, ()), ())) (cond (decide ((s_0.2.1.length : Int) > 16)) (some ((50, ()), ())) (derefK (g36 (s_0.2.2.1, 1, 1000, ())) fun y1 => cond (!y1.1.1) (some ((50, ()), ())) (derefK (g36 (s_0.2.2.2.1, 0, 20, ())) fun y2 => cond (!y2.1.1) (some ((50, ()), ())) (derefK (g36 (s_0.2.2.2.2, 1, 1000, ())) fun y3 => cond (!y3.1.1) (some ((50, ()), ())) (derefK (L18_4 n ((0, ()), (s_0, ()), ())) fun o9 => sumK o9 (fun d10 => some ((d10.1.1, ()), ())) (fun d11 => derefK (L18_10 n ((0, ()), (d11.2.1.1, ()), ())) fun o17 => sumK o17 (fun d18 => some ((d18.1.1, ()), ())) (fun _ => some ((0, ()), ()))))))))
noncomputable def g18 (d : zTl × Unit) : Option zTs := F18 fuel d.1
noncomputable def p18 : Prim := ⟨[.v (.str (.pair (.list false 46 (.str zTa)) (.pair (.list false 44 (.str zTa)) zTg)))], [.v zI], g18⟩
noncomputable def c18 : Cfg := ⟨109, tyT, [], [(36, p36)], [(4, l18_4), (10, l18_10)], [], [], [], [], [], [], [], [], [], none⟩
theorem F18_eq (n : Nat) (d) : absFn c18 n Try.f18 (body Try.f18) p18.ps p18.rs d = F18 n d.1 := by kernel_rfl
theorem L18_4_eq (n : Nat) (d) : (l18_4).g (n + 1) d = run c18 n (nth 0 (loopsOf (body Try.f18))) ((l18_4).ins.fill d) (roundK (l18_4) n) := by kernel_rfl
theorem L18_10_eq (n : Nat) (d) : (l18_10).g (n + 1) d = run c18 n (nth 1 (loopsOf (body Try.f18))) ((l18_10).ins.fill d) (roundK (l18_10) n) := by kernel_rfl
theorem ls18 : loopsOf (body Try.f18) = [nth 0 (loopsOf (body Try.f18)), nth 1 (loopsOf (body Try.f18))] := by kernel_rfl
theorem d18 : drawOK c18 (body Try.f18) = true := by kernel_rfl
theorem h18 : GoodF Try.prog 18 p18 := hQ (cfg := c18) (cfg_ok tyT_ok (goodCons h36 goodNil) rfl (by kernel_rfl)) Try.func18 (by kernel_rfl) (by rw [ls18]; simp only [List.forall_mem_cons]; exact ⟨loopHas (key := 4) (li := l18_4) (by kernel_rfl) rfl (fun _ => rfl) (L18_4_eq), loopHas (key := 10) (li := l18_10) (by kernel_rfl) rfl (fun _ => rfl) (L18_10_eq), fun _ h => by cases h⟩) d18 (F18_eq fuel)
noncomputable def F19 (_n : Nat) (n_0 : Int) (low_1 : Int) (high_2 : Int) : Option zTm :=
  cond (decide (n_0 ≥ low_1)) (some (((decide (n_0 ≤ high_2)), ()), ())) (some ((false, ()), ()))
noncomputable def g19 (d : Int × Int × Int × Unit) : Option zTm := F19 fuel d.1 d.2.1 d.2.2.1
noncomputable def p19 : Prim := ⟨[.v zI, .v zI, .v zI], [.v .bool], g19⟩
noncomputable def c19 : Cfg := ⟨15, tyT, [], [], [], [], [], [], [], [], [], [], [], [], none⟩
theorem F19_eq (n : Nat) (d) : absFn c19 n Try.f19 (body Try.f19) p19.ps p19.rs d = F19 n d.1 d.2.1 d.2.2.1 := by kernel_rfl
theorem d19 : drawOK c19 (body Try.f19) = true := by kernel_rfl
theorem h19 : GoodF Try.prog 19 p19 := hQ (cfg := c19) (cfg_ok tyT_ok (goodNil) rfl (by kernel_rfl)) Try.func19 (by kernel_rfl) (noLoops (by kernel_rfl)) d19 (F19_eq fuel)
noncomputable def B8_14 (_n : Nat) (L : (Int × Int × Unit) × (zTc × Unit) × Unit → Option (zTn ⊕ zTr)) (n_4 : Int) (i_5 : Int) (o_1 : zTt × zUc) : Option (zTn ⊕ zTr) :=
  cond (decide (i_5 < n_4)) (getI o_1.2.2.2.2.2.1 i_5 fun e5 => derefK (g19 (e5, 0, 200, ())) fun y6 => cond (!y6.1.1) (some (.inl ((120, ()), (), ()))) (getI o_1.2.2.2.2.2.2 i_5 fun e7 => derefK (g19 (e7, 0, 100, ())) fun y8 => cond (!y8.1.1) (some (.inl ((120, ()), (), ()))) (L ((n_4, (IntKind.wrap .i64 (i_5 + 1)), ()), (o_1, ()), ())))) (some (.inr ((), (), ())))
noncomputable def L8_14 : Nat → (Int × Int × Unit) × (zTc × Unit) × Unit → Option (zTn ⊕ zTr)
  | 0, _ => none
  | n + 1, d => B8_14 n (L8_14 n) d.1.1 d.1.2.1 d.2.1.1
noncomputable def l8_14 : LoopI := ⟨⟨[(1, .c (.ptr 1 [])), (4, .v zI), (5, .v zI)], [(1, false, .str (.pair (.str zTd) (.pair (.str zTb) (.pair (.list false 48 (.str (.pair zI zTa))) (.pair zI (.pair (.str (.pair (.list false 46 (.str zTa)) (.pair (.list false 44 (.str zTa)) zTg))) (.pair zTh zTh)))))))], none⟩, [(.ret, ⟨[(2, .v zI)], [], none⟩), (.exit 0, ⟨[], [], none⟩)], L8_14⟩
noncomputable def F8 (n : Nat) (g_0 : zTc) : Option zTs :=
  derefK (g16 (g_0.1, [], ())) fun y1 => cond (y1.1.1 != 0) (some ((y1.1.1, ()), ())) (derefK (g17 (g_0.2.1, g_0.2.2.1, ())) fun y2 => cond (y2.1.2.1 != 0) (some ((y2.1.2.1, ()), ())) (derefK (g18 (g_0.2.2.2.2.1, ())) fun y3 => cond (y3.1.1 != 0) (some ((y3.1.1, ()), ())) (cond ((g_0.2.1.2.2.length : Int) != (g_0.1.1.length : Int)) (some ((120, ()), ())) (cond ((g_0.2.2.2.2.1.2.1.length : Int) != (g_0.1.1.length : Int)) (some ((120, ()), ())) (cond ((g_0.2.2.2.2.2.1.length : Int) != (g_0.1.1.length : Int)) (some ((120, ()), ())) (cond ((g_0.2.2.2.2.2.2.length : Int) != (g_0.1.1.length : Int)) (some ((120, ()), ())) (derefK (g19 (g_0.2.2.2.1, 0, 10000, ())) fun y4 => cond (!y4.1.1) (some ((120, ()), ())) (derefK (L8_14 n (((g_0.1.1.length : Int), 0, ()), (g_0, ()), ())) fun o9 => sumK o9 (fun d10 => some ((d10.1.1, ()), ())) (fun _ => some ((0, ()), ()))))))))))
noncomputable def g8 (d : zTc × Unit) : Option zTs := F8 fuel d.1
noncomputable def p8 : Prim := ⟨[.v (.str (.pair (.str zTd) (.pair (.str zTb) (.pair (.list false 48 (.str (.pair zI zTa))) (.pair zI (.pair (.str (.pair (.list false 46 (.str zTa)) (.pair (.list false 44 (.str zTa)) zTg))) (.pair zTh zTh)))))))], [.v zI], g8⟩
noncomputable def c8 : Cfg := ⟨88, tyT, [], [(16, p16), (17, p17), (18, p18), (19, p19)], [(14, l8_14)], [], [], [], [], [], [], [], [], [], none⟩
theorem F8_eq (n : Nat) (d) : absFn c8 n Try.f8 (body Try.f8) p8.ps p8.rs d = F8 n d.1 := by kernel_rfl
theorem L8_14_eq (n : Nat) (d) : (l8_14).g (n + 1) d = run c8 n (nth 0 (loopsOf (body Try.f8))) ((l8_14).ins.fill d) (roundK (l8_14) n) := by kernel_rfl
theorem ls8 : loopsOf (body Try.f8) = [nth 0 (loopsOf (body Try.f8))] := by kernel_rfl
theorem d8 : drawOK c8 (body Try.f8) = true := by kernel_rfl
theorem h8 : GoodF Try.prog 8 p8 := hQ (cfg := c8) (cfg_ok tyT_ok (goodCons h16 (goodCons h17 (goodCons h18 (goodCons h19 goodNil)))) rfl (by kernel_rfl)) Try.func8 (by kernel_rfl) (by rw [ls8]; simp only [List.forall_mem_cons]; exact ⟨loopHas (key := 14) (li := l8_14) (by kernel_rfl) rfl (fun _ => rfl) (L8_14_eq), fun _ h => by cases h⟩) d8 (F8_eq fuel)
noncomputable def F86 (_n : Nat) (n_0 : Int) (low_1 : Int) (high_2 : Int) : Option zTm :=
  cond (decide (n_0 ≥ low_1)) (some (((decide (n_0 ≤ high_2)), ()), ())) (some ((false, ()), ()))
noncomputable def g86 (d : Int × Int × Int × Unit) : Option zTm := F86 fuel d.1 d.2.1 d.2.2.1
noncomputable def p86 : Prim := ⟨[.v zI, .v zI, .v zI], [.v .bool], g86⟩
noncomputable def c86 : Cfg := ⟨15, tyT, [], [], [], [], [], [], [], [], [], [], [], [], none⟩
theorem F86_eq (n : Nat) (d) : absFn c86 n Try.f86 (body Try.f86) p86.ps p86.rs d = F86 n d.1 d.2.1 d.2.2.1 := by kernel_rfl
theorem d86 : drawOK c86 (body Try.f86) = true := by kernel_rfl
theorem h86 : GoodF Try.prog 86 p86 := hQ (cfg := c86) (cfg_ok tyT_ok (goodNil) rfl (by kernel_rfl)) Try.func86 (by kernel_rfl) (noLoops (by kernel_rfl)) d86 (F86_eq fuel)
noncomputable def F93 (_n : Nat) (b_0 : (Int × zTj)) : Option zTm :=
  derefK (g86 (b_0.1, 1, 40, ())) fun y1 => cond (!y1.1.1) (some ((true, ()), ())) (derefK (g86 (b_0.2.1, 0, 100, ())) fun y2 => cond (!y2.1.1) (some ((true, ()), ())) (derefK (g86 (b_0.2.2.1, 1, 100, ())) fun y3 => cond (!y3.1.1) (some ((true, ()), ())) (derefK (g86 (b_0.2.2.2.1, 0, 100, ())) fun y4 => some (((!y4.1.1), ()), ()))))
noncomputable def g93 (d : (Int × zTj) × Unit) : Option zTm := F93 fuel d.1
noncomputable def p93 : Prim := ⟨[.v (.str (.pair zI zTi))], [.v .bool], g93⟩
noncomputable def c93 : Cfg := ⟨25, tyT, [], [(86, p86)], [], [], [], [], [], [], [], [], [], [], none⟩
theorem F93_eq (n : Nat) (d) : absFn c93 n Try.f93 (body Try.f93) p93.ps p93.rs d = F93 n d.1 := by kernel_rfl
theorem d93 : drawOK c93 (body Try.f93) = true := by kernel_rfl
theorem h93 : GoodF Try.prog 93 p93 := hQ (cfg := c93) (cfg_ok tyT_ok (goodCons h86 goodNil) rfl (by kernel_rfl)) Try.func93 (by kernel_rfl) (noLoops (by kernel_rfl)) d93 (F93_eq fuel)
noncomputable def B104_2 (_n : Nat) (L : ((List (Int × zTj)) × ((Int × zTj) → Option Bool) × Int × Int × Unit) × (Unit) × Unit → Option (zTn ⊕ zTr)) (s_0 : List (Int × zTj)) (f_1 : (Int × zTj) → Option Bool) (t_7 : Int) (t_8 : Int) : Option (zTn ⊕ zTr) :=
  cond (decide (t_8 < t_7)) (getI s_0 t_8 fun e1 => derefK (f_1 e1) fun y2 => cond y2 (some (.inl ((t_8, ()), (), ()))) (L ((s_0, f_1, t_7, (IntKind.wrap .i64 (t_8 + 1)), ()), (), ()))) (some (.inr ((), (), ())))
noncomputable def L104_2 : Nat → ((List (Int × zTj)) × ((Int × zTj) → Option Bool) × Int × Int × Unit) × (Unit) × Unit → Option (zTn ⊕ zTr)
  | 0, _ => none
  | n + 1, d => B104_2 n (L104_2 n) d.1.1 d.1.2.1 d.1.2.2.1 d.1.2.2.2.1
noncomputable def l104_2 : LoopI := ⟨⟨[(0, .v (.list false 106 (.str (.pair zI zTi)))), (1, .v (.fn (.str (.pair zI zTi)) .bool)), (7, .v zI), (8, .v zI)], [], none⟩, [(.ret, ⟨[(4, .v zI)], [], none⟩), (.exit 0, ⟨[], [], none⟩)], L104_2⟩
noncomputable def F104 (n : Nat) (s_0 : (List (Int × zTj))) (f_1 : ((Int × zTj) → Option Bool)) : Option zTs :=
  derefK (L104_2 n ((s_0, f_1, (s_0.length : Int), 0, ()), (), ())) fun o3 => sumK o3 (fun d4 => some ((d4.1.1, ()), ())) (fun _ => some (((-1), ()), ()))
noncomputable def g104 (d : (List (Int × zTj)) × ((Int × zTj) → Option Bool) × Unit) : Option zTs := F104 fuel d.1 d.2.1
noncomputable def p104 : Prim := ⟨[.v (.list false 106 (.str (.pair zI zTi))), .v (.fn (.str (.pair zI zTi)) .bool)], [.v zI], g104⟩
noncomputable def c104 : Cfg := ⟨19, tyT, [], [], [(2, l104_2)], [], [], [], [], [], [], [], [], [], none⟩
theorem F104_eq (n : Nat) (d) : absFn c104 n Try.f104 (body Try.f104) p104.ps p104.rs d = F104 n d.1 d.2.1 := by kernel_rfl
theorem L104_2_eq (n : Nat) (d) : (l104_2).g (n + 1) d = run c104 n (nth 0 (loopsOf (body Try.f104))) ((l104_2).ins.fill d) (roundK (l104_2) n) := by kernel_rfl
theorem ls104 : loopsOf (body Try.f104) = [nth 0 (loopsOf (body Try.f104))] := by kernel_rfl
theorem d104 : drawOK c104 (body Try.f104) = true := by kernel_rfl
theorem h104 : GoodF Try.prog 104 p104 := hQ (cfg := c104) (cfg_ok tyT_ok (goodNil) rfl (by kernel_rfl)) Try.func104 (by kernel_rfl) (by rw [ls104]; simp only [List.forall_mem_cons]; exact ⟨loopHas (key := 2) (li := l104_2) (by kernel_rfl) rfl (fun _ => rfl) (L104_2_eq), fun _ h => by cases h⟩) d104 (F104_eq fuel)
noncomputable def F94 (_n : Nat) (s_0 : (List (Int × zTj))) (f_1 : ((Int × zTj) → Option Bool)) : Option zTm :=
  derefK (g104 (s_0, f_1, ())) fun y1 => some (((decide (y1.1.1 ≥ 0)), ()), ())
noncomputable def g94 (d : (List (Int × zTj)) × ((Int × zTj) → Option Bool) × Unit) : Option zTm := F94 fuel d.1 d.2.1
noncomputable def p94 : Prim := ⟨[.v (.list false 106 (.str (.pair zI zTi))), .v (.fn (.str (.pair zI zTi)) .bool)], [.v .bool], g94⟩
noncomputable def c94 : Cfg := ⟨9, tyT, [], [(104, p104)], [], [], [], [], [], [], [], [], [], [], none⟩
theorem F94_eq (n : Nat) (d) : absFn c94 n Try.f94 (body Try.f94) p94.ps p94.rs d = F94 n d.1 d.2.1 := by kernel_rfl
theorem d94 : drawOK c94 (body Try.f94) = true := by kernel_rfl
theorem h94 : GoodF Try.prog 94 p94 := hQ (cfg := c94) (cfg_ok tyT_ok (goodCons h104 goodNil) rfl (by kernel_rfl)) Try.func94 (by kernel_rfl) (noLoops (by kernel_rfl)) d94 (F94_eq fuel)
noncomputable def F83 (_n : Nat) (f_0 : zTt) : Option zTs :=
  cond (decide ((f_0.1.length : Int) > 8)) (some ((70, ()), ())) (derefK (g86 (f_0.2, 0, 100, ())) fun y1 => cond (!y1.1.1) (some ((70, ()), ())) (derefK (g94 (f_0.1, (fun v2 => derefK (g93 (v2, ())) fun y3 => some y3.1.1), ())) fun y4 => cond y4.1.1 (some ((70, ()), ())) (some ((0, ()), ()))))
noncomputable def g83 (d : zTt × Unit) : Option zTs := F83 fuel d.1
noncomputable def p83 : Prim := ⟨[.v (.str zTd)], [.v zI], g83⟩
noncomputable def c83 : Cfg := ⟨20, tyT, [], [(86, p86), (93, p93), (94, p94)], [], [], [], [], [], [], [], [], [], [], none⟩
theorem F83_eq (n : Nat) (d) : absFn c83 n Try.f83 (body Try.f83) p83.ps p83.rs d = F83 n d.1 := by kernel_rfl
theorem d83 : drawOK c83 (body Try.f83) = true := by kernel_rfl
theorem h83 : GoodF Try.prog 83 p83 := hQ (cfg := c83) (cfg_ok tyT_ok (goodCons h86 (goodCons h93 (goodCons h94 goodNil))) rfl (by kernel_rfl)) Try.func83 (by kernel_rfl) (noLoops (by kernel_rfl)) d83 (F83_eq fuel)
noncomputable def F85 (_n : Nat) (n_0 : Int) (t_1 : zTt) : Option zTm :=
  derefK (g86 (n_0, 0, (IntKind.wrap .i64 ((t_1.1.length : Int) - 1)), ())) fun y1 => some (((!y1.1.1), ()), ())
noncomputable def g85 (d : Int × zTt × Unit) : Option zTm := F85 fuel d.1 d.2.1
noncomputable def p85 : Prim := ⟨[.v zI, .r (.str zTd)], [.v .bool], g85⟩
noncomputable def c85 : Cfg := ⟨11, tyT, [], [(86, p86)], [], [], [], [], [], [], [], [], [], [], none⟩
theorem F85_eq (n : Nat) (d) : absFn c85 n Try.f85 (body Try.f85) p85.ps p85.rs d = F85 n d.1 d.2.1 := by kernel_rfl
theorem d85 : drawOK c85 (body Try.f85) = true := by kernel_rfl
theorem h85 : GoodF Try.prog 85 p85 := hQ (cfg := c85) (cfg_ok tyT_ok (goodCons h86 goodNil) rfl (by kernel_rfl)) Try.func85 (by kernel_rfl) (noLoops (by kernel_rfl)) d85 (F85_eq fuel)
noncomputable def F84 (_n : Nat) (g_0 : zTq) (t_1 : zTt) : Option zTm :=
  derefK (g86 (g_0.1, 0, 2000, ())) fun y1 => cond (!y1.1.1) (some ((true, ()), ())) (derefK (g86 (g_0.2.1, 1, 40, ())) fun y2 => cond (!y2.1.1) (some ((true, ()), ())) (derefK (g86 (g_0.2.2.1, 0, 10000, ())) fun y3 => cond (!y3.1.1) (some ((true, ()), ())) (derefK (g86 (g_0.2.2.2.2, 0, 2000, ())) fun y4 => cond (!y4.1.1) (some ((true, ()), ())) (cond (decide ((g_0.2.2.2.1.length : Int) > 10)) (some ((true, ()), ())) (derefK (g45 (g_0.2.2.2.1, (fun v5 => derefK (g85 (v5, t_1, ())) fun y6 => some y6.1.1), ())) fun y7 => some ((y7.1.1, ()), ()))))))
noncomputable def g84 (d : zTq × zTt × Unit) : Option zTm := F84 fuel d.1 d.2.1
noncomputable def p84 : Prim := ⟨[.v (.str (.pair zI (.pair zI (.pair zI (.pair zTh zI))))), .r (.str zTd)], [.v .bool], g84⟩
noncomputable def c84 : Cfg := ⟨40, tyT, [], [(45, p45), (85, p85), (86, p86)], [], [], [], [], [], [], [], [], [], [], none⟩
theorem F84_eq (n : Nat) (d) : absFn c84 n Try.f84 (body Try.f84) p84.ps p84.rs d = F84 n d.1 d.2.1 := by kernel_rfl
theorem d84 : drawOK c84 (body Try.f84) = true := by kernel_rfl
theorem h84 : GoodF Try.prog 84 p84 := hQ (cfg := c84) (cfg_ok tyT_ok (goodCons h45 (goodCons h85 (goodCons h86 goodNil))) rfl (by kernel_rfl)) Try.func84 (by kernel_rfl) (noLoops (by kernel_rfl)) d84 (F84_eq fuel)
noncomputable def B95_2 (_n : Nat) (L : ((List zTq) × (zTq → Option Bool) × Int × Int × Unit) × (Unit) × Unit → Option (zTn ⊕ zTr)) (s_0 : List zTq) (f_1 : zTq → Option Bool) (t_7 : Int) (t_8 : Int) : Option (zTn ⊕ zTr) :=
  cond (decide (t_8 < t_7)) (getI s_0 t_8 fun e1 => derefK (f_1 e1) fun y2 => cond y2 (some (.inl ((t_8, ()), (), ()))) (L ((s_0, f_1, t_7, (IntKind.wrap .i64 (t_8 + 1)), ()), (), ()))) (some (.inr ((), (), ())))
noncomputable def L95_2 : Nat → ((List zTq) × (zTq → Option Bool) × Int × Int × Unit) × (Unit) × Unit → Option (zTn ⊕ zTr)
  | 0, _ => none
  | n + 1, d => B95_2 n (L95_2 n) d.1.1 d.1.2.1 d.1.2.2.1 d.1.2.2.2.1
noncomputable def l95_2 : LoopI := ⟨⟨[(0, .v (.list false 87 (.str (.pair zI (.pair zI (.pair zI (.pair zTh zI))))))), (1, .v (.fn (.str (.pair zI (.pair zI (.pair zI (.pair zTh zI))))) .bool)), (7, .v zI), (8, .v zI)], [], none⟩, [(.ret, ⟨[(4, .v zI)], [], none⟩), (.exit 0, ⟨[], [], none⟩)], L95_2⟩
noncomputable def F95 (n : Nat) (s_0 : (List zTq)) (f_1 : (zTq → Option Bool)) : Option zTs :=
  derefK (L95_2 n ((s_0, f_1, (s_0.length : Int), 0, ()), (), ())) fun o3 => sumK o3 (fun d4 => some ((d4.1.1, ()), ())) (fun _ => some (((-1), ()), ()))
noncomputable def g95 (d : (List zTq) × (zTq → Option Bool) × Unit) : Option zTs := F95 fuel d.1 d.2.1
noncomputable def p95 : Prim := ⟨[.v (.list false 87 (.str (.pair zI (.pair zI (.pair zI (.pair zTh zI)))))), .v (.fn (.str (.pair zI (.pair zI (.pair zI (.pair zTh zI))))) .bool)], [.v zI], g95⟩
noncomputable def c95 : Cfg := ⟨19, tyT, [], [], [(2, l95_2)], [], [], [], [], [], [], [], [], [], none⟩
theorem F95_eq (n : Nat) (d) : absFn c95 n Try.f95 (body Try.f95) p95.ps p95.rs d = F95 n d.1 d.2.1 := by kernel_rfl
theorem L95_2_eq (n : Nat) (d) : (l95_2).g (n + 1) d = run c95 n (nth 0 (loopsOf (body Try.f95))) ((l95_2).ins.fill d) (roundK (l95_2) n) := by kernel_rfl
theorem ls95 : loopsOf (body Try.f95) = [nth 0 (loopsOf (body Try.f95))] := by kernel_rfl
theorem d95 : drawOK c95 (body Try.f95) = true := by kernel_rfl
theorem h95 : GoodF Try.prog 95 p95 := hQ (cfg := c95) (cfg_ok tyT_ok (goodNil) rfl (by kernel_rfl)) Try.func95 (by kernel_rfl) (by rw [ls95]; simp only [List.forall_mem_cons]; exact ⟨loopHas (key := 2) (li := l95_2) (by kernel_rfl) rfl (fun _ => rfl) (L95_2_eq), fun _ h => by cases h⟩) d95 (F95_eq fuel)
noncomputable def F87 (_n : Nat) (s_0 : (List zTq)) (f_1 : (zTq → Option Bool)) : Option zTm :=
  derefK (g95 (s_0, f_1, ())) fun y1 => some (((decide (y1.1.1 ≥ 0)), ()), ())
noncomputable def g87 (d : (List zTq) × (zTq → Option Bool) × Unit) : Option zTm := F87 fuel d.1 d.2.1
noncomputable def p87 : Prim := ⟨[.v (.list false 87 (.str (.pair zI (.pair zI (.pair zI (.pair zTh zI)))))), .v (.fn (.str (.pair zI (.pair zI (.pair zI (.pair zTh zI))))) .bool)], [.v .bool], g87⟩
noncomputable def c87 : Cfg := ⟨9, tyT, [], [(95, p95)], [], [], [], [], [], [], [], [], [], [], none⟩
theorem F87_eq (n : Nat) (d) : absFn c87 n Try.f87 (body Try.f87) p87.ps p87.rs d = F87 n d.1 d.2.1 := by kernel_rfl
theorem d87 : drawOK c87 (body Try.f87) = true := by kernel_rfl
theorem h87 : GoodF Try.prog 87 p87 := hQ (cfg := c87) (cfg_ok tyT_ok (goodCons h95 goodNil) rfl (by kernel_rfl)) Try.func87 (by kernel_rfl) (noLoops (by kernel_rfl)) d87 (F87_eq fuel)
noncomputable def F64 (_n : Nat) (f_0 : zTt) (l_1 : (List zTq)) : Option zTs :=
  derefK (g83 (f_0, ())) fun y1 => cond (y1.1.1 != 0) (some ((y1.1.1, ()), ())) (cond (decide ((l_1.length : Int) > 60)) (some ((71, ()), ())) (derefK (g87 (l_1, (fun v2 => derefK (g84 (v2, f_0, ())) fun y3 => some y3.1.1), ())) fun y4 => cond y4.1.1 (some ((71, ()), ())) (some ((0, ()), ()))))
noncomputable def g64 (d : zTt × (List zTq) × Unit) : Option zTs := F64 fuel d.1 d.2.1
noncomputable def p64 : Prim := ⟨[.v (.str zTd), .v (.list false 87 (.str (.pair zI (.pair zI (.pair zI (.pair zTh zI))))))], [.v zI], g64⟩
noncomputable def c64 : Cfg := ⟨21, tyT, [], [(83, p83), (84, p84), (87, p87)], [], [], [], [], [], [], [], [], [], [], none⟩
theorem F64_eq (n : Nat) (d) : absFn c64 n Try.f64 (body Try.f64) p64.ps p64.rs d = F64 n d.1 d.2.1 := by kernel_rfl
theorem d64 : drawOK c64 (body Try.f64) = true := by kernel_rfl
theorem h64 : GoodF Try.prog 64 p64 := hQ (cfg := c64) (cfg_ok tyT_ok (goodCons h83 (goodCons h84 (goodCons h87 goodNil))) rfl (by kernel_rfl)) Try.func64 (by kernel_rfl) (noLoops (by kernel_rfl)) d64 (F64_eq fuel)
noncomputable def B72_2 (_n : Nat) (L : ((List zTj) × (zTj → Option Bool) × Int × Int × Unit) × (Unit) × Unit → Option (zTn ⊕ zTr)) (s_0 : List zTj) (f_1 : zTj → Option Bool) (t_7 : Int) (t_8 : Int) : Option (zTn ⊕ zTr) :=
  cond (decide (t_8 < t_7)) (getI s_0 t_8 fun e1 => derefK (f_1 e1) fun y2 => cond y2 (some (.inl ((t_8, ()), (), ()))) (L ((s_0, f_1, t_7, (IntKind.wrap .i64 (t_8 + 1)), ()), (), ()))) (some (.inr ((), (), ())))
noncomputable def L72_2 : Nat → ((List zTj) × (zTj → Option Bool) × Int × Int × Unit) × (Unit) × Unit → Option (zTn ⊕ zTr)
  | 0, _ => none
  | n + 1, d => B72_2 n (L72_2 n) d.1.1 d.1.2.1 d.1.2.2.1 d.1.2.2.2.1
noncomputable def l72_2 : LoopI := ⟨⟨[(0, .v (.list false 56 (.str zTi))), (1, .v (.fn (.str zTi) .bool)), (7, .v zI), (8, .v zI)], [], none⟩, [(.ret, ⟨[(4, .v zI)], [], none⟩), (.exit 0, ⟨[], [], none⟩)], L72_2⟩
noncomputable def F72 (n : Nat) (s_0 : (List zTj)) (f_1 : (zTj → Option Bool)) : Option zTs :=
  derefK (L72_2 n ((s_0, f_1, (s_0.length : Int), 0, ()), (), ())) fun o3 => sumK o3 (fun d4 => some ((d4.1.1, ()), ())) (fun _ => some (((-1), ()), ()))
noncomputable def g72 (d : (List zTj) × (zTj → Option Bool) × Unit) : Option zTs := F72 fuel d.1 d.2.1
noncomputable def p72 : Prim := ⟨[.v (.list false 56 (.str zTi)), .v (.fn (.str zTi) .bool)], [.v zI], g72⟩
noncomputable def c72 : Cfg := ⟨19, tyT, [], [], [(2, l72_2)], [], [], [], [], [], [], [], [], [], none⟩
theorem F72_eq (n : Nat) (d) : absFn c72 n Try.f72 (body Try.f72) p72.ps p72.rs d = F72 n d.1 d.2.1 := by kernel_rfl
theorem L72_2_eq (n : Nat) (d) : (l72_2).g (n + 1) d = run c72 n (nth 0 (loopsOf (body Try.f72))) ((l72_2).ins.fill d) (roundK (l72_2) n) := by kernel_rfl
theorem ls72 : loopsOf (body Try.f72) = [nth 0 (loopsOf (body Try.f72))] := by kernel_rfl
theorem d72 : drawOK c72 (body Try.f72) = true := by kernel_rfl
theorem h72 : GoodF Try.prog 72 p72 := hQ (cfg := c72) (cfg_ok tyT_ok (goodNil) rfl (by kernel_rfl)) Try.func72 (by kernel_rfl) (by rw [ls72]; simp only [List.forall_mem_cons]; exact ⟨loopHas (key := 2) (li := l72_2) (by kernel_rfl) rfl (fun _ => rfl) (L72_2_eq), fun _ h => by cases h⟩) d72 (F72_eq fuel)
noncomputable def F43 (_n : Nat) (s_0 : (List zTj)) (f_1 : (zTj → Option Bool)) : Option zTm :=
  derefK (g72 (s_0, f_1, ())) fun y1 => some (((decide (y1.1.1 ≥ 0)), ()), ())
noncomputable def g43 (d : (List zTj) × (zTj → Option Bool) × Unit) : Option zTm := F43 fuel d.1 d.2.1
noncomputable def p43 : Prim := ⟨[.v (.list false 56 (.str zTi)), .v (.fn (.str zTi) .bool)], [.v .bool], g43⟩
noncomputable def c43 : Cfg := ⟨9, tyT, [], [(72, p72)], [], [], [], [], [], [], [], [], [], [], none⟩
theorem F43_eq (n : Nat) (d) : absFn c43 n Try.f43 (body Try.f43) p43.ps p43.rs d = F43 n d.1 d.2.1 := by kernel_rfl
theorem d43 : drawOK c43 (body Try.f43) = true := by kernel_rfl
theorem h43 : GoodF Try.prog 43 p43 := hQ (cfg := c43) (cfg_ok tyT_ok (goodCons h72 goodNil) rfl (by kernel_rfl)) Try.func43 (by kernel_rfl) (noLoops (by kernel_rfl)) d43 (F43_eq fuel)
noncomputable def F27 (_n : Nat) (n_0 : Int) (low_1 : Int) (high_2 : Int) : Option zTm :=
  cond (decide (n_0 ≥ low_1)) (some (((decide (n_0 ≤ high_2)), ()), ())) (some ((false, ()), ()))
noncomputable def g27 (d : Int × Int × Int × Unit) : Option zTm := F27 fuel d.1 d.2.1 d.2.2.1
noncomputable def p27 : Prim := ⟨[.v zI, .v zI, .v zI], [.v .bool], g27⟩
noncomputable def c27 : Cfg := ⟨15, tyT, [], [], [], [], [], [], [], [], [], [], [], [], none⟩
theorem F27_eq (n : Nat) (d) : absFn c27 n Try.f27 (body Try.f27) p27.ps p27.rs d = F27 n d.1 d.2.1 d.2.2.1 := by kernel_rfl
theorem d27 : drawOK c27 (body Try.f27) = true := by kernel_rfl
theorem h27 : GoodF Try.prog 27 p27 := hQ (cfg := c27) (cfg_ok tyT_ok (goodNil) rfl (by kernel_rfl)) Try.func27 (by kernel_rfl) (noLoops (by kernel_rfl)) d27 (F27_eq fuel)
noncomputable def F44 (_n : Nat) (r_0 : zTj) (t_1 : zTf) : Option zTm :=
  derefK (g27 (r_0.1, 0, (IntKind.wrap .i64 ((t_1.2.2.length : Int) - 1)), ())) fun y1 => cond (!y1.1.1) (some ((true, ()), ())) (derefK (g27 (r_0.2.1, 1, 10000, ())) fun y2 => cond (!y2.1.1) (some ((true, ()), ())) (derefK (g27 (r_0.2.2.1, 0, 9, ())) fun y3 => some (((!y3.1.1), ()), ())))
noncomputable def g44 (d : zTj × zTf × Unit) : Option zTm := F44 fuel d.1 d.2.1
noncomputable def p44 : Prim := ⟨[.v (.str zTi), .r (.str zTb)], [.v .bool], g44⟩
noncomputable def c44 : Cfg := ⟨24, tyT, [], [(27, p27)], [], [], [], [], [], [], [], [], [], [], none⟩
theorem F44_eq (n : Nat) (d) : absFn c44 n Try.f44 (body Try.f44) p44.ps p44.rs d = F44 n d.1 d.2.1 := by kernel_rfl
theorem d44 : drawOK c44 (body Try.f44) = true := by kernel_rfl
theorem h44 : GoodF Try.prog 44 p44 := hQ (cfg := c44) (cfg_ok tyT_ok (goodCons h27 goodNil) rfl (by kernel_rfl)) Try.func44 (by kernel_rfl) (noLoops (by kernel_rfl)) d44 (F44_eq fuel)
noncomputable def F46 (_n : Nat) (n_0 : Int) : Option zTm :=
  derefK (g27 (n_0, 0, 9, ())) fun y1 => some (((!y1.1.1), ()), ())
noncomputable def g46 (d : Int × Unit) : Option zTm := F46 fuel d.1
noncomputable def p46 : Prim := ⟨[.v zI], [.v .bool], g46⟩
noncomputable def c46 : Cfg := ⟨6, tyT, [], [(27, p27)], [], [], [], [], [], [], [], [], [], [], none⟩
theorem F46_eq (n : Nat) (d) : absFn c46 n Try.f46 (body Try.f46) p46.ps p46.rs d = F46 n d.1 := by kernel_rfl
theorem d46 : drawOK c46 (body Try.f46) = true := by kernel_rfl
theorem h46 : GoodF Try.prog 46 p46 := hQ (cfg := c46) (cfg_ok tyT_ok (goodCons h27 goodNil) rfl (by kernel_rfl)) Try.func46 (by kernel_rfl) (noLoops (by kernel_rfl)) d46 (F46_eq fuel)
noncomputable def F47 (_n : Nat) (n_0 : Int) : Option zTm :=
  derefK (g27 (n_0, 0, 10000, ())) fun y1 => some (((!y1.1.1), ()), ())
noncomputable def g47 (d : Int × Unit) : Option zTm := F47 fuel d.1
noncomputable def p47 : Prim := ⟨[.v zI], [.v .bool], g47⟩
noncomputable def c47 : Cfg := ⟨6, tyT, [], [(27, p27)], [], [], [], [], [], [], [], [], [], [], none⟩
theorem F47_eq (n : Nat) (d) : absFn c47 n Try.f47 (body Try.f47) p47.ps p47.rs d = F47 n d.1 := by kernel_rfl
theorem d47 : drawOK c47 (body Try.f47) = true := by kernel_rfl
theorem h47 : GoodF Try.prog 47 p47 := hQ (cfg := c47) (cfg_ok tyT_ok (goodCons h27 goodNil) rfl (by kernel_rfl)) Try.func47 (by kernel_rfl) (noLoops (by kernel_rfl)) d47 (F47_eq fuel)
noncomputable def F25 (_n : Nat) (b_0 : zTf) : Option zTs :=
  cond (decide ((b_0.1.length : Int) > 20)) (some ((100, ()), ())) (cond (decide ((b_0.2.1.length : Int) > 8)) (some ((100, ()), ())) (cond (decide ((b_0.2.2.length : Int) > 10)) (some ((100, ()), ())) (derefK (g43 (b_0.1, (fun v1 => derefK (g44 (v1, b_0, ())) fun y2 => some y2.1.1), ())) fun y3 => cond y3.1.1 (some ((100, ()), ())) (derefK (g45 (b_0.2.1, (fun v4 => derefK (g46 (v4, ())) fun y5 => some y5.1.1), ())) fun y6 => cond y6.1.1 (some ((100, ()), ())) (derefK (g45 (b_0.2.2, (fun v7 => derefK (g47 (v7, ())) fun y8 => some y8.1.1), ())) fun y9 => cond y9.1.1 (some ((100, ()), ())) (some ((0, ()), ())))))))
noncomputable def g25 (d : zTf × Unit) : Option zTs := F25 fuel d.1
noncomputable def p25 : Prim := ⟨[.v (.str zTb)], [.v zI], g25⟩
noncomputable def c25 : Cfg := ⟨39, tyT, [], [(43, p43), (44, p44), (45, p45), (46, p46), (47, p47)], [], [], [], [], [], [], [], [], [], [], none⟩
theorem F25_eq (n : Nat) (d) : absFn c25 n Try.f25 (body Try.f25) p25.ps p25.rs d = F25 n d.1 := by kernel_rfl
theorem d25 : drawOK c25 (body Try.f25) = true := by kernel_rfl
theorem h25 : GoodF Try.prog 25 p25 := hQ (cfg := c25) (cfg_ok tyT_ok (goodCons h43 (goodCons h44 (goodCons h45 (goodCons h46 (goodCons h47 goodNil))))) rfl (by kernel_rfl)) Try.func25 (by kernel_rfl) (noLoops (by kernel_rfl)) d25 (F25_eq fuel)
noncomputable def F26 (_n : Nat) (l_0 : zTo) (n_1 : Int) : Option zTm :=
  derefK (g27 (n_1, 0, (IntKind.wrap .i64 ((l_0.1.2.2.length : Int) - 1)), ())) fun y1 => some ((y1.1.1, ()), ())
noncomputable def g26 (d : zTo × Int × Unit) : Option zTm := F26 fuel d.1 d.2.1
noncomputable def p26 : Prim := ⟨[.v (.str (.pair (.str zTb) (.list false 48 (.str (.pair zI zTa))))), .v zI], [.v .bool], g26⟩
noncomputable def c26 : Cfg := ⟨12, tyT, [], [(27, p27)], [], [], [], [], [], [], [], [], [], [], none⟩
theorem F26_eq (n : Nat) (d) : absFn c26 n Try.f26 (body Try.f26) p26.ps p26.rs d = F26 n d.1 d.2.1 := by kernel_rfl
theorem d26 : drawOK c26 (body Try.f26) = true := by kernel_rfl
theorem h26 : GoodF Try.prog 26 p26 := hQ (cfg := c26) (cfg_ok tyT_ok (goodCons h27 goodNil) rfl (by kernel_rfl)) Try.func26 (by kernel_rfl) (noLoops (by kernel_rfl)) d26 (F26_eq fuel)
noncomputable def F74 (_n : Nat) (l_0 : zTo) (n_1 : Int) : Option zTm :=
  derefK (g27 (n_1, 0, (IntKind.wrap .i64 ((l_0.1.2.1.length : Int) - 1)), ())) fun y1 => some ((y1.1.1, ()), ())
noncomputable def g74 (d : zTo × Int × Unit) : Option zTm := F74 fuel d.1 d.2.1
noncomputable def p74 : Prim := ⟨[.v (.str (.pair (.str zTb) (.list false 48 (.str (.pair zI zTa))))), .v zI], [.v .bool], g74⟩
noncomputable def c74 : Cfg := ⟨12, tyT, [], [(27, p27)], [], [], [], [], [], [], [], [], [], [], none⟩
theorem F74_eq (n : Nat) (d) : absFn c74 n Try.f74 (body Try.f74) p74.ps p74.rs d = F74 n d.1 d.2.1 := by kernel_rfl
theorem d74 : drawOK c74 (body Try.f74) = true := by kernel_rfl
theorem h74 : GoodF Try.prog 74 p74 := hQ (cfg := c74) (cfg_ok tyT_ok (goodCons h27 goodNil) rfl (by kernel_rfl)) Try.func74 (by kernel_rfl) (noLoops (by kernel_rfl)) d74 (F74_eq fuel)
noncomputable def F48 (_n : Nat) (l_0 : zTo) (rule_1 : Int) (n_2 : Int) : Option zTm :=
  derefK (g74 (l_0, n_2, ())) fun y1 => cond y1.1.1 (getI l_0.1.2.1 n_2 fun e2 => getI l_0.1.1 rule_1 fun e3 => some (((decide (e2 ≥ e3.2.2.1)), ()), ())) (some ((false, ()), ()))
noncomputable def g48 (d : zTo × Int × Int × Unit) : Option zTm := F48 fuel d.1 d.2.1 d.2.2.1
noncomputable def p48 : Prim := ⟨[.v (.str (.pair (.str zTb) (.list false 48 (.str (.pair zI zTa))))), .v zI, .v zI], [.v .bool], g48⟩
noncomputable def c48 : Cfg := ⟨26, tyT, [], [(74, p74)], [], [], [], [], [], [], [], [], [], [], none⟩
theorem F48_eq (n : Nat) (d) : absFn c48 n Try.f48 (body Try.f48) p48.ps p48.rs d = F48 n d.1 d.2.1 d.2.2.1 := by kernel_rfl
theorem d48 : drawOK c48 (body Try.f48) = true := by kernel_rfl
theorem h48 : GoodF Try.prog 48 p48 := hQ (cfg := c48) (cfg_ok tyT_ok (goodCons h74 goodNil) rfl (by kernel_rfl)) Try.func48 (by kernel_rfl) (noLoops (by kernel_rfl)) d48 (F48_eq fuel)
noncomputable def F28 (_n : Nat) (l_0 : zTo) (rule_1 : Int) (a_2 : Int) (b_3 : Int) : Option zTm :=
  getI l_0.1.1 rule_1 fun e1 => cond (!e1.2.2.2) (derefK (g48 (l_0, rule_1, a_2, ())) fun y2 => cond y2.1.1 (some (((b_3 == (-1)), ()), ())) (some ((false, ()), ()))) (derefK (g48 (l_0, rule_1, a_2, ())) fun y3 => cond y3.1.1 (derefK (g48 (l_0, rule_1, b_3, ())) fun y4 => cond y4.1.1 (some (((a_2 != b_3), ()), ())) (some ((false, ()), ()))) (some ((false, ()), ())))
noncomputable def g28 (d : zTo × Int × Int × Int × Unit) : Option zTm := F28 fuel d.1 d.2.1 d.2.2.1 d.2.2.2.1
noncomputable def p28 : Prim := ⟨[.v (.str (.pair (.str zTb) (.list false 48 (.str (.pair zI zTa))))), .v zI, .v zI, .v zI], [.v .bool], g28⟩
noncomputable def c28 : Cfg := ⟨40, tyT, [], [(48, p48)], [], [], [], [], [], [], [], [], [], [], none⟩
theorem F28_eq (n : Nat) (d) : absFn c28 n Try.f28 (body Try.f28) p28.ps p28.rs d = F28 n d.1 d.2.1 d.2.2.1 d.2.2.2.1 := by kernel_rfl
theorem d28 : drawOK c28 (body Try.f28) = true := by kernel_rfl
theorem h28 : GoodF Try.prog 28 p28 := hQ (cfg := c28) (cfg_ok tyT_ok (goodCons h48 goodNil) rfl (by kernel_rfl)) Try.func28 (by kernel_rfl) (noLoops (by kernel_rfl)) d28 (F28_eq fuel)
noncomputable def B78_2 (_n : Nat) (L : ((List (Int × zTe)) × ((Int × zTe) → Option Bool) × Int × Int × Unit) × (Unit) × Unit → Option (zTn ⊕ zTr)) (s_0 : List (Int × zTe)) (f_1 : (Int × zTe) → Option Bool) (t_7 : Int) (t_8 : Int) : Option (zTn ⊕ zTr) :=
  cond (decide (t_8 < t_7)) (getI s_0 t_8 fun e1 => derefK (f_1 e1) fun y2 => cond y2 (some (.inl ((t_8, ()), (), ()))) (L ((s_0, f_1, t_7, (IntKind.wrap .i64 (t_8 + 1)), ()), (), ()))) (some (.inr ((), (), ())))
noncomputable def L78_2 : Nat → ((List (Int × zTe)) × ((Int × zTe) → Option Bool) × Int × Int × Unit) × (Unit) × Unit → Option (zTn ⊕ zTr)
  | 0, _ => none
  | n + 1, d => B78_2 n (L78_2 n) d.1.1 d.1.2.1 d.1.2.2.1 d.1.2.2.2.1
noncomputable def l78_2 : LoopI := ⟨⟨[(0, .v (.list false 48 (.str (.pair zI zTa)))), (1, .v (.fn (.str (.pair zI zTa)) .bool)), (7, .v zI), (8, .v zI)], [], none⟩, [(.ret, ⟨[(4, .v zI)], [], none⟩), (.exit 0, ⟨[], [], none⟩)], L78_2⟩
noncomputable def F78 (n : Nat) (s_0 : (List (Int × zTe))) (f_1 : ((Int × zTe) → Option Bool)) : Option zTs :=
  derefK (L78_2 n ((s_0, f_1, (s_0.length : Int), 0, ()), (), ())) fun o3 => sumK o3 (fun d4 => some ((d4.1.1, ()), ())) (fun _ => some (((-1), ()), ()))
noncomputable def g78 (d : (List (Int × zTe)) × ((Int × zTe) → Option Bool) × Unit) : Option zTs := F78 fuel d.1 d.2.1
noncomputable def p78 : Prim := ⟨[.v (.list false 48 (.str (.pair zI zTa))), .v (.fn (.str (.pair zI zTa)) .bool)], [.v zI], g78⟩
noncomputable def c78 : Cfg := ⟨19, tyT, [], [], [(2, l78_2)], [], [], [], [], [], [], [], [], [], none⟩
theorem F78_eq (n : Nat) (d) : absFn c78 n Try.f78 (body Try.f78) p78.ps p78.rs d = F78 n d.1 d.2.1 := by kernel_rfl
theorem L78_2_eq (n : Nat) (d) : (l78_2).g (n + 1) d = run c78 n (nth 0 (loopsOf (body Try.f78))) ((l78_2).ins.fill d) (roundK (l78_2) n) := by kernel_rfl
theorem ls78 : loopsOf (body Try.f78) = [nth 0 (loopsOf (body Try.f78))] := by kernel_rfl
theorem d78 : drawOK c78 (body Try.f78) = true := by kernel_rfl
theorem h78 : GoodF Try.prog 78 p78 := hQ (cfg := c78) (cfg_ok tyT_ok (goodNil) rfl (by kernel_rfl)) Try.func78 (by kernel_rfl) (by rw [ls78]; simp only [List.forall_mem_cons]; exact ⟨loopHas (key := 2) (li := l78_2) (by kernel_rfl) rfl (fun _ => rfl) (L78_2_eq), fun _ h => by cases h⟩) d78 (F78_eq fuel)
noncomputable def F81 (_n : Nat) (s_0 : (List (Int × zTe))) (f_1 : ((Int × zTe) → Option Bool)) : Option zTm :=
  derefK (g78 (s_0, f_1, ())) fun y1 => some (((decide (y1.1.1 ≥ 0)), ()), ())
noncomputable def g81 (d : (List (Int × zTe)) × ((Int × zTe) → Option Bool) × Unit) : Option zTm := F81 fuel d.1 d.2.1
noncomputable def p81 : Prim := ⟨[.v (.list false 48 (.str (.pair zI zTa))), .v (.fn (.str (.pair zI zTa)) .bool)], [.v .bool], g81⟩
noncomputable def c81 : Cfg := ⟨9, tyT, [], [(78, p78)], [], [], [], [], [], [], [], [], [], [], none⟩
theorem F81_eq (n : Nat) (d) : absFn c81 n Try.f81 (body Try.f81) p81.ps p81.rs d = F81 n d.1 d.2.1 := by kernel_rfl
theorem d81 : drawOK c81 (body Try.f81) = true := by kernel_rfl
theorem h81 : GoodF Try.prog 81 p81 := hQ (cfg := c81) (cfg_ok tyT_ok (goodCons h78 goodNil) rfl (by kernel_rfl)) Try.func81 (by kernel_rfl) (noLoops (by kernel_rfl)) d81 (F81_eq fuel)
noncomputable def F82 (_n : Nat) (x_0 : (Int × zTe)) (t_1 : Int) : Option zTm :=
  cond (x_0.2.1 == 3) (some (((x_0.2.2.1 == t_1), ()), ())) (some ((false, ()), ()))
noncomputable def g82 (d : (Int × zTe) × Int × Unit) : Option zTm := F82 fuel d.1 d.2.1
noncomputable def p82 : Prim := ⟨[.v (.str (.pair zI zTa)), .r zI], [.v .bool], g82⟩
noncomputable def c82 : Cfg := ⟨13, tyT, [], [], [], [], [], [], [], [], [], [], [], [], none⟩
theorem F82_eq (n : Nat) (d) : absFn c82 n Try.f82 (body Try.f82) p82.ps p82.rs d = F82 n d.1 d.2.1 := by kernel_rfl
theorem d82 : drawOK c82 (body Try.f82) = true := by kernel_rfl
theorem h82 : GoodF Try.prog 82 p82 := hQ (cfg := c82) (cfg_ok tyT_ok (goodNil) rfl (by kernel_rfl)) Try.func82 (by kernel_rfl) (noLoops (by kernel_rfl)) d82 (F82_eq fuel)
noncomputable def F63 (_n : Nat) (l_0 : zTo) (n_1 : Int) : Option zTm :=
  derefK (g81 (l_0.2, (fun v1 => derefK (g82 (v1, n_1, ())) fun y2 => some y2.1.1), ())) fun y3 => some ((y3.1.1, ()), ())
noncomputable def g63 (d : zTo × Int × Unit) : Option zTm := F63 fuel d.1 d.2.1
noncomputable def p63 : Prim := ⟨[.v (.str (.pair (.str zTb) (.list false 48 (.str (.pair zI zTa))))), .v zI], [.v .bool], g63⟩
noncomputable def c63 : Cfg := ⟨9, tyT, [], [(81, p81), (82, p82)], [], [], [], [], [], [], [], [], [], [], none⟩
theorem F63_eq (n : Nat) (d) : absFn c63 n Try.f63 (body Try.f63) p63.ps p63.rs d = F63 n d.1 d.2.1 := by kernel_rfl
theorem d63 : drawOK c63 (body Try.f63) = true := by kernel_rfl
theorem h63 : GoodF Try.prog 63 p63 := hQ (cfg := c63) (cfg_ok tyT_ok (goodCons h81 (goodCons h82 goodNil)) rfl (by kernel_rfl)) Try.func63 (by kernel_rfl) (noLoops (by kernel_rfl)) d63 (F63_eq fuel)
noncomputable def F77 (_n : Nat) (l_0 : zTo) (x_1 : (Int × zTe)) : Option zTm :=
  cond (decide ((l_0.2.length : Int) > 0)) (getI l_0.2 (IntKind.wrap .i64 ((l_0.2.length : Int) - 1)) fun e1 => derefK (g27 (x_1.1, e1.1, 10000, ())) fun y2 => cond (!y2.1.1) (some ((false, ()), ())) (cond (x_1.2.1 == 1) (derefK (g27 (x_1.2.2.1, 0, (IntKind.wrap .i64 ((l_0.1.1.length : Int) - 1)), ())) fun y3 => cond y3.1.1 (derefK (g28 (l_0, x_1.2.2.1, x_1.2.2.2.1, x_1.2.2.2.2, ())) fun y4 => some ((y4.1.1, ()), ())) (some ((false, ()), ()))) (cond (x_1.2.1 == 2) (derefK (g26 (l_0, x_1.2.2.1, ())) fun y5 => cond y5.1.1 (derefK (g27 (x_1.2.2.2.1, 1, 3, ())) fun y6 => cond y6.1.1 (some (((x_1.2.2.2.2 == 0), ()), ())) (some ((false, ()), ()))) (some ((false, ()), ()))) (cond (x_1.2.1 == 3) (derefK (g27 (x_1.2.2.1, 0, (IntKind.wrap .i64 ((l_0.2.length : Int) - 1)), ())) fun y7 => cond y7.1.1 (getI l_0.2 x_1.2.2.1 fun e8 => cond (e8.2.1 == 2) (derefK (g63 (l_0, x_1.2.2.1, ())) fun y9 => cond (!y9.1.1) (derefK (g74 (l_0, x_1.2.2.2.1, ())) fun y10 => cond y10.1.1 (some (((x_1.2.2.2.2 == 0), ()), ())) (some ((false, ()), ()))) (some ((false, ()), ()))) (some ((false, ()), ()))) (some ((false, ()), ()))) (cond (x_1.2.1 == 4) (derefK (g26 (l_0, x_1.2.2.1, ())) fun y11 => cond y11.1.1 (derefK (g74 (l_0, x_1.2.2.2.1, ())) fun y12 => cond y12.1.1 (some (((x_1.2.2.2.2 == 0), ()), ())) (some ((false, ()), ()))) (some ((false, ()), ()))) (cond (x_1.2.1 == 5) (derefK (g26 (l_0, x_1.2.2.1, ())) fun y13 => cond y13.1.1 (derefK (g27 (x_1.2.2.2.1, 0, 10000, ())) fun y14 => cond y14.1.1 (some (((x_1.2.2.2.2 == 0), ()), ())) (some ((false, ()), ()))) (some ((false, ()), ()))) (cond (x_1.2.1 == 6) (derefK (g26 (l_0, x_1.2.2.1, ())) fun y15 => cond y15.1.1 (cond (x_1.2.2.2.1 == 0) (some (((x_1.2.2.2.2 == 0), ()), ())) (some ((false, ()), ()))) (some ((false, ()), ()))) (some ((false, ()), ()))))))))) (derefK (g27 (x_1.1, 0, 10000, ())) fun y16 => cond (!y16.1.1) (some ((false, ()), ())) (cond (x_1.2.1 == 1) (derefK (g27 (x_1.2.2.1, 0, (IntKind.wrap .i64 ((l_0.1.1.length : Int) - 1)), ())) fun y17 => cond y17.1.1 (derefK (g28 (l_0, x_1.2.2.1, x_1.2.2.2.1, x_1.2.2.2.2, ())) fun y18 => some ((y18.1.1, ()), ())) (some ((false, ()), ()))) (cond (x_1.2.1 == 2) (derefK (g26 (l_0, x_1.2.2.1, ())) fun y19 => cond y19.1.1 (derefK (g27 (x_1.2.2.2.1, 1, 3, ())) fun y20 => cond y20.1.1 (some (((x_1.2.2.2.2 == 0), ()), ())) (some ((false, ()), ()))) (some ((false, ()), ()))) (cond (x_1.2.1 == 3) (derefK (g27 (x_1.2.2.1, 0, (IntKind.wrap .i64 ((l_0.2.length : Int) - 1)), ())) fun y21 => cond y21.1.1 (getI l_0.2 x_1.2.2.1 fun e22 => cond (e22.2.1 == 2) (derefK (g63 (l_0, x_1.2.2.1, ())) fun y23 => cond (!y23.1.1) (derefK (g74 (l_0, x_1.2.2.2.1, ())) fun y24 => cond y24.1.1 (some (((x_1.2.2.2.2 == 0), ()), ())) (some ((false, ()), ()))) (some ((false, ()), ()))) (some ((false, ()), ()))) (some ((false, ()), ()))) (cond (x_1.2.1 == 4) (derefK (g26 (l_0, x_1.2.2.1, ())) fun y25 => cond y25.1.1 (derefK (g74 (l_0, x_1.2.2.2.1, ())) fun y26 => cond y26.1.1 (some (((x_1.2.2.2.2 == 0), ()), ())) (some ((false, ()), ()))) (some ((false, ()), ()))) (cond (x_1.2.1 == 5) (derefK (g26 (l_0, x_1.2.2.1, ())) fun y27 => cond y27.1.1 (derefK (g27 (x_1.2.2.2.1, 0, 10000, ())) fun y28 => cond y28.1.1 (some (((x_1.2.2.2.2 == 0), ()), ())) (some ((false, ()), ()))) (some ((false, ()), ()))) (cond (x_1.2.1 == 6) (derefK (g26 (l_0, x_1.2.2.1, ())) fun y29 => cond y29.1.1 (cond (x_1.2.2.2.1 == 0) (some (((x_1.2.2.2.2 == 0), ()), ())) (some ((false, ()), ()))) (some ((false, ()), ()))) (some ((false, ()), ())))))))))
noncomputable def g77 (d : zTo × (Int × zTe) × Unit) : Option zTm := F77 fuel d.1 d.2.1
noncomputable def p77 : Prim := ⟨[.v (.str (.pair (.str zTb) (.list false 48 (.str (.pair zI zTa))))), .v (.str (.pair zI zTa))], [.v .bool], g77⟩
noncomputable def c77 : Cfg := ⟨148, tyT, [], [(26, p26), (27, p27), (28, p28), (63, p63), (74, p74)], [], [], [], [], [], [], [], [], [], [], none⟩
theorem F77_eq (n : Nat) (d) : absFn c77 n Try.f77 (body Try.f77) p77.ps p77.rs d = F77 n d.1 d.2.1 := by kernel_rfl
theorem d77 : drawOK c77 (body Try.f77) = true := by kernel_rfl
theorem h77 : GoodF Try.prog 77 p77 := hQ (cfg := c77) (cfg_ok tyT_ok (goodCons h26 (goodCons h27 (goodCons h28 (goodCons h63 (goodCons h74 goodNil))))) rfl (by kernel_rfl)) Try.func77 (by kernel_rfl) (noLoops (by kernel_rfl)) d77 (F77_eq fuel)
noncomputable def B57_8 (_n : Nat) (L : zUo × (zTo × Unit) × Unit → Option (((Int × Int × Unit) × (zTo × Unit) × Unit) ⊕ ((Unit) × (zTo × Unit) × Unit))) (t_22 : List (Int × zTe)) (t_23 : Int) (t_24 : Int) (o_4 : zTf × (List (Int × zTe))) : Option (((Int × Int × Unit) × (zTo × Unit) × Unit) ⊕ ((Unit) × (zTo × Unit) × Unit)) :=
  cond (decide (t_24 < t_23)) (getI t_22 t_24 fun e2 => derefK (g77 (o_4, e2, ())) fun y3 => cond (!y3.1.1) (some (.inl ((t_24, 101, ()), (o_4, ()), ()))) (lenK ((o_4.2.length : Int) + [e2].length) (L ((t_22, t_23, (IntKind.wrap .i64 (t_24 + 1)), ()), ((o_4.1, (o_4.2 ++ [e2])), ()), ())))) (some (.inr ((), (o_4, ()), ())))
noncomputable def L57_8 : Nat → zUo × (zTo × Unit) × Unit → Option (((Int × Int × Unit) × (zTo × Unit) × Unit) ⊕ ((Unit) × (zTo × Unit) × Unit))
  | 0, _ => none
  | n + 1, d => B57_8 n (L57_8 n) d.1.1 d.1.2.1 d.1.2.2.1 d.2.1.1
noncomputable def l57_8 : LoopI := ⟨⟨[(4, .c (.ptr 4 [])), (22, .v (.list false 48 (.str (.pair zI zTa)))), (23, .v zI), (24, .v zI)], [(4, false, .str (.pair (.str zTb) (.list true 48 (.str (.pair zI zTa)))))], none⟩, [(.ret, ⟨[(4, .c (.ptr 4 [])), (5, .v zI), (6, .v zI)], [(4, false, .str (.pair (.str zTb) (.list true 48 (.str (.pair zI zTa)))))], none⟩), (.exit 0, ⟨[(4, .c (.ptr 4 []))], [(4, false, .str (.pair (.str zTb) (.list true 48 (.str (.pair zI zTa)))))], none⟩)], L57_8⟩
noncomputable def F57 (n : Nat) (b_0 : zTf) (entries_1 : (List (Int × zTe))) : Option ((zTo × Int × Int × Unit) × (Unit)) :=
  derefK (g25 (b_0, ())) fun y1 => cond (y1.1.1 != 0) (some ((((([] : List zTj), (([] : List Int), ([] : List Int))), ([] : List (Int × zTe))), 0, y1.1.1, ()), ())) (cond (decide ((entries_1.length : Int) > 100)) (some ((((([] : List zTj), (([] : List Int), ([] : List Int))), ([] : List (Int × zTe))), 0, 2, ()), ())) (derefK (L57_8 n ((entries_1, (entries_1.length : Int), 0, ()), ((b_0, ([] : List (Int × zTe))), ()), ())) fun o4 => sumK o4 (fun d5 => some ((d5.2.1.1, d5.1.1, d5.1.2.1, ()), ())) (fun d6 => some ((d6.2.1.1, 0, 0, ()), ()))))
noncomputable def g57 (d : zTf × (List (Int × zTe)) × Unit) : Option ((zTo × Int × Int × Unit) × (Unit)) := F57 fuel d.1 d.2.1
noncomputable def p57 : Prim := ⟨[.v (.str zTb), .v (.list false 48 (.str (.pair zI zTa)))], [.v (.str (.pair (.str zTb) (.list false 48 (.str (.pair zI zTa))))), .v zI, .v zI], g57⟩
noncomputable def c57 : Cfg := ⟨43, tyT, [(4, .str (.pair (.str zTb) (.list true 48 (.str (.pair zI zTa))))), (21, .str (.pair (.str zTb) (.list true 48 (.str (.pair zI zTa)))))], [(25, p25), (77, p77)], [(8, l57_8)], [], [], [], [], [], [], [], [], [], none⟩
theorem F57_eq (n : Nat) (d) : absFn c57 n Try.f57 (body Try.f57) p57.ps p57.rs d = F57 n d.1 d.2.1 := by kernel_rfl
theorem L57_8_eq (n : Nat) (d) : (l57_8).g (n + 1) d = run c57 n (nth 0 (loopsOf (body Try.f57))) ((l57_8).ins.fill d) (roundK (l57_8) n) := by kernel_rfl
theorem ls57 : loopsOf (body Try.f57) = [nth 0 (loopsOf (body Try.f57))] := by kernel_rfl
theorem d57 : drawOK c57 (body Try.f57) = true := by kernel_rfl
theorem h57 : GoodF Try.prog 57 p57 := hQ (cfg := c57) (cfg_ok tyT_ok (goodCons h25 (goodCons h77 goodNil)) rfl (by kernel_rfl)) Try.func57 (by kernel_rfl) (by rw [ls57]; simp only [List.forall_mem_cons]; exact ⟨loopHas (key := 8) (li := l57_8) (by kernel_rfl) rfl (fun _ => rfl) (L57_8_eq), fun _ h => by cases h⟩) d57 (F57_eq fuel)
noncomputable def F65 (_n : Nat) (b_0 : zTf) (l_1 : (List (Int × zTe))) : Option zUn :=
  derefK (g57 (b_0, l_1, ())) fun y1 => some ((y1.1.2.1, y1.1.2.2.1, ()), ())
noncomputable def g65 (d : zTf × (List (Int × zTe)) × Unit) : Option zUn := F65 fuel d.1 d.2.1
noncomputable def p65 : Prim := ⟨[.v (.str zTb), .v (.list false 48 (.str (.pair zI zTa)))], [.v zI, .v zI], g65⟩
noncomputable def c65 : Cfg := ⟨15, tyT, [], [(57, p57)], [], [], [], [], [], [], [], [], [], [], none⟩
theorem F65_eq (n : Nat) (d) : absFn c65 n Try.f65 (body Try.f65) p65.ps p65.rs d = F65 n d.1 d.2.1 := by kernel_rfl
theorem d65 : drawOK c65 (body Try.f65) = true := by kernel_rfl
theorem h65 : GoodF Try.prog 65 p65 := hQ (cfg := c65) (cfg_ok tyT_ok (goodCons h57 goodNil) rfl (by kernel_rfl)) Try.func65 (by kernel_rfl) (noLoops (by kernel_rfl)) d65 (F65_eq fuel)
noncomputable def F88 (_n : Nat) (n_0 : Int) (low_1 : Int) (high_2 : Int) : Option zTm :=
  cond (decide (n_0 ≥ low_1)) (some (((decide (n_0 ≤ high_2)), ()), ())) (some ((false, ()), ()))
noncomputable def g88 (d : Int × Int × Int × Unit) : Option zTm := F88 fuel d.1 d.2.1 d.2.2.1
noncomputable def p88 : Prim := ⟨[.v zI, .v zI, .v zI], [.v .bool], g88⟩
noncomputable def c88 : Cfg := ⟨15, tyT, [], [], [], [], [], [], [], [], [], [], [], [], none⟩
theorem F88_eq (n : Nat) (d) : absFn c88 n Try.f88 (body Try.f88) p88.ps p88.rs d = F88 n d.1 d.2.1 d.2.2.1 := by kernel_rfl
theorem d88 : drawOK c88 (body Try.f88) = true := by kernel_rfl
theorem h88 : GoodF Try.prog 88 p88 := hQ (cfg := c88) (cfg_ok tyT_ok (goodNil) rfl (by kernel_rfl)) Try.func88 (by kernel_rfl) (noLoops (by kernel_rfl)) d88 (F88_eq fuel)
noncomputable def B66_4 (_n : Nat) (L : ((List zTe) × Int × Int × Unit) × (zTl × Unit) × Unit → Option (zTn ⊕ zUw)) (t_36 : List zTe) (t_37 : Int) (t_38 : Int) (o_1 : (List zTe) × ((List zTe) × zUl)) : Option (zTn ⊕ zUw) :=
  cond (decide (t_38 < t_37)) (getI t_36 t_38 fun e4 => derefK (g88 (e4.1, (-1), (IntKind.wrap .i64 (t_38 - 1)), ())) fun y5 => cond (!y5.1.1) (some (.inl ((50, ()), (), ()))) (derefK (g88 (e4.2.1, 1, 1000, ())) fun y6 => cond (!y6.1.1) (some (.inl ((50, ()), (), ()))) (derefK (g88 (e4.2.2.1, 0, 20, ())) fun y7 => cond (!y7.1.1) (some (.inl ((50, ()), (), ()))) (derefK (g88 (e4.2.2.2, 1, 10000, ())) fun y8 => cond (!y8.1.1) (some (.inl ((50, ()), (), ()))) (L ((t_36, t_37, (IntKind.wrap .i64 (t_38 + 1)), ()), (o_1, ()), ())))))) (some (.inr ((), (o_1, ()), ())))
noncomputable def L66_4 : Nat → ((List zTe) × Int × Int × Unit) × (zTl × Unit) × Unit → Option (zTn ⊕ zUw)
  | 0, _ => none
  | n + 1, d => B66_4 n (L66_4 n) d.1.1 d.1.2.1 d.1.2.2.1 d.2.1.1
noncomputable def l66_4 : LoopI := ⟨⟨[(1, .c (.ptr 1 [])), (36, .v (.list false 46 (.str zTa))), (37, .v zI), (38, .v zI)], [(1, false, .str (.pair (.list false 46 (.str zTa)) (.pair (.list false 44 (.str zTa)) zTg)))], none⟩, [(.ret, ⟨[(2, .v zI)], [], none⟩), (.exit 0, ⟨[(1, .c (.ptr 1 []))], [(1, false, .str (.pair (.list false 46 (.str zTa)) (.pair (.list false 44 (.str zTa)) zTg)))], none⟩)], L66_4⟩
noncomputable def B66_10 (_n : Nat) (L : ((List zTe) × Int × Int × Unit) × (zTl × Unit) × Unit → Option (zTn ⊕ zTr)) (t_69 : List zTe) (t_70 : Int) (t_71 : Int) (o_1 : (List zTe) × ((List zTe) × zUl)) : Option (zTn ⊕ zTr) :=
  cond (decide (t_71 < t_70)) (getI t_69 t_71 fun e12 => derefK (g88 (e12.1, 0, (IntKind.wrap .i64 ((o_1.1.length : Int) - 1)), ())) fun y13 => cond (!y13.1.1) (some (.inl ((50, ()), (), ()))) (derefK (g88 (e12.2.1, 0, 2, ())) fun y14 => cond (!y14.1.1) (some (.inl ((50, ()), (), ()))) (derefK (g88 (e12.2.2.1, 1, 1000, ())) fun y15 => cond (!y15.1.1) (some (.inl ((50, ()), (), ()))) (derefK (g88 (e12.2.2.2, 0, 1000, ())) fun y16 => cond (!y16.1.1) (some (.inl ((50, ()), (), ()))) (L ((t_69, t_70, (IntKind.wrap .i64 (t_71 + 1)), ()), (o_1, ()), ())))))) (some (.inr ((), (), ())))
noncomputable def L66_10 : Nat → ((List zTe) × Int × Int × Unit) × (zTl × Unit) × Unit → Option (zTn ⊕ zTr)
  | 0, _ => none
  | n + 1, d => B66_10 n (L66_10 n) d.1.1 d.1.2.1 d.1.2.2.1 d.2.1.1
noncomputable def l66_10 : LoopI := ⟨⟨[(1, .c (.ptr 1 [])), (69, .v (.list false 44 (.str zTa))), (70, .v zI), (71, .v zI)], [(1, false, .str (.pair (.list false 46 (.str zTa)) (.pair (.list false 44 (.str zTa)) zTg)))], none⟩, [(.ret, ⟨[(2, .v zI)], [], none⟩), (.exit 2, ⟨[], [], none⟩)], L66_10⟩
noncomputable def F66 (n : Nat) (s_0 : zTl) : Option zTs :=
  cond (decide ((s_0.1.length : Int) > 10)) (some ((50, ()), ())) (cond (decide ((s_0.2.1.length : Int) > 16)) (some ((50, ()), ())) (derefK (g88 (s_0.2.2.1, 1, 1000, ())) fun y1 => cond (!y1.1.1) (some ((50, ()), ())) (derefK (g88 (s_0.2.2.2.1, 0, 20, ())) fun y2 => cond (!y2.1.1) (some ((50, ()), ())) (derefK (g88 (s_0.2.2.2.2, 1, 1000, ())) fun y3 => cond (!y3.1.1) (some ((50, ()), ())) (derefK (L66_4 n ((s_0.1, (s_0.1.length : Int), 0, ()), (s_0, ()), ())) fun o9 => sumK o9 (fun d10 => some ((d10.1.1, ()), ())) (fun d11 => derefK (L66_10 n ((d11.2.1.1.2.1, (d11.2.1.1.2.1.length : Int), 0, ()), (d11.2.1.1, ()), ())) fun o17 => sumK o17 (fun d18 => some ((d18.1.1, ()), ())) (fun _ => some ((0, ()), ()))))))))
noncomputable def g66 (d : zTl × Unit) : Option zTs := F66 fuel d.1
noncomputable def p66 : Prim := ⟨[.v (.str (.pair (.list false 46 (.str zTa)) (.pair (.list false 44 (.str zTa)) zTg)))], [.v zI], g66⟩
noncomputable def c66 : Cfg := ⟨102, tyT, [], [(88, p88)], [(4, l66_4), (10, l66_10)], [], [], [], [], [], [], [], [], [], none⟩
theorem F66_eq (n : Nat) (d) : absFn c66 n Try.f66 (body Try.f66) p66.ps p66.rs d = F66 n d.1 := by kernel_rfl
theorem L66_4_eq (n : Nat) (d) : (l66_4).g (n + 1) d = run c66 n (nth 0 (loopsOf (body Try.f66))) ((l66_4).ins.fill d) (roundK (l66_4) n) := by kernel_rfl
theorem L66_10_eq (n : Nat) (d) : (l66_10).g (n + 1) d = run c66 n (nth 1 (loopsOf (body Try.f66))) ((l66_10).ins.fill d) (roundK (l66_10) n) := by kernel_rfl
theorem ls66 : loopsOf (body Try.f66) = [nth 0 (loopsOf (body Try.f66)), nth 1 (loopsOf (body Try.f66))] := by kernel_rfl
theorem d66 : drawOK c66 (body Try.f66) = true := by kernel_rfl
theorem h66 : GoodF Try.prog 66 p66 := hQ (cfg := c66) (cfg_ok tyT_ok (goodCons h88 goodNil) rfl (by kernel_rfl)) Try.func66 (by kernel_rfl) (by rw [ls66]; simp only [List.forall_mem_cons]; exact ⟨loopHas (key := 4) (li := l66_4) (by kernel_rfl) rfl (fun _ => rfl) (L66_4_eq), loopHas (key := 10) (li := l66_10) (by kernel_rfl) rfl (fun _ => rfl) (L66_10_eq), fun _ h => by cases h⟩) d66 (F66_eq fuel)
noncomputable def F69 (_n : Nat) (n_0 : Int) (low_1 : Int) (high_2 : Int) : Option zTm :=
  cond (decide (n_0 ≥ low_1)) (some (((decide (n_0 ≤ high_2)), ()), ())) (some ((false, ()), ()))
noncomputable def g69 (d : Int × Int × Int × Unit) : Option zTm := F69 fuel d.1 d.2.1 d.2.2.1
noncomputable def p69 : Prim := ⟨[.v zI, .v zI, .v zI], [.v .bool], g69⟩
noncomputable def c69 : Cfg := ⟨15, tyT, [], [], [], [], [], [], [], [], [], [], [], [], none⟩
theorem F69_eq (n : Nat) (d) : absFn c69 n Try.f69 (body Try.f69) p69.ps p69.rs d = F69 n d.1 d.2.1 d.2.2.1 := by kernel_rfl
theorem d69 : drawOK c69 (body Try.f69) = true := by kernel_rfl
theorem h69 : GoodF Try.prog 69 p69 := hQ (cfg := c69) (cfg_ok tyT_ok (goodNil) rfl (by kernel_rfl)) Try.func69 (by kernel_rfl) (noLoops (by kernel_rfl)) d69 (F69_eq fuel)
noncomputable def F68 (_n : Nat) (x_0 : Int) (t_1 : Int) : Option zTm :=
  derefK (g69 (x_0, 0, t_1, ())) fun y1 => some (((!y1.1.1), ()), ())
noncomputable def g68 (d : Int × Int × Unit) : Option zTm := F68 fuel d.1 d.2.1
noncomputable def p68 : Prim := ⟨[.v zI, .r zI], [.v .bool], g68⟩
noncomputable def c68 : Cfg := ⟨8, tyT, [], [(69, p69)], [], [], [], [], [], [], [], [], [], [], none⟩
theorem F68_eq (n : Nat) (d) : absFn c68 n Try.f68 (body Try.f68) p68.ps p68.rs d = F68 n d.1 d.2.1 := by kernel_rfl
theorem d68 : drawOK c68 (body Try.f68) = true := by kernel_rfl
theorem h68 : GoodF Try.prog 68 p68 := hQ (cfg := c68) (cfg_ok tyT_ok (goodCons h69 goodNil) rfl (by kernel_rfl)) Try.func68 (by kernel_rfl) (noLoops (by kernel_rfl)) d68 (F68_eq fuel)
end Go.Proofs.Try.V
