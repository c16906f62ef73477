/- The contracts of functions of the program, printed by program from the interpreter: each says what a call returns. No condition beyond those typed in each theorem. -/
import Derived.Test.YtaojldppmlehlaaGreatFn3
namespace Go.Proofs.Tryz.V
noncomputable section
open Go.Vi
set_option maxRecDepth 100000
def B86_4 (_n : Nat) (L : ((List jO) × Int × Int × Unit) × (Unit) × Unit → Option (((Bool × Unit) × (Unit) × Unit) ⊕ ((Unit) × (Unit) × Unit))) (l_0 : List jO) (n_1 : Int) (i_5 : Int) : Option (((Bool × Unit) × (Unit) × Unit) ⊕ ((Unit) × (Unit) × Unit)) :=
  cond (decide (i_5 < (l_0.length : Int))) (qg l_0 i_5 fun e3 => cond (e3.2.1 == 3) (qg l_0 i_5 fun e4 => cond (e4.2.2.1 == n_1) (some (.inl ((false, ()), (), ()))) (L ((l_0, n_1, (IntKind.wrap .i64 (i_5 + 1)), ()), (), ()))) (L ((l_0, n_1, (IntKind.wrap .i64 (i_5 + 1)), ()), (), ()))) (some (.inr ((), (), ())))
def L86_4 : Nat → ((List jO) × Int × Int × Unit) × (Unit) × Unit → Option (((Bool × Unit) × (Unit) × Unit) ⊕ ((Unit) × (Unit) × Unit))
  | 0, _ => none
  | n + 1, d => B86_4 n (L86_4 n) d.1.1 d.1.2.1 d.1.2.2.1
def l86_4 : q9 := ⟨⟨[(0, .v (.list false 80 (.str (.pair zI qS)))), (1, .v zI), (5, .v zI)], [], none⟩, [(.ret, ⟨[(4, .v .bool)], [], none⟩), (.exit 0, ⟨[], [], none⟩)], L86_4⟩
def F86 (n : Nat) (l_0 : (List jO)) (n_1 : Int) : Option ((Bool × Unit) × (Unit)) :=
  qa (g84 (n_1, 0, (IntKind.wrap .i64 ((l_0.length : Int) - 1)), ())) fun y1 => cond (!y1.1.1) (some ((false, ()), ())) (qg l_0 n_1 fun e2 => cond (e2.2.1 != 2) (some ((false, ()), ())) (qa (L86_4 n ((l_0, n_1, 0, ()), (), ())) fun o5 => qbb o5 (fun d6 => some ((d6.1.1, ()), ())) (fun _ => some ((true, ()), ()))))
def g86 (d : (List jO) × Int × Unit) : Option ((Bool × Unit) × (Unit)) := F86 qe d.1 d.2.1
def p86 : qD := ⟨[.v (.list false 80 (.str (.pair zI qS))), .v zI], [.v .bool], g86⟩
def c86 : qT := ⟨41, tyT, [], [(84, p84)], [(4, l86_4)], [], [], [], [], [], [], [], [], [], none⟩
theorem F86_eq (n : Nat) (d) : qx c86 n Tryz.f86 (body Tryz.f86) p86.ps p86.rs d = F86 n d.1 d.2.1 := by kernel_rfl
theorem L86_4_eq (n : Nat) (d) : (l86_4).g (n + 1) d = run c86 n (jZ 0 (qd (body Tryz.f86))) ((l86_4).ins.fill d) (qN (l86_4) n) := by kernel_rfl
theorem ls86 : qd (body Tryz.f86) = [jZ 0 (qd (body Tryz.f86))] := by kernel_rfl
theorem h86 : qu Tryz.prog 86 p86 := hQ (cfg := c86) (qn qo (qc h84 qh) rfl (by kernel_rfl)) Tryz.func86 (by kernel_rfl) (by rw [ls86]; simp only [List.forall_mem_cons]; exact ⟨qC (key := 4) (li := l86_4) (by kernel_rfl) rfl (fun _ => rfl) (L86_4_eq), fun _ h => by cases h⟩) (by kernel_rfl) (F86_eq qe)
def F63 (_n : Nat) (b_0 : zTf) (before_1 : (List jO)) (x_2 : jO) : Option ((Bool × Unit) × (Unit)) :=
  cond (decide ((before_1.length : Int) > 0)) (qg before_1 (IntKind.wrap .i64 ((before_1.length : Int) - 1)) fun e1 => qa (g84 (x_2.1, e1.1, 10000, ())) fun y2 => cond (!y2.1.1) (some ((false, ()), ())) (qa (g84 (x_2.2.2.1, 0, (IntKind.wrap .i64 ((b_0.2.2.length : Int) - 1)), ())) fun y3 => qa (g84 (x_2.2.2.2.1, 0, (IntKind.wrap .i64 ((b_0.2.1.length : Int) - 1)), ())) fun y4 => cond (x_2.2.1 == 1) (qa (g84 (x_2.2.2.1, 0, (IntKind.wrap .i64 ((b_0.1.length : Int) - 1)), ())) fun y5 => cond y5.1.1 (qa (g85 (b_0, x_2.2.2.1, x_2.2.2.2.1, x_2.2.2.2.2, ())) fun y6 => some ((y6.1.1, ()), ())) (some ((false, ()), ()))) (cond (x_2.2.1 == 2) (cond y3.1.1 (qa (g84 (x_2.2.2.2.1, 1, 3, ())) fun y7 => cond y7.1.1 (some (((x_2.2.2.2.2 == 0), ()), ())) (some ((false, ()), ()))) (some ((false, ()), ()))) (cond (x_2.2.1 == 3) (qa (g86 (before_1, x_2.2.2.1, ())) fun y8 => cond y8.1.1 (cond y4.1.1 (some (((x_2.2.2.2.2 == 0), ()), ())) (some ((false, ()), ()))) (some ((false, ()), ()))) (cond (x_2.2.1 == 4) (cond y3.1.1 (cond y4.1.1 (some (((x_2.2.2.2.2 == 0), ()), ())) (some ((false, ()), ()))) (some ((false, ()), ()))) (cond (x_2.2.1 == 5) (cond y3.1.1 (qa (g84 (x_2.2.2.2.1, 0, 10000, ())) fun y9 => cond y9.1.1 (some (((x_2.2.2.2.2 == 0), ()), ())) (some ((false, ()), ()))) (some ((false, ()), ()))) (cond (x_2.2.1 == 6) (cond y3.1.1 (cond (x_2.2.2.2.1 == 0) (some (((x_2.2.2.2.2 == 0), ()), ())) (some ((false, ()), ()))) (some ((false, ()), ()))) (some ((false, ()), ()))))))))) (qa (g84 (x_2.1, 0, 10000, ())) fun y10 => cond (!y10.1.1) (some ((false, ()), ())) (qa (g84 (x_2.2.2.1, 0, (IntKind.wrap .i64 ((b_0.2.2.length : Int) - 1)), ())) fun y11 => qa (g84 (x_2.2.2.2.1, 0, (IntKind.wrap .i64 ((b_0.2.1.length : Int) - 1)), ())) fun y12 => cond (x_2.2.1 == 1) (qa (g84 (x_2.2.2.1, 0, (IntKind.wrap .i64 ((b_0.1.length : Int) - 1)), ())) fun y13 => cond y13.1.1 (qa (g85 (b_0, x_2.2.2.1, x_2.2.2.2.1, x_2.2.2.2.2, ())) fun y14 => some ((y14.1.1, ()), ())) (some ((false, ()), ()))) (cond (x_2.2.1 == 2) (cond y11.1.1 (qa (g84 (x_2.2.2.2.1, 1, 3, ())) fun y15 => cond y15.1.1 (some (((x_2.2.2.2.2 == 0), ()), ())) (some ((false, ()), ()))) (some ((false, ()), ()))) (cond (x_2.2.1 == 3) (qa (g86 (before_1, x_2.2.2.1, ())) fun y16 => cond y16.1.1 (cond y12.1.1 (some (((x_2.2.2.2.2 == 0), ()), ())) (some ((false, ()), ()))) (some ((false, ()), ()))) (cond (x_2.2.1 == 4) (cond y11.1.1 (cond y12.1.1 (some (((x_2.2.2.2.2 == 0), ()), ())) (some ((false, ()), ()))) (some ((false, ()), ()))) (cond (x_2.2.1 == 5) (cond y11.1.1 (qa (g84 (x_2.2.2.2.1, 0, 10000, ())) fun y17 => cond y17.1.1 (some (((x_2.2.2.2.2 == 0), ()), ())) (some ((false, ()), ()))) (some ((false, ()), ()))) (cond (x_2.2.1 == 6) (cond y11.1.1 (cond (x_2.2.2.2.1 == 0) (some (((x_2.2.2.2.2 == 0), ()), ())) (some ((false, ()), ()))) (some ((false, ()), ()))) (some ((false, ()), ())))))))))
def g63 (d : zTf × (List jO) × jO × Unit) : Option ((Bool × Unit) × (Unit)) := F63 qe d.1 d.2.1 d.2.2.1
def p63 : qD := ⟨[.v (.str zTc), .v (.list false 80 (.str (.pair zI qS))), .v (.str (.pair zI qS))], [.v .bool], g63⟩
def c63 : qT := ⟨124, tyT, [], [(84, p84), (85, p85), (86, p86)], [], [], [], [], [], [], [], [], [], [], none⟩
theorem F63_eq (n : Nat) (d) : qx c63 n Tryz.f63 (body Tryz.f63) p63.ps p63.rs d = F63 n d.1 d.2.1 d.2.2.1 := by kernel_rfl
theorem h63 : qu Tryz.prog 63 p63 := hQ (cfg := c63) (qn qo (qc h84 (qc h85 (qc h86 qh))) rfl (by kernel_rfl)) Tryz.func63 (by kernel_rfl) (qr (by kernel_rfl)) (by kernel_rfl) (F63_eq qe)
def B26_7 (_n : Nat) (L : ((List jO) × Int × Unit) × (zTf × Unit) × Unit → Option (((Int × Int × Unit) × (Unit) × Unit) ⊕ ((Unit) × (Unit) × Unit))) (l_1 : List jO) (i_7 : Int) (o_2 : (List (Int × (Int × (Int × Bool)))) × ((List Int) × (List Int))) : Option (((Int × Int × Unit) × (Unit) × Unit) ⊕ ((Unit) × (Unit) × Unit)) :=
  cond (decide (i_7 < (l_1.length : Int))) (leK 0 i_7 (leK i_7 (l_1.length : Int) (qg l_1 i_7 fun e2 => qa (g63 (o_2, (l_1.take i_7.toNat), e2, ())) fun y3 => cond (!y3.1.1) (some (.inl ((i_7, 101, ()), (), ()))) (L ((l_1, (IntKind.wrap .i64 (i_7 + 1)), ()), (o_2, ()), ()))))) (some (.inr ((), (), ())))
def L26_7 : Nat → ((List jO) × Int × Unit) × (zTf × Unit) × Unit → Option (((Int × Int × Unit) × (Unit) × Unit) ⊕ ((Unit) × (Unit) × Unit))
  | 0, _ => none
  | n + 1, d => B26_7 n (L26_7 n) d.1.1 d.1.2.1 d.2.1.1
def l26_7 : q9 := ⟨⟨[(1, .v (.list false 80 (.str (.pair zI qS)))), (2, .c (.ptr 2 [])), (7, .v zI)], [(2, false, .str zTc)], none⟩, [(.ret, ⟨[(4, .v zI), (5, .v zI)], [], none⟩), (.exit 0, ⟨[], [], none⟩)], L26_7⟩
def F26 (n : Nat) (b_0 : zTf) (l_1 : (List jO)) : Option ((Int × Int × Unit) × (Unit)) :=
  qa (g62 (b_0, ())) fun y1 => cond (y1.1.1 != 0) (some ((0, y1.1.1, ()), ())) (cond (decide ((l_1.length : Int) > 100)) (some ((0, 2, ()), ())) (qa (L26_7 n ((l_1, 0, ()), (b_0, ()), ())) fun o4 => qbb o4 (fun d5 => some ((d5.1.1, d5.1.2.1, ()), ())) (fun _ => some ((0, 0, ()), ()))))
def g26 (d : zTf × (List jO) × Unit) : Option ((Int × Int × Unit) × (Unit)) := F26 qe d.1 d.2.1
def p26 : qD := ⟨[.v (.str zTc), .v (.list false 80 (.str (.pair zI qS)))], [.v zI, .v zI], g26⟩
def c26 : qT := ⟨33, tyT, [], [(62, p62), (63, p63)], [(7, l26_7)], [], [], [], [], [], [], [], [], [], none⟩
theorem F26_eq (n : Nat) (d) : qx c26 n Tryz.f26 (body Tryz.f26) p26.ps p26.rs d = F26 n d.1 d.2.1 := by kernel_rfl
theorem L26_7_eq (n : Nat) (d) : (l26_7).g (n + 1) d = run c26 n (jZ 0 (qd (body Tryz.f26))) ((l26_7).ins.fill d) (qN (l26_7) n) := by kernel_rfl
theorem ls26 : qd (body Tryz.f26) = [jZ 0 (qd (body Tryz.f26))] := by kernel_rfl
theorem h26 : qu Tryz.prog 26 p26 := hQ (cfg := c26) (qn qo (qc h62 (qc h63 qh)) rfl (by kernel_rfl)) Tryz.func26 (by kernel_rfl) (by rw [ls26]; simp only [List.forall_mem_cons]; exact ⟨qC (key := 7) (li := l26_7) (by kernel_rfl) rfl (fun _ => rfl) (L26_7_eq), fun _ h => by cases h⟩) (by kernel_rfl) (F26_eq qe)
def F64 (_n : Nat) (n_0 : Int) (low_1 : Int) (high_2 : Int) : Option ((Bool × Unit) × (Unit)) :=
  cond (decide (n_0 ≥ low_1)) (some (((decide (n_0 ≤ high_2)), ()), ())) (some ((false, ()), ()))
def g64 (d : Int × Int × Int × Unit) : Option ((Bool × Unit) × (Unit)) := F64 qe d.1 d.2.1 d.2.2.1
def p64 : qD := ⟨[.v zI, .v zI, .v zI], [.v .bool], g64⟩
def c64 : qT := ⟨15, tyT, [], [], [], [], [], [], [], [], [], [], [], [], none⟩
theorem F64_eq (n : Nat) (d) : qx c64 n Tryz.f64 (body Tryz.f64) p64.ps p64.rs d = F64 n d.1 d.2.1 d.2.2.1 := by kernel_rfl
theorem h64 : qu Tryz.prog 64 p64 := hQ (cfg := c64) (qn qo (qh) rfl (by kernel_rfl)) Tryz.func64 (by kernel_rfl) (qr (by kernel_rfl)) (by kernel_rfl) (F64_eq qe)
def B27_4 (_n : Nat) (L : (Int × Unit) × (zTi × Unit) × Unit → Option (zTp ⊕ ((Unit) × (zTi × Unit) × Unit))) (i_3 : Int) (o_1 : zTx × (zTx × (Int × (Int × Int)))) : Option (zTp ⊕ ((Unit) × (zTi × Unit) × Unit)) :=
  cond (decide (i_3 < (o_1.1.length : Int))) (qg o_1.1 i_3 fun e4 => qa (g64 (e4.1, (-1), (IntKind.wrap .i64 (i_3 - 1)), ())) fun y5 => cond (!y5.1.1) (some (.inl ((50, ()), (), ()))) (qa (g64 (e4.2.1, 1, 1000, ())) fun y6 => cond (!y6.1.1) (some (.inl ((50, ()), (), ()))) (qa (g64 (e4.2.2.1, 0, 20, ())) fun y7 => cond (!y7.1.1) (some (.inl ((50, ()), (), ()))) (qa (g64 (e4.2.2.2, 1, 10000, ())) fun y8 => cond (!y8.1.1) (some (.inl ((50, ()), (), ()))) (L (((IntKind.wrap .i64 (i_3 + 1)), ()), (o_1, ()), ())))))) (some (.inr ((), (o_1, ()), ())))
def L27_4 : Nat → (Int × Unit) × (zTi × Unit) × Unit → Option (zTp ⊕ ((Unit) × (zTi × Unit) × Unit))
  | 0, _ => none
  | n + 1, d => B27_4 n (L27_4 n) d.1.1 d.2.1.1
def l27_4 : q9 := ⟨⟨[(1, .c (.ptr 1 [])), (3, .v zI)], [(1, false, .str (.pair (.list false 128 (.str qS)) (.pair (.list false 130 (.str qS)) zTj)))], none⟩, [(.ret, ⟨[(2, .v zI)], [], none⟩), (.exit 0, ⟨[(1, .c (.ptr 1 []))], [(1, false, .str (.pair (.list false 128 (.str qS)) (.pair (.list false 130 (.str qS)) zTj)))], none⟩)], L27_4⟩
def B27_10 (_n : Nat) (L : (Int × Unit) × (zTi × Unit) × Unit → Option (zTp ⊕ ((Unit) × (Unit) × Unit))) (i_5 : Int) (o_1 : zTx × (zTx × (Int × (Int × Int)))) : Option (zTp ⊕ ((Unit) × (Unit) × Unit)) :=
  cond (decide (i_5 < (o_1.2.1.length : Int))) (qg o_1.2.1 i_5 fun e12 => qa (g64 (e12.1, 0, (IntKind.wrap .i64 ((o_1.1.length : Int) - 1)), ())) fun y13 => cond (!y13.1.1) (some (.inl ((50, ()), (), ()))) (qa (g64 (e12.2.1, 0, 2, ())) fun y14 => cond (!y14.1.1) (some (.inl ((50, ()), (), ()))) (qa (g64 (e12.2.2.1, 1, 1000, ())) fun y15 => cond (!y15.1.1) (some (.inl ((50, ()), (), ()))) (qa (g64 (e12.2.2.2, 0, 1000, ())) fun y16 => cond (!y16.1.1) (some (.inl ((50, ()), (), ()))) (L (((IntKind.wrap .i64 (i_5 + 1)), ()), (o_1, ()), ())))))) (some (.inr ((), (), ())))
def L27_10 : Nat → (Int × Unit) × (zTi × Unit) × Unit → Option (zTp ⊕ ((Unit) × (Unit) × Unit))
  | 0, _ => none
  | n + 1, d => B27_10 n (L27_10 n) d.1.1 d.2.1.1
def l27_10 : q9 := ⟨⟨[(1, .c (.ptr 1 [])), (5, .v zI)], [(1, false, .str (.pair (.list false 128 (.str qS)) (.pair (.list false 130 (.str qS)) zTj)))], none⟩, [(.ret, ⟨[(2, .v zI)], [], none⟩), (.exit 2, ⟨[], [], none⟩)], L27_10⟩
def F27 (n : Nat) (s_0 : zTi) : Option ((Int × Unit) × (Unit)) :=
  cond (decide ((s_0.1.length : Int) > 10)) (some ((50, ()), ())) (cond (decide ((s_0.2.1.length : Int) > 16)) (some ((50, ()), ())) (qa (g64 (s_0.2.2.1, 1, 1000, ())) fun y1 => cond (!y1.1.1) (some ((50, ()), ())) (qa (g64 (s_0.2.2.2.1, 0, 20, ())) fun y2 => cond (!y2.1.1) (some ((50, ()), ())) (qa (g64 (s_0.2.2.2.2, 1, 1000, ())) fun y3 => cond (!y3.1.1) (some ((50, ()), ())) (qa (L27_4 n ((0, ()), (s_0, ()), ())) fun o9 => qbb o9 (fun d10 => some ((d10.1.1, ()), ())) (fun d11 => qa (L27_10 n ((0, ()), (d11.2.1.1, ()), ())) fun o17 => qbb o17 (fun d18 => some ((d18.1.1, ()), ())) (fun _ => some ((0, ()), ()))))))))
def g27 (d : zTi × Unit) : Option ((Int × Unit) × (Unit)) := F27 qe d.1
def p27 : qD := ⟨[.v (.str (.pair (.list false 128 (.str qS)) (.pair (.list false 130 (.str qS)) zTj)))], [.v zI], g27⟩
def c27 : qT := ⟨109, tyT, [], [(64, p64)], [(4, l27_4), (10, l27_10)], [], [], [], [], [], [], [], [], [], none⟩
theorem F27_eq (n : Nat) (d) : qx c27 n Tryz.f27 (body Tryz.f27) p27.ps p27.rs d = F27 n d.1 := by kernel_rfl
theorem L27_4_eq (n : Nat) (d) : (l27_4).g (n + 1) d = run c27 n (jZ 0 (qd (body Tryz.f27))) ((l27_4).ins.fill d) (qN (l27_4) n) := by kernel_rfl
theorem L27_10_eq (n : Nat) (d) : (l27_10).g (n + 1) d = run c27 n (jZ 1 (qd (body Tryz.f27))) ((l27_10).ins.fill d) (qN (l27_10) n) := by kernel_rfl
theorem ls27 : qd (body Tryz.f27) = [jZ 0 (qd (body Tryz.f27)), jZ 1 (qd (body Tryz.f27))] := by kernel_rfl
theorem h27 : qu Tryz.prog 27 p27 := hQ (cfg := c27) (qn qo (qc h64 qh) rfl (by kernel_rfl)) Tryz.func27 (by kernel_rfl) (by rw [ls27]; simp only [List.forall_mem_cons]; exact ⟨qC (key := 4) (li := l27_4) (by kernel_rfl) rfl (fun _ => rfl) (L27_4_eq), qC (key := 10) (li := l27_10) (by kernel_rfl) rfl (fun _ => rfl) (L27_10_eq), fun _ h => by cases h⟩) (by kernel_rfl) (F27_eq qe)
def F28 (_n : Nat) (n_0 : Int) (low_1 : Int) (high_2 : Int) : Option ((Bool × Unit) × (Unit)) :=
  cond (decide (n_0 ≥ low_1)) (some (((decide (n_0 ≤ high_2)), ()), ())) (some ((false, ()), ()))
def g28 (d : Int × Int × Int × Unit) : Option ((Bool × Unit) × (Unit)) := F28 qe d.1 d.2.1 d.2.2.1
def p28 : qD := ⟨[.v zI, .v zI, .v zI], [.v .bool], g28⟩
def c28 : qT := ⟨15, tyT, [], [], [], [], [], [], [], [], [], [], [], [], none⟩
theorem F28_eq (n : Nat) (d) : qx c28 n Tryz.f28 (body Tryz.f28) p28.ps p28.rs d = F28 n d.1 d.2.1 d.2.2.1 := by kernel_rfl
theorem h28 : qu Tryz.prog 28 p28 := hQ (cfg := c28) (qn qo (qh) rfl (by kernel_rfl)) Tryz.func28 (by kernel_rfl) (qr (by kernel_rfl)) (by kernel_rfl) (F28_eq qe)
def B10_14 (_n : Nat) (L : (Int × Int × Unit) × (zTl × Unit) × Unit → Option (zTp ⊕ ((Unit) × (Unit) × Unit))) (n_4 : Int) (i_5 : Int) (o_1 : ((List zTr) × Int) × (zTf × ((List jO) × (Int × (zTi × ((List Int) × (List Int))))))) : Option (zTp ⊕ ((Unit) × (Unit) × Unit)) :=
  cond (decide (i_5 < n_4)) (qg o_1.2.2.2.2.2.1 i_5 fun e5 => qa (g28 (e5, 0, 200, ())) fun y6 => cond (!y6.1.1) (some (.inl ((120, ()), (), ()))) (qg o_1.2.2.2.2.2.2 i_5 fun e7 => qa (g28 (e7, 0, 100, ())) fun y8 => cond (!y8.1.1) (some (.inl ((120, ()), (), ()))) (L ((n_4, (IntKind.wrap .i64 (i_5 + 1)), ()), (o_1, ()), ())))) (some (.inr ((), (), ())))
def L10_14 : Nat → (Int × Int × Unit) × (zTl × Unit) × Unit → Option (zTp ⊕ ((Unit) × (Unit) × Unit))
  | 0, _ => none
  | n + 1, d => B10_14 n (L10_14 n) d.1.1 d.1.2.1 d.2.1.1
def l10_14 : q9 := ⟨⟨[(1, .c (.ptr 1 [])), (4, .v zI), (5, .v zI)], [(1, false, .str (.pair (.str zTh) (.pair (.str zTc) (.pair (.list false 80 (.str (.pair zI qS))) (.pair zI (.pair (.str (.pair (.list false 128 (.str qS)) (.pair (.list false 130 (.str qS)) zTj))) zTq))))))], none⟩, [(.ret, ⟨[(2, .v zI)], [], none⟩), (.exit 0, ⟨[], [], none⟩)], L10_14⟩
def F10 (n : Nat) (g_0 : zTl) : Option ((Int × Unit) × (Unit)) :=
  qa (g25 (g_0.1, [], ())) fun y1 => cond (y1.1.1 != 0) (some ((y1.1.1, ()), ())) (qa (g26 (g_0.2.1, g_0.2.2.1, ())) fun y2 => cond (y2.1.2.1 != 0) (some ((y2.1.2.1, ()), ())) (qa (g27 (g_0.2.2.2.2.1, ())) fun y3 => cond (y3.1.1 != 0) (some ((y3.1.1, ()), ())) (cond ((g_0.2.1.2.2.length : Int) != (g_0.1.1.length : Int)) (some ((120, ()), ())) (cond ((g_0.2.2.2.2.1.2.1.length : Int) != (g_0.1.1.length : Int)) (some ((120, ()), ())) (cond ((g_0.2.2.2.2.2.1.length : Int) != (g_0.1.1.length : Int)) (some ((120, ()), ())) (cond ((g_0.2.2.2.2.2.2.length : Int) != (g_0.1.1.length : Int)) (some ((120, ()), ())) (qa (g28 (g_0.2.2.2.1, 0, 10000, ())) fun y4 => cond (!y4.1.1) (some ((120, ()), ())) (qa (L10_14 n (((g_0.1.1.length : Int), 0, ()), (g_0, ()), ())) fun o9 => qbb o9 (fun d10 => some ((d10.1.1, ()), ())) (fun _ => some ((0, ()), ()))))))))))
def g10 (d : zTl × Unit) : Option ((Int × Unit) × (Unit)) := F10 qe d.1
def p10 : qD := ⟨[.v (.str (.pair (.str zTh) (.pair (.str zTc) (.pair (.list false 80 (.str (.pair zI qS))) (.pair zI (.pair (.str (.pair (.list false 128 (.str qS)) (.pair (.list false 130 (.str qS)) zTj))) zTq))))))], [.v zI], g10⟩
def c10 : qT := ⟨88, tyT, [], [(25, p25), (26, p26), (27, p27), (28, p28)], [(14, l10_14)], [], [], [], [], [], [], [], [], [], none⟩
theorem F10_eq (n : Nat) (d) : qx c10 n Tryz.f10 (body Tryz.f10) p10.ps p10.rs d = F10 n d.1 := by kernel_rfl
theorem L10_14_eq (n : Nat) (d) : (l10_14).g (n + 1) d = run c10 n (jZ 0 (qd (body Tryz.f10))) ((l10_14).ins.fill d) (qN (l10_14) n) := by kernel_rfl
theorem ls10 : qd (body Tryz.f10) = [jZ 0 (qd (body Tryz.f10))] := by kernel_rfl
theorem d10 : qj c10 (body Tryz.f10) = true := by kernel_rfl
theorem h10 : qu Tryz.prog 10 p10 := hQ (cfg := c10) (qn qo (qc h25 (qc h26 (qc h27 (qc h28 qh)))) rfl (by kernel_rfl)) Tryz.func10 (by kernel_rfl) (by rw [ls10]; simp only [List.forall_mem_cons]; exact ⟨qC (key := 14) (li := l10_14) (by kernel_rfl) rfl (fun _ => rfl) (L10_14_eq), fun _ h => by cases h⟩) d10 (F10_eq qe)
def F125 (_n : Nat) (x_0 : jO) (t_1 : Int) : Option ((Bool × Unit) × (Unit)) :=
  some (((decide (x_0.1 > t_1)), ()), ())
def g125 (d : jO × Int × Unit) : Option ((Bool × Unit) × (Unit)) := F125 qe d.1 d.2.1
def p125 : qD := ⟨[.v (.str (.pair zI qS)), .r zI], [.v .bool], g125⟩
def c125 : qT := ⟨8, tyT, [], [], [], [], [], [], [], [], [], [], [], [], none⟩
theorem F125_eq (n : Nat) (d) : qx c125 n Tryz.f125 (body Tryz.f125) p125.ps p125.rs d = F125 n d.1 d.2.1 := by kernel_rfl
theorem h125 : qu Tryz.prog 125 p125 := hQ (cfg := c125) (qn qo (qh) rfl (by kernel_rfl)) Tryz.func125 (by kernel_rfl) (qr (by kernel_rfl)) (by kernel_rfl) (F125_eq qe)
def F111 (_n : Nat) (l_0 : (zTf × (List jO))) (day_1 : Int) : Option (((zTf × (List jO)) × Unit) × (Unit)) :=
  qa (g124 (l_0.2, (fun v1 => qa (g125 (v1, day_1, ())) fun y2 => some y2.1.1), ())) fun y3 => cond (decide (y3.1.1 ≥ 0)) (leK 0 y3.1.1 (leK y3.1.1 (l_0.2.length : Int) (some (((l_0.1, (l_0.2.take y3.1.1.toNat)), ()), ())))) (some ((l_0, ()), ()))
def g111 (d : (zTf × (List jO)) × Int × Unit) : Option (((zTf × (List jO)) × Unit) × (Unit)) := F111 qe d.1 d.2.1
def p111 : qD := ⟨[.v (.str (.pair (.str zTc) (.list false 80 (.str (.pair zI qS))))), .v zI], [.v (.str (.pair (.str zTc) (.list false 80 (.str (.pair zI qS)))))], g111⟩
def c111 : qT := ⟨18, tyT, [], [(124, p124), (125, p125)], [], [], [], [], [], [], [], [], [], [], none⟩
theorem F111_eq (n : Nat) (d) : qx c111 n Tryz.f111 (body Tryz.f111) p111.ps p111.rs d = F111 n d.1 d.2.1 := by kernel_rfl
theorem h111 : qu Tryz.prog 111 p111 := hQ (cfg := c111) (qn qo (qc h124 (qc h125 qh)) rfl (by kernel_rfl)) Tryz.func111 (by kernel_rfl) (qr (by kernel_rfl)) (by kernel_rfl) (F111_eq qe)
def F102 (_n : Nat) (b_0 : zTf) (entries_1 : (List jO)) (day_2 : Int) : Option (((zTf × (List jO)) × Int × Unit) × (Unit)) :=
  qa (g57 (b_0, entries_1, ())) fun y1 => cond (y1.1.2.2.1 != 0) (some ((y1.1.1, y1.1.2.2.1, ()), ())) (qa (g95 (day_2, 0, 10000, ())) fun y2 => cond (!y2.1.1) (some ((y1.1.1, 1, ()), ())) (qa (g111 (y1.1.1, day_2, ())) fun y3 => some ((y3.1.1, 0, ()), ())))
def g102 (d : zTf × (List jO) × Int × Unit) : Option (((zTf × (List jO)) × Int × Unit) × (Unit)) := F102 qe d.1 d.2.1 d.2.2.1
def p102 : qD := ⟨[.v (.str zTc), .v (.list false 80 (.str (.pair zI qS))), .v zI], [.v (.str (.pair (.str zTc) (.list false 80 (.str (.pair zI qS))))), .v zI], g102⟩
def c102 : qT := ⟨31, tyT, [], [(57, p57), (95, p95), (111, p111)], [], [], [], [], [], [], [], [], [], [], none⟩
theorem F102_eq (n : Nat) (d) : qx c102 n Tryz.f102 (body Tryz.f102) p102.ps p102.rs d = F102 n d.1 d.2.1 d.2.2.1 := by kernel_rfl
theorem h102 : qu Tryz.prog 102 p102 := hQ (cfg := c102) (qn qo (qc h57 (qc h95 (qc h111 qh))) rfl (by kernel_rfl)) Tryz.func102 (by kernel_rfl) (qr (by kernel_rfl)) (by kernel_rfl) (F102_eq qe)
def F112 (_n : Nat) (reason_0 : Int) (is_1 : Bool) (t_2 : (List Int)) : Option ((Unit) × ((List Int) × Unit)) :=
  cond is_1 (qY ((t_2.length : Int) + [reason_0].length) (some ((), ((t_2 ++ [reason_0]), ())))) (some ((), (t_2, ())))
def g112 (d : Int × Bool × (List Int) × Unit) : Option ((Unit) × ((List Int) × Unit)) := F112 qe d.1 d.2.1 d.2.2.1
def p112 : qD := ⟨[.v zI, .v .bool, .m (.list true 3 zI)], [], g112⟩
def c112 : qT := ⟨10, tyT, [], [], [], [], [], [], [], [], [], [], [], [], none⟩
theorem F112_eq (n : Nat) (d) : qx c112 n Tryz.f112 (body Tryz.f112) p112.ps p112.rs d = F112 n d.1 d.2.1 d.2.2.1 := by kernel_rfl
theorem h112 : qu Tryz.prog 112 p112 := hQ (cfg := c112) (qn qo (qh) rfl (by kernel_rfl)) Tryz.func112 (by kernel_rfl) (qr (by kernel_rfl)) (by kernel_rfl) (F112_eq qe)
def Q115_2 (_n : Nat) (L : (Int × (jO → Option Bool) × Int × Unit) → Option (X × (Int × Unit))) (t_10 : jO) (ride_4 : Int) (wanted_5 : (jO → Option Bool)) (t_6 : Int) : Option (X × (Int × Unit)) :=
  qa (wanted_5 t_10) fun y2 => cond y2 (some (.ret, (t_10.1, ()))) (cond (t_10.2.1 == 6) (cond (t_10.2.2.1 == ride_4) (some (.ret, ((-1), ()))) (L (ride_4, wanted_5, t_6, ()))) (L (ride_4, wanted_5, t_6, ())))
def R115_2 (n : Nat) : List jO → (Int × (jO → Option Bool) × Int × Unit) → Option (X × (Int × Unit))
  | [], d => some (.norm, (d.2.2.1, ()))
  | x :: r, d => Q115_2 n (R115_2 n r) x d.1 d.2.1 d.2.2.1
def qgD : qcQ := ⟨.str (.pair zI qS), [4, 5, 6], [.r zI, .r (.fn (.str (.pair zI qS)) .bool), .m zI], [.norm, .ret], R115_2⟩
def F115 (n : Nat) (l_0 : (zTf × (List jO))) (ride_1 : Int) (wanted_2 : (jO → Option Bool)) : Option ((Int × Unit) × (Unit)) :=
  qa (Ib.m128.p.g (l_0, ())) fun y1 => qa y1.1.1 fun q3 => qa (Ib.it131.g (q3, ())) fun l5 => qa (R115_2 n l5 (ride_1, wanted_2, (0 : Int), ())) fun o4 => cond (X.same .norm o4.1) (some (((-1), ()), ())) (cond (X.same .ret o4.1) (some ((o4.2.1, ()), ())) (none))
def g115 (d : (zTf × (List jO)) × Int × (jO → Option Bool) × Unit) : Option ((Int × Unit) × (Unit)) := F115 qe d.1 d.2.1 d.2.2.1
def p115 : qD := ⟨[.v (.str (.pair (.str zTc) (.list false 80 (.str (.pair zI qS))))), .v zI, .v (.fn (.str (.pair zI qS)) .bool)], [.v zI], g115⟩
def c115 : qT := ⟨27, tyT, [], [], [], [], [], [(131, Ib.it131)], [(2, qgD)], [(128, Ib.m128)], [], [], [], [], none⟩
theorem F115_eq (n : Nat) (d) : qx c115 n Tryz.f115 (body Tryz.f115) p115.ps p115.rs d = F115 n d.1 d.2.1 d.2.2.1 := by kernel_rfl
theorem R115_2_eq (n : Nat) (x r d) : (qgD).g n (x :: r) d = run c115 n (asR (jZ 0 (qae (body Tryz.f115)))) (qeW qgD 10 d x) (qgm (qic c115 qgD n (bdR (jZ 0 (qae (body Tryz.f115)))) r d) qjB) := by kernel_rfl
theorem rs115 : qae (body Tryz.f115) = [jZ 0 (qae (body Tryz.f115))] := by kernel_rfl
theorem h115 : qu Tryz.prog 115 p115 := qg8 qdB (cfg := c115) (qn qo (qh) rfl (by kernel_rfl) (qjj (qgP Ib.k128 qjl))) (qj7 Ib.it131_ok itNil) Tryz.func115 rfl rfl (by kernel_rfl) rfl (qr (by kernel_rfl)) (by rw [rs115]; simp only [List.forall_mem_cons]; exact ⟨qgA (key := 2) (li := qgD) (p := 10) (by kernel_rfl) rfl (by kernel_rfl) (by kernel_rfl) (qr (by kernel_rfl)) (fun _ _ => rfl) R115_2_eq, fun _ h => by cases h⟩) (by kernel_rfl) (fun d y h => ⟨qe, (F115_eq qe d).trans h⟩)
def F130 (_n : Nat) (x_0 : jO) (t_1 : Int) : Option ((Bool × Unit) × (Unit)) :=
  cond (x_0.2.1 == 1) (some (((x_0.2.2.1 == t_1), ()), ())) (some ((false, ()), ()))
def g130 (d : jO × Int × Unit) : Option ((Bool × Unit) × (Unit)) := F130 qe d.1 d.2.1
def p130 : qD := ⟨[.v (.str (.pair zI qS)), .r zI], [.v .bool], g130⟩
def c130 : qT := ⟨13, tyT, [], [], [], [], [], [], [], [], [], [], [], [], none⟩
theorem F130_eq (n : Nat) (d) : qx c130 n Tryz.f130 (body Tryz.f130) p130.ps p130.rs d = F130 n d.1 d.2.1 := by kernel_rfl
theorem h130 : qu Tryz.prog 130 p130 := hQ (cfg := c130) (qn qo (qh) rfl (by kernel_rfl)) Tryz.func130 (by kernel_rfl) (qr (by kernel_rfl)) (by kernel_rfl) (F130_eq qe)
def F126 (_n : Nat) (l_0 : (zTf × (List jO))) (rule_1 : Int) : Option ((Int × Unit) × (Unit)) :=
  qg l_0.1.1 rule_1 fun e1 => qa (g115 (l_0, e1.1, (fun v2 => qa (g130 (v2, rule_1, ())) fun y3 => some y3.1.1), ())) fun y4 => cond (decide (y4.1.1 < 0)) (some (((-1), ()), ())) (qg l_0.1.1 rule_1 fun e5 => some (((IntKind.wrap .i64 ((IntKind.wrap .i64 (y4.1.1 + e5.2.1)) - 1)), ()), ()))
def g126 (d : (zTf × (List jO)) × Int × Unit) : Option ((Int × Unit) × (Unit)) := F126 qe d.1 d.2.1
def p126 : qD := ⟨[.v (.str (.pair (.str zTc) (.list false 80 (.str (.pair zI qS))))), .v zI], [.v zI], g126⟩
def c126 : qT := ⟨28, tyT, [], [(115, p115), (130, p130)], [], [], [], [], [], [], [], [], [], [], none⟩
theorem F126_eq (n : Nat) (d) : qx c126 n Tryz.f126 (body Tryz.f126) p126.ps p126.rs d = F126 n d.1 d.2.1 := by kernel_rfl
theorem h126 : qu Tryz.prog 126 p126 := hQ (cfg := c126) (qn qo (qc h115 (qc h130 qh)) rfl (by kernel_rfl)) Tryz.func126 (by kernel_rfl) (qr (by kernel_rfl)) (by kernel_rfl) (F126_eq qe)
def B113_3 (_n : Nat) (L : (Int × Int × (List (Int × (Int × (Int × Bool)))) × Int × Int × Unit) × ((zTf × (List jO)) × Unit) × Unit → Option (zTp)) (ride_1 : Int) (day_5 : Int) (t_10 : List (Int × (Int × (Int × Bool)))) (t_11 : Int) (t_12 : Int) (o_2 : zTf × (List jO)) : Option (zTp) :=
  cond (decide (t_12 < t_11)) (qg t_10 t_12 fun e1 => cond (e1.1 == ride_1) (qa (g126 (o_2, t_12, ())) fun y2 => L ((ride_1, (min day_5 y2.1.1), t_10, t_11, (IntKind.wrap .i64 (t_12 + 1)), ()), (o_2, ()), ())) (L ((ride_1, day_5, t_10, t_11, (IntKind.wrap .i64 (t_12 + 1)), ()), (o_2, ()), ()))) (some ((day_5, ()), (), ()))
def L113_3 : Nat → (Int × Int × (List (Int × (Int × (Int × Bool)))) × Int × Int × Unit) × ((zTf × (List jO)) × Unit) × Unit → Option (zTp)
  | 0, _ => none
  | n + 1, d => B113_3 n (L113_3 n) d.1.1 d.1.2.1 d.1.2.2.1 d.1.2.2.2.1 d.1.2.2.2.2.1 d.2.1.1
def l113_3 : q9 := ⟨⟨[(1, .v zI), (2, .c (.ptr 2 [])), (5, .v zI), (10, .v (.list false 155 (.str (.pair zI zTk)))), (11, .v zI), (12, .v zI)], [(2, false, .str (.pair (.str zTc) (.list false 80 (.str (.pair zI qS)))))], none⟩, [(.exit 0, ⟨[(5, .v zI)], [], none⟩)], L113_3⟩
def F113 (n : Nat) (l_0 : (zTf × (List jO))) (ride_1 : Int) : Option ((Int × Unit) × (Unit)) :=
  qa (L113_3 n ((ride_1, 10000, l_0.1.1, (l_0.1.1.length : Int), 0, ()), (l_0, ()), ())) fun o3 => some ((o3.1.1, ()), ())
def g113 (d : (zTf × (List jO)) × Int × Unit) : Option ((Int × Unit) × (Unit)) := F113 qe d.1 d.2.1
def p113 : qD := ⟨[.v (.str (.pair (.str zTc) (.list false 80 (.str (.pair zI qS))))), .v zI], [.v zI], g113⟩
def c113 : qT := ⟨28, tyT, [], [(126, p126)], [(3, l113_3)], [], [], [], [], [], [], [], [], [], none⟩
theorem F113_eq (n : Nat) (d) : qx c113 n Tryz.f113 (body Tryz.f113) p113.ps p113.rs d = F113 n d.1 d.2.1 := by kernel_rfl
theorem L113_3_eq (n : Nat) (d) : (l113_3).g (n + 1) d = run c113 n (jZ 0 (qd (body Tryz.f113))) ((l113_3).ins.fill d) (qN (l113_3) n) := by kernel_rfl
theorem ls113 : qd (body Tryz.f113) = [jZ 0 (qd (body Tryz.f113))] := by kernel_rfl
theorem h113 : qu Tryz.prog 113 p113 := hQ (cfg := c113) (qn qo (qc h126 qh) rfl (by kernel_rfl)) Tryz.func113 (by kernel_rfl) (by rw [ls113]; simp only [List.forall_mem_cons]; exact ⟨qC (key := 3) (li := l113_3) (by kernel_rfl) rfl (fun _ => rfl) (L113_3_eq), fun _ h => by cases h⟩) (by kernel_rfl) (F113_eq qe)
def B127_2 (_n : Nat) (L : ((List jO) × Int × Int × Unit) × ((zTf × (List jO)) × (List Int) × Unit) × Unit → Option (((Unit) × ((List Int) × Unit) × Unit))) (t_6 : List jO) (t_7 : Int) (t_8 : Int) (o_1 : zTf × (List jO)) (o_2 : List Int) : Option (((Unit) × ((List Int) × Unit) × Unit)) :=
  cond (decide (t_8 < t_7)) (qg t_6 t_8 fun e1 => cond (e1.2.1 == 2) (qa (g100 (o_1, t_8, ())) fun y2 => cond (!y2.1.1) (qY ((o_2.length : Int) + [t_8].length) (L ((t_6, t_7, (IntKind.wrap .i64 (t_8 + 1)), ()), (o_1, (o_2 ++ [t_8]), ()), ()))) (L ((t_6, t_7, (IntKind.wrap .i64 (t_8 + 1)), ()), (o_1, o_2, ()), ()))) (L ((t_6, t_7, (IntKind.wrap .i64 (t_8 + 1)), ()), (o_1, o_2, ()), ()))) (some ((), (o_2, ()), ()))
def L127_2 : Nat → ((List jO) × Int × Int × Unit) × ((zTf × (List jO)) × (List Int) × Unit) × Unit → Option (((Unit) × ((List Int) × Unit) × Unit))
  | 0, _ => none
  | n + 1, d => B127_2 n (L127_2 n) d.1.1 d.1.2.1 d.1.2.2.1 d.2.1.1 d.2.1.2.1
def l127_2 : q9 := ⟨⟨[(1, .c (.ptr 1 [])), (2, .c (.view 2 [])), (6, .v (.list false 80 (.str (.pair zI qS)))), (7, .v zI), (8, .v zI)], [(1, false, .str (.pair (.str zTc) (.list false 80 (.str (.pair zI qS))))), (2, true, .list true 3 zI)], none⟩, [(.exit 0, ⟨[(2, .c (.view 2 []))], [(2, true, .list true 3 zI)], none⟩)], L127_2⟩
def F127 (n : Nat) (l_0 : (zTf × (List jO))) : Option (((List Int) × Unit) × (Unit)) :=
  qa (L127_2 n ((l_0.2, (l_0.2.length : Int), 0, ()), (l_0, ([] : List Int), ()), ())) fun o3 => some ((o3.2.1.1, ()), ())
def g127 (d : (zTf × (List jO)) × Unit) : Option (((List Int) × Unit) × (Unit)) := F127 qe d.1
def p127 : qD := ⟨[.v (.str (.pair (.str zTc) (.list false 80 (.str (.pair zI qS)))))], [.own 3 zI], g127⟩
def c127 : qT := ⟨28, tyT, [], [(100, p100)], [(2, l127_2)], [], [], [], [], [], [], [], [], [], none⟩
theorem F127_eq (n : Nat) (d) : qx c127 n Tryz.f127 (body Tryz.f127) p127.ps p127.rs d = F127 n d.1 := by kernel_rfl
theorem L127_2_eq (n : Nat) (d) : (l127_2).g (n + 1) d = run c127 n (jZ 0 (qd (body Tryz.f127))) ((l127_2).ins.fill d) (qN (l127_2) n) := by kernel_rfl
theorem ls127 : qd (body Tryz.f127) = [jZ 0 (qd (body Tryz.f127))] := by kernel_rfl
theorem h127 : qu Tryz.prog 127 p127 := hQ (cfg := c127) (qn qo (qc h100 qh) rfl (by kernel_rfl)) Tryz.func127 (by kernel_rfl) (by rw [ls127]; simp only [List.forall_mem_cons]; exact ⟨qC (key := 2) (li := l127_2) (by kernel_rfl) rfl (fun _ => rfl) (L127_2_eq), fun _ h => by cases h⟩) (by kernel_rfl) (F127_eq qe)
def B114_3 (_n : Nat) (L : (Int × Int × Int × Unit) × ((zTf × (List jO)) × (List Int) × (List Int) × Unit) × Unit → Option (((Unit) × ((List Int) × Unit) × Unit))) (ride_1 : Int) (t_11 : Int) (t_12 : Int) (o_2 : zTf × (List jO)) (o_5 : List Int) (o_11000 : List Int) : Option (((Unit) × ((List Int) × Unit) × Unit)) :=
  cond (decide (t_12 < t_11)) (jH t_12 o_11000.length (qg o_11000 t_12 fun e2 => qg o_2.2 e2 fun e3 => cond (e3.2.2.1 == ride_1) (jH e3.2.2.2.1 4 (qg o_5 e3.2.2.2.1 fun e4 => jH e3.2.2.2.1 4 (qg o_5 e3.2.2.2.1 fun _ => L ((ride_1, t_11, (IntKind.wrap .i64 (t_12 + 1)), ()), (o_2, (o_5.set e3.2.2.2.1.toNat (IntKind.wrap .i64 (e4 + 1))), o_11000, ()), ())))) (L ((ride_1, t_11, (IntKind.wrap .i64 (t_12 + 1)), ()), (o_2, o_5, o_11000, ()), ())))) (some ((), (o_5, ()), ()))
def L114_3 : Nat → (Int × Int × Int × Unit) × ((zTf × (List jO)) × (List Int) × (List Int) × Unit) × Unit → Option (((Unit) × ((List Int) × Unit) × Unit))
  | 0, _ => none
  | n + 1, d => B114_3 n (L114_3 n) d.1.1 d.1.2.1 d.1.2.2.1 d.2.1.1 d.2.1.2.1 d.2.1.2.2.1
def l114_3 : q9 := ⟨⟨[(1, .v zI), (2, .c (.ptr 2 [])), (5, .c (.ptr 5 [])), (10, .c (.view 11000 [])), (11, .v zI), (12, .v zI)], [(2, false, .str (.pair (.str zTc) (.list false 80 (.str (.pair zI qS))))), (5, false, .arr 4 zI), (11000, true, .list true 3 zI)], none⟩, [(.exit 0, ⟨[(5, .c (.ptr 5 []))], [(5, false, .arr 4 zI)], none⟩)], L114_3⟩
def F114 (n : Nat) (l_0 : (zTf × (List jO))) (ride_1 : Int) : Option ((Bool × Unit) × (Unit)) :=
  qa (g127 (l_0, ())) fun y1 => qa (L114_3 n ((ride_1, (y1.1.1.length : Int), 0, ()), (l_0, (List.replicate 4 (0 : Int)), y1.1.1, ()), ())) fun o6 => jH 3 4 (qg o6.2.1.1 3 fun e7 => cond (e7 == 0) (jH 2 4 (qg o6.2.1.1 2 fun e8 => some (((decide (e8 ≤ 1)), ()), ()))) (some ((false, ()), ())))
def g114 (d : (zTf × (List jO)) × Int × Unit) : Option ((Bool × Unit) × (Unit)) := F114 qe d.1 d.2.1
def p114 : qD := ⟨[.v (.str (.pair (.str zTc) (.list false 80 (.str (.pair zI qS))))), .v zI], [.v .bool], g114⟩
def c114 : qT := ⟨40, tyT, [], [(127, p127)], [(3, l114_3)], [], [], [], [], [], [], [], [], [], none⟩
theorem F114_eq (n : Nat) (d) : qx c114 n Tryz.f114 (body Tryz.f114) p114.ps p114.rs d = F114 n d.1 d.2.1 := by kernel_rfl
theorem L114_3_eq (n : Nat) (d) : (l114_3).g (n + 1) d = run c114 n (jZ 0 (qd (body Tryz.f114))) ((l114_3).ins.fill d) (qN (l114_3) n) := by kernel_rfl
theorem ls114 : qd (body Tryz.f114) = [jZ 0 (qd (body Tryz.f114))] := by kernel_rfl
theorem h114 : qu Tryz.prog 114 p114 := hQ (cfg := c114) (qn qo (qc h127 qh) rfl (by kernel_rfl)) Tryz.func114 (by kernel_rfl) (by rw [ls114]; simp only [List.forall_mem_cons]; exact ⟨qC (key := 3) (li := l114_3) (by kernel_rfl) rfl (fun _ => rfl) (L114_3_eq), fun _ h => by cases h⟩) (by kernel_rfl) (F114_eq qe)
def F116 (_n : Nat) (x_0 : jO) (t_1 : Int) : Option ((Bool × Unit) × (Unit)) :=
  cond (x_0.2.1 == 4) (some (((x_0.2.2.1 == t_1), ()), ())) (some ((false, ()), ()))
def g116 (d : jO × Int × Unit) : Option ((Bool × Unit) × (Unit)) := F116 qe d.1 d.2.1
def p116 : qD := ⟨[.v (.str (.pair zI qS)), .r zI], [.v .bool], g116⟩
def c116 : qT := ⟨13, tyT, [], [], [], [], [], [], [], [], [], [], [], [], none⟩
theorem F116_eq (n : Nat) (d) : qx c116 n Tryz.f116 (body Tryz.f116) p116.ps p116.rs d = F116 n d.1 d.2.1 := by kernel_rfl
theorem h116 : qu Tryz.prog 116 p116 := hQ (cfg := c116) (qn qo (qh) rfl (by kernel_rfl)) Tryz.func116 (by kernel_rfl) (qr (by kernel_rfl)) (by kernel_rfl) (F116_eq qe)
def Q117_2 (_n : Nat) (L : (Int × Int × Unit) → Option (X × (Int × Unit))) (t_8 : jO) (ride_3 : Int) (t_4 : Int) : Option (X × (Int × Unit)) :=
  cond (t_8.2.1 == 5) (cond (t_8.2.2.1 == ride_3) (some (.ret, (t_8.2.2.2.1, ()))) (L (ride_3, t_4, ()))) (L (ride_3, t_4, ()))
def R117_2 (n : Nat) : List jO → (Int × Int × Unit) → Option (X × (Int × Unit))
  | [], d => some (.norm, (d.2.1, ()))
  | x :: r, d => Q117_2 n (R117_2 n r) x d.1 d.2.1
def qgC : qcQ := ⟨.str (.pair zI qS), [3, 4], [.r zI, .m zI], [.norm, .ret], R117_2⟩
def F117 (n : Nat) (l_0 : (zTf × (List jO))) (ride_1 : Int) : Option ((Int × Unit) × (Unit)) :=
  qa (Ib.m128.p.g (l_0, ())) fun y1 => qa y1.1.1 fun q2 => qa (Ib.it131.g (q2, ())) fun l4 => qa (R117_2 n l4 (ride_1, (0 : Int), ())) fun o3 => cond (X.same .norm o3.1) (qg l_0.1.2.2 ride_1 fun e5 => some ((e5, ()), ())) (cond (X.same .ret o3.1) (some ((o3.2.1, ()), ())) (none))
def g117 (d : (zTf × (List jO)) × Int × Unit) : Option ((Int × Unit) × (Unit)) := F117 qe d.1 d.2.1
def p117 : qD := ⟨[.v (.str (.pair (.str zTc) (.list false 80 (.str (.pair zI qS))))), .v zI], [.v zI], g117⟩
def c117 : qT := ⟨26, tyT, [], [], [], [], [], [(131, Ib.it131)], [(2, qgC)], [(128, Ib.m128)], [], [], [], [], none⟩
theorem F117_eq (n : Nat) (d) : qx c117 n Tryz.f117 (body Tryz.f117) p117.ps p117.rs d = F117 n d.1 d.2.1 := by kernel_rfl
theorem R117_2_eq (n : Nat) (x r d) : (qgC).g n (x :: r) d = run c117 n (asR (jZ 0 (qae (body Tryz.f117)))) (qeW qgC 8 d x) (qgm (qic c117 qgC n (bdR (jZ 0 (qae (body Tryz.f117)))) r d) qjB) := by kernel_rfl
theorem rs117 : qae (body Tryz.f117) = [jZ 0 (qae (body Tryz.f117))] := by kernel_rfl
theorem h117 : qu Tryz.prog 117 p117 := qg8 qdB (cfg := c117) (qn qo (qh) rfl (by kernel_rfl) (qjj (qgP Ib.k128 qjl))) (qj7 Ib.it131_ok itNil) Tryz.func117 rfl rfl (by kernel_rfl) rfl (qr (by kernel_rfl)) (by rw [rs117]; simp only [List.forall_mem_cons]; exact ⟨qgA (key := 2) (li := qgC) (p := 8) (by kernel_rfl) rfl (by kernel_rfl) (by kernel_rfl) (qr (by kernel_rfl)) (fun _ _ => rfl) R117_2_eq, fun _ h => by cases h⟩) (by kernel_rfl) (fun d y h => ⟨qe, (F117_eq qe d).trans h⟩)
def F103 (_n : Nat) (l_0 : (zTf × (List jO))) (ride_1 : Int) (day_2 : Int) : Option (((List Int) × Unit) × (Unit)) :=
  qa (g113 (l_0, ride_1, ())) fun y1 => qa (g112 (1, (decide (y1.1.1 < day_2)), ([] : List Int), ())) fun y2 => qa (g114 (l_0, ride_1, ())) fun y3 => qa (g112 (2, (!y3.1.1), y2.2.1, ())) fun y4 => qa (g115 (l_0, ride_1, (fun v5 => qa (g116 (v5, ride_1, ())) fun y6 => some y6.1.1), ())) fun y7 => qa (g112 (3, (y7.1.1 != day_2), y4.2.1, ())) fun y8 => qa (g117 (l_0, ride_1, ())) fun y9 => qa (g112 (4, (decide (y9.1.1 < day_2)), y8.2.1, ())) fun y10 => some ((y10.2.1, ()), ())
def g103 (d : (zTf × (List jO)) × Int × Int × Unit) : Option (((List Int) × Unit) × (Unit)) := F103 qe d.1 d.2.1 d.2.2.1
def p103 : qD := ⟨[.v (.str (.pair (.str zTc) (.list false 80 (.str (.pair zI qS))))), .v zI, .v zI], [.v (.list false 3 zI)], g103⟩
def c103 : qT := ⟨38, tyT, [(6, .list true 3 zI)], [(112, p112), (113, p113), (114, p114), (115, p115), (116, p116), (117, p117)], [], [], [], [], [], [], [], [], [], [], none⟩
theorem F103_eq (n : Nat) (d) : qx c103 n Tryz.f103 (body Tryz.f103) p103.ps p103.rs d = F103 n d.1 d.2.1 d.2.2.1 := by kernel_rfl
theorem h103 : qu Tryz.prog 103 p103 := hQ (cfg := c103) (qn qo (qc h112 (qc h113 (qc h114 (qc h115 (qc h116 (qc h117 qh)))))) rfl (by kernel_rfl)) Tryz.func103 (by kernel_rfl) (qr (by kernel_rfl)) (by kernel_rfl) (F103_eq qe)
def B87_5 (_n : Nat) (L : (Int × Int × Int × Unit) × ((List Int) × (zTf × (List jO)) × Unit) × Unit → Option (((Unit) × ((List Int) × Unit) × Unit))) (day_2 : Int) (t_23 : Int) (t_24 : Int) (o_6 : List Int) (o_8 : zTf × (List jO)) : Option (((Unit) × ((List Int) × Unit) × Unit)) :=
  cond (decide (t_24 < t_23)) (qa (g103 (o_8, t_24, day_2, ())) fun y2 => cond ((y2.1.1.length : Int) == 0) (qY ((o_6.length : Int) + [t_24].length) (L ((day_2, t_23, (IntKind.wrap .i64 (t_24 + 1)), ()), ((o_6 ++ [t_24]), o_8, ()), ()))) (L ((day_2, t_23, (IntKind.wrap .i64 (t_24 + 1)), ()), (o_6, o_8, ()), ()))) (some ((), (o_6, ()), ()))
def L87_5 : Nat → (Int × Int × Int × Unit) × ((List Int) × (zTf × (List jO)) × Unit) × Unit → Option (((Unit) × ((List Int) × Unit) × Unit))
  | 0, _ => none
  | n + 1, d => B87_5 n (L87_5 n) d.1.1 d.1.2.1 d.1.2.2.1 d.2.1.1 d.2.1.2.1
def l87_5 : q9 := ⟨⟨[(2, .v zI), (6, .c (.view 6 [])), (8, .c (.ptr 8 [])), (23, .v zI), (24, .v zI)], [(6, true, .list true 3 zI), (8, false, .str (.pair (.str zTc) (.list false 80 (.str (.pair zI qS)))))], none⟩, [(.exit 0, ⟨[(6, .c (.view 6 []))], [(6, true, .list true 3 zI)], none⟩)], L87_5⟩
def F87 (n : Nat) (b_0 : zTf) (entries_1 : (List jO)) (day_2 : Int) : Option (((List Int) × Int × Unit) × (Unit)) :=
  qa (g102 (b_0, entries_1, day_2, ())) fun y1 => cond (y1.1.2.1 != 0) (some ((([] : List Int), y1.1.2.1, ()), ())) (qa (L87_5 n ((day_2, (y1.1.1.1.2.2.length : Int), 0, ()), (([] : List Int), y1.1.1, ()), ())) fun o3 => some ((o3.2.1.1, 0, ()), ()))
def g87 (d : zTf × (List jO) × Int × Unit) : Option (((List Int) × Int × Unit) × (Unit)) := F87 qe d.1 d.2.1 d.2.2.1
def p87 : qD := ⟨[.v (.str zTc), .v (.list false 80 (.str (.pair zI qS))), .v zI], [.own 3 zI, .v zI], g87⟩
def c87 : qT := ⟨39, tyT, [], [(102, p102), (103, p103)], [(5, l87_5)], [], [], [], [], [], [], [], [], [], none⟩
theorem F87_eq (n : Nat) (d) : qx c87 n Tryz.f87 (body Tryz.f87) p87.ps p87.rs d = F87 n d.1 d.2.1 d.2.2.1 := by kernel_rfl
theorem L87_5_eq (n : Nat) (d) : (l87_5).g (n + 1) d = run c87 n (jZ 0 (qd (body Tryz.f87))) ((l87_5).ins.fill d) (qN (l87_5) n) := by kernel_rfl
theorem ls87 : qd (body Tryz.f87) = [jZ 0 (qd (body Tryz.f87))] := by kernel_rfl
theorem h87 : qu Tryz.prog 87 p87 := hQ (cfg := c87) (qn qo (qc h102 (qc h103 qh)) rfl (by kernel_rfl)) Tryz.func87 (by kernel_rfl) (by rw [ls87]; simp only [List.forall_mem_cons]; exact ⟨qC (key := 5) (li := l87_5) (by kernel_rfl) rfl (fun _ => rfl) (L87_5_eq), fun _ h => by cases h⟩) (by kernel_rfl) (F87_eq qe)
def F118 (_n : Nat) (s_0 : zTi) (set_1 : Int) : Option ((Bool × Unit) × (Unit)) :=
  qdH (s_0.2.1.length : Int) (qa (g58 (set_1, 0, (IntKind.wrap .i64 ((shlI .i64 1 (s_0.2.1.length : Int)) - 1)), ())) fun y1 => some ((y1.1.1, ()), ()))
def g118 (d : zTi × Int × Unit) : Option ((Bool × Unit) × (Unit)) := F118 qe d.1 d.2.1
def p118 : qD := ⟨[.v (.str (.pair (.list false 128 (.str qS)) (.pair (.list false 130 (.str qS)) zTj))), .v zI], [.v .bool], g118⟩
def c118 : qT := ⟨12, tyT, [], [(58, p58)], [], [], [], [], [], [], [], [], [], [], none⟩
theorem F118_eq (n : Nat) (d) : qx c118 n Tryz.f118 (body Tryz.f118) p118.ps p118.rs d = F118 n d.1 d.2.1 := by kernel_rfl
theorem h118 : qu Tryz.prog 118 p118 := hQ (cfg := c118) (qn qo (qc h58 qh) rfl (by kernel_rfl)) Tryz.func118 (by kernel_rfl) (qr (by kernel_rfl)) (by kernel_rfl) (F118_eq qe)
def F104 (_n : Nat) (s_0 : zTi) (set_1 : Int) : Option ((Int × Unit) × (Unit)) :=
  qa (g19 (s_0, ())) fun y1 => cond (y1.1.1 != 0) (some ((y1.1.1, ()), ())) (qa (g118 (s_0, set_1, ())) fun y2 => cond (!y2.1.1) (some ((1, ()), ())) (some ((0, ()), ())))
def g104 (d : zTi × Int × Unit) : Option ((Int × Unit) × (Unit)) := F104 qe d.1 d.2.1
def p104 : qD := ⟨[.v (.str (.pair (.list false 128 (.str qS)) (.pair (.list false 130 (.str qS)) zTj))), .v zI], [.v zI], g104⟩
def c104 : qT := ⟨15, tyT, [], [(19, p19), (118, p118)], [], [], [], [], [], [], [], [], [], [], none⟩
theorem F104_eq (n : Nat) (d) : qx c104 n Tryz.f104 (body Tryz.f104) p104.ps p104.rs d = F104 n d.1 d.2.1 := by kernel_rfl
theorem h104 : qu Tryz.prog 104 p104 := hQ (cfg := c104) (qn qo (qc h19 (qc h118 qh)) rfl (by kernel_rfl)) Tryz.func104 (by kernel_rfl) (qr (by kernel_rfl)) (by kernel_rfl) (F104_eq qe)
def Q119_7 (_n : Nat) (L : (zTi × (List (List Int)) × (Int × (Int × (Int × Int))) × Unit) → Option (X × ((List (List Int)) × Unit))) (t_31 : Int) (s_2 : zTi) (out_5 : (List (List Int))) (l_7 : (Int × (Int × (Int × Int)))) : Option (X × ((List (List Int)) × Unit)) :=
  cond (t_31 == (-1)) (qdE (fun (e5 : Int) (e6 : List Int) => L (s_2, (out_5.set (s_2.1.length : Int).toNat (e6.set l_7.2.1.toNat (IntKind.wrap .i64 (e5 + l_7.2.2.1)))), l_7, ())) fun E => qR [jH (s_2.1.length : Int) out_5.length (qR [jH l_7.2.1 3 (qR [qg out_5 (s_2.1.length : Int) fun e4 => qg e4 l_7.2.1 fun e5 => jH (s_2.1.length : Int) out_5.length (jH l_7.2.1 3 (qg out_5 (s_2.1.length : Int) fun e6 => qg e6 l_7.2.1 fun _ => E e5 e6)), jH (s_2.1.length : Int) out_5.length (qg out_5 (s_2.1.length : Int) fun e8 => qg e8 l_7.2.1 fun e9 => jH l_7.2.1 3 (qg out_5 (s_2.1.length : Int) fun e10 => qg e10 l_7.2.1 fun _ => E e9 e10))]), jH (s_2.1.length : Int) out_5.length (jH l_7.2.1 3 (qg out_5 (s_2.1.length : Int) fun e12 => qg e12 l_7.2.1 fun e13 => jH l_7.2.1 3 (qg out_5 (s_2.1.length : Int) fun e14 => qg e14 l_7.2.1 fun _ => E e13 e14)))]), jH (s_2.1.length : Int) out_5.length (jH (s_2.1.length : Int) out_5.length (jH l_7.2.1 3 (qg out_5 (s_2.1.length : Int) fun e16 => qg e16 l_7.2.1 fun e17 => jH l_7.2.1 3 (qg out_5 (s_2.1.length : Int) fun e18 => qg e18 l_7.2.1 fun _ => E e17 e18))))]) (qdE (fun (e21 : Int) (e22 : List Int) => L (s_2, (out_5.set t_31.toNat (e22.set l_7.2.1.toNat (IntKind.wrap .i64 (e21 + l_7.2.2.1)))), l_7, ())) fun E => qR [jH t_31 out_5.length (qR [jH l_7.2.1 3 (qR [qg out_5 t_31 fun e20 => qg e20 l_7.2.1 fun e21 => jH t_31 out_5.length (jH l_7.2.1 3 (qg out_5 t_31 fun e22 => qg e22 l_7.2.1 fun _ => E e21 e22)), jH t_31 out_5.length (qg out_5 t_31 fun e24 => qg e24 l_7.2.1 fun e25 => jH l_7.2.1 3 (qg out_5 t_31 fun e26 => qg e26 l_7.2.1 fun _ => E e25 e26))]), jH t_31 out_5.length (jH l_7.2.1 3 (qg out_5 t_31 fun e28 => qg e28 l_7.2.1 fun e29 => jH l_7.2.1 3 (qg out_5 t_31 fun e30 => qg e30 l_7.2.1 fun _ => E e29 e30)))]), jH t_31 out_5.length (jH t_31 out_5.length (jH l_7.2.1 3 (qg out_5 t_31 fun e32 => qg e32 l_7.2.1 fun e33 => jH l_7.2.1 3 (qg out_5 t_31 fun e34 => qg e34 l_7.2.1 fun _ => E e33 e34))))])
def R119_7 (n : Nat) : List Int → (zTi × (List (List Int)) × (Int × (Int × (Int × Int))) × Unit) → Option (X × ((List (List Int)) × Unit))
  | [], d => some (.norm, (d.2.1, ()))
  | x :: r, d => Q119_7 n (R119_7 n r) x d.1 d.2.1 d.2.2.1
def qgB : qcQ := ⟨.int .i64, [2, 5, 7], [.r (.str (.pair (.list false 128 (.str qS)) (.pair (.list false 130 (.str qS)) zTj))), .m (.list true 186 (.arr 3 zI)), .r (.str qS)], [.norm], R119_7⟩
def B119_3 (n : Nat) (L : (Int × zTi × zTx × Int × Int × Unit) × ((List (List Int)) × Unit) × Unit → Option (((Unit) × ((List (List Int)) × Unit) × Unit))) (set_1 : Int) (s_2 : zTx × (zTx × (Int × (Int × Int)))) (t_15 : List (Int × (Int × (Int × Int)))) (t_16 : Int) (t_17 : Int) (o_5 : List (List Int)) : Option (((Unit) × ((List (List Int)) × Unit) × Unit)) :=
  cond (decide (t_17 < t_16)) (qg t_15 t_17 fun e2 => qdH t_17 (cond ((qbI .and .i64 (qdN .i64 set_1 t_17) 1) == 0) (L ((set_1, s_2, t_15, t_16, (IntKind.wrap .i64 (t_17 + 1)), ()), (o_5, ()), ())) (qa (It.m129.p.g (s_2, e2.1, ())) fun y3 => qa y3.1.2.1 fun q4 => qa (It.it133.g (y3.1.1, q4, ())) fun l6 => qa (R119_7 n l6 (s_2, o_5, e2, ())) fun o5 => cond (X.same .norm o5.1) (L ((set_1, s_2, t_15, t_16, (IntKind.wrap .i64 (t_17 + 1)), ()), (o5.2.1, ()), ())) (none)))) (some ((), (o_5, ()), ()))
def L119_3 : Nat → (Int × zTi × zTx × Int × Int × Unit) × ((List (List Int)) × Unit) × Unit → Option (((Unit) × ((List (List Int)) × Unit) × Unit))
  | 0, _ => none
  | n + 1, d => B119_3 n (L119_3 n) d.1.1 d.1.2.1 d.1.2.2.1 d.1.2.2.2.1 d.1.2.2.2.2.1 d.2.1.1
def l119_3 : q9 := ⟨⟨[(1, .v zI), (2, .r (.str (.pair (.list false 128 (.str qS)) (.pair (.list false 130 (.str qS)) zTj)))), (5, .c (.ptr 5 [])), (15, .v (.list false 130 (.str qS))), (16, .v zI), (17, .v zI)], [(5, false, .list true 186 (.arr 3 zI))], none⟩, [(.exit 0, ⟨[(5, .c (.ptr 5 []))], [(5, false, .list true 186 (.arr 3 zI))], none⟩)], L119_3⟩
def F119 (n : Nat) (s_0 : zTi) (set_1 : Int) : Option (((List (List Int)) × Unit) × (Unit)) :=
  leK 0 (IntKind.wrap .i64 ((s_0.1.length : Int) + 1)) (leK (IntKind.wrap .i64 ((s_0.1.length : Int) + 1)) (IntKind.wrap .i64 ((s_0.1.length : Int) + 1)) (qY (IntKind.wrap .i64 ((s_0.1.length : Int) + 1)) (jM (List.replicate (IntKind.wrap .i64 ((s_0.1.length : Int) + 1)).toNat (List.replicate 3 (0 : Int))) fun z1 => qa (L119_3 n ((set_1, s_0, s_0.2.1, (s_0.2.1.length : Int), 0, ()), (z1, ()), ())) fun o7 => some ((o7.2.1.1, ()), ()))))
def g119 (d : zTi × Int × Unit) : Option (((List (List Int)) × Unit) × (Unit)) := F119 qe d.1 d.2.1
def p119 : qD := ⟨[.v (.str (.pair (.list false 128 (.str qS)) (.pair (.list false 130 (.str qS)) zTj))), .v zI], [.own 186 (.arr 3 zI)], g119⟩
def c119 : qT := ⟨51, tyT, [(2, .str (.pair (.list false 128 (.str qS)) (.pair (.list false 130 (.str qS)) zTj))), (5, .list true 186 (.arr 3 zI)), (7, .str qS)], [], [(3, l119_3)], [], [10], [(133, It.it133)], [(7, qgB)], [(129, It.m129)], [], [], [], [], none⟩
theorem F119_eq (n : Nat) (d) : qx c119 n Tryz.f119 (body Tryz.f119) p119.ps p119.rs d = F119 n d.1 d.2.1 := by kernel_rfl
theorem L119_3_eq (n : Nat) (d) : (l119_3).g (n + 1) d = run c119 n (jZ 0 (qd (body Tryz.f119))) ((l119_3).ins.fill d) (qN (l119_3) n) := by kernel_rfl
theorem ls119 : qd (body Tryz.f119) = [jZ 0 (qd (body Tryz.f119))] := by kernel_rfl
theorem R119_7_eq (n : Nat) (x r d) : (qgB).g n (x :: r) d = run c119 n (asR (jZ 0 (qae (body Tryz.f119)))) (qeW qgB 31 d x) (qgm (qic c119 qgB n (bdR (jZ 0 (qae (body Tryz.f119)))) r d) qjB) := by kernel_rfl
theorem rs119 : qae (body Tryz.f119) = [jZ 0 (qae (body Tryz.f119))] := by kernel_rfl
theorem h119 : qu Tryz.prog 119 p119 := qg8 qdB (cfg := c119) (qn qo (qh) rfl (by kernel_rfl) (qjj (qgP It.k129 qjl))) (qj7 It.it133_ok itNil) Tryz.func119 rfl rfl (by kernel_rfl) rfl (by rw [ls119]; simp only [List.forall_mem_cons]; exact ⟨qC (key := 3) (li := l119_3) (by kernel_rfl) rfl (fun _ => rfl) (L119_3_eq), fun _ h => by cases h⟩) (by rw [rs119]; simp only [List.forall_mem_cons]; exact ⟨qgA (key := 7) (li := qgB) (p := 31) (by kernel_rfl) rfl (by kernel_rfl) (by kernel_rfl) (qr (by kernel_rfl)) (fun _ _ => rfl) R119_7_eq, fun _ h => by cases h⟩) (by kernel_rfl) (fun d y h => ⟨qe, (F119_eq qe d).trans h⟩)
def F120 (_n : Nat) (a_0 : (List Int)) : Option ((Int × Unit) × (Unit)) :=
  jH 0 3 (qg a_0 0 fun e1 => jH 1 3 (qg a_0 1 fun e2 => jH 2 3 (qg a_0 2 fun e3 => some (((max (max e1 e2) e3), ()), ()))))
def g120 (d : (List Int) × Unit) : Option ((Int × Unit) × (Unit)) := F120 qe d.1
def p120 : qD := ⟨[.v (.arr 3 zI)], [.v zI], g120⟩
def c120 : qT := ⟨10, tyT, [], [], [], [], [], [], [], [], [], [], [], [], none⟩
theorem F120_eq (n : Nat) (d) : qx c120 n Tryz.f120 (body Tryz.f120) p120.ps p120.rs d = F120 n d.1 := by kernel_rfl
theorem h120 : qu Tryz.prog 120 p120 := hQ (cfg := c120) (qn qo (qh) rfl (by kernel_rfl)) Tryz.func120 (by kernel_rfl) (qr (by kernel_rfl)) (by kernel_rfl) (F120_eq qe)
def F121 (_n : Nat) (s_0 : zTi) (b_1 : Int) : Option ((Int × Unit) × (Unit)) :=
  cond (b_1 == (s_0.1.length : Int)) (some ((s_0.2.2.1, ()), ())) (cond (b_1 == (-1)) (some ((s_0.2.2.1, ()), ())) (qg s_0.1 b_1 fun e1 => some ((e1.2.1, ()), ())))
def g121 (d : zTi × Int × Unit) : Option ((Int × Unit) × (Unit)) := F121 qe d.1 d.2.1
def p121 : qD := ⟨[.v (.str (.pair (.list false 128 (.str qS)) (.pair (.list false 130 (.str qS)) zTj))), .v zI], [.v zI], g121⟩
def c121 : qT := ⟨22, tyT, [], [], [], [], [], [], [], [], [], [], [], [], none⟩
theorem F121_eq (n : Nat) (d) : qx c121 n Tryz.f121 (body Tryz.f121) p121.ps p121.rs d = F121 n d.1 d.2.1 := by kernel_rfl
theorem h121 : qu Tryz.prog 121 p121 := hQ (cfg := c121) (qn qo (qh) rfl (by kernel_rfl)) Tryz.func121 (by kernel_rfl) (qr (by kernel_rfl)) (by kernel_rfl) (F121_eq qe)
def B105_5 (_n : Nat) (L : (Int × Int × Unit) × (zTi × (List (List Int)) × Unit) × Unit → Option (((Int × Bool × Unit) × (Unit) × Unit) ⊕ ((Unit) × (Unit) × Unit))) (t_23 : Int) (t_24 : Int) (o_2 : zTx × (zTx × (Int × (Int × Int)))) (o_11000 : List (List Int)) : Option (((Int × Bool × Unit) × (Unit) × Unit) ⊕ ((Unit) × (Unit) × Unit)) :=
  cond (decide (t_24 < t_23)) (jH t_24 o_11000.length (qg o_11000 t_24 fun e4 => qa (g120 (e4, ())) fun y5 => qa (g121 (o_2, t_24, ())) fun y6 => cond (decide (y5.1.1 > y6.1.1)) (some (.inl ((t_24, true, ()), (), ()))) (L ((t_23, (IntKind.wrap .i64 (t_24 + 1)), ()), (o_2, o_11000, ()), ())))) (some (.inr ((), (), ())))
def L105_5 : Nat → (Int × Int × Unit) × (zTi × (List (List Int)) × Unit) × Unit → Option (((Int × Bool × Unit) × (Unit) × Unit) ⊕ ((Unit) × (Unit) × Unit))
  | 0, _ => none
  | n + 1, d => B105_5 n (L105_5 n) d.1.1 d.1.2.1 d.2.1.1 d.2.1.2.1
def l105_5 : q9 := ⟨⟨[(2, .c (.ptr 2 [])), (6, .c (.view 11000 [])), (23, .v zI), (24, .v zI)], [(2, false, .str (.pair (.list false 128 (.str qS)) (.pair (.list false 130 (.str qS)) zTj))), (11000, true, .list true 186 (.arr 3 zI))], none⟩, [(.ret, ⟨[(4, .v zI), (5, .v .bool)], [], none⟩), (.exit 0, ⟨[], [], none⟩)], L105_5⟩
def F105 (n : Nat) (s_0 : zTi) (set_1 : Int) : Option ((Int × Bool × Unit) × (Unit)) :=
  qa (g119 (s_0, set_1, ())) fun y1 => jH (s_0.1.length : Int) y1.1.1.length (qg y1.1.1 (s_0.1.length : Int) fun e2 => qa (g120 (e2, ())) fun y3 => cond (decide (y3.1.1 > s_0.2.2.1)) (some (((-1), true, ()), ())) (qa (L105_5 n (((s_0.1.length : Int), 0, ()), (s_0, y1.1.1, ()), ())) fun o7 => qbb o7 (fun d8 => some ((d8.1.1, d8.1.2.1, ()), ())) (fun _ => some ((0, false, ()), ()))))
def g105 (d : zTi × Int × Unit) : Option ((Int × Bool × Unit) × (Unit)) := F105 qe d.1 d.2.1
def p105 : qD := ⟨[.v (.str (.pair (.list false 128 (.str qS)) (.pair (.list false 130 (.str qS)) zTj))), .v zI], [.v zI, .v .bool], g105⟩
def c105 : qT := ⟨38, tyT, [], [(119, p119), (120, p120), (121, p121)], [(5, l105_5)], [], [], [], [], [], [], [], [], [], none⟩
theorem F105_eq (n : Nat) (d) : qx c105 n Tryz.f105 (body Tryz.f105) p105.ps p105.rs d = F105 n d.1 d.2.1 := by kernel_rfl
theorem L105_5_eq (n : Nat) (d) : (l105_5).g (n + 1) d = run c105 n (jZ 0 (qd (body Tryz.f105))) ((l105_5).ins.fill d) (qN (l105_5) n) := by kernel_rfl
theorem ls105 : qd (body Tryz.f105) = [jZ 0 (qd (body Tryz.f105))] := by kernel_rfl
theorem h105 : qu Tryz.prog 105 p105 := hQ (cfg := c105) (qn qo (qc h119 (qc h120 (qc h121 qh))) rfl (by kernel_rfl)) Tryz.func105 (by kernel_rfl) (by rw [ls105]; simp only [List.forall_mem_cons]; exact ⟨qC (key := 5) (li := l105_5) (by kernel_rfl) rfl (fun _ => rfl) (L105_5_eq), fun _ h => by cases h⟩) (by kernel_rfl) (F105_eq qe)
def F88 (_n : Nat) (s_0 : zTi) (set_1 : Int) : Option ((Int × Bool × Int × Unit) × (Unit)) :=
  qa (g104 (s_0, set_1, ())) fun y1 => cond (y1.1.1 != 0) (some ((0, false, y1.1.1, ()), ())) (qa (g105 (s_0, set_1, ())) fun y2 => some ((y2.1.1, (!y2.1.2.1), 0, ()), ()))
def g88 (d : zTi × Int × Unit) : Option ((Int × Bool × Int × Unit) × (Unit)) := F88 qe d.1 d.2.1
def p88 : qD := ⟨[.v (.str (.pair (.list false 128 (.str qS)) (.pair (.list false 130 (.str qS)) zTj))), .v zI], [.v zI, .v .bool, .v zI], g88⟩
def c88 : qT := ⟨25, tyT, [], [(104, p104), (105, p105)], [], [], [], [], [], [], [], [], [], [], none⟩
theorem F88_eq (n : Nat) (d) : qx c88 n Tryz.f88 (body Tryz.f88) p88.ps p88.rs d = F88 n d.1 d.2.1 := by kernel_rfl
theorem h88 : qu Tryz.prog 88 p88 := hQ (cfg := c88) (qn qo (qc h104 (qc h105 qh)) rfl (by kernel_rfl)) Tryz.func88 (by kernel_rfl) (qr (by kernel_rfl)) (by kernel_rfl) (F88_eq qe)
def B65_6 (_n : Nat) (L : (Int × Int × Int × Unit) × (zTl × (List Int) × (List Int) × Unit) × Unit → Option (((Unit) × ((List Int) × Unit) × Unit))) (set_5 : Int) (t_24 : Int) (t_25 : Int) (o_1 : ((List zTr) × Int) × (zTf × ((List jO) × (Int × (zTi × ((List Int) × (List Int))))))) (o_2 : List Int) (o_19000 : List Int) : Option (((Unit) × ((List Int) × Unit) × Unit)) :=
  cond (decide (t_25 < t_24)) (jH t_25 o_19000.length (qg o_19000 t_25 fun e2 => qdH e2 (qa (g88 (o_1.2.2.2.2.1, (qbI .or .i64 set_5 (shlI .i64 1 e2)), ())) fun y3 => cond (y3.1.2.2.1 == 0) (cond y3.1.2.1 (qdH e2 (qY ((o_2.length : Int) + [e2].length) (L (((qbI .or .i64 set_5 (shlI .i64 1 e2)), t_24, (IntKind.wrap .i64 (t_25 + 1)), ()), (o_1, (o_2 ++ [e2]), o_19000, ()), ())))) (L ((set_5, t_24, (IntKind.wrap .i64 (t_25 + 1)), ()), (o_1, o_2, o_19000, ()), ()))) (L ((set_5, t_24, (IntKind.wrap .i64 (t_25 + 1)), ()), (o_1, o_2, o_19000, ()), ()))))) (some ((), (o_2, ()), ()))
def L65_6 : Nat → (Int × Int × Int × Unit) × (zTl × (List Int) × (List Int) × Unit) × Unit → Option (((Unit) × ((List Int) × Unit) × Unit))
  | 0, _ => none
  | n + 1, d => B65_6 n (L65_6 n) d.1.1 d.1.2.1 d.1.2.2.1 d.2.1.1 d.2.1.2.1 d.2.1.2.2.1
def l65_6 : q9 := ⟨⟨[(1, .c (.ptr 1 [])), (2, .c (.view 2 [])), (5, .v zI), (23, .c (.view 19000 [])), (24, .v zI), (25, .v zI)], [(1, false, .str (.pair (.str zTh) (.pair (.str zTc) (.pair (.list false 80 (.str (.pair zI qS))) (.pair zI (.pair (.str (.pair (.list false 128 (.str qS)) (.pair (.list false 130 (.str qS)) zTj))) zTq)))))), (2, true, .list true 3 zI), (19000, true, .list true 3 zI)], none⟩, [(.exit 0, ⟨[(2, .c (.view 2 []))], [(2, true, .list true 3 zI)], none⟩)], L65_6⟩
def F65 (n : Nat) (g_0 : zTl) : Option (((List Int) × Unit) × (Unit)) :=
  qa (g87 (g_0.2.1, g_0.2.2.1, g_0.2.2.2.1, ())) fun y1 => cond (y1.1.2.1 != 0) (some ((([] : List Int), ()), ())) (qa (L65_6 n ((0, (y1.1.1.length : Int), 0, ()), (g_0, ([] : List Int), y1.1.1, ()), ())) fun o4 => some ((o4.2.1.1, ()), ()))
def g65 (d : zTl × Unit) : Option (((List Int) × Unit) × (Unit)) := F65 qe d.1
def p65 : qD := ⟨[.v (.str (.pair (.str zTh) (.pair (.str zTc) (.pair (.list false 80 (.str (.pair zI qS))) (.pair zI (.pair (.str (.pair (.list false 128 (.str qS)) (.pair (.list false 130 (.str qS)) zTj))) zTq))))))], [.own 3 zI], g65⟩
def c65 : qT := ⟨55, tyT, [], [(87, p87), (88, p88)], [(6, l65_6)], [], [], [], [], [], [], [], [], [], none⟩
theorem F65_eq (n : Nat) (d) : qx c65 n Tryz.f65 (body Tryz.f65) p65.ps p65.rs d = F65 n d.1 := by kernel_rfl
theorem L65_6_eq (n : Nat) (d) : (l65_6).g (n + 1) d = run c65 n (jZ 0 (qd (body Tryz.f65))) ((l65_6).ins.fill d) (qN (l65_6) n) := by kernel_rfl
theorem ls65 : qd (body Tryz.f65) = [jZ 0 (qd (body Tryz.f65))] := by kernel_rfl
theorem h65 : qu Tryz.prog 65 p65 := hQ (cfg := c65) (qn qo (qc h87 (qc h88 qh)) rfl (by kernel_rfl)) Tryz.func65 (by kernel_rfl) (by rw [ls65]; simp only [List.forall_mem_cons]; exact ⟨qC (key := 6) (li := l65_6) (by kernel_rfl) rfl (fun _ => rfl) (L65_6_eq), fun _ h => by cases h⟩) (by kernel_rfl) (F65_eq qe)
def F29 (_n : Nat) (g_0 : zTl) : Option (((List Int) × Int × Unit) × (Unit)) :=
  qa (g8 (g_0, ())) fun y1 => cond (y1.1.1 != 0) (some ((([] : List Int), y1.1.1, ()), ())) (qa (g65 (g_0, ())) fun y2 => some ((y2.1.1, 0, ()), ()))
def g29 (d : zTl × Unit) : Option (((List Int) × Int × Unit) × (Unit)) := F29 qe d.1
def p29 : qD := ⟨[.v (.str (.pair (.str zTh) (.pair (.str zTc) (.pair (.list false 80 (.str (.pair zI qS))) (.pair zI (.pair (.str (.pair (.list false 128 (.str qS)) (.pair (.list false 130 (.str qS)) zTj))) zTq))))))], [.own 3 zI, .v zI], g29⟩
def c29 : qT := ⟨12, tyT, [], [(8, p8), (65, p65)], [], [], [], [], [], [], [], [], [], [], none⟩
theorem F29_eq (n : Nat) (d) : qx c29 n Tryz.f29 (body Tryz.f29) p29.ps p29.rs d = F29 n d.1 := by kernel_rfl
theorem h29 : qu Tryz.prog 29 p29 := hQ (cfg := c29) (qn qo (qc h8 (qc h65 qh)) rfl (by kernel_rfl)) Tryz.func29 (by kernel_rfl) (qr (by kernel_rfl)) (by kernel_rfl) (F29_eq qe)
def B30_2 (_n : Nat) (L : ((List Int) × Int × Int × Unit) × (Unit) × Unit → Option (((Bool × Unit) × (Unit) × Unit) ⊕ ((Unit) × (Unit) × Unit))) (l_0 : List Int) (n_1 : Int) (i_5 : Int) : Option (((Bool × Unit) × (Unit) × Unit) ⊕ ((Unit) × (Unit) × Unit)) :=
  cond (decide (i_5 < (l_0.length : Int))) (qg l_0 i_5 fun e1 => cond (e1 == n_1) (some (.inl ((true, ()), (), ()))) (L ((l_0, n_1, (IntKind.wrap .i64 (i_5 + 1)), ()), (), ()))) (some (.inr ((), (), ())))
def L30_2 : Nat → ((List Int) × Int × Int × Unit) × (Unit) × Unit → Option (((Bool × Unit) × (Unit) × Unit) ⊕ ((Unit) × (Unit) × Unit))
  | 0, _ => none
  | n + 1, d => B30_2 n (L30_2 n) d.1.1 d.1.2.1 d.1.2.2.1
def l30_2 : q9 := ⟨⟨[(0, .v (.list false 3 zI)), (1, .v zI), (5, .v zI)], [], none⟩, [(.ret, ⟨[(4, .v .bool)], [], none⟩), (.exit 0, ⟨[], [], none⟩)], L30_2⟩
def F30 (n : Nat) (l_0 : (List Int)) (n_1 : Int) : Option ((Bool × Unit) × (Unit)) :=
  qa (L30_2 n ((l_0, n_1, 0, ()), (), ())) fun o2 => qbb o2 (fun d3 => some ((d3.1.1, ()), ())) (fun _ => some ((false, ()), ()))
def g30 (d : (List Int) × Int × Unit) : Option ((Bool × Unit) × (Unit)) := F30 qe d.1 d.2.1
def p30 : qD := ⟨[.v (.list false 3 zI), .v zI], [.v .bool], g30⟩
def c30 : qT := ⟨18, tyT, [], [], [(2, l30_2)], [], [], [], [], [], [], [], [], [], none⟩
theorem F30_eq (n : Nat) (d) : qx c30 n Tryz.f30 (body Tryz.f30) p30.ps p30.rs d = F30 n d.1 d.2.1 := by kernel_rfl
theorem L30_2_eq (n : Nat) (d) : (l30_2).g (n + 1) d = run c30 n (jZ 0 (qd (body Tryz.f30))) ((l30_2).ins.fill d) (qN (l30_2) n) := by kernel_rfl
theorem ls30 : qd (body Tryz.f30) = [jZ 0 (qd (body Tryz.f30))] := by kernel_rfl
theorem h30 : qu Tryz.prog 30 p30 := hQ (cfg := c30) (qn qo (qh) rfl (by kernel_rfl)) Tryz.func30 (by kernel_rfl) (by rw [ls30]; simp only [List.forall_mem_cons]; exact ⟨qC (key := 2) (li := l30_2) (by kernel_rfl) rfl (fun _ => rfl) (L30_2_eq), fun _ h => by cases h⟩) (by kernel_rfl) (F30_eq qe)
def F11 (_n : Nat) (g_0 : zTl) (n_1 : Int) : Option ((Bool × Unit) × (Unit)) :=
  cond (decide ((g_0.2.2.1.length : Int) ≥ 100)) (some ((true, ()), ())) (cond (decide ((g_0.2.2.1.length : Int) > 0)) (qg g_0.2.2.1 (IntKind.wrap .i64 ((g_0.2.2.1.length : Int) - 1)) fun e1 => cond (decide (e1.1 > g_0.2.2.2.1)) (some ((true, ()), ())) (qa (g9 (g_0, ())) fun y2 => qY ((y2.1.1.2.2.1.length : Int) + [(g_0.2.2.2.1, 2, n_1, 3, (0 : Int))].length) (jM (y2.1.1.1, (y2.1.1.2.1, ((y2.1.1.2.2.1 ++ [(g_0.2.2.2.1, 2, n_1, 3, (0 : Int))]), y2.1.1.2.2.2))) fun z3 => qa (g29 (z3, ())) fun y4 => cond (y4.1.2.1 == 0) (qa (g30 (y4.1.1, n_1, ())) fun y5 => some (((!y5.1.1), ()), ())) (some ((false, ()), ()))))) (qa (g9 (g_0, ())) fun y6 => qY ((y6.1.1.2.2.1.length : Int) + [(g_0.2.2.2.1, 2, n_1, 3, (0 : Int))].length) (jM (y6.1.1.1, (y6.1.1.2.1, ((y6.1.1.2.2.1 ++ [(g_0.2.2.2.1, 2, n_1, 3, (0 : Int))]), y6.1.1.2.2.2))) fun z7 => qa (g29 (z7, ())) fun y8 => cond (y8.1.2.1 == 0) (qa (g30 (y8.1.1, n_1, ())) fun y9 => some (((!y9.1.1), ()), ())) (some ((false, ()), ())))))
def g11 (d : zTl × Int × Unit) : Option ((Bool × Unit) × (Unit)) := F11 qe d.1 d.2.1
def p11 : qD := ⟨[.v (.str (.pair (.str zTh) (.pair (.str zTc) (.pair (.list false 80 (.str (.pair zI qS))) (.pair zI (.pair (.str (.pair (.list false 128 (.str qS)) (.pair (.list false 130 (.str qS)) zTj))) zTq)))))), .v zI], [.v .bool], g11⟩
def c11 : qT := ⟨54, tyT, [(2, .str (.pair (.str zTh) (.pair (.str zTc) (.pair (.list false 80 (.str (.pair zI qS))) (.pair zI (.pair (.str (.pair (.list false 128 (.str qS)) (.pair (.list false 130 (.str qS)) zTj))) zTq)))))), (6, .str (.pair (.str zTh) (.pair (.str zTc) (.pair (.list true 80 (.str (.pair zI qS))) (.pair zI (.pair (.str (.pair (.list true 128 (.str qS)) (.pair (.list true 130 (.str qS)) zTj))) zTq))))))], [(9, p9), (29, p29), (30, p30)], [], [], [2], [], [], [], [], [], [], [], none⟩
theorem F11_eq (n : Nat) (d) : qx c11 n Tryz.f11 (body Tryz.f11) p11.ps p11.rs d = F11 n d.1 d.2.1 := by kernel_rfl
theorem d11 : qj c11 (body Tryz.f11) = true := by kernel_rfl
theorem h11 : qu Tryz.prog 11 p11 := hQ (cfg := c11) (qn qo (qc h9 (qc h29 (qc h30 qh))) rfl (by kernel_rfl)) Tryz.func11 (by kernel_rfl) (qr (by kernel_rfl)) d11 (F11_eq qe)
end
end Go.Proofs.Tryz.V
