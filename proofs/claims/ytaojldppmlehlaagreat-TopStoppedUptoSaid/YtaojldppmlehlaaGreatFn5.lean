/- The contracts of functions of the program, printed by program from the interpreter: each says what a call returns. No condition beyond those typed in each theorem. -/
import Derived.Test.YtaojldppmlehlaaGreatFn4
namespace Go.Proofs.Tryz.V
noncomputable section
open Go.Vi
set_option maxRecDepth 100000
def F3 (_n : Nat) (g_0 : zTl) (c_1 : (zTn × ((Int × ((List (Int × (Int × Int))) × (List jO))) × Int))) : Option ((Bool × Unit) × (Unit)) :=
  qa (g4 (g_0, ())) fun y1 => cond y1.1.1 (qa (g6 ()) fun y2 => some ((y2.1.1, ()), ())) (qa (g5 (c_1.1, ())) fun y3 => cond y3.1.1 (qa (g6 ()) fun y4 => some ((y4.1.1, ()), ())) (cond (decide (c_1.2.1.1 > 150)) (qa (g6 ()) fun y5 => some ((y5.1.1, ()), ())) (cond (decide ((c_1.2.1.2.1.length : Int) > 250)) (qa (g6 ()) fun y6 => some ((y6.1.1, ()), ())) (cond (decide ((c_1.2.1.2.2.length : Int) > 8)) (qa (g6 ()) fun y7 => some ((y7.1.1, ()), ())) (qdE (fun (y8 : (Int × Int × Unit) × (Unit)) => cond (y8.1.2.1 != 0) (qa (g6 ()) fun y9 => some ((y9.1.1, ()), ())) (qa (g9 (g_0, ())) fun y10 => qa (g8 (y10.1.1, ())) fun y11 => cond (y11.1.1 != 0) (qa (g6 ()) fun y12 => some ((y12.1.1, ()), ())) (qa (g10 (g_0, ())) fun y13 => cond (y13.1.1 != 0) (qa (g6 ()) fun y14 => some ((y14.1.1, ()), ())) (cond (decide (c_1.2.2 < 0)) (qa (g6 ()) fun y15 => some ((y15.1.1, ()), ())) (cond (decide (c_1.2.2 ≥ (g_0.1.1.length : Int))) (qa (g6 ()) fun y16 => some ((y16.1.1, ()), ())) (cond (decide (y8.1.1 < 0)) (qa (g6 ()) fun y17 => some ((y17.1.1, ()), ())) (cond (decide ((c_1.2.1.2.2.length : Int) > 0)) (qa (g11 (g_0, c_1.2.2, ())) fun y18 => cond y18.1.1 (qa (g6 ()) fun y19 => some ((y19.1.1, ()), ())) (some ((false, ()), ()))) (some ((false, ()), ()))))))))) fun E => qR [qR [qY ((([] : List (Int × (Int × Int))).length : Int) + c_1.2.1.2.1.length) (qY ((([] : List jO).length : Int) + c_1.2.1.2.2.length) (qa (g7 (c_1.1, c_1.2.1.1, (([] : List (Int × (Int × Int))) ++ c_1.2.1.2.1), (([] : List jO) ++ c_1.2.1.2.2), ())) fun y8 => E y8)), qY ((([] : List (Int × (Int × Int))).length : Int) + c_1.2.1.2.1.length) (qY ((([] : List jO).length : Int) + c_1.2.1.2.2.length) (qa (g7 (c_1.1, c_1.2.1.1, (([] : List (Int × (Int × Int))) ++ c_1.2.1.2.1), (([] : List jO) ++ c_1.2.1.2.2), ())) fun y20 => E y20))], qY ((([] : List (Int × (Int × Int))).length : Int) + c_1.2.1.2.1.length) (qY ((([] : List jO).length : Int) + c_1.2.1.2.2.length) (qa (g7 (c_1.1, c_1.2.1.1, (([] : List (Int × (Int × Int))) ++ c_1.2.1.2.1), (([] : List jO) ++ c_1.2.1.2.2), ())) fun y21 => E y21))])))))
def g3 (d : zTl × (zTn × ((Int × ((List (Int × (Int × Int))) × (List jO))) × Int)) × Unit) : Option ((Bool × Unit) × (Unit)) := F3 qe d.1 d.2.1
def p3 : qD := ⟨[.v (.str (.pair (.str zTh) (.pair (.str zTc) (.pair (.list false 80 (.str (.pair zI qS))) (.pair zI (.pair (.str (.pair (.list false 128 (.str qS)) (.pair (.list false 130 (.str qS)) zTj))) zTq)))))), .v (.str (.pair (.str zTd) (.pair (.str (.pair zI (.pair (.list false 86 (.str zTj)) (.list false 90 (.str (.pair zI qS)))))) zI)))], [.v .bool], g3⟩
def c3 : qT := ⟨99, tyT, [(2, .str (.pair (.str zTh) (.pair (.str zTc) (.pair (.list false 80 (.str (.pair zI qS))) (.pair zI (.pair (.str (.pair (.list false 128 (.str qS)) (.pair (.list false 130 (.str qS)) zTj))) zTq)))))), (3, .str (.pair (.str zTd) (.pair (.str (.pair zI (.pair (.list false 86 (.str zTj)) (.list false 90 (.str (.pair zI qS)))))) zI))), (45, .list true 86 (.str zTj)), (50, .list true 90 (.str (.pair zI qS)))], [(4, p4), (5, p5), (6, p6), (7, p7), (8, p8), (9, p9), (10, p10), (11, p11)], [], [], [3], [], [], [], [], [], [], [], none⟩
theorem F3_eq (n : Nat) (d) : qx c3 n Tryz.f3 (body Tryz.f3) p3.ps p3.rs d = F3 n d.1 d.2.1 := by kernel_rfl
theorem h3 : qu Tryz.prog 3 p3 := hQ (cfg := c3) (qn qo (qc h4 (qc h5 (qc h6 (qc h7 (qc h8 (qc h9 (qc h10 (qc h11 qh)))))))) rfl (by kernel_rfl)) Tryz.func3 (by kernel_rfl) (qr (by kernel_rfl)) (by kernel_rfl) (F3_eq qe)
def F122 (_n : Nat) (x_0 : Int) (y_1 : Int) : Option ((Int × Int × Unit) × (Unit)) :=
  jM (IntKind.wrap .u64 ((IntKind.wrap .u64 x_0) * (IntKind.wrap .u64 y_1))) fun z1 => qdH 32 (some (((IntKind.wrap .u32 (qdN .u64 z1 32)), (IntKind.wrap .u32 z1), ()), ()))
def g122 (d : Int × Int × Unit) : Option ((Int × Int × Unit) × (Unit)) := F122 qe d.1 d.2.1
def p122 : qD := ⟨[.v (.int .u32), .v (.int .u32)], [.v (.int .u32), .v (.int .u32)], g122⟩
def c122 : qT := ⟨17, tyT, [], [], [], [], [], [], [], [], [], [], [], [], none⟩
def B133_0 (_n : Nat) (L : ((Int → Option Bool) × zTi × Unit) × (Int × Unit) × Unit → Option (((Unit) × (Int × Unit) × Unit) ⊕ (((Int → Option Bool) × Unit) × (Int × Unit) × Unit))) (yield_0 : Int → Option Bool) (t_2 : zTx × (zTx × (Int × (Int × Int)))) (o_1p : Int) : Option (((Unit) × (Int × Unit) × Unit) ⊕ (((Int → Option Bool) × Unit) × (Int × Unit) × Unit)) :=
  cond (decide (o_1p ≥ 0)) (qa (yield_0 o_1p) fun y1 => cond (!y1) (some (.inl ((), (o_1p, ()), ()))) (qg t_2.1 o_1p fun e2 => L ((yield_0, t_2, ()), (e2.1, ()), ()))) (some (.inr ((yield_0, ()), (o_1p, ()), ())))
def L133_0 : Nat → ((Int → Option Bool) × zTi × Unit) × (Int × Unit) × Unit → Option (((Unit) × (Int × Unit) × Unit) ⊕ (((Int → Option Bool) × Unit) × (Int × Unit) × Unit))
  | 0, _ => none
  | n + 1, d => B133_0 n (L133_0 n) d.1.1 d.1.2.1 d.2.1.1
def l133_0 : q9 := ⟨⟨[(0, .v (.fn zI .bool)), (1, .c (.ptr 10000001 [])), (2, .r (.str (.pair (.list false 128 (.str qS)) (.pair (.list false 130 (.str qS)) zTj))))], [(10000001, false, .int .i64)], none⟩, [(.ret, ⟨[], [(10000001, false, .int .i64)], none⟩), (.exit 0, ⟨[(0, .v (.fn zI .bool))], [(10000001, false, .int .i64)], none⟩)], L133_0⟩
def F133 (n : Nat) (yield_0 : (Int → Option Bool)) (t_1 : Int) (t_2 : zTi) : Option ((Unit) × (Int × Unit)) :=
  qa (L133_0 n ((yield_0, t_2, ()), (t_1, ()), ())) fun o3 => qbb o3 (fun d4 => some ((), (d4.2.1.1, ()))) (fun d5 => qa (d5.1.1 (-1)) fun _ => some ((), (d5.2.1.1, ())))
def g133 (d : (Int → Option Bool) × Int × zTi × Unit) : Option ((Unit) × (Int × Unit)) := F133 qe d.1 d.2.1 d.2.2.1
def p133 : qD := ⟨[.v (.fn zI .bool), .m zI, .r (.str (.pair (.list false 128 (.str qS)) (.pair (.list false 130 (.str qS)) zTj)))], [], g133⟩
def c133 : qT := ⟨18, tyT, [], [], [(0, l133_0)], [], [], [], [], [], [], [], [], [], none⟩
def B134_1 (_n : Nat) (L : ((Int → jO → Option Bool) × (List jO) × Int × Unit) × (Unit) × Unit → Option (((Unit) × (Unit) × Unit) ⊕ ((Unit) × (Unit) × Unit))) (yield_0 : Int → jO → Option Bool) (t_1 : List jO) (i_3 : Int) : Option (((Unit) × (Unit) × Unit) ⊕ ((Unit) × (Unit) × Unit)) :=
  cond (decide (i_3 ≥ 0)) (qg t_1 i_3 fun e1 => qa (yield_0 i_3 e1) fun y2 => cond (!y2) (some (.inl ((), (), ()))) (L ((yield_0, t_1, (IntKind.wrap .i64 (i_3 - 1)), ()), (), ()))) (some (.inr ((), (), ())))
def L134_1 : Nat → ((Int → jO → Option Bool) × (List jO) × Int × Unit) × (Unit) × Unit → Option (((Unit) × (Unit) × Unit) ⊕ ((Unit) × (Unit) × Unit))
  | 0, _ => none
  | n + 1, d => B134_1 n (L134_1 n) d.1.1 d.1.2.1 d.1.2.2.1
def l134_1 : q9 := ⟨⟨[(0, .v (.fn2 zI (.str (.pair zI qS)) .bool)), (1, .r (.list false 80 (.str (.pair zI qS)))), (3, .v zI)], [], none⟩, [(.ret, ⟨[], [], none⟩), (.exit 0, ⟨[], [], none⟩)], L134_1⟩
def F134 (n : Nat) (yield_0 : (Int → jO → Option Bool)) (t_1 : (List jO)) : Option ((Unit) × (Unit)) :=
  qa (L134_1 n ((yield_0, t_1, (IntKind.wrap .i64 ((t_1.length : Int) - 1)), ()), (), ())) fun o3 => qbb o3 (fun _ => some ((), ())) (fun _ => some ((), ()))
def g134 (d : (Int → jO → Option Bool) × (List jO) × Unit) : Option ((Unit) × (Unit)) := F134 qe d.1 d.2.1
def p134 : qD := ⟨[.v (.fn2 zI (.str (.pair zI qS)) .bool), .r (.list false 80 (.str (.pair zI qS)))], [], g134⟩
def c134 : qT := ⟨19, tyT, [], [], [(1, l134_1)], [], [], [], [], [], [], [], [], [], none⟩
end
end Go.Proofs.Tryz.V
