/- The contracts of functions of the program, printed by program from the interpreter: each says what a call returns. No condition beyond those typed in each theorem. -/
import Derived.Test.YtaojldppmlehlaaGreatFn2
namespace Go.Proofs.Tryz.V
noncomputable section
open Go.Vi
set_option maxRecDepth 100000
def F80 (_n : Nat) (s_0 : (List zTr)) (f_1 : (zTr → Option Bool)) : Option ((Bool × Unit) × (Unit)) :=
  qa (g92 (s_0, f_1, ())) fun y1 => some (((decide (y1.1.1 ≥ 0)), ()), ())
def g80 (d : (List zTr) × (zTr → Option Bool) × Unit) : Option ((Bool × Unit) × (Unit)) := F80 qe d.1 d.2.1
def p80 : qD := ⟨[.v (.list false 149 (.str (.pair zI (.pair zI zTk)))), .v (.fn (.str (.pair zI (.pair zI zTk))) .bool)], [.v .bool], g80⟩
def c80 : qT := ⟨9, tyT, [], [(92, p92)], [], [], [], [], [], [], [], [], [], [], none⟩
theorem F80_eq (n : Nat) (d) : qx c80 n Tryz.f80 (body Tryz.f80) p80.ps p80.rs d = F80 n d.1 d.2.1 := by kernel_rfl
theorem h80 : qu Tryz.prog 80 p80 := hQ (cfg := c80) (qn qo (qc h92 qh) rfl (by kernel_rfl)) Tryz.func80 (by kernel_rfl) (qr (by kernel_rfl)) (by kernel_rfl) (F80_eq qe)
def F52 (_n : Nat) (f_0 : ((List zTr) × Int)) : Option ((Int × Unit) × (Unit)) :=
  cond (decide ((f_0.1.length : Int) > 8)) (some ((70, ()), ())) (qa (g55 (f_0.2, 0, 100, ())) fun y1 => cond (!y1.1.1) (some ((70, ()), ())) (qa (g80 (f_0.1, (fun v2 => qa (g79 (v2, ())) fun y3 => some y3.1.1), ())) fun y4 => cond y4.1.1 (some ((70, ()), ())) (some ((0, ()), ()))))
def g52 (d : ((List zTr) × Int) × Unit) : Option ((Int × Unit) × (Unit)) := F52 qe d.1
def p52 : qD := ⟨[.v (.str zTh)], [.v zI], g52⟩
def c52 : qT := ⟨20, tyT, [], [(55, p55), (79, p79), (80, p80)], [], [], [], [], [], [], [], [], [], [], none⟩
theorem F52_eq (n : Nat) (d) : qx c52 n Tryz.f52 (body Tryz.f52) p52.ps p52.rs d = F52 n d.1 := by kernel_rfl
theorem h52 : qu Tryz.prog 52 p52 := hQ (cfg := c52) (qn qo (qc h55 (qc h79 (qc h80 qh))) rfl (by kernel_rfl)) Tryz.func52 (by kernel_rfl) (qr (by kernel_rfl)) (by kernel_rfl) (F52_eq qe)
def F54 (_n : Nat) (n_0 : Int) (t_1 : ((List zTr) × Int)) : Option ((Bool × Unit) × (Unit)) :=
  qa (g55 (n_0, 0, (IntKind.wrap .i64 ((t_1.1.length : Int) - 1)), ())) fun y1 => some (((!y1.1.1), ()), ())
def g54 (d : Int × ((List zTr) × Int) × Unit) : Option ((Bool × Unit) × (Unit)) := F54 qe d.1 d.2.1
def p54 : qD := ⟨[.v zI, .r (.str zTh)], [.v .bool], g54⟩
def c54 : qT := ⟨11, tyT, [], [(55, p55)], [], [], [], [], [], [], [], [], [], [], none⟩
theorem F54_eq (n : Nat) (d) : qx c54 n Tryz.f54 (body Tryz.f54) p54.ps p54.rs d = F54 n d.1 d.2.1 := by kernel_rfl
theorem h54 : qu Tryz.prog 54 p54 := hQ (cfg := c54) (qn qo (qc h55 qh) rfl (by kernel_rfl)) Tryz.func54 (by kernel_rfl) (qr (by kernel_rfl)) (by kernel_rfl) (F54_eq qe)
def F53 (_n : Nat) (g_0 : zTt) (t_1 : ((List zTr) × Int)) : Option ((Bool × Unit) × (Unit)) :=
  qa (g55 (g_0.1, 0, 2000, ())) fun y1 => cond (!y1.1.1) (some ((true, ()), ())) (qa (g55 (g_0.2.1, 1, 40, ())) fun y2 => cond (!y2.1.1) (some ((true, ()), ())) (qa (g55 (g_0.2.2.1, 0, 10000, ())) fun y3 => cond (!y3.1.1) (some ((true, ()), ())) (qa (g55 (g_0.2.2.2.2, 0, 2000, ())) fun y4 => cond (!y4.1.1) (some ((true, ()), ())) (cond (decide ((g_0.2.2.2.1.length : Int) > 10)) (some ((true, ()), ())) (qa (g23 (g_0.2.2.2.1, (fun v5 => qa (g54 (v5, t_1, ())) fun y6 => some y6.1.1), ())) fun y7 => some ((y7.1.1, ()), ()))))))
def g53 (d : zTt × ((List zTr) × Int) × Unit) : Option ((Bool × Unit) × (Unit)) := F53 qe d.1 d.2.1
def p53 : qD := ⟨[.v (.str zTm), .r (.str zTh)], [.v .bool], g53⟩
def c53 : qT := ⟨40, tyT, [], [(23, p23), (54, p54), (55, p55)], [], [], [], [], [], [], [], [], [], [], none⟩
theorem F53_eq (n : Nat) (d) : qx c53 n Tryz.f53 (body Tryz.f53) p53.ps p53.rs d = F53 n d.1 d.2.1 := by kernel_rfl
theorem h53 : qu Tryz.prog 53 p53 := hQ (cfg := c53) (qn qo (qc h23 (qc h54 (qc h55 qh))) rfl (by kernel_rfl)) Tryz.func53 (by kernel_rfl) (qr (by kernel_rfl)) (by kernel_rfl) (F53_eq qe)
def B81_2 (_n : Nat) (L : ((List zTt) × (zTt → Option Bool) × Int × Int × Unit) × (Unit) × Unit → Option (zTp ⊕ ((Unit) × (Unit) × Unit))) (s_0 : List zTt) (f_1 : zTt → Option Bool) (t_7 : Int) (t_8 : Int) : Option (zTp ⊕ ((Unit) × (Unit) × Unit)) :=
  cond (decide (t_8 < t_7)) (qg s_0 t_8 fun e1 => qa (f_1 e1) fun y2 => cond y2 (some (.inl ((t_8, ()), (), ()))) (L ((s_0, f_1, t_7, (IntKind.wrap .i64 (t_8 + 1)), ()), (), ()))) (some (.inr ((), (), ())))
def L81_2 : Nat → ((List zTt) × (zTt → Option Bool) × Int × Int × Unit) × (Unit) × Unit → Option (zTp ⊕ ((Unit) × (Unit) × Unit))
  | 0, _ => none
  | n + 1, d => B81_2 n (L81_2 n) d.1.1 d.1.2.1 d.1.2.2.1 d.1.2.2.2.1
def l81_2 : q9 := ⟨⟨[(0, .v (.list false 120 (.str zTm))), (1, .v (.fn (.str zTm) .bool)), (7, .v zI), (8, .v zI)], [], none⟩, [(.ret, ⟨[(4, .v zI)], [], none⟩), (.exit 0, ⟨[], [], none⟩)], L81_2⟩
def F81 (n : Nat) (s_0 : (List zTt)) (f_1 : (zTt → Option Bool)) : Option ((Int × Unit) × (Unit)) :=
  qa (L81_2 n ((s_0, f_1, (s_0.length : Int), 0, ()), (), ())) fun o3 => qbb o3 (fun d4 => some ((d4.1.1, ()), ())) (fun _ => some (((-1), ()), ()))
def g81 (d : (List zTt) × (zTt → Option Bool) × Unit) : Option ((Int × Unit) × (Unit)) := F81 qe d.1 d.2.1
def p81 : qD := ⟨[.v (.list false 120 (.str zTm)), .v (.fn (.str zTm) .bool)], [.v zI], g81⟩
def c81 : qT := ⟨19, tyT, [], [], [(2, l81_2)], [], [], [], [], [], [], [], [], [], none⟩
theorem F81_eq (n : Nat) (d) : qx c81 n Tryz.f81 (body Tryz.f81) p81.ps p81.rs d = F81 n d.1 d.2.1 := by kernel_rfl
theorem L81_2_eq (n : Nat) (d) : (l81_2).g (n + 1) d = run c81 n (jZ 0 (qd (body Tryz.f81))) ((l81_2).ins.fill d) (qN (l81_2) n) := by kernel_rfl
theorem ls81 : qd (body Tryz.f81) = [jZ 0 (qd (body Tryz.f81))] := by kernel_rfl
theorem h81 : qu Tryz.prog 81 p81 := hQ (cfg := c81) (qn qo (qh) rfl (by kernel_rfl)) Tryz.func81 (by kernel_rfl) (by rw [ls81]; simp only [List.forall_mem_cons]; exact ⟨qC (key := 2) (li := l81_2) (by kernel_rfl) rfl (fun _ => rfl) (L81_2_eq), fun _ h => by cases h⟩) (by kernel_rfl) (F81_eq qe)
def F56 (_n : Nat) (s_0 : (List zTt)) (f_1 : (zTt → Option Bool)) : Option ((Bool × Unit) × (Unit)) :=
  qa (g81 (s_0, f_1, ())) fun y1 => some (((decide (y1.1.1 ≥ 0)), ()), ())
def g56 (d : (List zTt) × (zTt → Option Bool) × Unit) : Option ((Bool × Unit) × (Unit)) := F56 qe d.1 d.2.1
def p56 : qD := ⟨[.v (.list false 120 (.str zTm)), .v (.fn (.str zTm) .bool)], [.v .bool], g56⟩
def c56 : qT := ⟨9, tyT, [], [(81, p81)], [], [], [], [], [], [], [], [], [], [], none⟩
theorem F56_eq (n : Nat) (d) : qx c56 n Tryz.f56 (body Tryz.f56) p56.ps p56.rs d = F56 n d.1 d.2.1 := by kernel_rfl
theorem h56 : qu Tryz.prog 56 p56 := hQ (cfg := c56) (qn qo (qc h81 qh) rfl (by kernel_rfl)) Tryz.func56 (by kernel_rfl) (qr (by kernel_rfl)) (by kernel_rfl) (F56_eq qe)
def F17 (_n : Nat) (f_0 : ((List zTr) × Int)) (l_1 : (List zTt)) : Option ((Int × Unit) × (Unit)) :=
  qa (g52 (f_0, ())) fun y1 => cond (y1.1.1 != 0) (some ((y1.1.1, ()), ())) (cond (decide ((l_1.length : Int) > 60)) (some ((71, ()), ())) (qa (g56 (l_1, (fun v2 => qa (g53 (v2, f_0, ())) fun y3 => some y3.1.1), ())) fun y4 => cond y4.1.1 (some ((71, ()), ())) (some ((0, ()), ()))))
def g17 (d : ((List zTr) × Int) × (List zTt) × Unit) : Option ((Int × Unit) × (Unit)) := F17 qe d.1 d.2.1
def p17 : qD := ⟨[.v (.str zTh), .v (.list false 120 (.str zTm))], [.v zI], g17⟩
def c17 : qT := ⟨21, tyT, [], [(52, p52), (53, p53), (56, p56)], [], [], [], [], [], [], [], [], [], [], none⟩
theorem F17_eq (n : Nat) (d) : qx c17 n Tryz.f17 (body Tryz.f17) p17.ps p17.rs d = F17 n d.1 d.2.1 := by kernel_rfl
theorem h17 : qu Tryz.prog 17 p17 := hQ (cfg := c17) (qn qo (qc h52 (qc h53 (qc h56 qh))) rfl (by kernel_rfl)) Tryz.func17 (by kernel_rfl) (qr (by kernel_rfl)) (by kernel_rfl) (F17_eq qe)
def B107_2 (_n : Nat) (L : ((List (Int × (Int × (Int × Bool)))) × ((Int × (Int × (Int × Bool))) → Option Bool) × Int × Int × Unit) × (Unit) × Unit → Option (zTp ⊕ ((Unit) × (Unit) × Unit))) (s_0 : List (Int × (Int × (Int × Bool)))) (f_1 : (Int × (Int × (Int × Bool))) → Option Bool) (t_7 : Int) (t_8 : Int) : Option (zTp ⊕ ((Unit) × (Unit) × Unit)) :=
  cond (decide (t_8 < t_7)) (qg s_0 t_8 fun e1 => qa (f_1 e1) fun y2 => cond y2 (some (.inl ((t_8, ()), (), ()))) (L ((s_0, f_1, t_7, (IntKind.wrap .i64 (t_8 + 1)), ()), (), ()))) (some (.inr ((), (), ())))
def L107_2 : Nat → ((List (Int × (Int × (Int × Bool)))) × ((Int × (Int × (Int × Bool))) → Option Bool) × Int × Int × Unit) × (Unit) × Unit → Option (zTp ⊕ ((Unit) × (Unit) × Unit))
  | 0, _ => none
  | n + 1, d => B107_2 n (L107_2 n) d.1.1 d.1.2.1 d.1.2.2.1 d.1.2.2.2.1
def l107_2 : q9 := ⟨⟨[(0, .v (.list false 155 (.str (.pair zI zTk)))), (1, .v (.fn (.str (.pair zI zTk)) .bool)), (7, .v zI), (8, .v zI)], [], none⟩, [(.ret, ⟨[(4, .v zI)], [], none⟩), (.exit 0, ⟨[], [], none⟩)], L107_2⟩
def F107 (n : Nat) (s_0 : (List (Int × (Int × (Int × Bool))))) (f_1 : ((Int × (Int × (Int × Bool))) → Option Bool)) : Option ((Int × Unit) × (Unit)) :=
  qa (L107_2 n ((s_0, f_1, (s_0.length : Int), 0, ()), (), ())) fun o3 => qbb o3 (fun d4 => some ((d4.1.1, ()), ())) (fun _ => some (((-1), ()), ()))
def g107 (d : (List (Int × (Int × (Int × Bool)))) × ((Int × (Int × (Int × Bool))) → Option Bool) × Unit) : Option ((Int × Unit) × (Unit)) := F107 qe d.1 d.2.1
def p107 : qD := ⟨[.v (.list false 155 (.str (.pair zI zTk))), .v (.fn (.str (.pair zI zTk)) .bool)], [.v zI], g107⟩
def c107 : qT := ⟨19, tyT, [], [], [(2, l107_2)], [], [], [], [], [], [], [], [], [], none⟩
theorem F107_eq (n : Nat) (d) : qx c107 n Tryz.f107 (body Tryz.f107) p107.ps p107.rs d = F107 n d.1 d.2.1 := by kernel_rfl
theorem L107_2_eq (n : Nat) (d) : (l107_2).g (n + 1) d = run c107 n (jZ 0 (qd (body Tryz.f107))) ((l107_2).ins.fill d) (qN (l107_2) n) := by kernel_rfl
theorem ls107 : qd (body Tryz.f107) = [jZ 0 (qd (body Tryz.f107))] := by kernel_rfl
theorem h107 : qu Tryz.prog 107 p107 := hQ (cfg := c107) (qn qo (qh) rfl (by kernel_rfl)) Tryz.func107 (by kernel_rfl) (by rw [ls107]; simp only [List.forall_mem_cons]; exact ⟨qC (key := 2) (li := l107_2) (by kernel_rfl) rfl (fun _ => rfl) (L107_2_eq), fun _ h => by cases h⟩) (by kernel_rfl) (F107_eq qe)
def F93 (_n : Nat) (s_0 : (List (Int × (Int × (Int × Bool))))) (f_1 : ((Int × (Int × (Int × Bool))) → Option Bool)) : Option ((Bool × Unit) × (Unit)) :=
  qa (g107 (s_0, f_1, ())) fun y1 => some (((decide (y1.1.1 ≥ 0)), ()), ())
def g93 (d : (List (Int × (Int × (Int × Bool)))) × ((Int × (Int × (Int × Bool))) → Option Bool) × Unit) : Option ((Bool × Unit) × (Unit)) := F93 qe d.1 d.2.1
def p93 : qD := ⟨[.v (.list false 155 (.str (.pair zI zTk))), .v (.fn (.str (.pair zI zTk)) .bool)], [.v .bool], g93⟩
def c93 : qT := ⟨9, tyT, [], [(107, p107)], [], [], [], [], [], [], [], [], [], [], none⟩
theorem F93_eq (n : Nat) (d) : qx c93 n Tryz.f93 (body Tryz.f93) p93.ps p93.rs d = F93 n d.1 d.2.1 := by kernel_rfl
theorem h93 : qu Tryz.prog 93 p93 := hQ (cfg := c93) (qn qo (qc h107 qh) rfl (by kernel_rfl)) Tryz.func93 (by kernel_rfl) (qr (by kernel_rfl)) (by kernel_rfl) (F93_eq qe)
def F95 (_n : Nat) (n_0 : Int) (low_1 : Int) (high_2 : Int) : Option ((Bool × Unit) × (Unit)) :=
  cond (decide (n_0 ≥ low_1)) (some (((decide (n_0 ≤ high_2)), ()), ())) (some ((false, ()), ()))
def g95 (d : Int × Int × Int × Unit) : Option ((Bool × Unit) × (Unit)) := F95 qe d.1 d.2.1 d.2.2.1
def p95 : qD := ⟨[.v zI, .v zI, .v zI], [.v .bool], g95⟩
def c95 : qT := ⟨15, tyT, [], [], [], [], [], [], [], [], [], [], [], [], none⟩
theorem F95_eq (n : Nat) (d) : qx c95 n Tryz.f95 (body Tryz.f95) p95.ps p95.rs d = F95 n d.1 d.2.1 d.2.2.1 := by kernel_rfl
theorem h95 : qu Tryz.prog 95 p95 := hQ (cfg := c95) (qn qo (qh) rfl (by kernel_rfl)) Tryz.func95 (by kernel_rfl) (qr (by kernel_rfl)) (by kernel_rfl) (F95_eq qe)
def F94 (_n : Nat) (r_0 : (Int × (Int × (Int × Bool)))) (t_1 : zTf) : Option ((Bool × Unit) × (Unit)) :=
  qa (g95 (r_0.1, 0, (IntKind.wrap .i64 ((t_1.2.2.length : Int) - 1)), ())) fun y1 => cond (!y1.1.1) (some ((true, ()), ())) (qa (g95 (r_0.2.1, 1, 10000, ())) fun y2 => cond (!y2.1.1) (some ((true, ()), ())) (qa (g95 (r_0.2.2.1, 0, 9, ())) fun y3 => some (((!y3.1.1), ()), ())))
def g94 (d : (Int × (Int × (Int × Bool))) × zTf × Unit) : Option ((Bool × Unit) × (Unit)) := F94 qe d.1 d.2.1
def p94 : qD := ⟨[.v (.str (.pair zI zTk)), .r (.str zTc)], [.v .bool], g94⟩
def c94 : qT := ⟨24, tyT, [], [(95, p95)], [], [], [], [], [], [], [], [], [], [], none⟩
theorem F94_eq (n : Nat) (d) : qx c94 n Tryz.f94 (body Tryz.f94) p94.ps p94.rs d = F94 n d.1 d.2.1 := by kernel_rfl
theorem h94 : qu Tryz.prog 94 p94 := hQ (cfg := c94) (qn qo (qc h95 qh) rfl (by kernel_rfl)) Tryz.func94 (by kernel_rfl) (qr (by kernel_rfl)) (by kernel_rfl) (F94_eq qe)
def F96 (_n : Nat) (n_0 : Int) : Option ((Bool × Unit) × (Unit)) :=
  qa (g95 (n_0, 0, 9, ())) fun y1 => some (((!y1.1.1), ()), ())
def g96 (d : Int × Unit) : Option ((Bool × Unit) × (Unit)) := F96 qe d.1
def p96 : qD := ⟨[.v zI], [.v .bool], g96⟩
def c96 : qT := ⟨6, tyT, [], [(95, p95)], [], [], [], [], [], [], [], [], [], [], none⟩
theorem F96_eq (n : Nat) (d) : qx c96 n Tryz.f96 (body Tryz.f96) p96.ps p96.rs d = F96 n d.1 := by kernel_rfl
theorem h96 : qu Tryz.prog 96 p96 := hQ (cfg := c96) (qn qo (qc h95 qh) rfl (by kernel_rfl)) Tryz.func96 (by kernel_rfl) (qr (by kernel_rfl)) (by kernel_rfl) (F96_eq qe)
def F97 (_n : Nat) (n_0 : Int) : Option ((Bool × Unit) × (Unit)) :=
  qa (g95 (n_0, 0, 10000, ())) fun y1 => some (((!y1.1.1), ()), ())
def g97 (d : Int × Unit) : Option ((Bool × Unit) × (Unit)) := F97 qe d.1
def p97 : qD := ⟨[.v zI], [.v .bool], g97⟩
def c97 : qT := ⟨6, tyT, [], [(95, p95)], [], [], [], [], [], [], [], [], [], [], none⟩
theorem F97_eq (n : Nat) (d) : qx c97 n Tryz.f97 (body Tryz.f97) p97.ps p97.rs d = F97 n d.1 := by kernel_rfl
theorem h97 : qu Tryz.prog 97 p97 := hQ (cfg := c97) (qn qo (qc h95 qh) rfl (by kernel_rfl)) Tryz.func97 (by kernel_rfl) (qr (by kernel_rfl)) (by kernel_rfl) (F97_eq qe)
def F82 (_n : Nat) (b_0 : zTf) : Option ((Int × Unit) × (Unit)) :=
  cond (decide ((b_0.1.length : Int) > 20)) (some ((100, ()), ())) (cond (decide ((b_0.2.1.length : Int) > 8)) (some ((100, ()), ())) (cond (decide ((b_0.2.2.length : Int) > 10)) (some ((100, ()), ())) (qa (g93 (b_0.1, (fun v1 => qa (g94 (v1, b_0, ())) fun y2 => some y2.1.1), ())) fun y3 => cond y3.1.1 (some ((100, ()), ())) (qa (g23 (b_0.2.1, (fun v4 => qa (g96 (v4, ())) fun y5 => some y5.1.1), ())) fun y6 => cond y6.1.1 (some ((100, ()), ())) (qa (g23 (b_0.2.2, (fun v7 => qa (g97 (v7, ())) fun y8 => some y8.1.1), ())) fun y9 => cond y9.1.1 (some ((100, ()), ())) (some ((0, ()), ())))))))
def g82 (d : zTf × Unit) : Option ((Int × Unit) × (Unit)) := F82 qe d.1
def p82 : qD := ⟨[.v (.str zTc)], [.v zI], g82⟩
def c82 : qT := ⟨39, tyT, [], [(23, p23), (93, p93), (94, p94), (96, p96), (97, p97)], [], [], [], [], [], [], [], [], [], [], none⟩
theorem F82_eq (n : Nat) (d) : qx c82 n Tryz.f82 (body Tryz.f82) p82.ps p82.rs d = F82 n d.1 := by kernel_rfl
theorem h82 : qu Tryz.prog 82 p82 := hQ (cfg := c82) (qn qo (qc h23 (qc h93 (qc h94 (qc h96 (qc h97 qh))))) rfl (by kernel_rfl)) Tryz.func82 (by kernel_rfl) (qr (by kernel_rfl)) (by kernel_rfl) (F82_eq qe)
def F101 (_n : Nat) (l_0 : (zTf × (List jO))) (n_1 : Int) : Option ((Bool × Unit) × (Unit)) :=
  qa (g95 (n_1, 0, (IntKind.wrap .i64 ((l_0.1.2.1.length : Int) - 1)), ())) fun y1 => some ((y1.1.1, ()), ())
def g101 (d : (zTf × (List jO)) × Int × Unit) : Option ((Bool × Unit) × (Unit)) := F101 qe d.1 d.2.1
def p101 : qD := ⟨[.v (.str (.pair (.str zTc) (.list false 80 (.str (.pair zI qS))))), .v zI], [.v .bool], g101⟩
def c101 : qT := ⟨12, tyT, [], [(95, p95)], [], [], [], [], [], [], [], [], [], [], none⟩
theorem F101_eq (n : Nat) (d) : qx c101 n Tryz.f101 (body Tryz.f101) p101.ps p101.rs d = F101 n d.1 d.2.1 := by kernel_rfl
theorem h101 : qu Tryz.prog 101 p101 := hQ (cfg := c101) (qn qo (qc h95 qh) rfl (by kernel_rfl)) Tryz.func101 (by kernel_rfl) (qr (by kernel_rfl)) (by kernel_rfl) (F101_eq qe)
def F108 (_n : Nat) (l_0 : (zTf × (List jO))) (rule_1 : Int) (n_2 : Int) : Option ((Bool × Unit) × (Unit)) :=
  qa (g101 (l_0, n_2, ())) fun y1 => cond y1.1.1 (qg l_0.1.2.1 n_2 fun e2 => qg l_0.1.1 rule_1 fun e3 => some (((decide (e2 ≥ e3.2.2.1)), ()), ())) (some ((false, ()), ()))
def g108 (d : (zTf × (List jO)) × Int × Int × Unit) : Option ((Bool × Unit) × (Unit)) := F108 qe d.1 d.2.1 d.2.2.1
def p108 : qD := ⟨[.v (.str (.pair (.str zTc) (.list false 80 (.str (.pair zI qS))))), .v zI, .v zI], [.v .bool], g108⟩
def c108 : qT := ⟨26, tyT, [], [(101, p101)], [], [], [], [], [], [], [], [], [], [], none⟩
theorem F108_eq (n : Nat) (d) : qx c108 n Tryz.f108 (body Tryz.f108) p108.ps p108.rs d = F108 n d.1 d.2.1 d.2.2.1 := by kernel_rfl
theorem h108 : qu Tryz.prog 108 p108 := hQ (cfg := c108) (qn qo (qc h101 qh) rfl (by kernel_rfl)) Tryz.func108 (by kernel_rfl) (qr (by kernel_rfl)) (by kernel_rfl) (F108_eq qe)
def F98 (_n : Nat) (l_0 : (zTf × (List jO))) (rule_1 : Int) (a_2 : Int) (b_3 : Int) : Option ((Bool × Unit) × (Unit)) :=
  qg l_0.1.1 rule_1 fun e1 => cond (!e1.2.2.2) (qa (g108 (l_0, rule_1, a_2, ())) fun y2 => cond y2.1.1 (some (((b_3 == (-1)), ()), ())) (some ((false, ()), ()))) (qa (g108 (l_0, rule_1, a_2, ())) fun y3 => cond y3.1.1 (qa (g108 (l_0, rule_1, b_3, ())) fun y4 => cond y4.1.1 (some (((a_2 != b_3), ()), ())) (some ((false, ()), ()))) (some ((false, ()), ())))
def g98 (d : (zTf × (List jO)) × Int × Int × Int × Unit) : Option ((Bool × Unit) × (Unit)) := F98 qe d.1 d.2.1 d.2.2.1 d.2.2.2.1
def p98 : qD := ⟨[.v (.str (.pair (.str zTc) (.list false 80 (.str (.pair zI qS))))), .v zI, .v zI, .v zI], [.v .bool], g98⟩
def c98 : qT := ⟨40, tyT, [], [(108, p108)], [], [], [], [], [], [], [], [], [], [], none⟩
theorem F98_eq (n : Nat) (d) : qx c98 n Tryz.f98 (body Tryz.f98) p98.ps p98.rs d = F98 n d.1 d.2.1 d.2.2.1 d.2.2.2.1 := by kernel_rfl
theorem h98 : qu Tryz.prog 98 p98 := hQ (cfg := c98) (qn qo (qc h108 qh) rfl (by kernel_rfl)) Tryz.func98 (by kernel_rfl) (qr (by kernel_rfl)) (by kernel_rfl) (F98_eq qe)
def F99 (_n : Nat) (l_0 : (zTf × (List jO))) (n_1 : Int) : Option ((Bool × Unit) × (Unit)) :=
  qa (g95 (n_1, 0, (IntKind.wrap .i64 ((l_0.1.2.2.length : Int) - 1)), ())) fun y1 => some ((y1.1.1, ()), ())
def g99 (d : (zTf × (List jO)) × Int × Unit) : Option ((Bool × Unit) × (Unit)) := F99 qe d.1 d.2.1
def p99 : qD := ⟨[.v (.str (.pair (.str zTc) (.list false 80 (.str (.pair zI qS))))), .v zI], [.v .bool], g99⟩
def c99 : qT := ⟨12, tyT, [], [(95, p95)], [], [], [], [], [], [], [], [], [], [], none⟩
theorem F99_eq (n : Nat) (d) : qx c99 n Tryz.f99 (body Tryz.f99) p99.ps p99.rs d = F99 n d.1 d.2.1 := by kernel_rfl
theorem h99 : qu Tryz.prog 99 p99 := hQ (cfg := c99) (qn qo (qc h95 qh) rfl (by kernel_rfl)) Tryz.func99 (by kernel_rfl) (qr (by kernel_rfl)) (by kernel_rfl) (F99_eq qe)
def B124_2 (_n : Nat) (L : ((List jO) × (jO → Option Bool) × Int × Int × Unit) × (Unit) × Unit → Option (zTp ⊕ ((Unit) × (Unit) × Unit))) (s_0 : List jO) (f_1 : jO → Option Bool) (t_7 : Int) (t_8 : Int) : Option (zTp ⊕ ((Unit) × (Unit) × Unit)) :=
  cond (decide (t_8 < t_7)) (qg s_0 t_8 fun e1 => qa (f_1 e1) fun y2 => cond y2 (some (.inl ((t_8, ()), (), ()))) (L ((s_0, f_1, t_7, (IntKind.wrap .i64 (t_8 + 1)), ()), (), ()))) (some (.inr ((), (), ())))
def L124_2 : Nat → ((List jO) × (jO → Option Bool) × Int × Int × Unit) × (Unit) × Unit → Option (zTp ⊕ ((Unit) × (Unit) × Unit))
  | 0, _ => none
  | n + 1, d => B124_2 n (L124_2 n) d.1.1 d.1.2.1 d.1.2.2.1 d.1.2.2.2.1
def l124_2 : q9 := ⟨⟨[(0, .v (.list false 80 (.str (.pair zI qS)))), (1, .v (.fn (.str (.pair zI qS)) .bool)), (7, .v zI), (8, .v zI)], [], none⟩, [(.ret, ⟨[(4, .v zI)], [], none⟩), (.exit 0, ⟨[], [], none⟩)], L124_2⟩
def F124 (n : Nat) (s_0 : (List jO)) (f_1 : (jO → Option Bool)) : Option ((Int × Unit) × (Unit)) :=
  qa (L124_2 n ((s_0, f_1, (s_0.length : Int), 0, ()), (), ())) fun o3 => qbb o3 (fun d4 => some ((d4.1.1, ()), ())) (fun _ => some (((-1), ()), ()))
def g124 (d : (List jO) × (jO → Option Bool) × Unit) : Option ((Int × Unit) × (Unit)) := F124 qe d.1 d.2.1
def p124 : qD := ⟨[.v (.list false 80 (.str (.pair zI qS))), .v (.fn (.str (.pair zI qS)) .bool)], [.v zI], g124⟩
def c124 : qT := ⟨19, tyT, [], [], [(2, l124_2)], [], [], [], [], [], [], [], [], [], none⟩
theorem F124_eq (n : Nat) (d) : qx c124 n Tryz.f124 (body Tryz.f124) p124.ps p124.rs d = F124 n d.1 d.2.1 := by kernel_rfl
theorem L124_2_eq (n : Nat) (d) : (l124_2).g (n + 1) d = run c124 n (jZ 0 (qd (body Tryz.f124))) ((l124_2).ins.fill d) (qN (l124_2) n) := by kernel_rfl
theorem ls124 : qd (body Tryz.f124) = [jZ 0 (qd (body Tryz.f124))] := by kernel_rfl
theorem h124 : qu Tryz.prog 124 p124 := hQ (cfg := c124) (qn qo (qh) rfl (by kernel_rfl)) Tryz.func124 (by kernel_rfl) (by rw [ls124]; simp only [List.forall_mem_cons]; exact ⟨qC (key := 2) (li := l124_2) (by kernel_rfl) rfl (fun _ => rfl) (L124_2_eq), fun _ h => by cases h⟩) (by kernel_rfl) (F124_eq qe)
def F109 (_n : Nat) (s_0 : (List jO)) (f_1 : (jO → Option Bool)) : Option ((Bool × Unit) × (Unit)) :=
  qa (g124 (s_0, f_1, ())) fun y1 => some (((decide (y1.1.1 ≥ 0)), ()), ())
def g109 (d : (List jO) × (jO → Option Bool) × Unit) : Option ((Bool × Unit) × (Unit)) := F109 qe d.1 d.2.1
def p109 : qD := ⟨[.v (.list false 80 (.str (.pair zI qS))), .v (.fn (.str (.pair zI qS)) .bool)], [.v .bool], g109⟩
def c109 : qT := ⟨9, tyT, [], [(124, p124)], [], [], [], [], [], [], [], [], [], [], none⟩
theorem F109_eq (n : Nat) (d) : qx c109 n Tryz.f109 (body Tryz.f109) p109.ps p109.rs d = F109 n d.1 d.2.1 := by kernel_rfl
theorem h109 : qu Tryz.prog 109 p109 := hQ (cfg := c109) (qn qo (qc h124 qh) rfl (by kernel_rfl)) Tryz.func109 (by kernel_rfl) (qr (by kernel_rfl)) (by kernel_rfl) (F109_eq qe)
def F110 (_n : Nat) (x_0 : jO) (t_1 : Int) : Option ((Bool × Unit) × (Unit)) :=
  cond (x_0.2.1 == 3) (some (((x_0.2.2.1 == t_1), ()), ())) (some ((false, ()), ()))
def g110 (d : jO × Int × Unit) : Option ((Bool × Unit) × (Unit)) := F110 qe d.1 d.2.1
def p110 : qD := ⟨[.v (.str (.pair zI qS)), .r zI], [.v .bool], g110⟩
def c110 : qT := ⟨13, tyT, [], [], [], [], [], [], [], [], [], [], [], [], none⟩
theorem F110_eq (n : Nat) (d) : qx c110 n Tryz.f110 (body Tryz.f110) p110.ps p110.rs d = F110 n d.1 d.2.1 := by kernel_rfl
theorem h110 : qu Tryz.prog 110 p110 := hQ (cfg := c110) (qn qo (qh) rfl (by kernel_rfl)) Tryz.func110 (by kernel_rfl) (qr (by kernel_rfl)) (by kernel_rfl) (F110_eq qe)
def F100 (_n : Nat) (l_0 : (zTf × (List jO))) (n_1 : Int) : Option ((Bool × Unit) × (Unit)) :=
  qa (g109 (l_0.2, (fun v1 => qa (g110 (v1, n_1, ())) fun y2 => some y2.1.1), ())) fun y3 => some ((y3.1.1, ()), ())
def g100 (d : (zTf × (List jO)) × Int × Unit) : Option ((Bool × Unit) × (Unit)) := F100 qe d.1 d.2.1
def p100 : qD := ⟨[.v (.str (.pair (.str zTc) (.list false 80 (.str (.pair zI qS))))), .v zI], [.v .bool], g100⟩
def c100 : qT := ⟨9, tyT, [], [(109, p109), (110, p110)], [], [], [], [], [], [], [], [], [], [], none⟩
theorem F100_eq (n : Nat) (d) : qx c100 n Tryz.f100 (body Tryz.f100) p100.ps p100.rs d = F100 n d.1 d.2.1 := by kernel_rfl
theorem h100 : qu Tryz.prog 100 p100 := hQ (cfg := c100) (qn qo (qc h109 (qc h110 qh)) rfl (by kernel_rfl)) Tryz.func100 (by kernel_rfl) (qr (by kernel_rfl)) (by kernel_rfl) (F100_eq qe)
def F83 (_n : Nat) (l_0 : (zTf × (List jO))) (x_1 : jO) : Option ((Bool × Unit) × (Unit)) :=
  cond (decide ((l_0.2.length : Int) > 0)) (qg l_0.2 (IntKind.wrap .i64 ((l_0.2.length : Int) - 1)) fun e1 => qa (g95 (x_1.1, e1.1, 10000, ())) fun y2 => cond (!y2.1.1) (some ((false, ()), ())) (cond (x_1.2.1 == 1) (qa (g95 (x_1.2.2.1, 0, (IntKind.wrap .i64 ((l_0.1.1.length : Int) - 1)), ())) fun y3 => cond y3.1.1 (qa (g98 (l_0, x_1.2.2.1, x_1.2.2.2.1, x_1.2.2.2.2, ())) fun y4 => some ((y4.1.1, ()), ())) (some ((false, ()), ()))) (cond (x_1.2.1 == 2) (qa (g99 (l_0, x_1.2.2.1, ())) fun y5 => cond y5.1.1 (qa (g95 (x_1.2.2.2.1, 1, 3, ())) fun y6 => cond y6.1.1 (some (((x_1.2.2.2.2 == 0), ()), ())) (some ((false, ()), ()))) (some ((false, ()), ()))) (cond (x_1.2.1 == 3) (qa (g95 (x_1.2.2.1, 0, (IntKind.wrap .i64 ((l_0.2.length : Int) - 1)), ())) fun y7 => cond y7.1.1 (qg l_0.2 x_1.2.2.1 fun e8 => cond (e8.2.1 == 2) (qa (g100 (l_0, x_1.2.2.1, ())) fun y9 => cond (!y9.1.1) (qa (g101 (l_0, x_1.2.2.2.1, ())) fun y10 => cond y10.1.1 (some (((x_1.2.2.2.2 == 0), ()), ())) (some ((false, ()), ()))) (some ((false, ()), ()))) (some ((false, ()), ()))) (some ((false, ()), ()))) (cond (x_1.2.1 == 4) (qa (g99 (l_0, x_1.2.2.1, ())) fun y11 => cond y11.1.1 (qa (g101 (l_0, x_1.2.2.2.1, ())) fun y12 => cond y12.1.1 (some (((x_1.2.2.2.2 == 0), ()), ())) (some ((false, ()), ()))) (some ((false, ()), ()))) (cond (x_1.2.1 == 5) (qa (g99 (l_0, x_1.2.2.1, ())) fun y13 => cond y13.1.1 (qa (g95 (x_1.2.2.2.1, 0, 10000, ())) fun y14 => cond y14.1.1 (some (((x_1.2.2.2.2 == 0), ()), ())) (some ((false, ()), ()))) (some ((false, ()), ()))) (cond (x_1.2.1 == 6) (qa (g99 (l_0, x_1.2.2.1, ())) fun y15 => cond y15.1.1 (cond (x_1.2.2.2.1 == 0) (some (((x_1.2.2.2.2 == 0), ()), ())) (some ((false, ()), ()))) (some ((false, ()), ()))) (some ((false, ()), ()))))))))) (qa (g95 (x_1.1, 0, 10000, ())) fun y16 => cond (!y16.1.1) (some ((false, ()), ())) (cond (x_1.2.1 == 1) (qa (g95 (x_1.2.2.1, 0, (IntKind.wrap .i64 ((l_0.1.1.length : Int) - 1)), ())) fun y17 => cond y17.1.1 (qa (g98 (l_0, x_1.2.2.1, x_1.2.2.2.1, x_1.2.2.2.2, ())) fun y18 => some ((y18.1.1, ()), ())) (some ((false, ()), ()))) (cond (x_1.2.1 == 2) (qa (g99 (l_0, x_1.2.2.1, ())) fun y19 => cond y19.1.1 (qa (g95 (x_1.2.2.2.1, 1, 3, ())) fun y20 => cond y20.1.1 (some (((x_1.2.2.2.2 == 0), ()), ())) (some ((false, ()), ()))) (some ((false, ()), ()))) (cond (x_1.2.1 == 3) (qa (g95 (x_1.2.2.1, 0, (IntKind.wrap .i64 ((l_0.2.length : Int) - 1)), ())) fun y21 => cond y21.1.1 (qg l_0.2 x_1.2.2.1 fun e22 => cond (e22.2.1 == 2) (qa (g100 (l_0, x_1.2.2.1, ())) fun y23 => cond (!y23.1.1) (qa (g101 (l_0, x_1.2.2.2.1, ())) fun y24 => cond y24.1.1 (some (((x_1.2.2.2.2 == 0), ()), ())) (some ((false, ()), ()))) (some ((false, ()), ()))) (some ((false, ()), ()))) (some ((false, ()), ()))) (cond (x_1.2.1 == 4) (qa (g99 (l_0, x_1.2.2.1, ())) fun y25 => cond y25.1.1 (qa (g101 (l_0, x_1.2.2.2.1, ())) fun y26 => cond y26.1.1 (some (((x_1.2.2.2.2 == 0), ()), ())) (some ((false, ()), ()))) (some ((false, ()), ()))) (cond (x_1.2.1 == 5) (qa (g99 (l_0, x_1.2.2.1, ())) fun y27 => cond y27.1.1 (qa (g95 (x_1.2.2.2.1, 0, 10000, ())) fun y28 => cond y28.1.1 (some (((x_1.2.2.2.2 == 0), ()), ())) (some ((false, ()), ()))) (some ((false, ()), ()))) (cond (x_1.2.1 == 6) (qa (g99 (l_0, x_1.2.2.1, ())) fun y29 => cond y29.1.1 (cond (x_1.2.2.2.1 == 0) (some (((x_1.2.2.2.2 == 0), ()), ())) (some ((false, ()), ()))) (some ((false, ()), ()))) (some ((false, ()), ())))))))))
def g83 (d : (zTf × (List jO)) × jO × Unit) : Option ((Bool × Unit) × (Unit)) := F83 qe d.1 d.2.1
def p83 : qD := ⟨[.v (.str (.pair (.str zTc) (.list false 80 (.str (.pair zI qS))))), .v (.str (.pair zI qS))], [.v .bool], g83⟩
def c83 : qT := ⟨148, tyT, [], [(95, p95), (98, p98), (99, p99), (100, p100), (101, p101)], [], [], [], [], [], [], [], [], [], [], none⟩
theorem F83_eq (n : Nat) (d) : qx c83 n Tryz.f83 (body Tryz.f83) p83.ps p83.rs d = F83 n d.1 d.2.1 := by kernel_rfl
theorem h83 : qu Tryz.prog 83 p83 := hQ (cfg := c83) (qn qo (qc h95 (qc h98 (qc h99 (qc h100 (qc h101 qh))))) rfl (by kernel_rfl)) Tryz.func83 (by kernel_rfl) (qr (by kernel_rfl)) (by kernel_rfl) (F83_eq qe)
def B57_8 (_n : Nat) (L : ((List jO) × Int × Int × Unit) × ((zTf × (List jO)) × Unit) × Unit → Option (((Int × Int × Unit) × ((zTf × (List jO)) × Unit) × Unit) ⊕ ((Unit) × ((zTf × (List jO)) × Unit) × Unit))) (t_22 : List jO) (t_23 : Int) (t_24 : Int) (o_4 : zTf × (List jO)) : Option (((Int × Int × Unit) × ((zTf × (List jO)) × Unit) × Unit) ⊕ ((Unit) × ((zTf × (List jO)) × Unit) × Unit)) :=
  cond (decide (t_24 < t_23)) (qg t_22 t_24 fun e2 => qa (g83 (o_4, e2, ())) fun y3 => cond (!y3.1.1) (some (.inl ((t_24, 101, ()), (o_4, ()), ()))) (qY ((o_4.2.length : Int) + [e2].length) (L ((t_22, t_23, (IntKind.wrap .i64 (t_24 + 1)), ()), ((o_4.1, (o_4.2 ++ [e2])), ()), ())))) (some (.inr ((), (o_4, ()), ())))
def L57_8 : Nat → ((List jO) × Int × Int × Unit) × ((zTf × (List jO)) × Unit) × Unit → Option (((Int × Int × Unit) × ((zTf × (List jO)) × Unit) × Unit) ⊕ ((Unit) × ((zTf × (List jO)) × Unit) × Unit))
  | 0, _ => none
  | n + 1, d => B57_8 n (L57_8 n) d.1.1 d.1.2.1 d.1.2.2.1 d.2.1.1
def l57_8 : q9 := ⟨⟨[(4, .c (.ptr 4 [])), (22, .v (.list false 80 (.str (.pair zI qS)))), (23, .v zI), (24, .v zI)], [(4, false, .str (.pair (.str zTc) (.list true 80 (.str (.pair zI qS)))))], none⟩, [(.ret, ⟨[(4, .c (.ptr 4 [])), (5, .v zI), (6, .v zI)], [(4, false, .str (.pair (.str zTc) (.list true 80 (.str (.pair zI qS)))))], none⟩), (.exit 0, ⟨[(4, .c (.ptr 4 []))], [(4, false, .str (.pair (.str zTc) (.list true 80 (.str (.pair zI qS)))))], none⟩)], L57_8⟩
def F57 (n : Nat) (b_0 : zTf) (entries_1 : (List jO)) : Option (((zTf × (List jO)) × Int × Int × Unit) × (Unit)) :=
  qa (g82 (b_0, ())) fun y1 => cond (y1.1.1 != 0) (some ((((([] : List (Int × (Int × (Int × Bool)))), (([] : List Int), ([] : List Int))), ([] : List jO)), 0, y1.1.1, ()), ())) (cond (decide ((entries_1.length : Int) > 100)) (some ((((([] : List (Int × (Int × (Int × Bool)))), (([] : List Int), ([] : List Int))), ([] : List jO)), 0, 2, ()), ())) (qa (L57_8 n ((entries_1, (entries_1.length : Int), 0, ()), ((b_0, ([] : List jO)), ()), ())) fun o4 => qbb o4 (fun d5 => some ((d5.2.1.1, d5.1.1, d5.1.2.1, ()), ())) (fun d6 => some ((d6.2.1.1, 0, 0, ()), ()))))
def g57 (d : zTf × (List jO) × Unit) : Option (((zTf × (List jO)) × Int × Int × Unit) × (Unit)) := F57 qe d.1 d.2.1
def p57 : qD := ⟨[.v (.str zTc), .v (.list false 80 (.str (.pair zI qS)))], [.v (.str (.pair (.str zTc) (.list false 80 (.str (.pair zI qS))))), .v zI, .v zI], g57⟩
def c57 : qT := ⟨43, tyT, [(4, .str (.pair (.str zTc) (.list true 80 (.str (.pair zI qS))))), (21, .str (.pair (.str zTc) (.list true 80 (.str (.pair zI qS)))))], [(82, p82), (83, p83)], [(8, l57_8)], [], [], [], [], [], [], [], [], [], none⟩
theorem F57_eq (n : Nat) (d) : qx c57 n Tryz.f57 (body Tryz.f57) p57.ps p57.rs d = F57 n d.1 d.2.1 := by kernel_rfl
theorem L57_8_eq (n : Nat) (d) : (l57_8).g (n + 1) d = run c57 n (jZ 0 (qd (body Tryz.f57))) ((l57_8).ins.fill d) (qN (l57_8) n) := by kernel_rfl
theorem ls57 : qd (body Tryz.f57) = [jZ 0 (qd (body Tryz.f57))] := by kernel_rfl
theorem h57 : qu Tryz.prog 57 p57 := hQ (cfg := c57) (qn qo (qc h82 (qc h83 qh)) rfl (by kernel_rfl)) Tryz.func57 (by kernel_rfl) (by rw [ls57]; simp only [List.forall_mem_cons]; exact ⟨qC (key := 8) (li := l57_8) (by kernel_rfl) rfl (fun _ => rfl) (L57_8_eq), fun _ h => by cases h⟩) (by kernel_rfl) (F57_eq qe)
def F18 (_n : Nat) (b_0 : zTf) (l_1 : (List jO)) : Option ((Int × Int × Unit) × (Unit)) :=
  qa (g57 (b_0, l_1, ())) fun y1 => some ((y1.1.2.1, y1.1.2.2.1, ()), ())
def g18 (d : zTf × (List jO) × Unit) : Option ((Int × Int × Unit) × (Unit)) := F18 qe d.1 d.2.1
def p18 : qD := ⟨[.v (.str zTc), .v (.list false 80 (.str (.pair zI qS)))], [.v zI, .v zI], g18⟩
def c18 : qT := ⟨15, tyT, [], [(57, p57)], [], [], [], [], [], [], [], [], [], [], none⟩
theorem F18_eq (n : Nat) (d) : qx c18 n Tryz.f18 (body Tryz.f18) p18.ps p18.rs d = F18 n d.1 d.2.1 := by kernel_rfl
theorem d18 : qj c18 (body Tryz.f18) = true := by kernel_rfl
theorem h18 : qu Tryz.prog 18 p18 := hQ (cfg := c18) (qn qo (qc h57 qh) rfl (by kernel_rfl)) Tryz.func18 (by kernel_rfl) (qr (by kernel_rfl)) d18 (F18_eq qe)
def F58 (_n : Nat) (n_0 : Int) (low_1 : Int) (high_2 : Int) : Option ((Bool × Unit) × (Unit)) :=
  cond (decide (n_0 ≥ low_1)) (some (((decide (n_0 ≤ high_2)), ()), ())) (some ((false, ()), ()))
def g58 (d : Int × Int × Int × Unit) : Option ((Bool × Unit) × (Unit)) := F58 qe d.1 d.2.1 d.2.2.1
def p58 : qD := ⟨[.v zI, .v zI, .v zI], [.v .bool], g58⟩
def c58 : qT := ⟨15, tyT, [], [], [], [], [], [], [], [], [], [], [], [], none⟩
theorem F58_eq (n : Nat) (d) : qx c58 n Tryz.f58 (body Tryz.f58) p58.ps p58.rs d = F58 n d.1 d.2.1 d.2.2.1 := by kernel_rfl
theorem h58 : qu Tryz.prog 58 p58 := hQ (cfg := c58) (qn qo (qh) rfl (by kernel_rfl)) Tryz.func58 (by kernel_rfl) (qr (by kernel_rfl)) (by kernel_rfl) (F58_eq qe)
def B19_4 (_n : Nat) (L : (zTx × Int × Int × Unit) × (zTi × Unit) × Unit → Option (zTp ⊕ ((Unit) × (zTi × Unit) × Unit))) (t_36 : List (Int × (Int × (Int × Int)))) (t_37 : Int) (t_38 : Int) (o_1 : zTx × (zTx × (Int × (Int × Int)))) : Option (zTp ⊕ ((Unit) × (zTi × Unit) × Unit)) :=
  cond (decide (t_38 < t_37)) (qg t_36 t_38 fun e4 => qa (g58 (e4.1, (-1), (IntKind.wrap .i64 (t_38 - 1)), ())) fun y5 => cond (!y5.1.1) (some (.inl ((50, ()), (), ()))) (qa (g58 (e4.2.1, 1, 1000, ())) fun y6 => cond (!y6.1.1) (some (.inl ((50, ()), (), ()))) (qa (g58 (e4.2.2.1, 0, 20, ())) fun y7 => cond (!y7.1.1) (some (.inl ((50, ()), (), ()))) (qa (g58 (e4.2.2.2, 1, 10000, ())) fun y8 => cond (!y8.1.1) (some (.inl ((50, ()), (), ()))) (L ((t_36, t_37, (IntKind.wrap .i64 (t_38 + 1)), ()), (o_1, ()), ())))))) (some (.inr ((), (o_1, ()), ())))
def L19_4 : Nat → (zTx × Int × Int × Unit) × (zTi × Unit) × Unit → Option (zTp ⊕ ((Unit) × (zTi × Unit) × Unit))
  | 0, _ => none
  | n + 1, d => B19_4 n (L19_4 n) d.1.1 d.1.2.1 d.1.2.2.1 d.2.1.1
def l19_4 : q9 := ⟨⟨[(1, .c (.ptr 1 [])), (36, .v (.list false 128 (.str qS))), (37, .v zI), (38, .v zI)], [(1, false, .str (.pair (.list false 128 (.str qS)) (.pair (.list false 130 (.str qS)) zTj)))], none⟩, [(.ret, ⟨[(2, .v zI)], [], none⟩), (.exit 0, ⟨[(1, .c (.ptr 1 []))], [(1, false, .str (.pair (.list false 128 (.str qS)) (.pair (.list false 130 (.str qS)) zTj)))], none⟩)], L19_4⟩
def B19_10 (_n : Nat) (L : (zTx × Int × Int × Unit) × (zTi × Unit) × Unit → Option (zTp ⊕ ((Unit) × (Unit) × Unit))) (t_69 : List (Int × (Int × (Int × Int)))) (t_70 : Int) (t_71 : Int) (o_1 : zTx × (zTx × (Int × (Int × Int)))) : Option (zTp ⊕ ((Unit) × (Unit) × Unit)) :=
  cond (decide (t_71 < t_70)) (qg t_69 t_71 fun e12 => qa (g58 (e12.1, 0, (IntKind.wrap .i64 ((o_1.1.length : Int) - 1)), ())) fun y13 => cond (!y13.1.1) (some (.inl ((50, ()), (), ()))) (qa (g58 (e12.2.1, 0, 2, ())) fun y14 => cond (!y14.1.1) (some (.inl ((50, ()), (), ()))) (qa (g58 (e12.2.2.1, 1, 1000, ())) fun y15 => cond (!y15.1.1) (some (.inl ((50, ()), (), ()))) (qa (g58 (e12.2.2.2, 0, 1000, ())) fun y16 => cond (!y16.1.1) (some (.inl ((50, ()), (), ()))) (L ((t_69, t_70, (IntKind.wrap .i64 (t_71 + 1)), ()), (o_1, ()), ())))))) (some (.inr ((), (), ())))
def L19_10 : Nat → (zTx × Int × Int × Unit) × (zTi × Unit) × Unit → Option (zTp ⊕ ((Unit) × (Unit) × Unit))
  | 0, _ => none
  | n + 1, d => B19_10 n (L19_10 n) d.1.1 d.1.2.1 d.1.2.2.1 d.2.1.1
def l19_10 : q9 := ⟨⟨[(1, .c (.ptr 1 [])), (69, .v (.list false 130 (.str qS))), (70, .v zI), (71, .v zI)], [(1, false, .str (.pair (.list false 128 (.str qS)) (.pair (.list false 130 (.str qS)) zTj)))], none⟩, [(.ret, ⟨[(2, .v zI)], [], none⟩), (.exit 2, ⟨[], [], none⟩)], L19_10⟩
def F19 (n : Nat) (s_0 : zTi) : Option ((Int × Unit) × (Unit)) :=
  cond (decide ((s_0.1.length : Int) > 10)) (some ((50, ()), ())) (cond (decide ((s_0.2.1.length : Int) > 16)) (some ((50, ()), ())) (qa (g58 (s_0.2.2.1, 1, 1000, ())) fun y1 => cond (!y1.1.1) (some ((50, ()), ())) (qa (g58 (s_0.2.2.2.1, 0, 20, ())) fun y2 => cond (!y2.1.1) (some ((50, ()), ())) (qa (g58 (s_0.2.2.2.2, 1, 1000, ())) fun y3 => cond (!y3.1.1) (some ((50, ()), ())) (qa (L19_4 n ((s_0.1, (s_0.1.length : Int), 0, ()), (s_0, ()), ())) fun o9 => qbb o9 (fun d10 => some ((d10.1.1, ()), ())) (fun d11 => qa (L19_10 n ((d11.2.1.1.2.1, (d11.2.1.1.2.1.length : Int), 0, ()), (d11.2.1.1, ()), ())) fun o17 => qbb o17 (fun d18 => some ((d18.1.1, ()), ())) (fun _ => some ((0, ()), ()))))))))
def g19 (d : zTi × Unit) : Option ((Int × Unit) × (Unit)) := F19 qe d.1
def p19 : qD := ⟨[.v (.str (.pair (.list false 128 (.str qS)) (.pair (.list false 130 (.str qS)) zTj)))], [.v zI], g19⟩
def c19 : qT := ⟨102, tyT, [], [(58, p58)], [(4, l19_4), (10, l19_10)], [], [], [], [], [], [], [], [], [], none⟩
theorem F19_eq (n : Nat) (d) : qx c19 n Tryz.f19 (body Tryz.f19) p19.ps p19.rs d = F19 n d.1 := by kernel_rfl
theorem L19_4_eq (n : Nat) (d) : (l19_4).g (n + 1) d = run c19 n (jZ 0 (qd (body Tryz.f19))) ((l19_4).ins.fill d) (qN (l19_4) n) := by kernel_rfl
theorem L19_10_eq (n : Nat) (d) : (l19_10).g (n + 1) d = run c19 n (jZ 1 (qd (body Tryz.f19))) ((l19_10).ins.fill d) (qN (l19_10) n) := by kernel_rfl
theorem ls19 : qd (body Tryz.f19) = [jZ 0 (qd (body Tryz.f19)), jZ 1 (qd (body Tryz.f19))] := by kernel_rfl
theorem h19 : qu Tryz.prog 19 p19 := hQ (cfg := c19) (qn qo (qc h58 qh) rfl (by kernel_rfl)) Tryz.func19 (by kernel_rfl) (by rw [ls19]; simp only [List.forall_mem_cons]; exact ⟨qC (key := 4) (li := l19_4) (by kernel_rfl) rfl (fun _ => rfl) (L19_4_eq), qC (key := 10) (li := l19_10) (by kernel_rfl) rfl (fun _ => rfl) (L19_10_eq), fun _ h => by cases h⟩) (by kernel_rfl) (F19_eq qe)
def F22 (_n : Nat) (n_0 : Int) (low_1 : Int) (high_2 : Int) : Option ((Bool × Unit) × (Unit)) :=
  cond (decide (n_0 ≥ low_1)) (some (((decide (n_0 ≤ high_2)), ()), ())) (some ((false, ()), ()))
def g22 (d : Int × Int × Int × Unit) : Option ((Bool × Unit) × (Unit)) := F22 qe d.1 d.2.1 d.2.2.1
def p22 : qD := ⟨[.v zI, .v zI, .v zI], [.v .bool], g22⟩
def c22 : qT := ⟨15, tyT, [], [], [], [], [], [], [], [], [], [], [], [], none⟩
theorem F22_eq (n : Nat) (d) : qx c22 n Tryz.f22 (body Tryz.f22) p22.ps p22.rs d = F22 n d.1 d.2.1 d.2.2.1 := by kernel_rfl
theorem h22 : qu Tryz.prog 22 p22 := hQ (cfg := c22) (qn qo (qh) rfl (by kernel_rfl)) Tryz.func22 (by kernel_rfl) (qr (by kernel_rfl)) (by kernel_rfl) (F22_eq qe)
def F21 (_n : Nat) (x_0 : Int) (t_1 : Int) : Option ((Bool × Unit) × (Unit)) :=
  qa (g22 (x_0, 0, t_1, ())) fun y1 => some (((!y1.1.1), ()), ())
def g21 (d : Int × Int × Unit) : Option ((Bool × Unit) × (Unit)) := F21 qe d.1 d.2.1
def p21 : qD := ⟨[.v zI, .r zI], [.v .bool], g21⟩
def c21 : qT := ⟨8, tyT, [], [(22, p22)], [], [], [], [], [], [], [], [], [], [], none⟩
theorem F21_eq (n : Nat) (d) : qx c21 n Tryz.f21 (body Tryz.f21) p21.ps p21.rs d = F21 n d.1 d.2.1 := by kernel_rfl
theorem h21 : qu Tryz.prog 21 p21 := hQ (cfg := c21) (qn qo (qc h22 qh) rfl (by kernel_rfl)) Tryz.func21 (by kernel_rfl) (qr (by kernel_rfl)) (by kernel_rfl) (F21_eq qe)
def F8 (_n : Nat) (g_0 : zTl) : Option ((Int × Unit) × (Unit)) :=
  qa (g17 (g_0.1, [], ())) fun y1 => cond (y1.1.1 != 0) (some ((y1.1.1, ()), ())) (qa (g18 (g_0.2.1, g_0.2.2.1, ())) fun y2 => cond (y2.1.2.1 != 0) (some ((y2.1.2.1, ()), ())) (qa (g19 (g_0.2.2.2.2.1, ())) fun y3 => cond (y3.1.1 != 0) (some ((y3.1.1, ()), ())) (cond ((g_0.2.1.2.2.length : Int) != (g_0.1.1.length : Int)) (cond ((g_0.2.1.2.2.length : Int) != (g_0.1.1.length : Int)) (some ((120, ()), ())) (qa (Mk.m20.p.g (200, ())) fun y4 => qa (g23 (g_0.2.2.2.2.2.1, (fun v5 => qa y4.1.1 fun q7 => qa (g21 (v5, q7, ())) fun y6 => some y6.1.1), ())) fun y8 => cond y8.1.1 (cond y8.1.1 (some ((120, ()), ())) (some ((0, ()), ()))) (qa (Mk.m20.p.g (100, ())) fun y9 => qa (g23 (g_0.2.2.2.2.2.2, (fun v10 => qa y9.1.1 fun q12 => qa (g21 (v10, q12, ())) fun y11 => some y11.1.1), ())) fun y13 => cond y13.1.1 (some ((120, ()), ())) (some ((0, ()), ()))))) (cond ((g_0.2.2.2.2.1.2.1.length : Int) != (g_0.1.1.length : Int)) (cond ((g_0.2.2.2.2.1.2.1.length : Int) != (g_0.1.1.length : Int)) (some ((120, ()), ())) (qa (Mk.m20.p.g (200, ())) fun y14 => qa (g23 (g_0.2.2.2.2.2.1, (fun v15 => qa y14.1.1 fun q17 => qa (g21 (v15, q17, ())) fun y16 => some y16.1.1), ())) fun y18 => cond y18.1.1 (cond y18.1.1 (some ((120, ()), ())) (some ((0, ()), ()))) (qa (Mk.m20.p.g (100, ())) fun y19 => qa (g23 (g_0.2.2.2.2.2.2, (fun v20 => qa y19.1.1 fun q22 => qa (g21 (v20, q22, ())) fun y21 => some y21.1.1), ())) fun y23 => cond y23.1.1 (some ((120, ()), ())) (some ((0, ()), ()))))) (cond ((g_0.2.2.2.2.2.1.length : Int) != (g_0.1.1.length : Int)) (cond ((g_0.2.2.2.2.2.1.length : Int) != (g_0.1.1.length : Int)) (some ((120, ()), ())) (qa (Mk.m20.p.g (200, ())) fun y24 => qa (g23 (g_0.2.2.2.2.2.1, (fun v25 => qa y24.1.1 fun q27 => qa (g21 (v25, q27, ())) fun y26 => some y26.1.1), ())) fun y28 => cond y28.1.1 (cond y28.1.1 (some ((120, ()), ())) (some ((0, ()), ()))) (qa (Mk.m20.p.g (100, ())) fun y29 => qa (g23 (g_0.2.2.2.2.2.2, (fun v30 => qa y29.1.1 fun q32 => qa (g21 (v30, q32, ())) fun y31 => some y31.1.1), ())) fun y33 => cond y33.1.1 (some ((120, ()), ())) (some ((0, ()), ()))))) (cond ((g_0.2.2.2.2.2.2.length : Int) != (g_0.1.1.length : Int)) (cond ((g_0.2.2.2.2.2.2.length : Int) != (g_0.1.1.length : Int)) (some ((120, ()), ())) (qa (Mk.m20.p.g (200, ())) fun y34 => qa (g23 (g_0.2.2.2.2.2.1, (fun v35 => qa y34.1.1 fun q37 => qa (g21 (v35, q37, ())) fun y36 => some y36.1.1), ())) fun y38 => cond y38.1.1 (cond y38.1.1 (some ((120, ()), ())) (some ((0, ()), ()))) (qa (Mk.m20.p.g (100, ())) fun y39 => qa (g23 (g_0.2.2.2.2.2.2, (fun v40 => qa y39.1.1 fun q42 => qa (g21 (v40, q42, ())) fun y41 => some y41.1.1), ())) fun y43 => cond y43.1.1 (some ((120, ()), ())) (some ((0, ()), ()))))) (qa (g22 (g_0.2.2.2.1, 0, 10000, ())) fun y44 => cond (!y44.1.1) (some ((120, ()), ())) (qa (Mk.m20.p.g (200, ())) fun y45 => qa (g23 (g_0.2.2.2.2.2.1, (fun v46 => qa y45.1.1 fun q48 => qa (g21 (v46, q48, ())) fun y47 => some y47.1.1), ())) fun y49 => cond y49.1.1 (cond y49.1.1 (some ((120, ()), ())) (some ((0, ()), ()))) (qa (Mk.m20.p.g (100, ())) fun y50 => qa (g23 (g_0.2.2.2.2.2.2, (fun v51 => qa y50.1.1 fun q53 => qa (g21 (v51, q53, ())) fun y52 => some y52.1.1), ())) fun y54 => cond y54.1.1 (some ((120, ()), ())) (some ((0, ()), ())))))))))))
def g8 (d : zTl × Unit) : Option ((Int × Unit) × (Unit)) := F8 qe d.1
def p8 : qD := ⟨[.v (.str (.pair (.str zTh) (.pair (.str zTc) (.pair (.list false 80 (.str (.pair zI qS))) (.pair zI (.pair (.str (.pair (.list false 128 (.str qS)) (.pair (.list false 130 (.str qS)) zTj))) zTq))))))], [.v zI], g8⟩
def c8 : qT := ⟨74, tyT, [(1, .str (.pair (.str zTh) (.pair (.str zTc) (.pair (.list false 80 (.str (.pair zI qS))) (.pair zI (.pair (.str (.pair (.list false 128 (.str qS)) (.pair (.list false 130 (.str qS)) zTj))) zTq))))))], [(17, p17), (18, p18), (19, p19), (21, p21), (22, p22), (23, p23)], [], [], [18, 19], [], [], [(20, Mk.m20)], [], [], [], [], none⟩
theorem F8_eq (n : Nat) (d) : qx c8 n Tryz.f8 (body Tryz.f8) p8.ps p8.rs d = F8 n d.1 := by kernel_rfl
theorem d8 : qj c8 (body Tryz.f8) = true := by kernel_rfl
theorem h8 : qu Tryz.prog 8 p8 := hQ (cfg := c8) (qn qo (qc h17 (qc h18 (qc h19 (qc h21 (qc h22 (qc h23 qh)))))) rfl (by kernel_rfl) (qjj (qgP Mk.k20 qjl))) Tryz.func8 (by kernel_rfl) (qr (by kernel_rfl)) d8 (F8_eq qe)
def F24 (_n : Nat) (f_0 : ((List zTr) × Int)) : Option ((((List zTr) × Int) × Unit) × (Unit)) :=
  qY ((([] : List zTr).length : Int) + f_0.1.length) (some ((((([] : List zTr) ++ f_0.1), f_0.2), ()), ()))
def g24 (d : ((List zTr) × Int) × Unit) : Option ((((List zTr) × Int) × Unit) × (Unit)) := F24 qe d.1
def p24 : qD := ⟨[.v (.str zTh)], [.v (.str zTh)], g24⟩
def c24 : qT := ⟨10, tyT, [(1, .str zTh), (6, .list true 149 (.str (.pair zI (.pair zI zTk))))], [], [], [], [1], [], [], [], [], [], [], [], none⟩
theorem F24_eq (n : Nat) (d) : qx c24 n Tryz.f24 (body Tryz.f24) p24.ps p24.rs d = F24 n d.1 := by kernel_rfl
theorem h24 : qu Tryz.prog 24 p24 := hQ (cfg := c24) (qn qo (qh) rfl (by kernel_rfl)) Tryz.func24 (by kernel_rfl) (qr (by kernel_rfl)) (by kernel_rfl) (F24_eq qe)
def F9 (_n : Nat) (g_0 : zTl) : Option ((zTl × Unit) × (Unit)) :=
  qa (g24 (g_0.1, ())) fun y1 => qdE (qY ((([] : List jO).length : Int) + g_0.2.2.1.length) (jM (((y1.1.1, g_0.2).1, (((([] : List (Int × (Int × (Int × Bool)))) ++ g_0.2.1.1), (([] : List Int) ++ g_0.2.1.2.1), (([] : List Int) ++ g_0.2.1.2.2)), ((y1.1.1, g_0.2).2).2)).1, ((((y1.1.1, g_0.2).1, (((([] : List (Int × (Int × (Int × Bool)))) ++ g_0.2.1.1), (([] : List Int) ++ g_0.2.1.2.1), (([] : List Int) ++ g_0.2.1.2.2)), ((y1.1.1, g_0.2).2).2)).2).1, ((([] : List jO) ++ g_0.2.2.1), ((((y1.1.1, g_0.2).1, (((([] : List (Int × (Int × (Int × Bool)))) ++ g_0.2.1.1), (([] : List Int) ++ g_0.2.1.2.1), (([] : List Int) ++ g_0.2.1.2.2)), ((y1.1.1, g_0.2).2).2)).2).2).2))) fun z2 => qY ((([] : List (Int × (Int × (Int × Int)))).length : Int) + g_0.2.2.2.2.1.1.length) (jM (z2.1, (z2.2.1, (z2.2.2.1, (z2.2.2.2.1, (((([] : List (Int × (Int × (Int × Int)))) ++ g_0.2.2.2.2.1.1), z2.2.2.2.2.1.2), z2.2.2.2.2.2))))) fun z3 => qY ((([] : List (Int × (Int × (Int × Int)))).length : Int) + g_0.2.2.2.2.1.2.1.length) (jM (z3.1, (z3.2.1, (z3.2.2.1, (z3.2.2.2.1, ((z3.2.2.2.2.1.1, ((([] : List (Int × (Int × (Int × Int)))) ++ g_0.2.2.2.2.1.2.1), z3.2.2.2.2.1.2.2)), z3.2.2.2.2.2))))) fun z4 => qY ((([] : List Int).length : Int) + g_0.2.2.2.2.2.1.length) (jM (z4.1, (z4.2.1, (z4.2.2.1, (z4.2.2.2.1, (z4.2.2.2.2.1, ((([] : List Int) ++ g_0.2.2.2.2.2.1), z4.2.2.2.2.2.2)))))) fun z5 => qY ((([] : List Int).length : Int) + g_0.2.2.2.2.2.2.length) (jM (z5.1, (z5.2.1, (z5.2.2.1, (z5.2.2.2.1, (z5.2.2.2.2.1, (z5.2.2.2.2.2.1, (([] : List Int) ++ g_0.2.2.2.2.2.2))))))) fun z6 => some ((z6, ()), ()))))))) fun E => qR [qR [qY ((([] : List (Int × (Int × (Int × Bool)))).length : Int) + g_0.2.1.1.length) (qR [qR [qY ((([] : List Int).length : Int) + g_0.2.1.2.1.length) (qY ((([] : List Int).length : Int) + g_0.2.1.2.2.length) (E)), qY ((([] : List Int).length : Int) + g_0.2.1.2.1.length) (qY ((([] : List Int).length : Int) + g_0.2.1.2.2.length) (E))], qY ((([] : List Int).length : Int) + g_0.2.1.2.1.length) (qY ((([] : List Int).length : Int) + g_0.2.1.2.2.length) (E))]), qR [qY ((([] : List (Int × (Int × (Int × Bool)))).length : Int) + g_0.2.1.1.length) (qR [qY ((([] : List Int).length : Int) + g_0.2.1.2.1.length) (qY ((([] : List Int).length : Int) + g_0.2.1.2.2.length) (E)), qY ((([] : List Int).length : Int) + g_0.2.1.2.1.length) (qY ((([] : List Int).length : Int) + g_0.2.1.2.2.length) (E))]), qY ((([] : List (Int × (Int × (Int × Bool)))).length : Int) + g_0.2.1.1.length) (qY ((([] : List Int).length : Int) + g_0.2.1.2.1.length) (qY ((([] : List Int).length : Int) + g_0.2.1.2.2.length) (E)))], qR [qY ((([] : List (Int × (Int × (Int × Bool)))).length : Int) + g_0.2.1.1.length) (qY ((([] : List Int).length : Int) + g_0.2.1.2.1.length) (qY ((([] : List Int).length : Int) + g_0.2.1.2.2.length) (E))), qY ((([] : List (Int × (Int × (Int × Bool)))).length : Int) + g_0.2.1.1.length) (qY ((([] : List Int).length : Int) + g_0.2.1.2.1.length) (qY ((([] : List Int).length : Int) + g_0.2.1.2.2.length) (E)))]], qR [qR [qY ((([] : List (Int × (Int × (Int × Bool)))).length : Int) + g_0.2.1.1.length) (qR [qY ((([] : List Int).length : Int) + g_0.2.1.2.1.length) (qY ((([] : List Int).length : Int) + g_0.2.1.2.2.length) (E)), qY ((([] : List Int).length : Int) + g_0.2.1.2.1.length) (qY ((([] : List Int).length : Int) + g_0.2.1.2.2.length) (E))]), qY ((([] : List (Int × (Int × (Int × Bool)))).length : Int) + g_0.2.1.1.length) (qY ((([] : List Int).length : Int) + g_0.2.1.2.1.length) (qY ((([] : List Int).length : Int) + g_0.2.1.2.2.length) (E)))], qY ((([] : List (Int × (Int × (Int × Bool)))).length : Int) + g_0.2.1.1.length) (qY ((([] : List Int).length : Int) + g_0.2.1.2.1.length) (qY ((([] : List Int).length : Int) + g_0.2.1.2.2.length) (E)))], qR [qR [qY ((([] : List (Int × (Int × (Int × Bool)))).length : Int) + g_0.2.1.1.length) (qY ((([] : List Int).length : Int) + g_0.2.1.2.1.length) (qY ((([] : List Int).length : Int) + g_0.2.1.2.2.length) (E))), qY ((([] : List (Int × (Int × (Int × Bool)))).length : Int) + g_0.2.1.1.length) (qY ((([] : List Int).length : Int) + g_0.2.1.2.1.length) (qY ((([] : List Int).length : Int) + g_0.2.1.2.2.length) (E)))], qY ((([] : List (Int × (Int × (Int × Bool)))).length : Int) + g_0.2.1.1.length) (qY ((([] : List Int).length : Int) + g_0.2.1.2.1.length) (qY ((([] : List Int).length : Int) + g_0.2.1.2.2.length) (E)))]]
def g9 (d : zTl × Unit) : Option ((zTl × Unit) × (Unit)) := F9 qe d.1
def p9 : qD := ⟨[.v (.str (.pair (.str zTh) (.pair (.str zTc) (.pair (.list false 80 (.str (.pair zI qS))) (.pair zI (.pair (.str (.pair (.list false 128 (.str qS)) (.pair (.list false 130 (.str qS)) zTj))) zTq))))))], [.ownv (.str (.pair (.str zTh) (.pair (.str zTc) (.pair (.list true 80 (.str (.pair zI qS))) (.pair zI (.pair (.str (.pair (.list true 128 (.str qS)) (.pair (.list true 130 (.str qS)) zTj))) zTq))))))], g9⟩
def c9 : qT := ⟨56, tyT, [(1, .str (.pair (.str zTh) (.pair (.str zTc) (.pair (.list false 80 (.str (.pair zI qS))) (.pair zI (.pair (.str (.pair (.list false 128 (.str qS)) (.pair (.list false 130 (.str qS)) zTj))) zTq)))))), (13, .list true 155 (.str (.pair zI zTk))), (18, .list true 3 zI), (23, .list true 3 zI), (29, .list true 80 (.str (.pair zI qS))), (35, .list true 128 (.str qS)), (42, .list true 130 (.str qS)), (48, .list true 3 zI), (53, .list true 3 zI), (55, .str (.pair (.str zTh) (.pair (.str zTc) (.pair (.list true 80 (.str (.pair zI qS))) (.pair zI (.pair (.str (.pair (.list true 128 (.str qS)) (.pair (.list true 130 (.str qS)) zTj))) zTq)))))), (2, .str (.pair (.str zTh) (.pair (.str zTc) (.pair (.list true 80 (.str (.pair zI qS))) (.pair zI (.pair (.str (.pair (.list true 128 (.str qS)) (.pair (.list true 130 (.str qS)) zTj))) zTq))))))], [(24, p24)], [], [], [3, 6000030, 6000037, 6000044], [], [], [], [], [], [], [], none⟩
theorem F9_eq (n : Nat) (d) : qx c9 n Tryz.f9 (body Tryz.f9) p9.ps p9.rs d = F9 n d.1 := by kernel_rfl
theorem h9 : qu Tryz.prog 9 p9 := hQ (cfg := c9) (qn qo (qc h24 qh) rfl (by kernel_rfl)) Tryz.func9 (by kernel_rfl) (qr (by kernel_rfl)) (by kernel_rfl) (F9_eq qe)
def F61 (_n : Nat) (n_0 : Int) (low_1 : Int) (high_2 : Int) : Option ((Bool × Unit) × (Unit)) :=
  cond (decide (n_0 ≥ low_1)) (some (((decide (n_0 ≤ high_2)), ()), ())) (some ((false, ()), ()))
def g61 (d : Int × Int × Int × Unit) : Option ((Bool × Unit) × (Unit)) := F61 qe d.1 d.2.1 d.2.2.1
def p61 : qD := ⟨[.v zI, .v zI, .v zI], [.v .bool], g61⟩
def c61 : qT := ⟨15, tyT, [], [], [], [], [], [], [], [], [], [], [], [], none⟩
theorem F61_eq (n : Nat) (d) : qx c61 n Tryz.f61 (body Tryz.f61) p61.ps p61.rs d = F61 n d.1 d.2.1 d.2.2.1 := by kernel_rfl
theorem h61 : qu Tryz.prog 61 p61 := hQ (cfg := c61) (qn qo (qh) rfl (by kernel_rfl)) Tryz.func61 (by kernel_rfl) (qr (by kernel_rfl)) (by kernel_rfl) (F61_eq qe)
def B60_4 (_n : Nat) (L : (Int × Unit) × (((List zTr) × Int) × Unit) × Unit → Option (zTp ⊕ ((Unit) × (Unit) × Unit))) (i_3 : Int) (o_1 : (List zTr) × Int) : Option (zTp ⊕ ((Unit) × (Unit) × Unit)) :=
  cond (decide (i_3 < (o_1.1.length : Int))) (qg o_1.1 i_3 fun e2 => qa (g61 (e2.1, 1, 40, ())) fun y3 => cond (!y3.1.1) (some (.inl ((70, ()), (), ()))) (qa (g61 (e2.2.1, 0, 100, ())) fun y4 => cond (!y4.1.1) (some (.inl ((70, ()), (), ()))) (qa (g61 (e2.2.2.1, 1, 100, ())) fun y5 => cond (!y5.1.1) (some (.inl ((70, ()), (), ()))) (qa (g61 (e2.2.2.2.1, 0, 100, ())) fun y6 => cond (!y6.1.1) (some (.inl ((70, ()), (), ()))) (L (((IntKind.wrap .i64 (i_3 + 1)), ()), (o_1, ()), ())))))) (some (.inr ((), (), ())))
def L60_4 : Nat → (Int × Unit) × (((List zTr) × Int) × Unit) × Unit → Option (zTp ⊕ ((Unit) × (Unit) × Unit))
  | 0, _ => none
  | n + 1, d => B60_4 n (L60_4 n) d.1.1 d.2.1.1
def l60_4 : q9 := ⟨⟨[(1, .c (.ptr 1 [])), (3, .v zI)], [(1, false, .str zTh)], none⟩, [(.ret, ⟨[(2, .v zI)], [], none⟩), (.exit 0, ⟨[], [], none⟩)], L60_4⟩
def F60 (n : Nat) (f_0 : ((List zTr) × Int)) : Option ((Int × Unit) × (Unit)) :=
  cond (decide ((f_0.1.length : Int) > 8)) (some ((70, ()), ())) (qa (g61 (f_0.2, 0, 100, ())) fun y1 => cond (!y1.1.1) (some ((70, ()), ())) (qa (L60_4 n ((0, ()), (f_0, ()), ())) fun o7 => qbb o7 (fun d8 => some ((d8.1.1, ()), ())) (fun _ => some ((0, ()), ()))))
def g60 (d : ((List zTr) × Int) × Unit) : Option ((Int × Unit) × (Unit)) := F60 qe d.1
def p60 : qD := ⟨[.v (.str zTh)], [.v zI], g60⟩
def c60 : qT := ⟨49, tyT, [], [(61, p61)], [(4, l60_4)], [], [], [], [], [], [], [], [], [], none⟩
theorem F60_eq (n : Nat) (d) : qx c60 n Tryz.f60 (body Tryz.f60) p60.ps p60.rs d = F60 n d.1 := by kernel_rfl
theorem L60_4_eq (n : Nat) (d) : (l60_4).g (n + 1) d = run c60 n (jZ 0 (qd (body Tryz.f60))) ((l60_4).ins.fill d) (qN (l60_4) n) := by kernel_rfl
theorem ls60 : qd (body Tryz.f60) = [jZ 0 (qd (body Tryz.f60))] := by kernel_rfl
theorem h60 : qu Tryz.prog 60 p60 := hQ (cfg := c60) (qn qo (qc h61 qh) rfl (by kernel_rfl)) Tryz.func60 (by kernel_rfl) (by rw [ls60]; simp only [List.forall_mem_cons]; exact ⟨qC (key := 4) (li := l60_4) (by kernel_rfl) rfl (fun _ => rfl) (L60_4_eq), fun _ h => by cases h⟩) (by kernel_rfl) (F60_eq qe)
def B25_13 (_n : Nat) (L : ((List zTt) × Int × Int × Unit) × (((List zTr) × Int) × zTt × Unit) × Unit → Option (zTp ⊕ (((List zTt) × Int × Unit) × (((List zTr) × Int) × Unit) × Unit))) (l_1 : List zTt) (i_6 : Int) (k_8 : Int) (o_2 : (List zTr) × Int) (o_7 : Int × (Int × (Int × ((List Int) × Int)))) : Option (zTp ⊕ (((List zTt) × Int × Unit) × (((List zTr) × Int) × Unit) × Unit)) :=
  cond (decide (k_8 < (o_7.2.2.2.1.length : Int))) (qg o_7.2.2.2.1 k_8 fun e7 => qa (g61 (e7, 0, (IntKind.wrap .i64 ((o_2.1.length : Int) - 1)), ())) fun y8 => cond (!y8.1.1) (some (.inl ((71, ()), (), ()))) (L ((l_1, i_6, (IntKind.wrap .i64 (k_8 + 1)), ()), (o_2, o_7, ()), ()))) (some (.inr ((l_1, i_6, ()), (o_2, ()), ())))
def L25_13 : Nat → ((List zTt) × Int × Int × Unit) × (((List zTr) × Int) × zTt × Unit) × Unit → Option (zTp ⊕ (((List zTt) × Int × Unit) × (((List zTr) × Int) × Unit) × Unit))
  | 0, _ => none
  | n + 1, d => B25_13 n (L25_13 n) d.1.1 d.1.2.1 d.1.2.2.1 d.2.1.1 d.2.1.2.1
def l25_13 : q9 := ⟨⟨[(1, .v (.list false 120 (.str zTm))), (2, .c (.ptr 2 [])), (6, .v zI), (7, .c (.ptr 7 [])), (8, .v zI)], [(2, false, .str zTh), (7, false, .str zTm)], none⟩, [(.ret, ⟨[(4, .v zI)], [], none⟩), (.exit 2, ⟨[(1, .v (.list false 120 (.str zTm))), (2, .c (.ptr 2 [])), (6, .v zI)], [(2, false, .str zTh)], none⟩)], L25_13⟩
def B25_7 (n : Nat) (L : ((List zTt) × Int × Unit) × (((List zTr) × Int) × Unit) × Unit → Option (zTp ⊕ ((Unit) × (Unit) × Unit))) (l_1 : List zTt) (i_6 : Int) (o_2 : (List zTr) × Int) : Option (zTp ⊕ ((Unit) × (Unit) × Unit)) :=
  cond (decide (i_6 < (l_1.length : Int))) (qg l_1 i_6 fun e2 => qa (g61 (e2.1, 0, 2000, ())) fun y3 => cond (!y3.1.1) (some (.inl ((71, ()), (), ()))) (qa (g61 (e2.2.1, 1, 40, ())) fun y4 => cond (!y4.1.1) (some (.inl ((71, ()), (), ()))) (qa (g61 (e2.2.2.1, 0, 10000, ())) fun y5 => cond (!y5.1.1) (some (.inl ((71, ()), (), ()))) (cond (decide ((e2.2.2.2.1.length : Int) > 10)) (some (.inl ((71, ()), (), ()))) (qa (g61 (e2.2.2.2.2, 0, 2000, ())) fun y6 => cond (!y6.1.1) (some (.inl ((71, ()), (), ()))) (qa (L25_13 n ((l_1, i_6, 0, ()), (o_2, e2, ()), ())) fun o9 => qbb o9 (fun d10 => some (.inl ((d10.1.1, ()), (), ()))) (fun d11 => L ((d11.1.1, (IntKind.wrap .i64 (d11.1.2.1 + 1)), ()), (d11.2.1.1, ()), ())))))))) (some (.inr ((), (), ())))
def L25_7 : Nat → ((List zTt) × Int × Unit) × (((List zTr) × Int) × Unit) × Unit → Option (zTp ⊕ ((Unit) × (Unit) × Unit))
  | 0, _ => none
  | n + 1, d => B25_7 n (L25_7 n) d.1.1 d.1.2.1 d.2.1.1
def l25_7 : q9 := ⟨⟨[(1, .v (.list false 120 (.str zTm))), (2, .c (.ptr 2 [])), (6, .v zI)], [(2, false, .str zTh)], none⟩, [(.ret, ⟨[(4, .v zI)], [], none⟩), (.exit 0, ⟨[], [], none⟩)], L25_7⟩
def F25 (n : Nat) (f_0 : ((List zTr) × Int)) (l_1 : (List zTt)) : Option ((Int × Unit) × (Unit)) :=
  qa (g60 (f_0, ())) fun y1 => cond (y1.1.1 != 0) (some ((y1.1.1, ()), ())) (cond (decide ((l_1.length : Int) > 60)) (some ((71, ()), ())) (qa (L25_7 n ((l_1, 0, ()), (f_0, ()), ())) fun o12 => qbb o12 (fun d13 => some ((d13.1.1, ()), ())) (fun _ => some ((0, ()), ()))))
def g25 (d : ((List zTr) × Int) × (List zTt) × Unit) : Option ((Int × Unit) × (Unit)) := F25 qe d.1 d.2.1
def p25 : qD := ⟨[.v (.str zTh), .v (.list false 120 (.str zTm))], [.v zI], g25⟩
def c25 : qT := ⟨73, tyT, [], [(60, p60), (61, p61)], [(13, l25_13), (7, l25_7)], [], [], [], [], [], [], [], [], [], none⟩
theorem F25_eq (n : Nat) (d) : qx c25 n Tryz.f25 (body Tryz.f25) p25.ps p25.rs d = F25 n d.1 d.2.1 := by kernel_rfl
theorem L25_7_eq (n : Nat) (d) : (l25_7).g (n + 1) d = run c25 n (jZ 0 (qd (body Tryz.f25))) ((l25_7).ins.fill d) (qN (l25_7) n) := by kernel_rfl
theorem L25_13_eq (n : Nat) (d) : (l25_13).g (n + 1) d = run c25 n (jZ 1 (qd (body Tryz.f25))) ((l25_13).ins.fill d) (qN (l25_13) n) := by kernel_rfl
theorem ls25 : qd (body Tryz.f25) = [jZ 0 (qd (body Tryz.f25)), jZ 1 (qd (body Tryz.f25))] := by kernel_rfl
theorem h25 : qu Tryz.prog 25 p25 := hQ (cfg := c25) (qn qo (qc h60 (qc h61 qh)) rfl (by kernel_rfl)) Tryz.func25 (by kernel_rfl) (by rw [ls25]; simp only [List.forall_mem_cons]; exact ⟨qC (key := 7) (li := l25_7) (by kernel_rfl) rfl (fun _ => rfl) (L25_7_eq), qC (key := 13) (li := l25_13) (by kernel_rfl) rfl (fun _ => rfl) (L25_13_eq), fun _ h => by cases h⟩) (by kernel_rfl) (F25_eq qe)
def F84 (_n : Nat) (n_0 : Int) (low_1 : Int) (high_2 : Int) : Option ((Bool × Unit) × (Unit)) :=
  cond (decide (n_0 ≥ low_1)) (some (((decide (n_0 ≤ high_2)), ()), ())) (some ((false, ()), ()))
def g84 (d : Int × Int × Int × Unit) : Option ((Bool × Unit) × (Unit)) := F84 qe d.1 d.2.1 d.2.2.1
def p84 : qD := ⟨[.v zI, .v zI, .v zI], [.v .bool], g84⟩
def c84 : qT := ⟨15, tyT, [], [], [], [], [], [], [], [], [], [], [], [], none⟩
theorem F84_eq (n : Nat) (d) : qx c84 n Tryz.f84 (body Tryz.f84) p84.ps p84.rs d = F84 n d.1 d.2.1 d.2.2.1 := by kernel_rfl
theorem h84 : qu Tryz.prog 84 p84 := hQ (cfg := c84) (qn qo (qh) rfl (by kernel_rfl)) Tryz.func84 (by kernel_rfl) (qr (by kernel_rfl)) (by kernel_rfl) (F84_eq qe)
def B62_4 (_n : Nat) (L : (Int × Unit) × (zTf × Unit) × Unit → Option (zTp ⊕ ((Unit) × (zTf × Unit) × Unit))) (i_3 : Int) (o_1 : (List (Int × (Int × (Int × Bool)))) × ((List Int) × (List Int))) : Option (zTp ⊕ ((Unit) × (zTf × Unit) × Unit)) :=
  cond (decide (i_3 < (o_1.1.length : Int))) (qg o_1.1 i_3 fun e1 => qa (g84 (e1.1, 0, (IntKind.wrap .i64 ((o_1.2.2.length : Int) - 1)), ())) fun y2 => cond (!y2.1.1) (some (.inl ((100, ()), (), ()))) (qa (g84 (e1.2.1, 1, 10000, ())) fun y3 => cond (!y3.1.1) (some (.inl ((100, ()), (), ()))) (qa (g84 (e1.2.2.1, 0, 9, ())) fun y4 => cond (!y4.1.1) (some (.inl ((100, ()), (), ()))) (L (((IntKind.wrap .i64 (i_3 + 1)), ()), (o_1, ()), ()))))) (some (.inr ((), (o_1, ()), ())))
def L62_4 : Nat → (Int × Unit) × (zTf × Unit) × Unit → Option (zTp ⊕ ((Unit) × (zTf × Unit) × Unit))
  | 0, _ => none
  | n + 1, d => B62_4 n (L62_4 n) d.1.1 d.2.1.1
def l62_4 : q9 := ⟨⟨[(1, .c (.ptr 1 [])), (3, .v zI)], [(1, false, .str zTc)], none⟩, [(.ret, ⟨[(2, .v zI)], [], none⟩), (.exit 0, ⟨[(1, .c (.ptr 1 []))], [(1, false, .str zTc)], none⟩)], L62_4⟩
def B62_10 (_n : Nat) (L : (Int × Unit) × (zTf × Unit) × Unit → Option (zTp ⊕ ((Unit) × (zTf × Unit) × Unit))) (i_5 : Int) (o_1 : (List (Int × (Int × (Int × Bool)))) × ((List Int) × (List Int))) : Option (zTp ⊕ ((Unit) × (zTf × Unit) × Unit)) :=
  cond (decide (i_5 < (o_1.2.1.length : Int))) (qg o_1.2.1 i_5 fun e8 => qa (g84 (e8, 0, 9, ())) fun y9 => cond (!y9.1.1) (some (.inl ((100, ()), (), ()))) (L (((IntKind.wrap .i64 (i_5 + 1)), ()), (o_1, ()), ()))) (some (.inr ((), (o_1, ()), ())))
def L62_10 : Nat → (Int × Unit) × (zTf × Unit) × Unit → Option (zTp ⊕ ((Unit) × (zTf × Unit) × Unit))
  | 0, _ => none
  | n + 1, d => B62_10 n (L62_10 n) d.1.1 d.2.1.1
def l62_10 : q9 := ⟨⟨[(1, .c (.ptr 1 [])), (5, .v zI)], [(1, false, .str zTc)], none⟩, [(.ret, ⟨[(2, .v zI)], [], none⟩), (.exit 2, ⟨[(1, .c (.ptr 1 []))], [(1, false, .str zTc)], none⟩)], L62_10⟩
def B62_15 (_n : Nat) (L : (Int × Unit) × (zTf × Unit) × Unit → Option (zTp ⊕ ((Unit) × (Unit) × Unit))) (i_6 : Int) (o_1 : (List (Int × (Int × (Int × Bool)))) × ((List Int) × (List Int))) : Option (zTp ⊕ ((Unit) × (Unit) × Unit)) :=
  cond (decide (i_6 < (o_1.2.2.length : Int))) (qg o_1.2.2 i_6 fun e13 => qa (g84 (e13, 0, 10000, ())) fun y14 => cond (!y14.1.1) (some (.inl ((100, ()), (), ()))) (L (((IntKind.wrap .i64 (i_6 + 1)), ()), (o_1, ()), ()))) (some (.inr ((), (), ())))
def L62_15 : Nat → (Int × Unit) × (zTf × Unit) × Unit → Option (zTp ⊕ ((Unit) × (Unit) × Unit))
  | 0, _ => none
  | n + 1, d => B62_15 n (L62_15 n) d.1.1 d.2.1.1
def l62_15 : q9 := ⟨⟨[(1, .c (.ptr 1 [])), (6, .v zI)], [(1, false, .str zTc)], none⟩, [(.ret, ⟨[(2, .v zI)], [], none⟩), (.exit 4, ⟨[], [], none⟩)], L62_15⟩
def F62 (n : Nat) (b_0 : zTf) : Option ((Int × Unit) × (Unit)) :=
  cond (decide ((b_0.1.length : Int) > 20)) (some ((100, ()), ())) (cond (decide ((b_0.2.1.length : Int) > 8)) (some ((100, ()), ())) (cond (decide ((b_0.2.2.length : Int) > 10)) (some ((100, ()), ())) (qa (L62_4 n ((0, ()), (b_0, ()), ())) fun o5 => qbb o5 (fun d6 => some ((d6.1.1, ()), ())) (fun d7 => qa (L62_10 n ((0, ()), (d7.2.1.1, ()), ())) fun o10 => qbb o10 (fun d11 => some ((d11.1.1, ()), ())) (fun d12 => qa (L62_15 n ((0, ()), (d12.2.1.1, ()), ())) fun o15 => qbb o15 (fun d16 => some ((d16.1.1, ()), ())) (fun _ => some ((0, ()), ())))))))
def g62 (d : zTf × Unit) : Option ((Int × Unit) × (Unit)) := F62 qe d.1
def p62 : qD := ⟨[.v (.str zTc)], [.v zI], g62⟩
def c62 : qT := ⟨83, tyT, [], [(84, p84)], [(4, l62_4), (10, l62_10), (15, l62_15)], [], [], [], [], [], [], [], [], [], none⟩
theorem F62_eq (n : Nat) (d) : qx c62 n Tryz.f62 (body Tryz.f62) p62.ps p62.rs d = F62 n d.1 := by kernel_rfl
theorem L62_4_eq (n : Nat) (d) : (l62_4).g (n + 1) d = run c62 n (jZ 0 (qd (body Tryz.f62))) ((l62_4).ins.fill d) (qN (l62_4) n) := by kernel_rfl
theorem L62_10_eq (n : Nat) (d) : (l62_10).g (n + 1) d = run c62 n (jZ 1 (qd (body Tryz.f62))) ((l62_10).ins.fill d) (qN (l62_10) n) := by kernel_rfl
theorem L62_15_eq (n : Nat) (d) : (l62_15).g (n + 1) d = run c62 n (jZ 2 (qd (body Tryz.f62))) ((l62_15).ins.fill d) (qN (l62_15) n) := by kernel_rfl
theorem ls62 : qd (body Tryz.f62) = [jZ 0 (qd (body Tryz.f62)), jZ 1 (qd (body Tryz.f62)), jZ 2 (qd (body Tryz.f62))] := by kernel_rfl
theorem h62 : qu Tryz.prog 62 p62 := hQ (cfg := c62) (qn qo (qc h84 qh) rfl (by kernel_rfl)) Tryz.func62 (by kernel_rfl) (by rw [ls62]; simp only [List.forall_mem_cons]; exact ⟨qC (key := 4) (li := l62_4) (by kernel_rfl) rfl (fun _ => rfl) (L62_4_eq), qC (key := 10) (li := l62_10) (by kernel_rfl) rfl (fun _ => rfl) (L62_10_eq), qC (key := 15) (li := l62_15) (by kernel_rfl) rfl (fun _ => rfl) (L62_15_eq), fun _ h => by cases h⟩) (by kernel_rfl) (F62_eq qe)
def F85 (_n : Nat) (b_0 : zTf) (rule_1 : Int) (first_2 : Int) (second_3 : Int) : Option ((Bool × Unit) × (Unit)) :=
  qg b_0.1 rule_1 fun e1 => qa (g84 (first_2, 0, (IntKind.wrap .i64 ((b_0.2.1.length : Int) - 1)), ())) fun y2 => cond (!y2.1.1) (some ((false, ()), ())) (qg b_0.2.1 first_2 fun e3 => cond (decide (e3 < e1.2.2.1)) (some ((false, ()), ())) (cond (!e1.2.2.2) (some (((second_3 == (-1)), ()), ())) (qa (g84 (second_3, 0, (IntKind.wrap .i64 ((b_0.2.1.length : Int) - 1)), ())) fun y4 => cond y4.1.1 (cond (second_3 != first_2) (qg b_0.2.1 second_3 fun e5 => some (((decide (e5 ≥ e1.2.2.1)), ()), ())) (some ((false, ()), ()))) (some ((false, ()), ())))))
def g85 (d : zTf × Int × Int × Int × Unit) : Option ((Bool × Unit) × (Unit)) := F85 qe d.1 d.2.1 d.2.2.1 d.2.2.2.1
def p85 : qD := ⟨[.v (.str zTc), .v zI, .v zI, .v zI], [.v .bool], g85⟩
def c85 : qT := ⟨58, tyT, [], [(84, p84)], [], [], [], [], [], [], [], [], [], [], none⟩
theorem F85_eq (n : Nat) (d) : qx c85 n Tryz.f85 (body Tryz.f85) p85.ps p85.rs d = F85 n d.1 d.2.1 d.2.2.1 d.2.2.2.1 := by kernel_rfl
theorem h85 : qu Tryz.prog 85 p85 := hQ (cfg := c85) (qn qo (qc h84 qh) rfl (by kernel_rfl)) Tryz.func85 (by kernel_rfl) (qr (by kernel_rfl)) (by kernel_rfl) (F85_eq qe)
end
end Go.Proofs.Tryz.V
