/- The contracts of functions of the program, printed by program from the interpreter: each says what a call returns. No condition beyond those typed in each theorem. -/
import Derived.Test.YtaojldppmlehlaaGreatMk
import Derived.Test.YtaojldppmlehlaaGreatVi45
import Derived.Test.YtaojldppmlehlaaGreatProg
namespace Go.Proofs.Tryz.V
noncomputable section
open Go.Vi
set_option maxRecDepth 100000
abbrev zI : Ty := .int .i64
abbrev zTd : Ty := .pair (.list false 96 (.str (.pair zI (.pair .bool (.pair zI .bool))))) (.list false 3 zI)
abbrev zTf : Type := (List (Int × (Int × (Int × Bool)))) × ((List Int) × (List Int))
abbrev jO : Type := Int × (Int × (Int × (Int × Int)))
abbrev zTj : Ty := .pair zI (.pair zI zI)
abbrev qS : Ty := .pair zI zTj
abbrev zTk : Ty := .pair zI (.pair zI .bool)
abbrev zTe : Ty := .pair (.list true 100 (.str (.pair (.str zTk) zI))) (.pair (.list true 4 .bool) (.pair zI (.pair zI (.pair .bool (.pair zI zI)))))
abbrev zTh : Ty := .pair (.list false 149 (.str (.pair zI (.pair zI zTk)))) zI
abbrev zTm : Ty := .pair zI (.pair zI (.pair zI (.pair (.list false 3 zI) zI)))
abbrev zTn : Type := (List (Int × (Bool × (Int × Bool)))) × (List Int)
abbrev zTo : Ty := .list false 56 (.str (.pair zI zI))
abbrev zTp : Type := (Int × Unit) × (Unit) × Unit
abbrev zTq : Ty := .pair (.list false 3 zI) (.list false 3 zI)
abbrev zTc : Ty := .pair (.list false 155 (.str (.pair zI zTk))) zTq
abbrev zTr : Type := Int × (Int × (Int × (Int × Bool)))
abbrev zTs : Type := (List jO) × ((List ((Int × (Int × Bool)) × Int)) × ((List Bool) × (Int × (Int × (Bool × (Int × Int))))))
abbrev zTb : Type := zTn × zTs
abbrev zTt : Type := Int × (Int × (Int × ((List Int) × Int)))
abbrev zTu : Ty := .list false 105 (.arr 2 zI)
abbrev zTv : Ty := .pair (.list false 4 .bool) (.pair zI (.pair zI (.pair .bool (.pair zI zI))))
abbrev zTw : Type := (((List (Int × Int)) × Int × Int × Unit) × ((List (List Int)) × Unit) × Unit)
abbrev zTx : Type := List (Int × (Int × (Int × Int)))
abbrev zTi : Type := zTx × (zTx × (Int × (Int × Int)))
abbrev zTl : Type := ((List zTr) × Int) × (zTf × ((List jO) × (Int × (zTi × ((List Int) × (List Int))))))
def tyT : List (Nat × Ty) := [(2, .int .i64), (3, .int .i64), (4, .bool), (5, .int .u8), (6, .int .u8), (7, .str (.pair zI (.pair zI (.pair .bool (.int .u8))))), (8, .str (.pair zI (.pair zI (.pair .bool (.int .u8))))), (22, .list false 149 (.str (.pair zI (.pair zI zTk)))), (24, .str zTh), (25, .list false 155 (.str (.pair zI zTk))), (26, .list false 3 zI), (28, .str zTc), (29, .list false 80 (.str (.pair zI qS))), (30, .list false 128 (.str qS)), (31, .list false 130 (.str qS)), (33, .str (.pair (.list false 128 (.str qS)) (.pair (.list false 130 (.str qS)) zTj))), (35, .str (.pair (.str zTh) (.pair (.str zTc) (.pair (.list false 80 (.str (.pair zI qS))) (.pair zI (.pair (.str (.pair (.list false 128 (.str qS)) (.pair (.list false 130 (.str qS)) zTj))) zTq)))))), (36, .list false 96 (.str (.pair zI (.pair .bool (.pair zI .bool))))), (38, .str zTd), (39, .list false 86 (.str zTj)), (40, .list false 90 (.str (.pair zI qS))), (42, .str (.pair zI (.pair (.list false 86 (.str zTj)) (.list false 90 (.str (.pair zI qS)))))), (44, .str (.pair (.str zTd) (.pair (.str (.pair zI (.pair (.list false 86 (.str zTj)) (.list false 90 (.str (.pair zI qS)))))) zI))), (48, .int .i64), (56, .str (.pair zI zI)), (57, .list false 56 (.str (.pair zI zI))), (59, .str (.pair zI (.pair zI (.pair (.list false 3 zI) (.pair (.list false 3 zI) (.pair zTo zTj)))))), (64, .ptr (.str (.pair (.str zTd) (.pair (.list false 90 (.str (.pair zI qS))) (.pair (.list false 100 (.str (.pair (.str zTk) zI))) zTv))))), (67, .list false 100 (.str (.pair (.str zTk) zI))), (68, .list false 4 .bool), (70, .str (.pair (.str zTd) (.pair (.list false 90 (.str (.pair zI qS))) (.pair (.list false 100 (.str (.pair (.str zTk) zI))) zTv)))), (74, .fn zI .bool), (80, .str (.pair zI qS)), (86, .str zTj), (88, .fn (.str zTj) .bool), (90, .str (.pair zI qS)), (91, .fn (.str (.pair zI qS)) .bool), (96, .str (.pair zI (.pair .bool (.pair zI .bool)))), (98, .str zTk), (100, .str (.pair (.str zTk) zI)), (101, .list false 105 (.arr 2 zI)), (102, .arr 4 zTu), (105, .arr 2 zI), (106, .fn (.arr 2 zI) .bool), (108, .list false 101 zTu), (110, .fn zTu .bool), (115, .list false 98 (.str zTk)), (117, .list false 120 (.str zTm)), (120, .str zTm), (121, .fn (.str zTm) .bool), (124, .str (.pair (.str zTc) (.list false 80 (.str (.pair zI qS))))), (128, .str qS), (130, .str qS), (137, .fn (.str (.pair zI zI)) .bool), (146, .ptr (.str (.pair (.str zTk) zI))), (147, .list false 26 (.list false 3 zI)), (149, .str (.pair zI (.pair zI zTk))), (150, .fn (.str (.pair zI (.pair zI zTk))) .bool), (153, .fn (.str (.pair zI qS)) .bool), (155, .str (.pair zI zTk)), (166, .fn (.str (.pair zI zTk)) .bool), (173, .int .u64), (183, .list false 186 (.arr 3 zI)), (186, .arr 3 zI), (189, .int .u32), (192, .int .u64), (196, .arr 4 zI), (206, .fn2 zI (.str (.pair zI qS)) .bool)]
theorem qo : tysB Tryz.prog tyT = true := by kernel_rfl
theorem qdB : Tryz.prog.follows .mixedOrders = true := by kernel_rfl
theorem hQ {cfg : qT} {f : FuncId} {fn : Func} {p : qD} (hc : qF Tryz.prog cfg) (hf : Tryz.prog.funcs[f]? = some fn) (ha : (fn.body.isSome && (Nat.beq fn.ntmps cfg.nt && (!(fn.name == "runtime.NumGoroutine") && Nat.ble p.ps.length cfg.nt))) = true) (hl : ∀ b ∈ qd (body fn), qdx cfg b) (hd : qj cfg (body fn) = true) (he : ∀ d, qx cfg qe fn (body fn) p.ps p.rs d = p.g d) : qu Tryz.prog f p := by
  simp only [Bool.and_eq_true, Bool.not_eq_true'] at ha
  exact fn_done qdB hc hf ha.1 (Nat.eq_of_beq_eq_true ha.2.1) ha.2.2.1 ha.2.2.2 hl hd (fun d y h => ⟨qe, (he d).trans h⟩)
def F4 (_n : Nat) (g_0 : zTl) : Option ((Bool × Unit) × (Unit)) :=
  cond (decide ((g_0.1.1.length : Int) > 10)) (some ((true, ()), ())) (cond (decide ((g_0.2.1.1.length : Int) > 25)) (some ((true, ()), ())) (cond (decide ((g_0.2.1.2.1.length : Int) > 12)) (some ((true, ()), ())) (cond (decide ((g_0.2.1.2.2.length : Int) > 15)) (some ((true, ()), ())) (cond (decide ((g_0.2.2.1.length : Int) > 60)) (some ((true, ()), ())) (cond (decide ((g_0.2.2.2.2.1.1.length : Int) > 15)) (some ((true, ()), ())) (cond (decide ((g_0.2.2.2.2.1.2.1.length : Int) > 20)) (some ((true, ()), ())) (cond (decide ((g_0.2.2.2.2.2.1.length : Int) > 15)) (some ((true, ()), ())) (some (((decide ((g_0.2.2.2.2.2.2.length : Int) > 15)), ()), ())))))))))
def g4 (d : zTl × Unit) : Option ((Bool × Unit) × (Unit)) := F4 qe d.1
def p4 : qD := ⟨[.v (.str (.pair (.str zTh) (.pair (.str zTc) (.pair (.list false 80 (.str (.pair zI qS))) (.pair zI (.pair (.str (.pair (.list false 128 (.str qS)) (.pair (.list false 130 (.str qS)) zTj))) zTq))))))], [.v .bool], g4⟩
def c4 : qT := ⟨61, tyT, [], [], [], [], [], [], [], [], [], [], [], [], none⟩
theorem F4_eq (n : Nat) (d) : qx c4 n Tryz.f4 (body Tryz.f4) p4.ps p4.rs d = F4 n d.1 := by kernel_rfl
theorem d4 : qj c4 (body Tryz.f4) = true := by kernel_rfl
theorem h4 : qu Tryz.prog 4 p4 := hQ (cfg := c4) (qn qo (qh) rfl (by kernel_rfl)) Tryz.func4 (by kernel_rfl) (qr (by kernel_rfl)) d4 (F4_eq qe)
def F5 (_n : Nat) (c_0 : zTn) : Option ((Bool × Unit) × (Unit)) :=
  cond (decide ((c_0.1.length : Int) > 15)) (some ((true, ()), ())) (some (((decide ((c_0.2.length : Int) > 12)), ()), ()))
def g5 (d : zTn × Unit) : Option ((Bool × Unit) × (Unit)) := F5 qe d.1
def p5 : qD := ⟨[.v (.str zTd)], [.v .bool], g5⟩
def c5 : qT := ⟨13, tyT, [], [], [], [], [], [], [], [], [], [], [], [], none⟩
theorem F5_eq (n : Nat) (d) : qx c5 n Tryz.f5 (body Tryz.f5) p5.ps p5.rs d = F5 n d.1 := by kernel_rfl
theorem h5 : qu Tryz.prog 5 p5 := hQ (cfg := c5) (qn qo (qh) rfl (by kernel_rfl)) Tryz.func5 (by kernel_rfl) (qr (by kernel_rfl)) (by kernel_rfl) (F5_eq qe)
def B59_2 (_n : Nat) (L : ((List Int) × (Int → Option Bool) × Int × Int × Unit) × (Unit) × Unit → Option (zTp ⊕ ((Unit) × (Unit) × Unit))) (s_0 : List Int) (f_1 : Int → Option Bool) (t_7 : Int) (t_8 : Int) : Option (zTp ⊕ ((Unit) × (Unit) × Unit)) :=
  cond (decide (t_8 < t_7)) (qg s_0 t_8 fun e1 => qa (f_1 e1) fun y2 => cond y2 (some (.inl ((t_8, ()), (), ()))) (L ((s_0, f_1, t_7, (IntKind.wrap .i64 (t_8 + 1)), ()), (), ()))) (some (.inr ((), (), ())))
def L59_2 : Nat → ((List Int) × (Int → Option Bool) × Int × Int × Unit) × (Unit) × Unit → Option (zTp ⊕ ((Unit) × (Unit) × Unit))
  | 0, _ => none
  | n + 1, d => B59_2 n (L59_2 n) d.1.1 d.1.2.1 d.1.2.2.1 d.1.2.2.2.1
def l59_2 : q9 := ⟨⟨[(0, .v (.list false 3 zI)), (1, .v (.fn zI .bool)), (7, .v zI), (8, .v zI)], [], none⟩, [(.ret, ⟨[(4, .v zI)], [], none⟩), (.exit 0, ⟨[], [], none⟩)], L59_2⟩
def F59 (n : Nat) (s_0 : (List Int)) (f_1 : (Int → Option Bool)) : Option ((Int × Unit) × (Unit)) :=
  qa (L59_2 n ((s_0, f_1, (s_0.length : Int), 0, ()), (), ())) fun o3 => qbb o3 (fun d4 => some ((d4.1.1, ()), ())) (fun _ => some (((-1), ()), ()))
def g59 (d : (List Int) × (Int → Option Bool) × Unit) : Option ((Int × Unit) × (Unit)) := F59 qe d.1 d.2.1
def p59 : qD := ⟨[.v (.list false 3 zI), .v (.fn zI .bool)], [.v zI], g59⟩
def c59 : qT := ⟨19, tyT, [], [], [(2, l59_2)], [], [], [], [], [], [], [], [], [], none⟩
theorem F59_eq (n : Nat) (d) : qx c59 n Tryz.f59 (body Tryz.f59) p59.ps p59.rs d = F59 n d.1 d.2.1 := by kernel_rfl
theorem L59_2_eq (n : Nat) (d) : (l59_2).g (n + 1) d = run c59 n (jZ 0 (qd (body Tryz.f59))) ((l59_2).ins.fill d) (qN (l59_2) n) := by kernel_rfl
theorem ls59 : qd (body Tryz.f59) = [jZ 0 (qd (body Tryz.f59))] := by kernel_rfl
theorem h59 : qu Tryz.prog 59 p59 := hQ (cfg := c59) (qn qo (qh) rfl (by kernel_rfl)) Tryz.func59 (by kernel_rfl) (by rw [ls59]; simp only [List.forall_mem_cons]; exact ⟨qC (key := 2) (li := l59_2) (by kernel_rfl) rfl (fun _ => rfl) (L59_2_eq), fun _ h => by cases h⟩) (by kernel_rfl) (F59_eq qe)
def F23 (_n : Nat) (s_0 : (List Int)) (f_1 : (Int → Option Bool)) : Option ((Bool × Unit) × (Unit)) :=
  qa (g59 (s_0, f_1, ())) fun y1 => some (((decide (y1.1.1 ≥ 0)), ()), ())
def g23 (d : (List Int) × (Int → Option Bool) × Unit) : Option ((Bool × Unit) × (Unit)) := F23 qe d.1 d.2.1
def p23 : qD := ⟨[.v (.list false 3 zI), .v (.fn zI .bool)], [.v .bool], g23⟩
def c23 : qT := ⟨9, tyT, [], [(59, p59)], [], [], [], [], [], [], [], [], [], [], none⟩
theorem F23_eq (n : Nat) (d) : qx c23 n Tryz.f23 (body Tryz.f23) p23.ps p23.rs d = F23 n d.1 d.2.1 := by kernel_rfl
theorem h23 : qu Tryz.prog 23 p23 := hQ (cfg := c23) (qn qo (qc h59 qh) rfl (by kernel_rfl)) Tryz.func23 (by kernel_rfl) (qr (by kernel_rfl)) (by kernel_rfl) (F23_eq qe)
def F32 (_n : Nat) (n_0 : Int) (low_1 : Int) (high_2 : Int) : Option ((Bool × Unit) × (Unit)) :=
  cond (decide (n_0 ≥ low_1)) (some (((decide (n_0 ≤ high_2)), ()), ())) (some ((false, ()), ()))
def g32 (d : Int × Int × Int × Unit) : Option ((Bool × Unit) × (Unit)) := F32 qe d.1 d.2.1 d.2.2.1
def p32 : qD := ⟨[.v zI, .v zI, .v zI], [.v .bool], g32⟩
def c32 : qT := ⟨15, tyT, [], [], [], [], [], [], [], [], [], [], [], [], none⟩
theorem F32_eq (n : Nat) (d) : qx c32 n Tryz.f32 (body Tryz.f32) p32.ps p32.rs d = F32 n d.1 d.2.1 d.2.2.1 := by kernel_rfl
theorem h32 : qu Tryz.prog 32 p32 := hQ (cfg := c32) (qn qo (qh) rfl (by kernel_rfl)) Tryz.func32 (by kernel_rfl) (qr (by kernel_rfl)) (by kernel_rfl) (F32_eq qe)
def F67 (_n : Nat) (n_0 : Int) (t_1 : Int) (t_2 : Int) : Option ((Bool × Unit) × (Unit)) :=
  qa (g32 (n_0, t_1, t_2, ())) fun y1 => some (((!y1.1.1), ()), ())
def g67 (d : Int × Int × Int × Unit) : Option ((Bool × Unit) × (Unit)) := F67 qe d.1 d.2.1 d.2.2.1
def p67 : qD := ⟨[.v zI, .r zI, .r zI], [.v .bool], g67⟩
def c67 : qT := ⟨10, tyT, [], [(32, p32)], [], [], [], [], [], [], [], [], [], [], none⟩
theorem F67_eq (n : Nat) (d) : qx c67 n Tryz.f67 (body Tryz.f67) p67.ps p67.rs d = F67 n d.1 d.2.1 d.2.2.1 := by kernel_rfl
theorem h67 : qu Tryz.prog 67 p67 := hQ (cfg := c67) (qn qo (qc h32 qh) rfl (by kernel_rfl)) Tryz.func67 (by kernel_rfl) (qr (by kernel_rfl)) (by kernel_rfl) (F67_eq qe)
def B89_2 (_n : Nat) (L : ((List (Int × Int)) × ((Int × Int) → Option Bool) × Int × Int × Unit) × (Unit) × Unit → Option (zTp ⊕ ((Unit) × (Unit) × Unit))) (s_0 : List (Int × Int)) (f_1 : (Int × Int) → Option Bool) (t_7 : Int) (t_8 : Int) : Option (zTp ⊕ ((Unit) × (Unit) × Unit)) :=
  cond (decide (t_8 < t_7)) (qg s_0 t_8 fun e1 => qa (f_1 e1) fun y2 => cond y2 (some (.inl ((t_8, ()), (), ()))) (L ((s_0, f_1, t_7, (IntKind.wrap .i64 (t_8 + 1)), ()), (), ()))) (some (.inr ((), (), ())))
def L89_2 : Nat → ((List (Int × Int)) × ((Int × Int) → Option Bool) × Int × Int × Unit) × (Unit) × Unit → Option (zTp ⊕ ((Unit) × (Unit) × Unit))
  | 0, _ => none
  | n + 1, d => B89_2 n (L89_2 n) d.1.1 d.1.2.1 d.1.2.2.1 d.1.2.2.2.1
def l89_2 : q9 := ⟨⟨[(0, .v zTo), (1, .v (.fn (.str (.pair zI zI)) .bool)), (7, .v zI), (8, .v zI)], [], none⟩, [(.ret, ⟨[(4, .v zI)], [], none⟩), (.exit 0, ⟨[], [], none⟩)], L89_2⟩
def F89 (n : Nat) (s_0 : (List (Int × Int))) (f_1 : ((Int × Int) → Option Bool)) : Option ((Int × Unit) × (Unit)) :=
  qa (L89_2 n ((s_0, f_1, (s_0.length : Int), 0, ()), (), ())) fun o3 => qbb o3 (fun d4 => some ((d4.1.1, ()), ())) (fun _ => some (((-1), ()), ()))
def g89 (d : (List (Int × Int)) × ((Int × Int) → Option Bool) × Unit) : Option ((Int × Unit) × (Unit)) := F89 qe d.1 d.2.1
def p89 : qD := ⟨[.v zTo, .v (.fn (.str (.pair zI zI)) .bool)], [.v zI], g89⟩
def c89 : qT := ⟨19, tyT, [], [], [(2, l89_2)], [], [], [], [], [], [], [], [], [], none⟩
theorem F89_eq (n : Nat) (d) : qx c89 n Tryz.f89 (body Tryz.f89) p89.ps p89.rs d = F89 n d.1 d.2.1 := by kernel_rfl
theorem L89_2_eq (n : Nat) (d) : (l89_2).g (n + 1) d = run c89 n (jZ 0 (qd (body Tryz.f89))) ((l89_2).ins.fill d) (qN (l89_2) n) := by kernel_rfl
theorem ls89 : qd (body Tryz.f89) = [jZ 0 (qd (body Tryz.f89))] := by kernel_rfl
theorem h89 : qu Tryz.prog 89 p89 := hQ (cfg := c89) (qn qo (qh) rfl (by kernel_rfl)) Tryz.func89 (by kernel_rfl) (by rw [ls89]; simp only [List.forall_mem_cons]; exact ⟨qC (key := 2) (li := l89_2) (by kernel_rfl) rfl (fun _ => rfl) (L89_2_eq), fun _ h => by cases h⟩) (by kernel_rfl) (F89_eq qe)
def F68 (_n : Nat) (s_0 : (List (Int × Int))) (f_1 : ((Int × Int) → Option Bool)) : Option ((Bool × Unit) × (Unit)) :=
  qa (g89 (s_0, f_1, ())) fun y1 => some (((decide (y1.1.1 ≥ 0)), ()), ())
def g68 (d : (List (Int × Int)) × ((Int × Int) → Option Bool) × Unit) : Option ((Bool × Unit) × (Unit)) := F68 qe d.1 d.2.1
def p68 : qD := ⟨[.v zTo, .v (.fn (.str (.pair zI zI)) .bool)], [.v .bool], g68⟩
def c68 : qT := ⟨9, tyT, [], [(89, p89)], [], [], [], [], [], [], [], [], [], [], none⟩
theorem F68_eq (n : Nat) (d) : qx c68 n Tryz.f68 (body Tryz.f68) p68.ps p68.rs d = F68 n d.1 d.2.1 := by kernel_rfl
theorem h68 : qu Tryz.prog 68 p68 := hQ (cfg := c68) (qn qo (qc h89 qh) rfl (by kernel_rfl)) Tryz.func68 (by kernel_rfl) (qr (by kernel_rfl)) (by kernel_rfl) (F68_eq qe)
def F69 (_n : Nat) (b_0 : (Int × Int)) (t_1 : (Int × (Int × ((List Int) × ((List Int) × ((List (Int × Int)) × (Int × (Int × Int)))))))) : Option ((Bool × Unit) × (Unit)) :=
  qa (g32 (b_0.1, 1, 1000, ())) fun y1 => cond (!y1.1.1) (some ((true, ()), ())) (qa (g32 (b_0.2, 1, 1000000, ())) fun y2 => cond (!y2.1.1) (some ((true, ()), ())) (some (((decide ((IntKind.wrap .i64 (t_1.2.2.2.2.2.1 * b_0.1)) > b_0.2)), ()), ())))
def g69 (d : (Int × Int) × (Int × (Int × ((List Int) × ((List Int) × ((List (Int × Int)) × (Int × (Int × Int))))))) × Unit) : Option ((Bool × Unit) × (Unit)) := F69 qe d.1 d.2.1
def p69 : qD := ⟨[.v (.str (.pair zI zI)), .r (.str (.pair zI (.pair zI (.pair (.list false 3 zI) (.pair (.list false 3 zI) (.pair zTo zTj))))))], [.v .bool], g69⟩
def c69 : qT := ⟨24, tyT, [], [(32, p32)], [], [], [], [], [], [], [], [], [], [], none⟩
theorem F69_eq (n : Nat) (d) : qx c69 n Tryz.f69 (body Tryz.f69) p69.ps p69.rs d = F69 n d.1 d.2.1 := by kernel_rfl
theorem h69 : qu Tryz.prog 69 p69 := hQ (cfg := c69) (qn qo (qc h32 qh) rfl (by kernel_rfl)) Tryz.func69 (by kernel_rfl) (qr (by kernel_rfl)) (by kernel_rfl) (F69_eq qe)
def F31 (_n : Nat) (f_0 : (Int × (Int × ((List Int) × ((List Int) × ((List (Int × Int)) × (Int × (Int × Int)))))))) : Option ((Int × Unit) × (Unit)) :=
  qa (g32 ((f_0.2.2.1.length : Int), 1, 8, ())) fun y1 => cond (!y1.1.1) (some ((10, ()), ())) (cond ((f_0.2.2.2.1.length : Int) != (f_0.2.2.1.length : Int)) (some ((10, ()), ())) (qa (g32 (f_0.1, 0, 20, ())) fun y2 => cond (!y2.1.1) (some ((10, ()), ())) (qa (g32 (f_0.2.1, 0, 12, ())) fun y3 => cond (!y3.1.1) (some ((10, ()), ())) (cond (decide ((f_0.2.2.2.2.1.length : Int) > 6)) (some ((10, ()), ())) (qa (Mk.m66.p.g (0, 100000, ())) fun y4 => qa (g23 (f_0.2.2.1, (fun v5 => qa y4.1.1 fun q7 => qa y4.1.2.1 fun q8 => qa (g67 (v5, q7, q8, ())) fun y6 => some y6.1.1), ())) fun y9 => cond y9.1.1 (some ((10, ()), ())) (qa (Mk.m66.p.g (0, 1000000, ())) fun y10 => qa (g23 (f_0.2.2.2.1, (fun v11 => qa y10.1.1 fun q13 => qa y10.1.2.1 fun q14 => qa (g67 (v11, q13, q14, ())) fun y12 => some y12.1.1), ())) fun y15 => cond y15.1.1 (some ((10, ()), ())) (qa (g32 (f_0.2.2.2.2.2.1, 0, 1000, ())) fun y16 => cond (!y16.1.1) (some ((10, ()), ())) (qa (g32 (f_0.2.2.2.2.2.2.1, 0, 1000000, ())) fun y17 => cond (!y17.1.1) (some ((10, ()), ())) (qa (g32 (f_0.2.2.2.2.2.2.2, 1, 1440, ())) fun y18 => cond (!y18.1.1) (some ((10, ()), ())) (qa (g68 (f_0.2.2.2.2.1, (fun v19 => qa (g69 (v19, f_0, ())) fun y20 => some y20.1.1), ())) fun y21 => cond y21.1.1 (some ((10, ()), ())) (some ((0, ()), ()))))))))))))
def g31 (d : (Int × (Int × ((List Int) × ((List Int) × ((List (Int × Int)) × (Int × (Int × Int))))))) × Unit) : Option ((Int × Unit) × (Unit)) := F31 qe d.1
def p31 : qD := ⟨[.v (.str (.pair zI (.pair zI (.pair (.list false 3 zI) (.pair (.list false 3 zI) (.pair zTo zTj))))))], [.v zI], g31⟩
def c31 : qT := ⟨78, tyT, [(1, .str (.pair zI (.pair zI (.pair (.list false 3 zI) (.pair (.list false 3 zI) (.pair zTo zTj))))))], [(23, p23), (32, p32), (67, p67), (68, p68), (69, p69)], [], [], [3], [], [], [(66, Mk.m66)], [], [], [], [], none⟩
theorem F31_eq (n : Nat) (d) : qx c31 n Tryz.f31 (body Tryz.f31) p31.ps p31.rs d = F31 n d.1 := by kernel_rfl
theorem h31 : qu Tryz.prog 31 p31 := hQ (cfg := c31) (qn qo (qc h23 (qc h32 (qc h67 (qc h68 (qc h69 qh))))) rfl (by kernel_rfl) (qjj (qgP Mk.k66 qjl))) Tryz.func31 (by kernel_rfl) (qr (by kernel_rfl)) (by kernel_rfl) (F31_eq qe)
def F123 (_n : Nat) (x_0 : Int) (y_1 : Int) : Option ((Int × Int × Unit) × (Unit)) :=
  qdH 32 (qdH 32 (jM (IntKind.wrap .u64 ((qbI .and .u64 x_0 4294967295) * (qbI .and .u64 y_1 4294967295))) fun z1 => qdH 32 (jM (IntKind.wrap .u64 ((IntKind.wrap .u64 ((qdN .u64 x_0 32) * (qbI .and .u64 y_1 4294967295))) + (qdN .u64 z1 32))) fun z2 => qdH 32 (jM (IntKind.wrap .u64 ((qbI .and .u64 z2 4294967295) + (IntKind.wrap .u64 ((qbI .and .u64 x_0 4294967295) * (qdN .u64 y_1 32))))) fun z3 => qdH 32 (jM (IntKind.wrap .u64 ((IntKind.wrap .u64 ((IntKind.wrap .u64 ((qdN .u64 x_0 32) * (qdN .u64 y_1 32))) + (qdN .u64 z2 32))) + (qdN .u64 z3 32))) fun z4 => some ((z4, (IntKind.wrap .u64 (x_0 * y_1)), ()), ()))))))
def g123 (d : Int × Int × Unit) : Option ((Int × Int × Unit) × (Unit)) := F123 qe d.1 d.2.1
def p123 : qD := ⟨[.v (.int .u64), .v (.int .u64)], [.v (.int .u64), .v (.int .u64)], g123⟩
def c123 : qT := ⟨51, tyT, [], [], [], [], [], [], [], [], [], [], [], [], none⟩
theorem F123_eq (n : Nat) (d) : qx c123 n Tryz.f123 (body Tryz.f123) p123.ps p123.rs d = F123 n d.1 d.2.1 := by kernel_rfl
theorem h123 : qu Tryz.prog 123 p123 := hQ (cfg := c123) (qn qo (qh) rfl (by kernel_rfl)) Tryz.func123 (by kernel_rfl) (qr (by kernel_rfl)) (by kernel_rfl) (F123_eq qe)
def F106 (_n : Nat) (x_0 : Int) (y_1 : Int) : Option ((Int × Int × Unit) × (Unit)) :=
  qa (g123 (x_0, y_1, ())) fun y1 => some ((y1.1.1, y1.1.2.1, ()), ())
def g106 (d : Int × Int × Unit) : Option ((Int × Int × Unit) × (Unit)) := F106 qe d.1 d.2.1
def p106 : qD := ⟨[.v (.int .u64), .v (.int .u64)], [.v (.int .u64), .v (.int .u64)], g106⟩
def c106 : qT := ⟨30, tyT, [], [(123, p123)], [], [], [], [], [], [], [], [], [], [], none⟩
theorem F106_eq (n : Nat) (d) : qx c106 n Tryz.f106 (body Tryz.f106) p106.ps p106.rs d = F106 n d.1 d.2.1 := by kernel_rfl
theorem h106 : qu Tryz.prog 106 p106 := hQ (cfg := c106) (qn qo (qc h123 qh) rfl (by kernel_rfl)) Tryz.func106 (by kernel_rfl) (qr (by kernel_rfl)) (by kernel_rfl) (F106_eq qe)
def B90_8 (_n : Nat) (L : (Int × Unit) × ((List Int) × Unit) × Unit → Option (((Unit) × ((List Int) × Unit) × Unit))) (n_8 : Int) (o_30 : List Int) : Option (((Unit) × ((List Int) × Unit) × Unit)) :=
  cond (decide (n_8 < (o_30.length : Int))) (qdE (L (((IntKind.wrap .i64 (n_8 + ((min (o_30.take n_8.toNat).length (o_30.length - n_8.toNat) : Nat) : Int))), ()), ((qbN o_30 (o_30.take n_8.toNat) n_8.toNat), ()), ())) fun E => qR [leK 0 n_8 (leK n_8 (o_30.length : Int) (leK 0 n_8 (leK n_8 (o_30.length : Int) (E)))), leK 0 n_8 (leK n_8 (o_30.length : Int) (leK 0 n_8 (leK n_8 (o_30.length : Int) (E))))]) (some ((), (o_30, ()), ()))
def L90_8 : Nat → (Int × Unit) × ((List Int) × Unit) × Unit → Option (((Unit) × ((List Int) × Unit) × Unit))
  | 0, _ => none
  | n + 1, d => B90_8 n (L90_8 n) d.1.1 d.2.1.1
def l90_8 : q9 := ⟨⟨[(7, .c (.view 30 [])), (8, .v zI)], [(30, true, .list true 3 zI)], none⟩, [(.exit 0, ⟨[(7, .c (.view 30 []))], [(30, true, .list true 3 zI)], none⟩)], L90_8⟩
def F90 (n : Nat) (x_0 : (List Int)) (count_1 : Int) : Option (((List Int) × Unit) × (Unit)) :=
  cond (decide (count_1 < 0)) (none) (qa (g106 ((IntKind.wrap .u64 (x_0.length : Int)), (IntKind.wrap .u64 count_1), ())) fun y1 => cond (decide (y1.1.1 > 0)) (none) (cond (decide (y1.1.2.1 > 9223372036854775807)) (none) (leK 0 (IntKind.wrap .i64 y1.1.2.1) (leK (IntKind.wrap .i64 y1.1.2.1) (IntKind.wrap .i64 y1.1.2.1) (qY (IntKind.wrap .i64 y1.1.2.1) (jM ((min x_0.length ((List.replicate (IntKind.wrap .i64 y1.1.2.1).toNat (0 : Int)).length - (0 : Int).toNat) : Nat) : Int) fun z2 => qa (L90_8 n ((z2, ()), ((qbN (List.replicate (IntKind.wrap .i64 y1.1.2.1).toNat (0 : Int)) x_0 (0 : Int).toNat), ()), ())) fun o3 => some ((o3.2.1.1, ()), ())))))))
def g90 (d : (List Int) × Int × Unit) : Option (((List Int) × Unit) × (Unit)) := F90 qe d.1 d.2.1
def p90 : qD := ⟨[.v (.list false 3 zI), .v zI], [.own 3 zI], g90⟩
def c90 : qT := ⟨48, tyT, [], [(106, p106)], [(8, l90_8)], [], [9], [], [], [], [], [], [], [], none⟩
theorem F90_eq (n : Nat) (d) : qx c90 n Tryz.f90 (body Tryz.f90) p90.ps p90.rs d = F90 n d.1 d.2.1 := by kernel_rfl
theorem L90_8_eq (n : Nat) (d) : (l90_8).g (n + 1) d = run c90 n (jZ 0 (qd (body Tryz.f90))) ((l90_8).ins.fill d) (qN (l90_8) n) := by kernel_rfl
theorem ls90 : qd (body Tryz.f90) = [jZ 0 (qd (body Tryz.f90))] := by kernel_rfl
theorem h90 : qu Tryz.prog 90 p90 := hQ (cfg := c90) (qn qo (qc h106 qh) rfl (by kernel_rfl)) Tryz.func90 (by kernel_rfl) (by rw [ls90]; simp only [List.forall_mem_cons]; exact ⟨qC (key := 8) (li := l90_8) (by kernel_rfl) rfl (fun _ => rfl) (L90_8_eq), fun _ h => by cases h⟩) (by kernel_rfl) (F90_eq qe)
def B70_4 (_n : Nat) (L : ((List (Int × Int)) × Int × Int × Int × Int × Unit) × ((List (List Int)) × Unit) × Unit → Option zTw) (l_0 : List (Int × Int)) (n_1 : Int) (most_6 : Int) (t_24 : Int) (t_25 : Int) (o_22 : List (List Int)) : Option zTw :=
  cond (decide (t_25 < t_24)) (qa (g90 ([1152921504606846976], (IntKind.wrap .i64 (most_6 + 1)), ())) fun y1 => jH t_25 o_22.length (qg o_22 t_25 fun _ => L ((l_0, n_1, most_6, t_24, (IntKind.wrap .i64 (t_25 + 1)), ()), ((o_22.set t_25.toNat y1.1.1), ()), ()))) (some ((l_0, n_1, most_6, ()), (o_22, ()), ()))
def L70_4 : Nat → ((List (Int × Int)) × Int × Int × Int × Int × Unit) × ((List (List Int)) × Unit) × Unit → Option zTw
  | 0, _ => none
  | n + 1, d => B70_4 n (L70_4 n) d.1.1 d.1.2.1 d.1.2.2.1 d.1.2.2.2.1 d.1.2.2.2.2.1 d.2.1.1
def l70_4 : q9 := ⟨⟨[(0, .v zTo), (1, .v zI), (6, .v zI), (7, .c (.view 22 [])), (24, .v zI), (25, .v zI)], [(22, true, .list true 26 (.list true 3 zI))], none⟩, [(.exit 0, ⟨[(0, .v zTo), (1, .v zI), (6, .v zI), (7, .c (.view 22 []))], [(22, true, .list true 26 (.list true 3 zI))], none⟩)], L70_4⟩
def B70_13 (_n : Nat) (L : ((List (Int × Int)) × Int × Int × Int × Int × Int × Unit) × ((List (List Int)) × Unit) × Unit → Option ((((List (Int × Int)) × Int × Int × Int × Unit) × ((List (List Int)) × Unit) × Unit))) (l_0 : List (Int × Int)) (n_1 : Int) (most_6 : Int) (i_9 : Int) (t_53 : Int) (t_54 : Int) (o_22 : List (List Int)) : Option ((((List (Int × Int)) × Int × Int × Int × Unit) × ((List (List Int)) × Unit) × Unit)) :=
  cond (decide (t_54 < t_53)) (jH i_9 o_22.length (jH (IntKind.wrap .i64 (i_9 + 1)) o_22.length (qg o_22 (IntKind.wrap .i64 (i_9 + 1)) fun e8 => jH t_54 e8.length (qg o_22 (IntKind.wrap .i64 (i_9 + 1)) fun e9 => qg e9 t_54 fun e10 => qg o_22 i_9 fun e11 => jH t_54 e11.length (qg o_22 i_9 fun e12 => qg e12 t_54 fun _ => qg l_0 i_9 fun e14 => cond (decide ((IntKind.wrap .i64 (t_54 - e14.1)) ≥ 0)) (jH i_9 (o_22.set i_9.toNat (e12.set t_54.toNat e10)).length (qg (o_22.set i_9.toNat (e12.set t_54.toNat e10)) i_9 fun e15 => jH (IntKind.wrap .i64 (t_54 - e14.1)) e15.length (qg (o_22.set i_9.toNat (e12.set t_54.toNat e10)) i_9 fun e16 => qg e16 (IntKind.wrap .i64 (t_54 - e14.1)) fun e17 => cond (decide (e17 < 1152921504606846976)) (jH i_9 (o_22.set i_9.toNat (e12.set t_54.toNat e10)).length (jH i_9 (o_22.set i_9.toNat (e12.set t_54.toNat e10)).length (qg (o_22.set i_9.toNat (e12.set t_54.toNat e10)) i_9 fun e18 => jH t_54 e18.length (qg (o_22.set i_9.toNat (e12.set t_54.toNat e10)) i_9 fun e19 => qg e19 t_54 fun e20 => jH i_9 (o_22.set i_9.toNat (e12.set t_54.toNat e10)).length (qg (o_22.set i_9.toNat (e12.set t_54.toNat e10)) i_9 fun e21 => jH (IntKind.wrap .i64 (t_54 - e14.1)) e21.length (qg (o_22.set i_9.toNat (e12.set t_54.toNat e10)) i_9 fun e22 => qg e22 (IntKind.wrap .i64 (t_54 - e14.1)) fun e23 => qg l_0 i_9 fun e24 => qg (o_22.set i_9.toNat (e12.set t_54.toNat e10)) i_9 fun e25 => jH t_54 e25.length (qg (o_22.set i_9.toNat (e12.set t_54.toNat e10)) i_9 fun e26 => qg e26 t_54 fun _ => jM ((o_22.set i_9.toNat (e12.set t_54.toNat e10)).set i_9.toNat (e26.set t_54.toNat (min e20 (IntKind.wrap .i64 (e23 + e24.2))))) fun z28 => L ((l_0, n_1, most_6, i_9, t_53, (IntKind.wrap .i64 (t_54 + 1)), ()), (z28, ()), ())))))))) (L ((l_0, n_1, most_6, i_9, t_53, (IntKind.wrap .i64 (t_54 + 1)), ()), ((o_22.set i_9.toNat (e12.set t_54.toNat e10)), ()), ()))))) (L ((l_0, n_1, most_6, i_9, t_53, (IntKind.wrap .i64 (t_54 + 1)), ()), ((o_22.set i_9.toNat (e12.set t_54.toNat e10)), ()), ()))))))) (some ((l_0, n_1, most_6, i_9, ()), (o_22, ()), ()))
def L70_13 : Nat → ((List (Int × Int)) × Int × Int × Int × Int × Int × Unit) × ((List (List Int)) × Unit) × Unit → Option ((((List (Int × Int)) × Int × Int × Int × Unit) × ((List (List Int)) × Unit) × Unit))
  | 0, _ => none
  | n + 1, d => B70_13 n (L70_13 n) d.1.1 d.1.2.1 d.1.2.2.1 d.1.2.2.2.1 d.1.2.2.2.2.1 d.1.2.2.2.2.2.1 d.2.1.1
def l70_13 : q9 := ⟨⟨[(0, .v zTo), (1, .v zI), (6, .v zI), (7, .c (.view 22 [])), (9, .v zI), (53, .v zI), (54, .v zI)], [(22, true, .list true 26 (.list true 3 zI))], none⟩, [(.exit 4, ⟨[(0, .v zTo), (1, .v zI), (6, .v zI), (7, .c (.view 22 [])), (9, .v zI)], [(22, true, .list true 26 (.list true 3 zI))], none⟩)], L70_13⟩
def B70_10 (n : Nat) (L : ((List (Int × Int)) × Int × Int × Int × Unit) × ((List (List Int)) × Unit) × Unit → Option zTw) (l_0 : List (Int × Int)) (n_1 : Int) (most_6 : Int) (i_9 : Int) (o_22 : List (List Int)) : Option zTw :=
  cond (decide (i_9 ≥ 0)) (jH i_9 o_22.length (qg o_22 i_9 fun e7 => qa (L70_13 n ((l_0, n_1, most_6, i_9, (e7.length : Int), 0, ()), (o_22, ()), ())) fun o29 => L ((o29.1.1, o29.1.2.1, o29.1.2.2.1, (IntKind.wrap .i64 (o29.1.2.2.2.1 - 1)), ()), (o29.2.1.1, ()), ()))) (some ((l_0, n_1, most_6, ()), (o_22, ()), ()))
def L70_10 : Nat → ((List (Int × Int)) × Int × Int × Int × Unit) × ((List (List Int)) × Unit) × Unit → Option zTw
  | 0, _ => none
  | n + 1, d => B70_10 n (L70_10 n) d.1.1 d.1.2.1 d.1.2.2.1 d.1.2.2.2.1 d.2.1.1
def l70_10 : q9 := ⟨⟨[(0, .v zTo), (1, .v zI), (6, .v zI), (7, .c (.view 22 [])), (9, .v zI)], [(22, true, .list true 26 (.list true 3 zI))], none⟩, [(.exit 2, ⟨[(0, .v zTo), (1, .v zI), (6, .v zI), (7, .c (.view 22 []))], [(22, true, .list true 26 (.list true 3 zI))], none⟩)], L70_10⟩
def B70_22 (_n : Nat) (L : ((List (Int × Int)) × Int × Int × Int × Unit) × ((List (List Int)) × Unit) × Unit → Option ((((List (Int × Int)) × Int × Unit) × ((List (List Int)) × Unit) × Unit))) (l_0 : List (Int × Int)) (most_6 : Int) (tokens_12 : Int) (t_13 : Int) (o_22 : List (List Int)) : Option ((((List (Int × Int)) × Int × Unit) × ((List (List Int)) × Unit) × Unit)) :=
  cond (decide (t_13 ≤ most_6)) (jH 0 o_22.length (qg o_22 0 fun e31 => jH t_13 e31.length (qg o_22 0 fun e32 => qg e32 t_13 fun e33 => jH 0 o_22.length (qg o_22 0 fun e34 => jH tokens_12 e34.length (qg o_22 0 fun e35 => qg e35 tokens_12 fun e36 => cond (decide (e33 < e36)) (L ((l_0, most_6, t_13, (IntKind.wrap .i64 (t_13 + 1)), ()), (o_22, ()), ())) (L ((l_0, most_6, tokens_12, (IntKind.wrap .i64 (t_13 + 1)), ()), (o_22, ()), ()))))))) (some ((l_0, tokens_12, ()), (o_22, ()), ()))
def L70_22 : Nat → ((List (Int × Int)) × Int × Int × Int × Unit) × ((List (List Int)) × Unit) × Unit → Option ((((List (Int × Int)) × Int × Unit) × ((List (List Int)) × Unit) × Unit))
  | 0, _ => none
  | n + 1, d => B70_22 n (L70_22 n) d.1.1 d.1.2.1 d.1.2.2.1 d.1.2.2.2.1 d.2.1.1
def l70_22 : q9 := ⟨⟨[(0, .v zTo), (6, .v zI), (7, .c (.view 22 [])), (12, .v zI), (13, .v zI)], [(22, true, .list true 26 (.list true 3 zI))], none⟩, [(.exit 6, ⟨[(0, .v zTo), (7, .c (.view 22 [])), (12, .v zI)], [(22, true, .list true 26 (.list true 3 zI))], none⟩)], L70_22⟩
def B70_34 (_n : Nat) (L : (Int × Int × Int × Int × (List (Int × Int)) × Int × Int × Unit) × ((Int × Int) × (List (List Int)) × (List Int) × Unit) × Unit → Option (((Int × Int × (List (Int × Int)) × Int × Int × Unit) × ((List (List Int)) × (List Int) × Unit) × Unit))) (price_5 : Int) (tokens_12 : Int) (i_14 : Int) (left_16 : Int) (t_150 : List (Int × Int)) (t_151 : Int) (t_152 : Int) (o_15 : Int × Int) (o_22 : List (List Int)) (o_4000149 : List Int) : Option (((Int × Int × (List (Int × Int)) × Int × Int × Unit) × ((List (List Int)) × (List Int) × Unit) × Unit)) :=
  cond (decide (tokens_12 ≥ o_15.1)) (jH i_14 o_22.length (qg o_22 i_14 fun e45 => jH (IntKind.wrap .i64 (tokens_12 - o_15.1)) e45.length (qg o_22 i_14 fun e46 => qg e46 (IntKind.wrap .i64 (tokens_12 - o_15.1)) fun e47 => cond (decide (e47 < 1152921504606846976)) (jH i_14 o_22.length (qg o_22 i_14 fun e48 => jH (IntKind.wrap .i64 (tokens_12 - o_15.1)) e48.length (qg o_22 i_14 fun e49 => qg e49 (IntKind.wrap .i64 (tokens_12 - o_15.1)) fun e50 => cond ((IntKind.wrap .i64 (e50 + o_15.2)) == left_16) (jH i_14 o_4000149.length (qg o_4000149 i_14 fun e51 => jH i_14 o_4000149.length (qg o_4000149 i_14 fun _ => jH i_14 o_22.length (qg o_22 i_14 fun e53 => jH (IntKind.wrap .i64 (tokens_12 - o_15.1)) e53.length (qg o_22 i_14 fun e54 => qg e54 (IntKind.wrap .i64 (tokens_12 - o_15.1)) fun e55 => L ((price_5, (IntKind.wrap .i64 (tokens_12 - o_15.1)), i_14, e55, t_150, t_151, t_152, ()), (o_15, o_22, (o_4000149.set i_14.toNat (IntKind.wrap .i64 (e51 + 1))), ()), ())))))) (some ((price_5, tokens_12, t_150, t_151, t_152, ()), (o_22, o_4000149, ()), ()))))) (some ((price_5, tokens_12, t_150, t_151, t_152, ()), (o_22, o_4000149, ()), ()))))) (some ((price_5, tokens_12, t_150, t_151, t_152, ()), (o_22, o_4000149, ()), ()))
def L70_34 : Nat → (Int × Int × Int × Int × (List (Int × Int)) × Int × Int × Unit) × ((Int × Int) × (List (List Int)) × (List Int) × Unit) × Unit → Option (((Int × Int × (List (Int × Int)) × Int × Int × Unit) × ((List (List Int)) × (List Int) × Unit) × Unit))
  | 0, _ => none
  | n + 1, d => B70_34 n (L70_34 n) d.1.1 d.1.2.1 d.1.2.2.1 d.1.2.2.2.1 d.1.2.2.2.2.1 d.1.2.2.2.2.2.1 d.1.2.2.2.2.2.2.1 d.2.1.1 d.2.1.2.1 d.2.1.2.2.1
def l70_34 : q9 := ⟨⟨[(4, .c (.view 4000149 [])), (5, .v zI), (7, .c (.view 22 [])), (12, .v zI), (14, .v zI), (15, .c (.ptr 15 [])), (16, .v zI), (150, .v zTo), (151, .v zI), (152, .v zI)], [(15, false, .str (.pair zI zI)), (22, true, .list true 26 (.list true 3 zI)), (4000149, true, .list true 3 zI)], none⟩, [(.exit 10, ⟨[(4, .c (.view 4000149 [])), (5, .v zI), (7, .c (.view 22 [])), (12, .v zI), (150, .v zTo), (151, .v zI), (152, .v zI)], [(22, true, .list true 26 (.list true 3 zI)), (4000149, true, .list true 3 zI)], none⟩)], L70_34⟩
def B70_31 (n : Nat) (L : (Int × Int × (List (Int × Int)) × Int × Int × Unit) × ((List (List Int)) × (List Int) × Unit) × Unit → Option (((Int × Unit) × ((List Int) × Unit) × Unit))) (price_5 : Int) (tokens_12 : Int) (t_150 : List (Int × Int)) (t_151 : Int) (t_152 : Int) (o_22 : List (List Int)) (o_4000149 : List Int) : Option (((Int × Unit) × ((List Int) × Unit) × Unit)) :=
  cond (decide (t_152 < t_151)) (qg t_150 t_152 fun e41 => jH t_152 o_22.length (qg o_22 t_152 fun e42 => jH tokens_12 e42.length (qg o_22 t_152 fun e43 => qg e43 tokens_12 fun e44 => qa (L70_34 n ((price_5, tokens_12, t_152, e44, t_150, t_151, t_152, ()), (e41, o_22, o_4000149, ()), ())) fun o56 => L ((o56.1.1, o56.1.2.1, o56.1.2.2.1, o56.1.2.2.2.1, (IntKind.wrap .i64 (o56.1.2.2.2.2.1 + 1)), ()), (o56.2.1.1, o56.2.1.2.1, ()), ())))) (some ((price_5, ()), (o_4000149, ()), ()))
def L70_31 : Nat → (Int × Int × (List (Int × Int)) × Int × Int × Unit) × ((List (List Int)) × (List Int) × Unit) × Unit → Option (((Int × Unit) × ((List Int) × Unit) × Unit))
  | 0, _ => none
  | n + 1, d => B70_31 n (L70_31 n) d.1.1 d.1.2.1 d.1.2.2.1 d.1.2.2.2.1 d.1.2.2.2.2.1 d.2.1.1 d.2.1.2.1
def l70_31 : q9 := ⟨⟨[(4, .c (.view 4000149 [])), (5, .v zI), (7, .c (.view 22 [])), (12, .v zI), (150, .v zTo), (151, .v zI), (152, .v zI)], [(22, true, .list true 26 (.list true 3 zI)), (4000149, true, .list true 3 zI)], none⟩, [(.exit 8, ⟨[(4, .c (.view 4000149 [])), (5, .v zI)], [(4000149, true, .list true 3 zI)], none⟩)], L70_31⟩
def F70 (n : Nat) (l_0 : (List (Int × Int))) (n_1 : Int) : Option (((List Int) × Int × Unit) × (Unit)) :=
  leK 0 (IntKind.wrap .i64 ((l_0.length : Int) + 1)) (leK (IntKind.wrap .i64 ((l_0.length : Int) + 1)) (IntKind.wrap .i64 ((l_0.length : Int) + 1)) (qY (IntKind.wrap .i64 ((l_0.length : Int) + 1)) (qa (L70_4 n ((l_0, n_1, (IntKind.wrap .i64 (n_1 + 1000)), ((List.replicate (IntKind.wrap .i64 ((l_0.length : Int) + 1)).toNat ([] : List Int)).length : Int), 0, ()), ((List.replicate (IntKind.wrap .i64 ((l_0.length : Int) + 1)).toNat ([] : List Int)), ()), ())) fun o3 => jH (o3.1.1.length : Int) o3.2.1.1.length (qg o3.2.1.1 (o3.1.1.length : Int) fun e4 => jH 0 e4.length (qg o3.2.1.1 (o3.1.1.length : Int) fun e5 => qg e5 0 fun _ => qa (L70_10 n ((o3.1.1, o3.1.2.1, o3.1.2.2.1, (IntKind.wrap .i64 ((o3.1.1.length : Int) - 1)), ()), ((o3.2.1.1.set (o3.1.1.length : Int).toNat (e5.set (0 : Int).toNat 0)), ()), ())) fun o30 => qa (L70_22 n ((o30.1.1, o30.1.2.2.1, o30.1.2.1, o30.1.2.1, ()), (o30.2.1.1, ()), ())) fun o37 => jH 0 o37.2.1.1.length (qg o37.2.1.1 0 fun e38 => jH o37.1.2.1 e38.length (qg o37.2.1.1 0 fun e39 => qg e39 o37.1.2.1 fun e40 => cond (e40 == 1152921504606846976) (none) (leK 0 (o37.1.1.length : Int) (leK (o37.1.1.length : Int) (o37.1.1.length : Int) (qY (o37.1.1.length : Int) (qa (L70_31 n ((e40, o37.1.2.1, o37.1.1, (o37.1.1.length : Int), 0, ()), (o37.2.1.1, (List.replicate (o37.1.1.length : Int).toNat (0 : Int)), ()), ())) fun o57 => some ((o57.2.1.1, o57.1.1, ()), ()))))))))))))
def g70 (d : (List (Int × Int)) × Int × Unit) : Option (((List Int) × Int × Unit) × (Unit)) := F70 qe d.1 d.2.1
def p70 : qD := ⟨[.v zTo, .v zI], [.sure true 3 zI, .v zI], g70⟩
def c70 : qT := ⟨218, tyT, [(22, .list true 26 (.list true 3 zI)), (4, .bool)], [(90, p90)], [(4, l70_4), (13, l70_13), (10, l70_10), (22, l70_22), (34, l70_34), (31, l70_31)], [], [1000149], [], [], [], [], [], [], [], none⟩
theorem F70_eq (n : Nat) (d) : qx c70 n Tryz.f70 (body Tryz.f70) p70.ps p70.rs d = F70 n d.1 d.2.1 := by kernel_rfl
theorem L70_4_eq (n : Nat) (d) : (l70_4).g (n + 1) d = run c70 n (jZ 0 (qd (body Tryz.f70))) ((l70_4).ins.fill d) (qN (l70_4) n) := by kernel_rfl
theorem L70_10_eq (n : Nat) (d) : (l70_10).g (n + 1) d = run c70 n (jZ 1 (qd (body Tryz.f70))) ((l70_10).ins.fill d) (qN (l70_10) n) := by kernel_rfl
theorem L70_13_eq (n : Nat) (d) : (l70_13).g (n + 1) d = run c70 n (jZ 2 (qd (body Tryz.f70))) ((l70_13).ins.fill d) (qN (l70_13) n) := by kernel_rfl
theorem L70_22_eq (n : Nat) (d) : (l70_22).g (n + 1) d = run c70 n (jZ 3 (qd (body Tryz.f70))) ((l70_22).ins.fill d) (qN (l70_22) n) := by kernel_rfl
theorem L70_31_eq (n : Nat) (d) : (l70_31).g (n + 1) d = run c70 n (jZ 4 (qd (body Tryz.f70))) ((l70_31).ins.fill d) (qN (l70_31) n) := by kernel_rfl
theorem L70_34_eq (n : Nat) (d) : (l70_34).g (n + 1) d = run c70 n (jZ 5 (qd (body Tryz.f70))) ((l70_34).ins.fill d) (qN (l70_34) n) := by kernel_rfl
theorem ls70 : qd (body Tryz.f70) = [jZ 0 (qd (body Tryz.f70)), jZ 1 (qd (body Tryz.f70)), jZ 2 (qd (body Tryz.f70)), jZ 3 (qd (body Tryz.f70)), jZ 4 (qd (body Tryz.f70)), jZ 5 (qd (body Tryz.f70))] := by kernel_rfl
theorem h70 : qu Tryz.prog 70 p70 := hQ (cfg := c70) (qn qo (qc h90 qh) rfl (by kernel_rfl)) Tryz.func70 (by kernel_rfl) (by rw [ls70]; simp only [List.forall_mem_cons]; exact ⟨qC (key := 4) (li := l70_4) (by kernel_rfl) rfl (fun _ => rfl) (L70_4_eq), qC (key := 10) (li := l70_10) (by kernel_rfl) rfl (fun _ => rfl) (L70_10_eq), qC (key := 13) (li := l70_13) (by kernel_rfl) rfl (fun _ => rfl) (L70_13_eq), qC (key := 22) (li := l70_22) (by kernel_rfl) rfl (fun _ => rfl) (L70_22_eq), qC (key := 31) (li := l70_31) (by kernel_rfl) rfl (fun _ => rfl) (L70_31_eq), qC (key := 34) (li := l70_34) (by kernel_rfl) rfl (fun _ => rfl) (L70_34_eq), fun _ h => by cases h⟩) (by kernel_rfl) (F70_eq qe)
def B10070_4 (_n : Nat) (L : ((List (Int × Int)) × Int × Int × Int × Int × Unit) × ((List (List Int)) × Unit) × Unit → Option zTw) (l_0 : List (Int × Int)) (n_1 : Int) (most_6 : Int) (t_24 : Int) (t_25 : Int) (o_22 : List (List Int)) : Option zTw :=
  cond (decide (t_25 < t_24)) (qa (g90 ([1152921504606846976], (IntKind.wrap .i64 (most_6 + 1)), ())) fun y1 => jH t_25 o_22.length (qg o_22 t_25 fun _ => L ((l_0, n_1, most_6, t_24, (IntKind.wrap .i64 (t_25 + 1)), ()), ((o_22.set t_25.toNat y1.1.1), ()), ()))) (some ((l_0, n_1, most_6, ()), (o_22, ()), ()))
def L10070_4 : Nat → ((List (Int × Int)) × Int × Int × Int × Int × Unit) × ((List (List Int)) × Unit) × Unit → Option zTw
  | 0, _ => none
  | n + 1, d => B10070_4 n (L10070_4 n) d.1.1 d.1.2.1 d.1.2.2.1 d.1.2.2.2.1 d.1.2.2.2.2.1 d.2.1.1
def l10070_4 : q9 := ⟨⟨[(0, .v zTo), (1, .v zI), (6, .v zI), (7, .c (.view 22 [])), (24, .v zI), (25, .v zI)], [(22, true, .list true 26 (.list true 3 zI))], none⟩, [(.exit 0, ⟨[(0, .v zTo), (1, .v zI), (6, .v zI), (7, .c (.view 22 []))], [(22, true, .list true 26 (.list true 3 zI))], none⟩)], L10070_4⟩
def B10070_13 (_n : Nat) (L : ((List (Int × Int)) × Int × Int × Int × Int × Int × Unit) × ((List (List Int)) × Unit) × Unit → Option ((((List (Int × Int)) × Int × Int × Int × Unit) × ((List (List Int)) × Unit) × Unit))) (l_0 : List (Int × Int)) (n_1 : Int) (most_6 : Int) (i_9 : Int) (t_53 : Int) (t_54 : Int) (o_22 : List (List Int)) : Option ((((List (Int × Int)) × Int × Int × Int × Unit) × ((List (List Int)) × Unit) × Unit)) :=
  cond (decide (t_54 < t_53)) (jH i_9 o_22.length (jH (IntKind.wrap .i64 (i_9 + 1)) o_22.length (qg o_22 (IntKind.wrap .i64 (i_9 + 1)) fun e8 => jH t_54 e8.length (qg o_22 (IntKind.wrap .i64 (i_9 + 1)) fun e9 => qg e9 t_54 fun e10 => qg o_22 i_9 fun e11 => jH t_54 e11.length (qg o_22 i_9 fun e12 => qg e12 t_54 fun _ => qg l_0 i_9 fun e14 => cond (decide ((IntKind.wrap .i64 (t_54 - e14.1)) ≥ 0)) (jH i_9 (o_22.set i_9.toNat (e12.set t_54.toNat e10)).length (qg (o_22.set i_9.toNat (e12.set t_54.toNat e10)) i_9 fun e15 => jH (IntKind.wrap .i64 (t_54 - e14.1)) e15.length (qg (o_22.set i_9.toNat (e12.set t_54.toNat e10)) i_9 fun e16 => qg e16 (IntKind.wrap .i64 (t_54 - e14.1)) fun e17 => cond (decide (e17 < 1152921504606846976)) (jH i_9 (o_22.set i_9.toNat (e12.set t_54.toNat e10)).length (jH i_9 (o_22.set i_9.toNat (e12.set t_54.toNat e10)).length (qg (o_22.set i_9.toNat (e12.set t_54.toNat e10)) i_9 fun e18 => jH t_54 e18.length (qg (o_22.set i_9.toNat (e12.set t_54.toNat e10)) i_9 fun e19 => qg e19 t_54 fun e20 => jH i_9 (o_22.set i_9.toNat (e12.set t_54.toNat e10)).length (qg (o_22.set i_9.toNat (e12.set t_54.toNat e10)) i_9 fun e21 => jH (IntKind.wrap .i64 (t_54 - e14.1)) e21.length (qg (o_22.set i_9.toNat (e12.set t_54.toNat e10)) i_9 fun e22 => qg e22 (IntKind.wrap .i64 (t_54 - e14.1)) fun e23 => qg l_0 i_9 fun e24 => qg (o_22.set i_9.toNat (e12.set t_54.toNat e10)) i_9 fun e25 => jH t_54 e25.length (qg (o_22.set i_9.toNat (e12.set t_54.toNat e10)) i_9 fun e26 => qg e26 t_54 fun _ => jM ((o_22.set i_9.toNat (e12.set t_54.toNat e10)).set i_9.toNat (e26.set t_54.toNat (min e20 (IntKind.wrap .i64 (e23 + e24.2))))) fun z28 => L ((l_0, n_1, most_6, i_9, t_53, (IntKind.wrap .i64 (t_54 + 1)), ()), (z28, ()), ())))))))) (L ((l_0, n_1, most_6, i_9, t_53, (IntKind.wrap .i64 (t_54 + 1)), ()), ((o_22.set i_9.toNat (e12.set t_54.toNat e10)), ()), ()))))) (L ((l_0, n_1, most_6, i_9, t_53, (IntKind.wrap .i64 (t_54 + 1)), ()), ((o_22.set i_9.toNat (e12.set t_54.toNat e10)), ()), ()))))))) (some ((l_0, n_1, most_6, i_9, ()), (o_22, ()), ()))
def L10070_13 : Nat → ((List (Int × Int)) × Int × Int × Int × Int × Int × Unit) × ((List (List Int)) × Unit) × Unit → Option ((((List (Int × Int)) × Int × Int × Int × Unit) × ((List (List Int)) × Unit) × Unit))
  | 0, _ => none
  | n + 1, d => B10070_13 n (L10070_13 n) d.1.1 d.1.2.1 d.1.2.2.1 d.1.2.2.2.1 d.1.2.2.2.2.1 d.1.2.2.2.2.2.1 d.2.1.1
def l10070_13 : q9 := ⟨⟨[(0, .v zTo), (1, .v zI), (6, .v zI), (7, .c (.view 22 [])), (9, .v zI), (53, .v zI), (54, .v zI)], [(22, true, .list true 26 (.list true 3 zI))], none⟩, [(.exit 4, ⟨[(0, .v zTo), (1, .v zI), (6, .v zI), (7, .c (.view 22 [])), (9, .v zI)], [(22, true, .list true 26 (.list true 3 zI))], none⟩)], L10070_13⟩
def B10070_10 (n : Nat) (L : ((List (Int × Int)) × Int × Int × Int × Unit) × ((List (List Int)) × Unit) × Unit → Option zTw) (l_0 : List (Int × Int)) (n_1 : Int) (most_6 : Int) (i_9 : Int) (o_22 : List (List Int)) : Option zTw :=
  cond (decide (i_9 ≥ 0)) (jH i_9 o_22.length (qg o_22 i_9 fun e7 => qa (L10070_13 n ((l_0, n_1, most_6, i_9, (e7.length : Int), 0, ()), (o_22, ()), ())) fun o29 => L ((o29.1.1, o29.1.2.1, o29.1.2.2.1, (IntKind.wrap .i64 (o29.1.2.2.2.1 - 1)), ()), (o29.2.1.1, ()), ()))) (some ((l_0, n_1, most_6, ()), (o_22, ()), ()))
def L10070_10 : Nat → ((List (Int × Int)) × Int × Int × Int × Unit) × ((List (List Int)) × Unit) × Unit → Option zTw
  | 0, _ => none
  | n + 1, d => B10070_10 n (L10070_10 n) d.1.1 d.1.2.1 d.1.2.2.1 d.1.2.2.2.1 d.2.1.1
def l10070_10 : q9 := ⟨⟨[(0, .v zTo), (1, .v zI), (6, .v zI), (7, .c (.view 22 [])), (9, .v zI)], [(22, true, .list true 26 (.list true 3 zI))], none⟩, [(.exit 2, ⟨[(0, .v zTo), (1, .v zI), (6, .v zI), (7, .c (.view 22 []))], [(22, true, .list true 26 (.list true 3 zI))], none⟩)], L10070_10⟩
def B10070_22 (_n : Nat) (L : ((List (Int × Int)) × Int × Int × Int × Unit) × ((List (List Int)) × Unit) × Unit → Option ((((List (Int × Int)) × Int × Unit) × ((List (List Int)) × Unit) × Unit))) (l_0 : List (Int × Int)) (most_6 : Int) (tokens_12 : Int) (t_13 : Int) (o_22 : List (List Int)) : Option ((((List (Int × Int)) × Int × Unit) × ((List (List Int)) × Unit) × Unit)) :=
  cond (decide (t_13 ≤ most_6)) (jH 0 o_22.length (qg o_22 0 fun e31 => jH t_13 e31.length (qg o_22 0 fun e32 => qg e32 t_13 fun e33 => jH 0 o_22.length (qg o_22 0 fun e34 => jH tokens_12 e34.length (qg o_22 0 fun e35 => qg e35 tokens_12 fun e36 => cond (decide (e33 < e36)) (L ((l_0, most_6, t_13, (IntKind.wrap .i64 (t_13 + 1)), ()), (o_22, ()), ())) (L ((l_0, most_6, tokens_12, (IntKind.wrap .i64 (t_13 + 1)), ()), (o_22, ()), ()))))))) (some ((l_0, tokens_12, ()), (o_22, ()), ()))
def L10070_22 : Nat → ((List (Int × Int)) × Int × Int × Int × Unit) × ((List (List Int)) × Unit) × Unit → Option ((((List (Int × Int)) × Int × Unit) × ((List (List Int)) × Unit) × Unit))
  | 0, _ => none
  | n + 1, d => B10070_22 n (L10070_22 n) d.1.1 d.1.2.1 d.1.2.2.1 d.1.2.2.2.1 d.2.1.1
def l10070_22 : q9 := ⟨⟨[(0, .v zTo), (6, .v zI), (7, .c (.view 22 [])), (12, .v zI), (13, .v zI)], [(22, true, .list true 26 (.list true 3 zI))], none⟩, [(.exit 6, ⟨[(0, .v zTo), (7, .c (.view 22 [])), (12, .v zI)], [(22, true, .list true 26 (.list true 3 zI))], none⟩)], L10070_22⟩
def B10070_34 (_n : Nat) (L : (Int × Int × Int × Int × (List (Int × Int)) × Int × Int × Unit) × ((Int × Int) × (List (List Int)) × (List Int) × Unit) × Unit → Option (((Int × Int × (List (Int × Int)) × Int × Int × Unit) × ((List (List Int)) × (List Int) × Unit) × Unit))) (price_5 : Int) (tokens_12 : Int) (i_14 : Int) (left_16 : Int) (t_150 : List (Int × Int)) (t_151 : Int) (t_152 : Int) (o_15 : Int × Int) (o_22 : List (List Int)) (o_4000149 : List Int) : Option (((Int × Int × (List (Int × Int)) × Int × Int × Unit) × ((List (List Int)) × (List Int) × Unit) × Unit)) :=
  cond (decide (tokens_12 ≥ o_15.1)) (jH i_14 o_22.length (qg o_22 i_14 fun e45 => jH (IntKind.wrap .i64 (tokens_12 - o_15.1)) e45.length (qg o_22 i_14 fun e46 => qg e46 (IntKind.wrap .i64 (tokens_12 - o_15.1)) fun e47 => cond (decide (e47 < 1152921504606846976)) (jH i_14 o_22.length (qg o_22 i_14 fun e48 => jH (IntKind.wrap .i64 (tokens_12 - o_15.1)) e48.length (qg o_22 i_14 fun e49 => qg e49 (IntKind.wrap .i64 (tokens_12 - o_15.1)) fun e50 => cond ((IntKind.wrap .i64 (e50 + o_15.2)) == left_16) (jH i_14 o_4000149.length (qg o_4000149 i_14 fun e51 => jH i_14 o_4000149.length (qg o_4000149 i_14 fun _ => jH i_14 o_22.length (qg o_22 i_14 fun e53 => jH (IntKind.wrap .i64 (tokens_12 - o_15.1)) e53.length (qg o_22 i_14 fun e54 => qg e54 (IntKind.wrap .i64 (tokens_12 - o_15.1)) fun e55 => L ((price_5, (IntKind.wrap .i64 (tokens_12 - o_15.1)), i_14, e55, t_150, t_151, t_152, ()), (o_15, o_22, (o_4000149.set i_14.toNat (IntKind.wrap .i64 (e51 + 1))), ()), ())))))) (some ((price_5, tokens_12, t_150, t_151, t_152, ()), (o_22, o_4000149, ()), ()))))) (some ((price_5, tokens_12, t_150, t_151, t_152, ()), (o_22, o_4000149, ()), ()))))) (some ((price_5, tokens_12, t_150, t_151, t_152, ()), (o_22, o_4000149, ()), ()))
def L10070_34 : Nat → (Int × Int × Int × Int × (List (Int × Int)) × Int × Int × Unit) × ((Int × Int) × (List (List Int)) × (List Int) × Unit) × Unit → Option (((Int × Int × (List (Int × Int)) × Int × Int × Unit) × ((List (List Int)) × (List Int) × Unit) × Unit))
  | 0, _ => none
  | n + 1, d => B10070_34 n (L10070_34 n) d.1.1 d.1.2.1 d.1.2.2.1 d.1.2.2.2.1 d.1.2.2.2.2.1 d.1.2.2.2.2.2.1 d.1.2.2.2.2.2.2.1 d.2.1.1 d.2.1.2.1 d.2.1.2.2.1
def l10070_34 : q9 := ⟨⟨[(4, .c (.view 4000149 [])), (5, .v zI), (7, .c (.view 22 [])), (12, .v zI), (14, .v zI), (15, .c (.ptr 15 [])), (16, .v zI), (150, .v zTo), (151, .v zI), (152, .v zI)], [(15, false, .str (.pair zI zI)), (22, true, .list true 26 (.list true 3 zI)), (4000149, true, .list true 3 zI)], none⟩, [(.exit 10, ⟨[(4, .c (.view 4000149 [])), (5, .v zI), (7, .c (.view 22 [])), (12, .v zI), (150, .v zTo), (151, .v zI), (152, .v zI)], [(22, true, .list true 26 (.list true 3 zI)), (4000149, true, .list true 3 zI)], none⟩)], L10070_34⟩
def B10070_31 (n : Nat) (L : (Int × Int × (List (Int × Int)) × Int × Int × Unit) × ((List (List Int)) × (List Int) × Unit) × Unit → Option (((Int × Unit) × ((List Int) × Unit) × Unit))) (price_5 : Int) (tokens_12 : Int) (t_150 : List (Int × Int)) (t_151 : Int) (t_152 : Int) (o_22 : List (List Int)) (o_4000149 : List Int) : Option (((Int × Unit) × ((List Int) × Unit) × Unit)) :=
  cond (decide (t_152 < t_151)) (qg t_150 t_152 fun e41 => jH t_152 o_22.length (qg o_22 t_152 fun e42 => jH tokens_12 e42.length (qg o_22 t_152 fun e43 => qg e43 tokens_12 fun e44 => qa (L10070_34 n ((price_5, tokens_12, t_152, e44, t_150, t_151, t_152, ()), (e41, o_22, o_4000149, ()), ())) fun o56 => L ((o56.1.1, o56.1.2.1, o56.1.2.2.1, o56.1.2.2.2.1, (IntKind.wrap .i64 (o56.1.2.2.2.2.1 + 1)), ()), (o56.2.1.1, o56.2.1.2.1, ()), ())))) (some ((price_5, ()), (o_4000149, ()), ()))
def L10070_31 : Nat → (Int × Int × (List (Int × Int)) × Int × Int × Unit) × ((List (List Int)) × (List Int) × Unit) × Unit → Option (((Int × Unit) × ((List Int) × Unit) × Unit))
  | 0, _ => none
  | n + 1, d => B10070_31 n (L10070_31 n) d.1.1 d.1.2.1 d.1.2.2.1 d.1.2.2.2.1 d.1.2.2.2.2.1 d.2.1.1 d.2.1.2.1
def l10070_31 : q9 := ⟨⟨[(4, .c (.view 4000149 [])), (5, .v zI), (7, .c (.view 22 [])), (12, .v zI), (150, .v zTo), (151, .v zI), (152, .v zI)], [(22, true, .list true 26 (.list true 3 zI)), (4000149, true, .list true 3 zI)], none⟩, [(.exit 8, ⟨[(4, .c (.view 4000149 [])), (5, .v zI)], [(4000149, true, .list true 3 zI)], none⟩)], L10070_31⟩
def F10070 (n : Nat) (l_0 : (List (Int × Int))) (n_1 : Int) : Option (((List Int) × Int × Unit) × (Unit)) :=
  leK 0 (IntKind.wrap .i64 ((l_0.length : Int) + 1)) (leK (IntKind.wrap .i64 ((l_0.length : Int) + 1)) (IntKind.wrap .i64 ((l_0.length : Int) + 1)) (qY (IntKind.wrap .i64 ((l_0.length : Int) + 1)) (qa (L10070_4 n ((l_0, n_1, (IntKind.wrap .i64 (n_1 + 1000)), ((List.replicate (IntKind.wrap .i64 ((l_0.length : Int) + 1)).toNat ([] : List Int)).length : Int), 0, ()), ((List.replicate (IntKind.wrap .i64 ((l_0.length : Int) + 1)).toNat ([] : List Int)), ()), ())) fun o3 => jH (o3.1.1.length : Int) o3.2.1.1.length (qg o3.2.1.1 (o3.1.1.length : Int) fun e4 => jH 0 e4.length (qg o3.2.1.1 (o3.1.1.length : Int) fun e5 => qg e5 0 fun _ => qa (L10070_10 n ((o3.1.1, o3.1.2.1, o3.1.2.2.1, (IntKind.wrap .i64 ((o3.1.1.length : Int) - 1)), ()), ((o3.2.1.1.set (o3.1.1.length : Int).toNat (e5.set (0 : Int).toNat 0)), ()), ())) fun o30 => qa (L10070_22 n ((o30.1.1, o30.1.2.2.1, o30.1.2.1, o30.1.2.1, ()), (o30.2.1.1, ()), ())) fun o37 => jH 0 o37.2.1.1.length (qg o37.2.1.1 0 fun e38 => jH o37.1.2.1 e38.length (qg o37.2.1.1 0 fun e39 => qg e39 o37.1.2.1 fun e40 => cond (e40 == 1152921504606846976) (some ((([] : List Int), 0, ()), ())) (leK 0 (o37.1.1.length : Int) (leK (o37.1.1.length : Int) (o37.1.1.length : Int) (qY (o37.1.1.length : Int) (qa (L10070_31 n ((e40, o37.1.2.1, o37.1.1, (o37.1.1.length : Int), 0, ()), (o37.2.1.1, (List.replicate (o37.1.1.length : Int).toNat (0 : Int)), ()), ())) fun _ => none)))))))))))
def g10070 (d : (List (Int × Int)) × Int × Unit) : Option (((List Int) × Int × Unit) × (Unit)) := F10070 qe d.1 d.2.1
def p10070 : qD := ⟨[.v zTo, .v zI], [.sure false 3 zI, .v zI], g10070⟩
def c10070 : qT := ⟨218, tyT, [(22, .list true 26 (.list true 3 zI)), (4, .bool)], [(90, p90)], [(4, l10070_4), (13, l10070_13), (10, l10070_10), (22, l10070_22), (34, l10070_34), (31, l10070_31)], [], [1000149], [], [], [], [], [], [], [], none⟩
theorem F10070_eq (n : Nat) (d) : qx c10070 n Tryz.f70 (body Tryz.f70) p10070.ps p10070.rs d = F10070 n d.1 d.2.1 := by kernel_rfl
theorem L10070_4_eq (n : Nat) (d) : (l10070_4).g (n + 1) d = run c10070 n (jZ 0 (qd (body Tryz.f70))) ((l10070_4).ins.fill d) (qN (l10070_4) n) := by kernel_rfl
theorem L10070_10_eq (n : Nat) (d) : (l10070_10).g (n + 1) d = run c10070 n (jZ 1 (qd (body Tryz.f70))) ((l10070_10).ins.fill d) (qN (l10070_10) n) := by kernel_rfl
theorem L10070_13_eq (n : Nat) (d) : (l10070_13).g (n + 1) d = run c10070 n (jZ 2 (qd (body Tryz.f70))) ((l10070_13).ins.fill d) (qN (l10070_13) n) := by kernel_rfl
theorem L10070_22_eq (n : Nat) (d) : (l10070_22).g (n + 1) d = run c10070 n (jZ 3 (qd (body Tryz.f70))) ((l10070_22).ins.fill d) (qN (l10070_22) n) := by kernel_rfl
theorem L10070_31_eq (n : Nat) (d) : (l10070_31).g (n + 1) d = run c10070 n (jZ 4 (qd (body Tryz.f70))) ((l10070_31).ins.fill d) (qN (l10070_31) n) := by kernel_rfl
theorem L10070_34_eq (n : Nat) (d) : (l10070_34).g (n + 1) d = run c10070 n (jZ 5 (qd (body Tryz.f70))) ((l10070_34).ins.fill d) (qN (l10070_34) n) := by kernel_rfl
theorem ls10070 : qd (body Tryz.f70) = [jZ 0 (qd (body Tryz.f70)), jZ 1 (qd (body Tryz.f70)), jZ 2 (qd (body Tryz.f70)), jZ 3 (qd (body Tryz.f70)), jZ 4 (qd (body Tryz.f70)), jZ 5 (qd (body Tryz.f70))] := by kernel_rfl
theorem h10070 : qu Tryz.prog 70 p10070 := hQ (cfg := c10070) (qn qo (qc h90 qh) rfl (by kernel_rfl)) Tryz.func70 (by kernel_rfl) (by rw [ls10070]; simp only [List.forall_mem_cons]; exact ⟨qC (key := 4) (li := l10070_4) (by kernel_rfl) rfl (fun _ => rfl) (L10070_4_eq), qC (key := 10) (li := l10070_10) (by kernel_rfl) rfl (fun _ => rfl) (L10070_10_eq), qC (key := 13) (li := l10070_13) (by kernel_rfl) rfl (fun _ => rfl) (L10070_13_eq), qC (key := 22) (li := l10070_22) (by kernel_rfl) rfl (fun _ => rfl) (L10070_22_eq), qC (key := 31) (li := l10070_31) (by kernel_rfl) rfl (fun _ => rfl) (L10070_31_eq), qC (key := 34) (li := l10070_34) (by kernel_rfl) rfl (fun _ => rfl) (L10070_34_eq), fun _ h => by cases h⟩) (by kernel_rfl) (F10070_eq qe)
def F33 (_n : Nat) (f_0 : (Int × (Int × ((List Int) × ((List Int) × ((List (Int × Int)) × (Int × (Int × Int)))))))) (n_1 : Int) : Option (((List Int) × Int × Int × Unit) × (Unit)) :=
  altK (g10070 (f_0.2.2.2.2.1, n_1, ())) (fun _ => some ((([] : List Int), 0, 3, ()), ())) (qa (g70 (f_0.2.2.2.2.1, n_1, ())) fun y2 => some ((y2.1.1, y2.1.2.1, 0, ()), ()))
def g33 (d : (Int × (Int × ((List Int) × ((List Int) × ((List (Int × Int)) × (Int × (Int × Int))))))) × Int × Unit) : Option (((List Int) × Int × Int × Unit) × (Unit)) := F33 qe d.1 d.2.1
def p33 : qD := ⟨[.v (.str (.pair zI (.pair zI (.pair (.list false 3 zI) (.pair (.list false 3 zI) (.pair zTo zTj)))))), .v zI], [.own 3 zI, .v zI, .v zI], g33⟩
def c33 : qT := ⟨20, tyT, [], [(70, p70)], [], [], [], [], [], [], [(70, p10070)], [], [], [], none⟩
theorem F33_eq (n : Nat) (d) : qx c33 n Tryz.f33 (body Tryz.f33) p33.ps p33.rs d = F33 n d.1 d.2.1 := by kernel_rfl
theorem h33 : qu Tryz.prog 33 p33 := hQ (cfg := c33) (qn qo (qc h70 qh) rfl (by kernel_rfl) (hal := qc h10070 qh)) Tryz.func33 (by kernel_rfl) (qr (by kernel_rfl)) (by kernel_rfl) (F33_eq qe)
def F12 (_n : Nat) (f_0 : (Int × (Int × ((List Int) × ((List Int) × ((List (Int × Int)) × (Int × (Int × Int)))))))) (n_1 : Int) : Option (((List Int) × Int × Int × Unit) × (Unit)) :=
  qa (g31 (f_0, ())) fun y1 => cond (y1.1.1 != 0) (some ((([] : List Int), 0, y1.1.1, ()), ())) (qa (g32 (n_1, 0, 1000, ())) fun y2 => cond (!y2.1.1) (some ((([] : List Int), 0, 1, ()), ())) (qa (g33 (f_0, n_1, ())) fun y3 => some ((y3.1.1, y3.1.2.1, y3.1.2.2.1, ()), ())))
def g12 (d : (Int × (Int × ((List Int) × ((List Int) × ((List (Int × Int)) × (Int × (Int × Int))))))) × Int × Unit) : Option (((List Int) × Int × Int × Unit) × (Unit)) := F12 qe d.1 d.2.1
def p12 : qD := ⟨[.v (.str (.pair zI (.pair zI (.pair (.list false 3 zI) (.pair (.list false 3 zI) (.pair zTo zTj)))))), .v zI], [.own 3 zI, .v zI, .v zI], g12⟩
def c12 : qT := ⟨22, tyT, [], [(31, p31), (32, p32), (33, p33)], [], [], [], [], [], [], [], [], [], [], none⟩
theorem F12_eq (n : Nat) (d) : qx c12 n Tryz.f12 (body Tryz.f12) p12.ps p12.rs d = F12 n d.1 d.2.1 := by kernel_rfl
theorem d12 : qj c12 (body Tryz.f12) = true := by kernel_rfl
theorem h12 : qu Tryz.prog 12 p12 := hQ (cfg := c12) (qn qo (qc h31 (qc h32 (qc h33 qh))) rfl (by kernel_rfl)) Tryz.func12 (by kernel_rfl) (qr (by kernel_rfl)) d12 (F12_eq qe)
def B13_4 (_n : Nat) (L : ((List Int) × (List Int) × Int × Unit) × (Unit) × Unit → Option (((Bool × Unit) × (Unit) × Unit) ⊕ ((Unit) × (Unit) × Unit))) (a_0 : List Int) (b_1 : List Int) (i_5 : Int) : Option (((Bool × Unit) × (Unit) × Unit) ⊕ ((Unit) × (Unit) × Unit)) :=
  cond (decide (i_5 < (a_0.length : Int))) (qg a_0 i_5 fun e1 => qg b_1 i_5 fun e2 => cond (e1 != e2) (some (.inl ((false, ()), (), ()))) (L ((a_0, b_1, (IntKind.wrap .i64 (i_5 + 1)), ()), (), ()))) (some (.inr ((), (), ())))
def L13_4 : Nat → ((List Int) × (List Int) × Int × Unit) × (Unit) × Unit → Option (((Bool × Unit) × (Unit) × Unit) ⊕ ((Unit) × (Unit) × Unit))
  | 0, _ => none
  | n + 1, d => B13_4 n (L13_4 n) d.1.1 d.1.2.1 d.1.2.2.1
def l13_4 : q9 := ⟨⟨[(0, .v (.list false 3 zI)), (1, .v (.list false 3 zI)), (5, .v zI)], [], none⟩, [(.ret, ⟨[(4, .v .bool)], [], none⟩), (.exit 0, ⟨[], [], none⟩)], L13_4⟩
def F13 (n : Nat) (a_0 : (List Int)) (b_1 : (List Int)) : Option ((Bool × Unit) × (Unit)) :=
  cond ((a_0.length : Int) != (b_1.length : Int)) (some ((false, ()), ())) (qa (L13_4 n ((a_0, b_1, 0, ()), (), ())) fun o3 => qbb o3 (fun d4 => some ((d4.1.1, ()), ())) (fun _ => some ((true, ()), ())))
def g13 (d : (List Int) × (List Int) × Unit) : Option ((Bool × Unit) × (Unit)) := F13 qe d.1 d.2.1
def p13 : qD := ⟨[.v (.list false 3 zI), .v (.list false 3 zI)], [.v .bool], g13⟩
def c13 : qT := ⟨26, tyT, [], [], [(4, l13_4)], [], [], [], [], [], [], [], [], [], none⟩
theorem F13_eq (n : Nat) (d) : qx c13 n Tryz.f13 (body Tryz.f13) p13.ps p13.rs d = F13 n d.1 d.2.1 := by kernel_rfl
theorem L13_4_eq (n : Nat) (d) : (l13_4).g (n + 1) d = run c13 n (jZ 0 (qd (body Tryz.f13))) ((l13_4).ins.fill d) (qN (l13_4) n) := by kernel_rfl
theorem ls13 : qd (body Tryz.f13) = [jZ 0 (qd (body Tryz.f13))] := by kernel_rfl
theorem h13 : qu Tryz.prog 13 p13 := hQ (cfg := c13) (qn qo (qh) rfl (by kernel_rfl)) Tryz.func13 (by kernel_rfl) (by rw [ls13]; simp only [List.forall_mem_cons]; exact ⟨qC (key := 4) (li := l13_4) (by kernel_rfl) rfl (fun _ => rfl) (L13_4_eq), fun _ h => by cases h⟩) (by kernel_rfl) (F13_eq qe)
def F6 (_n : Nat)  : Option ((Bool × Unit) × (Unit)) :=
  jM ((0 : Int), (0 : Int), [5], [0], [(1, 200), (6, 1000)], (0 : Int), (0 : Int), 1) fun z1 => qa (g12 (z1, 7, ())) fun y2 => cond (y2.1.2.2.1 == 0) (cond (y2.1.2.1 == 1200) (qa (g13 (y2.1.1, [1, 1], ())) fun y3 => some ((y3.1.1, ()), ())) (some ((false, ()), ()))) (some ((false, ()), ()))
def g6 (_d : Unit) : Option ((Bool × Unit) × (Unit)) := F6 qe 
def p6 : qD := ⟨[], [.v .bool], g6⟩
def c6 : qT := ⟨28, tyT, [], [(12, p12), (13, p13)], [], [], [], [], [], [], [], [], [], [], none⟩
theorem F6_eq (n : Nat) (d) : qx c6 n Tryz.f6 (body Tryz.f6) p6.ps p6.rs d = F6 n  := by kernel_rfl
theorem d6 : qj c6 (body Tryz.f6) = true := by kernel_rfl
theorem h6 : qu Tryz.prog 6 p6 := hQ (cfg := c6) (qn qo (qc h12 (qc h13 qh)) rfl (by kernel_rfl)) Tryz.func6 (by kernel_rfl) (qr (by kernel_rfl)) d6 (F6_eq qe)
def F35 (_n : Nat) (n_0 : Int) (low_1 : Int) (high_2 : Int) : Option ((Bool × Unit) × (Unit)) :=
  cond (decide (n_0 ≥ low_1)) (some (((decide (n_0 ≤ high_2)), ()), ())) (some ((false, ()), ()))
def g35 (d : Int × Int × Int × Unit) : Option ((Bool × Unit) × (Unit)) := F35 qe d.1 d.2.1 d.2.2.1
def p35 : qD := ⟨[.v zI, .v zI, .v zI], [.v .bool], g35⟩
def c35 : qT := ⟨15, tyT, [], [], [], [], [], [], [], [], [], [], [], [], none⟩
theorem F35_eq (n : Nat) (d) : qx c35 n Tryz.f35 (body Tryz.f35) p35.ps p35.rs d = F35 n d.1 d.2.1 d.2.2.1 := by kernel_rfl
theorem h35 : qu Tryz.prog 35 p35 := hQ (cfg := c35) (qn qo (qh) rfl (by kernel_rfl)) Tryz.func35 (by kernel_rfl) (qr (by kernel_rfl)) (by kernel_rfl) (F35_eq qe)
def F36 (_n : Nat) (c_0 : zTn) (n_1 : Int) : Option ((Bool × Unit) × (Unit)) :=
  qa (g35 (n_1, 0, (IntKind.wrap .i64 ((c_0.1.length : Int) - 1)), ())) fun y1 => some ((y1.1.1, ()), ())
def g36 (d : zTn × Int × Unit) : Option ((Bool × Unit) × (Unit)) := F36 qe d.1 d.2.1
def p36 : qD := ⟨[.v (.str zTd), .v zI], [.v .bool], g36⟩
def c36 : qT := ⟨11, tyT, [], [(35, p35)], [], [], [], [], [], [], [], [], [], [], none⟩
theorem F36_eq (n : Nat) (d) : qx c36 n Tryz.f36 (body Tryz.f36) p36.ps p36.rs d = F36 n d.1 d.2.1 := by kernel_rfl
theorem h36 : qu Tryz.prog 36 p36 := hQ (cfg := c36) (qn qo (qc h35 qh) rfl (by kernel_rfl)) Tryz.func36 (by kernel_rfl) (qr (by kernel_rfl)) (by kernel_rfl) (F36_eq qe)
def F34 (_n : Nat) (p_0 : (Int × (Int × Int))) (t_1 : Int) (t_2 : zTn) : Option ((Bool × Unit) × (Unit)) :=
  qa (g35 (p_0.1, 0, (IntKind.wrap .i64 (t_1 - 1)), ())) fun y1 => cond (!y1.1.1) (some ((true, ()), ())) (qa (g35 (p_0.2.1, 1, 3, ())) fun y2 => cond (!y2.1.1) (some ((true, ()), ())) (qa (g36 (t_2, p_0.2.2, ())) fun y3 => some (((!y3.1.1), ()), ())))
def g34 (d : (Int × (Int × Int)) × Int × zTn × Unit) : Option ((Bool × Unit) × (Unit)) := F34 qe d.1 d.2.1 d.2.2.1
def p34 : qD := ⟨[.v (.str zTj), .r zI, .r (.str zTd)], [.v .bool], g34⟩
def c34 : qT := ⟨24, tyT, [], [(35, p35), (36, p36)], [], [], [], [], [], [], [], [], [], [], none⟩
theorem F34_eq (n : Nat) (d) : qx c34 n Tryz.f34 (body Tryz.f34) p34.ps p34.rs d = F34 n d.1 d.2.1 d.2.2.1 := by kernel_rfl
theorem h34 : qu Tryz.prog 34 p34 := hQ (cfg := c34) (qn qo (qc h35 (qc h36 qh)) rfl (by kernel_rfl)) Tryz.func34 (by kernel_rfl) (qr (by kernel_rfl)) (by kernel_rfl) (F34_eq qe)
def F37 (_n : Nat) (x_0 : jO) (t_1 : zTn) : Option ((Bool × Unit) × (Unit)) :=
  qa (g35 (x_0.1, 0, 500, ())) fun y1 => cond (!y1.1.1) (some ((true, ()), ())) (qa (g35 (x_0.2.1, 1, 3, ())) fun y2 => cond (!y2.1.1) (some ((true, ()), ())) (qa (g35 (x_0.2.2.1, 0, 1, ())) fun y3 => cond (!y3.1.1) (some ((true, ()), ())) (qa (g36 (t_1, x_0.2.2.2.1, ())) fun y4 => cond (!y4.1.1) (some ((true, ()), ())) (qa (g35 (x_0.2.2.2.2, 0, 1, ())) fun y5 => some (((!y5.1.1), ()), ())))))
def g37 (d : jO × zTn × Unit) : Option ((Bool × Unit) × (Unit)) := F37 qe d.1 d.2.1
def p37 : qD := ⟨[.v (.str (.pair zI qS)), .r (.str zTd)], [.v .bool], g37⟩
def c37 : qT := ⟨33, tyT, [], [(35, p35), (36, p36)], [], [], [], [], [], [], [], [], [], [], none⟩
theorem F37_eq (n : Nat) (d) : qx c37 n Tryz.f37 (body Tryz.f37) p37.ps p37.rs d = F37 n d.1 d.2.1 := by kernel_rfl
theorem h37 : qu Tryz.prog 37 p37 := hQ (cfg := c37) (qn qo (qc h35 (qc h36 qh)) rfl (by kernel_rfl)) Tryz.func37 (by kernel_rfl) (qr (by kernel_rfl)) (by kernel_rfl) (F37_eq qe)
def B91_2 (_n : Nat) (L : ((List Int) × Int × Int × Int × Unit) × (Unit) × Unit → Option (zTp ⊕ ((Unit) × (Unit) × Unit))) (s_0 : List Int) (v_1 : Int) (t_7 : Int) (t_8 : Int) : Option (zTp ⊕ ((Unit) × (Unit) × Unit)) :=
  cond (decide (t_8 < t_7)) (qg s_0 t_8 fun e1 => cond (v_1 == e1) (some (.inl ((t_8, ()), (), ()))) (L ((s_0, v_1, t_7, (IntKind.wrap .i64 (t_8 + 1)), ()), (), ()))) (some (.inr ((), (), ())))
def L91_2 : Nat → ((List Int) × Int × Int × Int × Unit) × (Unit) × Unit → Option (zTp ⊕ ((Unit) × (Unit) × Unit))
  | 0, _ => none
  | n + 1, d => B91_2 n (L91_2 n) d.1.1 d.1.2.1 d.1.2.2.1 d.1.2.2.2.1
def l91_2 : q9 := ⟨⟨[(0, .v (.list false 3 zI)), (1, .v zI), (7, .v zI), (8, .v zI)], [], none⟩, [(.ret, ⟨[(4, .v zI)], [], none⟩), (.exit 0, ⟨[], [], none⟩)], L91_2⟩
def F91 (n : Nat) (s_0 : (List Int)) (v_1 : Int) : Option ((Int × Unit) × (Unit)) :=
  qa (L91_2 n ((s_0, v_1, (s_0.length : Int), 0, ()), (), ())) fun o2 => qbb o2 (fun d3 => some ((d3.1.1, ()), ())) (fun _ => some (((-1), ()), ()))
def g91 (d : (List Int) × Int × Unit) : Option ((Int × Unit) × (Unit)) := F91 qe d.1 d.2.1
def p91 : qD := ⟨[.v (.list false 3 zI), .v zI], [.v zI], g91⟩
def c91 : qT := ⟨19, tyT, [], [], [(2, l91_2)], [], [], [], [], [], [], [], [], [], none⟩
theorem F91_eq (n : Nat) (d) : qx c91 n Tryz.f91 (body Tryz.f91) p91.ps p91.rs d = F91 n d.1 d.2.1 := by kernel_rfl
theorem L91_2_eq (n : Nat) (d) : (l91_2).g (n + 1) d = run c91 n (jZ 0 (qd (body Tryz.f91))) ((l91_2).ins.fill d) (qN (l91_2) n) := by kernel_rfl
theorem ls91 : qd (body Tryz.f91) = [jZ 0 (qd (body Tryz.f91))] := by kernel_rfl
theorem h91 : qu Tryz.prog 91 p91 := hQ (cfg := c91) (qn qo (qh) rfl (by kernel_rfl)) Tryz.func91 (by kernel_rfl) (by rw [ls91]; simp only [List.forall_mem_cons]; exact ⟨qC (key := 2) (li := l91_2) (by kernel_rfl) rfl (fun _ => rfl) (L91_2_eq), fun _ h => by cases h⟩) (by kernel_rfl) (F91_eq qe)
def F71 (_n : Nat) (s_0 : (List Int)) (v_1 : Int) : Option ((Bool × Unit) × (Unit)) :=
  qa (g91 (s_0, v_1, ())) fun y1 => some (((decide (y1.1.1 ≥ 0)), ()), ())
def g71 (d : (List Int) × Int × Unit) : Option ((Bool × Unit) × (Unit)) := F71 qe d.1 d.2.1
def p71 : qD := ⟨[.v (.list false 3 zI), .v zI], [.v .bool], g71⟩
def c71 : qT := ⟨9, tyT, [], [(91, p91)], [], [], [], [], [], [], [], [], [], [], none⟩
theorem F71_eq (n : Nat) (d) : qx c71 n Tryz.f71 (body Tryz.f71) p71.ps p71.rs d = F71 n d.1 d.2.1 := by kernel_rfl
theorem h71 : qu Tryz.prog 71 p71 := hQ (cfg := c71) (qn qo (qc h91 qh) rfl (by kernel_rfl)) Tryz.func71 (by kernel_rfl) (qr (by kernel_rfl)) (by kernel_rfl) (F71_eq qe)
def B38_4 (_n : Nat) (L : ((List (Int × (Bool × (Int × Bool)))) × Int × Int × Unit) × (zTn × Unit) × Unit → Option (zTp ⊕ ((Unit) × (zTn × Unit) × Unit))) (t_19 : List (Int × (Bool × (Int × Bool)))) (t_20 : Int) (t_21 : Int) (o_1 : (List (Int × (Bool × (Int × Bool)))) × (List Int)) : Option (zTp ⊕ ((Unit) × (zTn × Unit) × Unit)) :=
  cond (decide (t_21 < t_20)) (qg t_19 t_21 fun e2 => qa (g35 (e2.1, 1, 30, ())) fun y3 => cond (!y3.1.1) (some (.inl ((20, ()), (), ()))) (qa (g35 (e2.2.2.1, 0, 30, ())) fun y4 => cond (!y4.1.1) (some (.inl ((20, ()), (), ()))) (cond (!e2.2.1) (cond (e2.2.2.1 != 0) (some (.inl ((20, ()), (), ()))) (L ((t_19, t_20, (IntKind.wrap .i64 (t_21 + 1)), ()), (o_1, ()), ()))) (L ((t_19, t_20, (IntKind.wrap .i64 (t_21 + 1)), ()), (o_1, ()), ()))))) (some (.inr ((), (o_1, ()), ())))
def L38_4 : Nat → ((List (Int × (Bool × (Int × Bool)))) × Int × Int × Unit) × (zTn × Unit) × Unit → Option (zTp ⊕ ((Unit) × (zTn × Unit) × Unit))
  | 0, _ => none
  | n + 1, d => B38_4 n (L38_4 n) d.1.1 d.1.2.1 d.1.2.2.1 d.2.1.1
def l38_4 : q9 := ⟨⟨[(1, .c (.ptr 1 [])), (19, .v (.list false 96 (.str (.pair zI (.pair .bool (.pair zI .bool)))))), (20, .v zI), (21, .v zI)], [(1, false, .str zTd)], none⟩, [(.ret, ⟨[(2, .v zI)], [], none⟩), (.exit 0, ⟨[(1, .c (.ptr 1 []))], [(1, false, .str zTd)], none⟩)], L38_4⟩
def B38_10 (_n : Nat) (L : ((List Int) × Int × Int × Unit) × (zTn × Unit) × Unit → Option (zTp ⊕ ((Unit) × (Unit) × Unit))) (t_47 : List Int) (t_48 : Int) (t_49 : Int) (o_1 : (List (Int × (Bool × (Int × Bool)))) × (List Int)) : Option (zTp ⊕ ((Unit) × (Unit) × Unit)) :=
  cond (decide (t_49 < t_48)) (qg t_47 t_49 fun e8 => qa (g36 (o_1, e8, ())) fun y9 => cond (!y9.1.1) (some (.inl ((20, ()), (), ()))) (leK 0 t_49 (leK t_49 (o_1.2.length : Int) (qa (g71 ((o_1.2.take t_49.toNat), e8, ())) fun y10 => cond y10.1.1 (some (.inl ((20, ()), (), ()))) (L ((t_47, t_48, (IntKind.wrap .i64 (t_49 + 1)), ()), (o_1, ()), ())))))) (some (.inr ((), (), ())))
def L38_10 : Nat → ((List Int) × Int × Int × Unit) × (zTn × Unit) × Unit → Option (zTp ⊕ ((Unit) × (Unit) × Unit))
  | 0, _ => none
  | n + 1, d => B38_10 n (L38_10 n) d.1.1 d.1.2.1 d.1.2.2.1 d.2.1.1
def l38_10 : q9 := ⟨⟨[(1, .c (.ptr 1 [])), (47, .v (.list false 3 zI)), (48, .v zI), (49, .v zI)], [(1, false, .str zTd)], none⟩, [(.ret, ⟨[(2, .v zI)], [], none⟩), (.exit 2, ⟨[], [], none⟩)], L38_10⟩
def F38 (n : Nat) (c_0 : zTn) : Option ((Int × Unit) × (Unit)) :=
  qa (g35 ((c_0.1.length : Int), 2, 12, ())) fun y1 => cond (!y1.1.1) (some ((20, ()), ())) (cond (decide ((c_0.2.length : Int) > 10)) (some ((20, ()), ())) (qa (L38_4 n ((c_0.1, (c_0.1.length : Int), 0, ()), (c_0, ()), ())) fun o5 => qbb o5 (fun d6 => some ((d6.1.1, ()), ())) (fun d7 => qa (L38_10 n ((d7.2.1.1.2, (d7.2.1.1.2.length : Int), 0, ()), (d7.2.1.1, ()), ())) fun o11 => qbb o11 (fun d12 => some ((d12.1.1, ()), ())) (fun _ => some ((0, ()), ())))))
def g38 (d : zTn × Unit) : Option ((Int × Unit) × (Unit)) := F38 qe d.1
def p38 : qD := ⟨[.v (.str zTd)], [.v zI], g38⟩
def c38 : qT := ⟨67, tyT, [], [(35, p35), (36, p36), (71, p71)], [(4, l38_4), (10, l38_10)], [], [], [], [], [], [], [], [], [], none⟩
theorem F38_eq (n : Nat) (d) : qx c38 n Tryz.f38 (body Tryz.f38) p38.ps p38.rs d = F38 n d.1 := by kernel_rfl
theorem L38_4_eq (n : Nat) (d) : (l38_4).g (n + 1) d = run c38 n (jZ 0 (qd (body Tryz.f38))) ((l38_4).ins.fill d) (qN (l38_4) n) := by kernel_rfl
theorem L38_10_eq (n : Nat) (d) : (l38_10).g (n + 1) d = run c38 n (jZ 1 (qd (body Tryz.f38))) ((l38_10).ins.fill d) (qN (l38_10) n) := by kernel_rfl
theorem ls38 : qd (body Tryz.f38) = [jZ 0 (qd (body Tryz.f38)), jZ 1 (qd (body Tryz.f38))] := by kernel_rfl
theorem h38 : qu Tryz.prog 38 p38 := hQ (cfg := c38) (qn qo (qc h35 (qc h36 (qc h71 qh))) rfl (by kernel_rfl)) Tryz.func38 (by kernel_rfl) (by rw [ls38]; simp only [List.forall_mem_cons]; exact ⟨qC (key := 4) (li := l38_4) (by kernel_rfl) rfl (fun _ => rfl) (L38_4_eq), qC (key := 10) (li := l38_10) (by kernel_rfl) rfl (fun _ => rfl) (L38_10_eq), fun _ h => by cases h⟩) (by kernel_rfl) (F38_eq qe)
def B72_2 (_n : Nat) (L : ((List (Int × (Int × Int))) × ((Int × (Int × Int)) → Option Bool) × Int × Int × Unit) × (Unit) × Unit → Option (zTp ⊕ ((Unit) × (Unit) × Unit))) (s_0 : List (Int × (Int × Int))) (f_1 : (Int × (Int × Int)) → Option Bool) (t_7 : Int) (t_8 : Int) : Option (zTp ⊕ ((Unit) × (Unit) × Unit)) :=
  cond (decide (t_8 < t_7)) (qg s_0 t_8 fun e1 => qa (f_1 e1) fun y2 => cond y2 (some (.inl ((t_8, ()), (), ()))) (L ((s_0, f_1, t_7, (IntKind.wrap .i64 (t_8 + 1)), ()), (), ()))) (some (.inr ((), (), ())))
def L72_2 : Nat → ((List (Int × (Int × Int))) × ((Int × (Int × Int)) → Option Bool) × Int × Int × Unit) × (Unit) × Unit → Option (zTp ⊕ ((Unit) × (Unit) × Unit))
  | 0, _ => none
  | n + 1, d => B72_2 n (L72_2 n) d.1.1 d.1.2.1 d.1.2.2.1 d.1.2.2.2.1
def l72_2 : q9 := ⟨⟨[(0, .v (.list false 86 (.str zTj))), (1, .v (.fn (.str zTj) .bool)), (7, .v zI), (8, .v zI)], [], none⟩, [(.ret, ⟨[(4, .v zI)], [], none⟩), (.exit 0, ⟨[], [], none⟩)], L72_2⟩
def F72 (n : Nat) (s_0 : (List (Int × (Int × Int)))) (f_1 : ((Int × (Int × Int)) → Option Bool)) : Option ((Int × Unit) × (Unit)) :=
  qa (L72_2 n ((s_0, f_1, (s_0.length : Int), 0, ()), (), ())) fun o3 => qbb o3 (fun d4 => some ((d4.1.1, ()), ())) (fun _ => some (((-1), ()), ()))
def g72 (d : (List (Int × (Int × Int))) × ((Int × (Int × Int)) → Option Bool) × Unit) : Option ((Int × Unit) × (Unit)) := F72 qe d.1 d.2.1
def p72 : qD := ⟨[.v (.list false 86 (.str zTj)), .v (.fn (.str zTj) .bool)], [.v zI], g72⟩
def c72 : qT := ⟨19, tyT, [], [], [(2, l72_2)], [], [], [], [], [], [], [], [], [], none⟩
theorem F72_eq (n : Nat) (d) : qx c72 n Tryz.f72 (body Tryz.f72) p72.ps p72.rs d = F72 n d.1 d.2.1 := by kernel_rfl
theorem L72_2_eq (n : Nat) (d) : (l72_2).g (n + 1) d = run c72 n (jZ 0 (qd (body Tryz.f72))) ((l72_2).ins.fill d) (qN (l72_2) n) := by kernel_rfl
theorem ls72 : qd (body Tryz.f72) = [jZ 0 (qd (body Tryz.f72))] := by kernel_rfl
theorem h72 : qu Tryz.prog 72 p72 := hQ (cfg := c72) (qn qo (qh) rfl (by kernel_rfl)) Tryz.func72 (by kernel_rfl) (by rw [ls72]; simp only [List.forall_mem_cons]; exact ⟨qC (key := 2) (li := l72_2) (by kernel_rfl) rfl (fun _ => rfl) (L72_2_eq), fun _ h => by cases h⟩) (by kernel_rfl) (F72_eq qe)
def F39 (_n : Nat) (s_0 : (List (Int × (Int × Int)))) (f_1 : ((Int × (Int × Int)) → Option Bool)) : Option ((Bool × Unit) × (Unit)) :=
  qa (g72 (s_0, f_1, ())) fun y1 => some (((decide (y1.1.1 ≥ 0)), ()), ())
def g39 (d : (List (Int × (Int × Int))) × ((Int × (Int × Int)) → Option Bool) × Unit) : Option ((Bool × Unit) × (Unit)) := F39 qe d.1 d.2.1
def p39 : qD := ⟨[.v (.list false 86 (.str zTj)), .v (.fn (.str zTj) .bool)], [.v .bool], g39⟩
def c39 : qT := ⟨9, tyT, [], [(72, p72)], [], [], [], [], [], [], [], [], [], [], none⟩
theorem F39_eq (n : Nat) (d) : qx c39 n Tryz.f39 (body Tryz.f39) p39.ps p39.rs d = F39 n d.1 d.2.1 := by kernel_rfl
theorem h39 : qu Tryz.prog 39 p39 := hQ (cfg := c39) (qn qo (qc h72 qh) rfl (by kernel_rfl)) Tryz.func39 (by kernel_rfl) (qr (by kernel_rfl)) (by kernel_rfl) (F39_eq qe)
def B73_2 (_n : Nat) (L : ((List jO) × (jO → Option Bool) × Int × Int × Unit) × (Unit) × Unit → Option (zTp ⊕ ((Unit) × (Unit) × Unit))) (s_0 : List jO) (f_1 : jO → Option Bool) (t_7 : Int) (t_8 : Int) : Option (zTp ⊕ ((Unit) × (Unit) × Unit)) :=
  cond (decide (t_8 < t_7)) (qg s_0 t_8 fun e1 => qa (f_1 e1) fun y2 => cond y2 (some (.inl ((t_8, ()), (), ()))) (L ((s_0, f_1, t_7, (IntKind.wrap .i64 (t_8 + 1)), ()), (), ()))) (some (.inr ((), (), ())))
def L73_2 : Nat → ((List jO) × (jO → Option Bool) × Int × Int × Unit) × (Unit) × Unit → Option (zTp ⊕ ((Unit) × (Unit) × Unit))
  | 0, _ => none
  | n + 1, d => B73_2 n (L73_2 n) d.1.1 d.1.2.1 d.1.2.2.1 d.1.2.2.2.1
def l73_2 : q9 := ⟨⟨[(0, .v (.list false 90 (.str (.pair zI qS)))), (1, .v (.fn (.str (.pair zI qS)) .bool)), (7, .v zI), (8, .v zI)], [], none⟩, [(.ret, ⟨[(4, .v zI)], [], none⟩), (.exit 0, ⟨[], [], none⟩)], L73_2⟩
def F73 (n : Nat) (s_0 : (List jO)) (f_1 : (jO → Option Bool)) : Option ((Int × Unit) × (Unit)) :=
  qa (L73_2 n ((s_0, f_1, (s_0.length : Int), 0, ()), (), ())) fun o3 => qbb o3 (fun d4 => some ((d4.1.1, ()), ())) (fun _ => some (((-1), ()), ()))
def g73 (d : (List jO) × (jO → Option Bool) × Unit) : Option ((Int × Unit) × (Unit)) := F73 qe d.1 d.2.1
def p73 : qD := ⟨[.v (.list false 90 (.str (.pair zI qS))), .v (.fn (.str (.pair zI qS)) .bool)], [.v zI], g73⟩
def c73 : qT := ⟨19, tyT, [], [], [(2, l73_2)], [], [], [], [], [], [], [], [], [], none⟩
theorem F73_eq (n : Nat) (d) : qx c73 n Tryz.f73 (body Tryz.f73) p73.ps p73.rs d = F73 n d.1 d.2.1 := by kernel_rfl
theorem L73_2_eq (n : Nat) (d) : (l73_2).g (n + 1) d = run c73 n (jZ 0 (qd (body Tryz.f73))) ((l73_2).ins.fill d) (qN (l73_2) n) := by kernel_rfl
theorem ls73 : qd (body Tryz.f73) = [jZ 0 (qd (body Tryz.f73))] := by kernel_rfl
theorem h73 : qu Tryz.prog 73 p73 := hQ (cfg := c73) (qn qo (qh) rfl (by kernel_rfl)) Tryz.func73 (by kernel_rfl) (by rw [ls73]; simp only [List.forall_mem_cons]; exact ⟨qC (key := 2) (li := l73_2) (by kernel_rfl) rfl (fun _ => rfl) (L73_2_eq), fun _ h => by cases h⟩) (by kernel_rfl) (F73_eq qe)
def F40 (_n : Nat) (s_0 : (List jO)) (f_1 : (jO → Option Bool)) : Option ((Bool × Unit) × (Unit)) :=
  qa (g73 (s_0, f_1, ())) fun y1 => some (((decide (y1.1.1 ≥ 0)), ()), ())
def g40 (d : (List jO) × (jO → Option Bool) × Unit) : Option ((Bool × Unit) × (Unit)) := F40 qe d.1 d.2.1
def p40 : qD := ⟨[.v (.list false 90 (.str (.pair zI qS))), .v (.fn (.str (.pair zI qS)) .bool)], [.v .bool], g40⟩
def c40 : qT := ⟨9, tyT, [], [(73, p73)], [], [], [], [], [], [], [], [], [], [], none⟩
theorem F40_eq (n : Nat) (d) : qx c40 n Tryz.f40 (body Tryz.f40) p40.ps p40.rs d = F40 n d.1 d.2.1 := by kernel_rfl
theorem h40 : qu Tryz.prog 40 p40 := hQ (cfg := c40) (qn qo (qc h73 qh) rfl (by kernel_rfl)) Tryz.func40 (by kernel_rfl) (qr (by kernel_rfl)) (by kernel_rfl) (F40_eq qe)
def F14 (_n : Nat) (c_0 : zTn) (ticks_1 : Int) (l_2 : (List (Int × (Int × Int)))) (f_3 : (List jO)) : Option ((Int × Unit) × (Unit)) :=
  qa (g38 (c_0, ())) fun y1 => cond (y1.1.1 != 0) (some ((y1.1.1, ()), ())) (qa (g35 (ticks_1, 0, 500, ())) fun y2 => cond (!y2.1.1) (some ((1, ()), ())) (cond (decide ((l_2.length : Int) > 200)) (some ((2, ()), ())) (qa (g39 (l_2, (fun v3 => qa (g34 (v3, ticks_1, c_0, ())) fun y4 => some y4.1.1), ())) fun y5 => cond y5.1.1 (some ((21, ()), ())) (cond (decide ((f_3.length : Int) > 5)) (some ((2, ()), ())) (qa (g40 (f_3, (fun v6 => qa (g37 (v6, c_0, ())) fun y7 => some y7.1.1), ())) fun y8 => cond y8.1.1 (some ((22, ()), ())) (some ((0, ()), ())))))))
def g14 (d : zTn × Int × (List (Int × (Int × Int))) × (List jO) × Unit) : Option ((Int × Unit) × (Unit)) := F14 qe d.1 d.2.1 d.2.2.1 d.2.2.2.1
def p14 : qD := ⟨[.v (.str zTd), .v zI, .v (.list false 86 (.str zTj)), .v (.list false 90 (.str (.pair zI qS)))], [.v zI], g14⟩
def c14 : qT := ⟨40, tyT, [], [(34, p34), (35, p35), (37, p37), (38, p38), (39, p39), (40, p40)], [], [], [], [], [], [], [], [], [], [], none⟩
theorem F14_eq (n : Nat) (d) : qx c14 n Tryz.f14 (body Tryz.f14) p14.ps p14.rs d = F14 n d.1 d.2.1 d.2.2.1 d.2.2.2.1 := by kernel_rfl
theorem h14 : qu Tryz.prog 14 p14 := hQ (cfg := c14) (qn qo (qc h34 (qc h35 (qc h37 (qc h38 (qc h39 (qc h40 qh)))))) rfl (by kernel_rfl)) Tryz.func14 (by kernel_rfl) (qr (by kernel_rfl)) (by kernel_rfl) (F14_eq qe)
def B15_3 (_n : Nat) (L : (zTn × (List Int) × Int × Int × Unit) × (zTb × Unit) × Unit → Option (((Unit) × (zTb × Unit) × Unit))) (c_2 : (List (Int × (Bool × (Int × Bool)))) × (List Int)) (t_17 : List Int) (t_18 : Int) (t_19 : Int) (o_15 : zTn × zTs) : Option (((Unit) × (zTb × Unit) × Unit)) :=
  cond (decide (t_19 < t_18)) (qg t_17 t_19 fun e2 => qdE (fun (e3 : Int × (Bool × (Int × Bool))) => L ((c_2, t_17, t_18, (IntKind.wrap .i64 (t_19 + 1)), ()), ((o_15.1, (o_15.2.1, ((o_15.2.2.1 ++ [((e2, e3.1, false), 0)]), o_15.2.2.2))), ()), ())) fun E => qR [qg c_2.1 e2 fun e3 => qY ((o_15.2.2.1.length : Int) + [((e2, e3.1, false), 0)].length) (E e3), qg c_2.1 e2 fun e4 => qR [qY ((o_15.2.2.1.length : Int) + [((e2, e4.1, false), 0)].length) (E e4), qR [qY ((o_15.2.2.1.length : Int) + [((e2, e4.1, false), 0)].length) (E e4), qR [qY ((o_15.2.2.1.length : Int) + [((e2, e4.1, false), 0)].length) (E e4), qY ((o_15.2.2.1.length : Int) + [((e2, e4.1, false), 0)].length) (E e4)]]]]) (some ((), (o_15, ()), ()))
def L15_3 : Nat → (zTn × (List Int) × Int × Int × Unit) × (zTb × Unit) × Unit → Option (((Unit) × (zTb × Unit) × Unit))
  | 0, _ => none
  | n + 1, d => B15_3 n (L15_3 n) d.1.1 d.1.2.1 d.1.2.2.1 d.1.2.2.2.1 d.2.1.1
def l15_3 : q9 := ⟨⟨[(2, .r (.str zTd)), (5, .c (.ptr 15 [])), (17, .v (.list false 3 zI)), (18, .v zI), (19, .v zI)], [(15, false, .str (.pair (.str zTd) (.pair (.list false 90 (.str (.pair zI qS))) zTe)))], none⟩, [(.exit 0, ⟨[(5, .c (.ptr 15 []))], [(15, false, .str (.pair (.str zTd) (.pair (.list false 90 (.str (.pair zI qS))) zTe)))], none⟩)], L15_3⟩
def F15 (n : Nat) (c_0 : zTn) (f_1 : (List jO)) : Option ((zTb × Unit) × (Unit)) :=
  leK 0 (c_0.1.length : Int) (leK (c_0.1.length : Int) (c_0.1.length : Int) (qY (c_0.1.length : Int) (jM (c_0, f_1, ([] : List ((Int × (Int × Bool)) × Int)), (List.replicate (c_0.1.length : Int).toNat false), (0 : Int), (-1), false, (0 : Int), (0 : Int)) fun z1 => qa (L15_3 n ((c_0, c_0.2, (c_0.2.length : Int), 0, ()), (z1, ()), ())) fun o5 => some ((o5.2.1.1, ()), ()))))
def g15 (d : zTn × (List jO) × Unit) : Option ((zTb × Unit) × (Unit)) := F15 qe d.1 d.2.1
def p15 : qD := ⟨[.v (.str zTd), .v (.list false 90 (.str (.pair zI qS)))], [.optr (.str (.pair (.str zTd) (.pair (.list false 90 (.str (.pair zI qS))) zTe)))], g15⟩
def c15 : qT := ⟨43, tyT, [(14, .str (.pair (.str zTd) (.pair (.list false 90 (.str (.pair zI qS))) zTe))), (13, .list true 4 .bool), (2, .str zTd)], [], [(3, l15_3)], [], [1, 5], [], [], [], [], [], [], [], none⟩
theorem F15_eq (n : Nat) (d) : qx c15 n Tryz.f15 (body Tryz.f15) p15.ps p15.rs d = F15 n d.1 d.2.1 := by kernel_rfl
theorem L15_3_eq (n : Nat) (d) : (l15_3).g (n + 1) d = run c15 n (jZ 0 (qd (body Tryz.f15))) ((l15_3).ins.fill d) (qN (l15_3) n) := by kernel_rfl
theorem ls15 : qd (body Tryz.f15) = [jZ 0 (qd (body Tryz.f15))] := by kernel_rfl
theorem h15 : qu Tryz.prog 15 p15 := hQ (cfg := c15) (qn qo (qh) rfl (by kernel_rfl)) Tryz.func15 (by kernel_rfl) (by rw [ls15]; simp only [List.forall_mem_cons]; exact ⟨qC (key := 3) (li := l15_3) (by kernel_rfl) rfl (fun _ => rfl) (L15_3_eq), fun _ h => by cases h⟩) (by kernel_rfl) (F15_eq qe)
end
end Go.Proofs.Tryz.V
