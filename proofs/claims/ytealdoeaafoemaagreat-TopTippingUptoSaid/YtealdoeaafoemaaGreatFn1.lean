/- The contracts of functions of the program: what a call returns. No condition beyond those typed in each theorem. -/
import Derived.Test.YtealdoeaafoemaaGreatMk
import Derived.Test.YtealdoeaafoemaaGreatVi41
import Derived.Test.YtealdoeaafoemaaGreatProg
namespace Go.Proofs.Tryz.V
noncomputable section
open Go.Vi
set_option maxRecDepth 100000
abbrev zI : Ty := .int .i64
abbrev zTi : Ty := .pair zI zI
abbrev zTa : Ty := .pair zI zTi
abbrev zTl : Ty := .pair zI (.pair zI (.pair zI .bool))
abbrev zTn : Type := (Int × Unit) × (Unit) × Unit
abbrev uAc : Type := (Bool × Unit) × (Unit)
abbrev uAe : Type := Int × (Int × Int)
abbrev zTg : Type := Int × (Int × uAe)
abbrev zTp : Type := uAe × uAe
abbrev zTt : Type := List (Int × uAe)
abbrev zTf : Type := zTt × (zTt × uAe)
abbrev uAg : Type := (Unit) × (Unit) × Unit
abbrev uAh : Type := (Int × Unit) × (Unit)
abbrev uAi : Type := Int × (Int × (Int × Bool))
abbrev zTo : Type := Int × uAi
abbrev uAk : Type := List (Int × Int)
abbrev uAl : Type := (List (List Int)) × Unit
abbrev zTr : Type := ((uAk × Int × Int × Unit) × uAl × Unit)
abbrev uAm : Type := (List Int) × Unit
abbrev zTs : Type := ((Unit) × uAm × Unit)
abbrev uAo : Ty := .list false 56 (.str zTi)
abbrev uAq : Ty := .pair (.str zTa) (.str zTa)
abbrev uAs : Type := (Bool × Unit) × (Unit) × Unit
abbrev uAt : Type := Int × Int × Unit
abbrev uAw : Type := (List zTo) × Int
abbrev uAx : Ty := .list false 39 (.str zTa)
abbrev uAz : Type := Int × (Int × ((List Int) × ((List Int) × (uAk × uAe))))
abbrev uBa : Type := uAk × Int × Int × Int × Unit
abbrev uBb : Type := Int × Int × Int × Unit
abbrev uBc : Type := (List Bool) × (List Int) × Unit
abbrev uBd : Ty := .list true 3 zI
abbrev uBe : Type := (List uAe) × (Int × (uAe × (Int × Int)))
abbrev zTc : Type := (List (List uAe)) × uBe
abbrev uBf : Type := ((List Int) × Int × Unit) × (Unit)
abbrev uBg : Ty := .list false 3 zI
abbrev zTk : Ty := .pair zI (.pair zI (.pair zI (.pair uBg zI)))
abbrev zTm : Ty := .pair uBg uBg
abbrev uAv : Ty := .pair zI (.pair zI (.pair uBg (.pair uBg (.pair uAo zTa))))
abbrev uBh : Type := (List Bool) × Unit
abbrev uBi : Type := ((Int × Unit) × uAm × Unit)
abbrev uBl : Ty := .pair zI zTa
abbrev uAb : Ty := .pair (.list false 102 (.str uBl)) (.pair (.list false 104 (.str uBl)) zTa)
abbrev uAp : Ty := .str (.pair zI uBl)
abbrev uAd : Ty := .list false 74 uAp
abbrev uBm : Ty := .list false 80 (.str uAq)
abbrev uBn : Type := (List Bool) × Int × Int × Bool × Int × Unit
abbrev uBo : Ty := .str (.pair zI zTl)
abbrev zTe : Ty := .pair (.list false 118 uBo) zI
abbrev uBp : Type := ((uAk × Int × Unit) × uAl × Unit)
abbrev uBr : Ty := .list false 98 (.str zTk)
abbrev uBs : Type := (Int × Int) × (List (List Int)) × (List Int) × Unit
abbrev uBt : Type := (List Int) × (List Int)
abbrev zTd : Type := (List uAi) × uBt
abbrev uAn : Type := zTd × (List zTg)
abbrev uBu : Type := Int × Int × Int × Int × uAk × Int × Int × Unit
abbrev uBv : Type := (List Int) × Int × Int × Unit
abbrev uBw : Type := (List zTg) × Int × Int × Unit
abbrev uBx : Type := Int × Int × uAk × Int × Int × Unit
abbrev uBy : Type := (List (List Int)) × (List Int) × Unit
abbrev uAu : Type := (uBx × uBy × Unit)
abbrev uBz : Type := (Unit) × (zTd × Unit) × Unit
abbrev uCa : Type := (Unit) × (zTf × Unit) × Unit
abbrev uCc : Type := uAk × Int × Int × Int × Int × Int × Unit
abbrev uCd : Type := uAt × (Unit)
abbrev uCe : Type := uAk × Int × Int × Int × Int × Unit
abbrev uCh : Ty := .list false 120 (.str zTl)
abbrev zTb : Ty := .pair uCh zTm
abbrev uAj : Ty := .pair (.str zTe) (.pair (.str zTb) (.pair uAd (.pair zI (.pair (.str uAb) zTm))))
abbrev uAr : Ty := .pair (.str zTe) (.pair (.str zTb) (.pair (.list true 74 uAp) (.pair zI (.pair (.str (.pair (.list true 102 (.str uBl)) (.pair (.list true 104 (.str uBl)) zTa))) zTm))))
abbrev uCb : Ty := .pair (.str zTb) (.list true 74 uAp)
abbrev uCi : Type := (Unit) × uAt × Unit
abbrev uCj : Type := (List zTp) × Int
abbrev zTh : Type := zTc × uCj
abbrev uBj : Type := zTc × (Option zTh) × (List zTp) × Int × Int × Unit
abbrev uBq : Type := zTh × Int × (List zTp) × Int × Int × Unit
abbrev uCf : Type := (Option zTh) × Bool × Unit
abbrev uCk : Ty := .pair (.str zTb) uAd
abbrev uAy : Ty := .str uCk
abbrev uCl : Type := (uBa × uAl × Unit)
abbrev uCm : Type := zTd × ((List zTg) × (Int × (zTf × uBt)))
abbrev zTj : Type := uAw × uCm
abbrev uCn : Type := uAm × (Unit)
abbrev uCo : Ty := .pair uAx (.pair zI (.pair (.str zTa) zTi))
abbrev uAa : Ty := .pair (.list false 37 uAx) uCo
abbrev uAf : Ty := .str (.pair (.str uAa) (.pair uBm zI))
abbrev uBk : Ty := .pair (.str uAa) (.pair (.list true 80 (.str uAq)) zI)
abbrev uCp : Type := (List Int) × Int
abbrev zTq : Type := Int × (Int × (Int × uCp))
abbrev uCg : Type := ((List zTq) × Int × Unit) × (uAw × Unit) × Unit
abbrev uCq : Type := ((Unit) × (zTc × zTc × Unit) × Unit)
abbrev uCr : Type := (Int × Bool × Unit) × (Unit) × Unit
abbrev uCs : Type := (zTc × Unit) × (zTh × Unit) × Unit
abbrev uCt : Type := zTt × Int × Int × Unit
abbrev uCu : Type := ((Unit) × (zTh × Unit) × Unit)
def tyT : List (Nat × Ty) := [(2, .int .i64), (3, .int .i64), (4, .bool), (5, .int .u8), (6, .int .u8), (7, .str (.pair zI (.pair zI (.pair .bool (.int .u8))))), (22, .list false 118 uBo), (24, .str zTe), (25, .list false 120 (.str zTl)), (26, .list false 3 zI), (28, .str zTb), (29, .list false 74 uAp), (30, .list false 102 (.str uBl)), (31, .list false 104 (.str uBl)), (33, .str uAb), (35, .str uAj), (36, .list false 37 uAx), (37, .list false 39 (.str zTa)), (39, .str zTa), (41, .str uAa), (45, .list false 4 .bool), (46, .int .i64), (56, .str zTi), (57, .list false 56 (.str zTi)), (59, .str uAv), (63, .ptr uAf), (67, .arr 2 zI), (74, .str (.pair zI uBl)), (80, .str uAq), (81, .list false 80 (.str uAq)), (83, .str (.pair (.str uAa) (.pair uBm zI))), (86, .fn2 zI zI .bool), (88, .list false 39 (.str zTa)), (89, .fn (.str zTa) .bool), (91, .fn2 (.arr 2 zI) zI .bool), (92, .fn zI zI), (94, .fn2 zI zI zI), (95, .list false 98 (.str zTk)), (98, .str zTk), (102, .str uBl), (104, .str uBl), (107, .fn zI .bool), (111, .fn (.str zTi) .bool), (118, .str (.pair zI zTl)), (120, .str zTl), (129, .list false 26 uBg), (134, .fn (.str zTk) .bool), (137, .str uCk), (146, .int .u64), (149, .fn uBo .bool), (152, .fn uAp .bool), (157, .list false 160 (.arr 3 zI)), (160, .arr 3 zI), (163, .int .u32), (166, .int .u64), (171, .fn (.str zTl) .bool), (173, .arr 4 zI), (185, .fn2 zI uAp .bool)]
theorem qq : tysB Tryz.prog tyT = true := by kernel_rfl
theorem qcL : Tryz.prog.follows .mixedOrders = true := by kernel_rfl
theorem hQ {cfg : qS} {f : FuncId} {fn : Func} {p : qE} (hc : qB Tryz.prog cfg) (hf : Tryz.prog.funcs[f]? = some fn) (ha : (fn.body.isSome && (Nat.beq fn.ntmps cfg.nt && (!(fn.name == "runtime.NumGoroutine") && Nat.ble p.ps.length cfg.nt))) = true) (hl : ∀ b ∈ qe (body fn), qc2 cfg b) (hd : ql cfg (body fn) = true) (he : ∀ d, qy cfg qc fn (body fn) p.ps p.rs d = p.g d) : qw Tryz.prog f p := by
  simp only [Bool.and_eq_true, Bool.not_eq_true'] at ha
  exact fn_done qcL hc hf ha.1 (Nat.eq_of_beq_eq_true ha.2.1) ha.2.2.1 ha.2.2.2 hl hd (fun d y h => ⟨qc, (he d).trans h⟩)
def F4 (_n : Nat) (g_0 : zTj) : Option uAc :=
  cond (decide ((g_0.1.1.length : Int) > 10)) (some ((true, ()), ())) (cond (decide ((g_0.2.1.1.length : Int) > 25)) (some ((true, ()), ())) (cond (decide ((g_0.2.1.2.1.length : Int) > 12)) (some ((true, ()), ())) (cond (decide ((g_0.2.1.2.2.length : Int) > 15)) (some ((true, ()), ())) (cond (decide ((g_0.2.2.1.length : Int) > 60)) (some ((true, ()), ())) (cond (decide ((g_0.2.2.2.2.1.1.length : Int) > 15)) (some ((true, ()), ())) (cond (decide ((g_0.2.2.2.2.1.2.1.length : Int) > 20)) (some ((true, ()), ())) (cond (decide ((g_0.2.2.2.2.2.1.length : Int) > 15)) (some ((true, ()), ())) (some (((decide ((g_0.2.2.2.2.2.2.length : Int) > 15)), ()), ())))))))))
def g4 (d : zTj × Unit) : Option uAc := F4 qc d.1
def p4 : qE := ⟨[.v (.str uAj)], [.v .bool], g4⟩
def c4 : qS := ⟨61, tyT, [], [], [], [], [], [], [], [], [], [], [], [], none⟩
theorem F4_eq (n : Nat) (d) : qy c4 n Tryz.f4 (body Tryz.f4) p4.ps p4.rs d = F4 n d.1 := by kernel_rfl
theorem d4 : ql c4 (body Tryz.f4) = true := by kernel_rfl
theorem h4 : qw Tryz.prog 4 p4 := hQ (cfg := c4) (qp qq (qh) rfl (by kernel_rfl)) Tryz.func4 (by kernel_rfl) (qr (by kernel_rfl)) d4 (F4_eq qc)
def B5_4 (_n : Nat) (L : (Int × Unit) × (zTc × Unit) × Unit → Option (uAs ⊕ uAg)) (i_3 : Int) (o_1 : (List (List uAe)) × uBe) : Option (uAs ⊕ uAg) :=
  cond (decide (i_3 < (o_1.1.length : Int))) (qi o_1.1 i_3 fun e1 => cond (decide ((e1.length : Int) > 70)) (some (.inl ((true, ()), (), ()))) (L (((IntKind.wrap .i64 (i_3 + 1)), ()), (o_1, ()), ()))) (some (.inr ((), (), ())))
def L5_4 : Nat → (Int × Unit) × (zTc × Unit) × Unit → Option (uAs ⊕ uAg)
  | 0, _ => none
  | n + 1, d => B5_4 n (L5_4 n) d.1.1 d.2.1.1
def l5_4 : qY := ⟨⟨[(1, .c (.ptr 1 [])), (3, .v zI)], [(1, false, .str uAa)], none⟩, [(.ret, ⟨[(2, .v .bool)], [], none⟩), (.exit 0, ⟨[], [], none⟩)], L5_4⟩
def F5 (n : Nat) (r_0 : zTc) : Option uAc :=
  cond (decide ((r_0.1.length : Int) > 25)) (some ((true, ()), ())) (cond (decide ((r_0.2.1.length : Int) > 12)) (some ((true, ()), ())) (qa (L5_4 n ((0, ()), (r_0, ()), ())) fun o2 => qbd o2 (fun d3 => some ((d3.1.1, ()), ())) (fun _ => some ((false, ()), ()))))
def g5 (d : zTc × Unit) : Option uAc := F5 qc d.1
def p5 : qE := ⟨[.v (.str uAa)], [.v .bool], g5⟩
def c5 : qS := ⟨28, tyT, [], [], [(4, l5_4)], [], [], [], [], [], [], [], [], [], none⟩
theorem F5_eq (n : Nat) (d) : qy c5 n Tryz.f5 (body Tryz.f5) p5.ps p5.rs d = F5 n d.1 := by kernel_rfl
theorem L5_4_eq (n : Nat) (d) : (l5_4).g (n + 1) d = run c5 n (jW 0 (qe (body Tryz.f5))) ((l5_4).ins.fill d) (qN (l5_4) n) := by kernel_rfl
theorem ls5 : qe (body Tryz.f5) = [jW 0 (qe (body Tryz.f5))] := by kernel_rfl
theorem d5 : ql c5 (body Tryz.f5) = true := by kernel_rfl
theorem h5 : qw Tryz.prog 5 p5 := hQ (cfg := c5) (qp qq (qh) rfl (by kernel_rfl)) Tryz.func5 (by kernel_rfl) (by rw [ls5]; simp only [List.forall_mem_cons]; exact ⟨qC (key := 4) (li := l5_4) (by kernel_rfl) rfl (fun _ => rfl) (L5_4_eq), fun _ h => by cases h⟩) d5 (F5_eq qc)
def F28 (_n : Nat) (n_0 : Int) (low_1 : Int) (high_2 : Int) : Option uAc :=
  cond (decide (n_0 ≥ low_1)) (some (((decide (n_0 ≤ high_2)), ()), ())) (some ((false, ()), ()))
def g28 (d : Int × Int × Int × Unit) : Option uAc := F28 qc d.1 d.2.1 d.2.2.1
def p28 : qE := ⟨[.v zI, .v zI, .v zI], [.v .bool], g28⟩
def c28 : qS := ⟨15, tyT, [], [], [], [], [], [], [], [], [], [], [], [], none⟩
theorem F28_eq (n : Nat) (d) : qy c28 n Tryz.f28 (body Tryz.f28) p28.ps p28.rs d = F28 n d.1 d.2.1 d.2.2.1 := by kernel_rfl
theorem h28 : qw Tryz.prog 28 p28 := hQ (cfg := c28) (qp qq (qh) rfl (by kernel_rfl)) Tryz.func28 (by kernel_rfl) (qr (by kernel_rfl)) (by kernel_rfl) (F28_eq qc)
def F50 (_n : Nat) (n_0 : Int) (t_1 : Int) (t_2 : Int) : Option uAc :=
  qa (g28 (n_0, t_1, t_2, ())) fun y1 => some (((!y1.1.1), ()), ())
def g50 (d : Int × Int × Int × Unit) : Option uAc := F50 qc d.1 d.2.1 d.2.2.1
def p50 : qE := ⟨[.v zI, .r zI, .r zI], [.v .bool], g50⟩
def c50 : qS := ⟨10, tyT, [], [(28, p28)], [], [], [], [], [], [], [], [], [], [], none⟩
theorem F50_eq (n : Nat) (d) : qy c50 n Tryz.f50 (body Tryz.f50) p50.ps p50.rs d = F50 n d.1 d.2.1 d.2.2.1 := by kernel_rfl
theorem h50 : qw Tryz.prog 50 p50 := hQ (cfg := c50) (qp qq (qd h28 qh) rfl (by kernel_rfl)) Tryz.func50 (by kernel_rfl) (qr (by kernel_rfl)) (by kernel_rfl) (F50_eq qc)
def B70_2 (_n : Nat) (L : ((List Int) × (Int → Option Bool) × Int × Int × Unit) × (Unit) × Unit → Option (zTn ⊕ uAg)) (s_0 : List Int) (f_1 : Int → Option Bool) (t_7 : Int) (t_8 : Int) : Option (zTn ⊕ uAg) :=
  cond (decide (t_8 < t_7)) (qi s_0 t_8 fun e1 => qa (f_1 e1) fun y2 => cond y2 (some (.inl ((t_8, ()), (), ()))) (L ((s_0, f_1, t_7, (IntKind.wrap .i64 (t_8 + 1)), ()), (), ()))) (some (.inr ((), (), ())))
def L70_2 : Nat → ((List Int) × (Int → Option Bool) × Int × Int × Unit) × (Unit) × Unit → Option (zTn ⊕ uAg)
  | 0, _ => none
  | n + 1, d => B70_2 n (L70_2 n) d.1.1 d.1.2.1 d.1.2.2.1 d.1.2.2.2.1
def l70_2 : qY := ⟨⟨[(0, .v uBg), (1, .v (.fn zI .bool)), (7, .v zI), (8, .v zI)], [], none⟩, [(.ret, ⟨[(4, .v zI)], [], none⟩), (.exit 0, ⟨[], [], none⟩)], L70_2⟩
def F70 (n : Nat) (s_0 : (List Int)) (f_1 : (Int → Option Bool)) : Option uAh :=
  qa (L70_2 n ((s_0, f_1, (s_0.length : Int), 0, ()), (), ())) fun o3 => qbd o3 (fun d4 => some ((d4.1.1, ()), ())) (fun _ => some (((-1), ()), ()))
def g70 (d : (List Int) × (Int → Option Bool) × Unit) : Option uAh := F70 qc d.1 d.2.1
def p70 : qE := ⟨[.v uBg, .v (.fn zI .bool)], [.v zI], g70⟩
def c70 : qS := ⟨19, tyT, [], [], [(2, l70_2)], [], [], [], [], [], [], [], [], [], none⟩
theorem F70_eq (n : Nat) (d) : qy c70 n Tryz.f70 (body Tryz.f70) p70.ps p70.rs d = F70 n d.1 d.2.1 := by kernel_rfl
theorem L70_2_eq (n : Nat) (d) : (l70_2).g (n + 1) d = run c70 n (jW 0 (qe (body Tryz.f70))) ((l70_2).ins.fill d) (qN (l70_2) n) := by kernel_rfl
theorem ls70 : qe (body Tryz.f70) = [jW 0 (qe (body Tryz.f70))] := by kernel_rfl
theorem h70 : qw Tryz.prog 70 p70 := hQ (cfg := c70) (qp qq (qh) rfl (by kernel_rfl)) Tryz.func70 (by kernel_rfl) (by rw [ls70]; simp only [List.forall_mem_cons]; exact ⟨qC (key := 2) (li := l70_2) (by kernel_rfl) rfl (fun _ => rfl) (L70_2_eq), fun _ h => by cases h⟩) (by kernel_rfl) (F70_eq qc)
def F51 (_n : Nat) (s_0 : (List Int)) (f_1 : (Int → Option Bool)) : Option uAc :=
  qa (g70 (s_0, f_1, ())) fun y1 => some (((decide (y1.1.1 ≥ 0)), ()), ())
def g51 (d : (List Int) × (Int → Option Bool) × Unit) : Option uAc := F51 qc d.1 d.2.1
def p51 : qE := ⟨[.v uBg, .v (.fn zI .bool)], [.v .bool], g51⟩
def c51 : qS := ⟨9, tyT, [], [(70, p70)], [], [], [], [], [], [], [], [], [], [], none⟩
theorem F51_eq (n : Nat) (d) : qy c51 n Tryz.f51 (body Tryz.f51) p51.ps p51.rs d = F51 n d.1 d.2.1 := by kernel_rfl
theorem h51 : qw Tryz.prog 51 p51 := hQ (cfg := c51) (qp qq (qd h70 qh) rfl (by kernel_rfl)) Tryz.func51 (by kernel_rfl) (qr (by kernel_rfl)) (by kernel_rfl) (F51_eq qc)
def B71_2 (_n : Nat) (L : (uAk × ((Int × Int) → Option Bool) × Int × Int × Unit) × (Unit) × Unit → Option (zTn ⊕ uAg)) (s_0 : List (Int × Int)) (f_1 : (Int × Int) → Option Bool) (t_7 : Int) (t_8 : Int) : Option (zTn ⊕ uAg) :=
  cond (decide (t_8 < t_7)) (qi s_0 t_8 fun e1 => qa (f_1 e1) fun y2 => cond y2 (some (.inl ((t_8, ()), (), ()))) (L ((s_0, f_1, t_7, (IntKind.wrap .i64 (t_8 + 1)), ()), (), ()))) (some (.inr ((), (), ())))
def L71_2 : Nat → (uAk × ((Int × Int) → Option Bool) × Int × Int × Unit) × (Unit) × Unit → Option (zTn ⊕ uAg)
  | 0, _ => none
  | n + 1, d => B71_2 n (L71_2 n) d.1.1 d.1.2.1 d.1.2.2.1 d.1.2.2.2.1
def l71_2 : qY := ⟨⟨[(0, .v uAo), (1, .v (.fn (.str zTi) .bool)), (7, .v zI), (8, .v zI)], [], none⟩, [(.ret, ⟨[(4, .v zI)], [], none⟩), (.exit 0, ⟨[], [], none⟩)], L71_2⟩
def F71 (n : Nat) (s_0 : uAk) (f_1 : ((Int × Int) → Option Bool)) : Option uAh :=
  qa (L71_2 n ((s_0, f_1, (s_0.length : Int), 0, ()), (), ())) fun o3 => qbd o3 (fun d4 => some ((d4.1.1, ()), ())) (fun _ => some (((-1), ()), ()))
def g71 (d : uAk × ((Int × Int) → Option Bool) × Unit) : Option uAh := F71 qc d.1 d.2.1
def p71 : qE := ⟨[.v uAo, .v (.fn (.str zTi) .bool)], [.v zI], g71⟩
def c71 : qS := ⟨19, tyT, [], [], [(2, l71_2)], [], [], [], [], [], [], [], [], [], none⟩
theorem F71_eq (n : Nat) (d) : qy c71 n Tryz.f71 (body Tryz.f71) p71.ps p71.rs d = F71 n d.1 d.2.1 := by kernel_rfl
theorem L71_2_eq (n : Nat) (d) : (l71_2).g (n + 1) d = run c71 n (jW 0 (qe (body Tryz.f71))) ((l71_2).ins.fill d) (qN (l71_2) n) := by kernel_rfl
theorem ls71 : qe (body Tryz.f71) = [jW 0 (qe (body Tryz.f71))] := by kernel_rfl
theorem h71 : qw Tryz.prog 71 p71 := hQ (cfg := c71) (qp qq (qh) rfl (by kernel_rfl)) Tryz.func71 (by kernel_rfl) (by rw [ls71]; simp only [List.forall_mem_cons]; exact ⟨qC (key := 2) (li := l71_2) (by kernel_rfl) rfl (fun _ => rfl) (L71_2_eq), fun _ h => by cases h⟩) (by kernel_rfl) (F71_eq qc)
def F52 (_n : Nat) (s_0 : uAk) (f_1 : ((Int × Int) → Option Bool)) : Option uAc :=
  qa (g71 (s_0, f_1, ())) fun y1 => some (((decide (y1.1.1 ≥ 0)), ()), ())
def g52 (d : uAk × ((Int × Int) → Option Bool) × Unit) : Option uAc := F52 qc d.1 d.2.1
def p52 : qE := ⟨[.v uAo, .v (.fn (.str zTi) .bool)], [.v .bool], g52⟩
def c52 : qS := ⟨9, tyT, [], [(71, p71)], [], [], [], [], [], [], [], [], [], [], none⟩
theorem F52_eq (n : Nat) (d) : qy c52 n Tryz.f52 (body Tryz.f52) p52.ps p52.rs d = F52 n d.1 d.2.1 := by kernel_rfl
theorem h52 : qw Tryz.prog 52 p52 := hQ (cfg := c52) (qp qq (qd h71 qh) rfl (by kernel_rfl)) Tryz.func52 (by kernel_rfl) (qr (by kernel_rfl)) (by kernel_rfl) (F52_eq qc)
def F53 (_n : Nat) (b_0 : (Int × Int)) (t_1 : uAz) : Option uAc :=
  qa (g28 (b_0.1, 1, 1000, ())) fun y1 => cond (!y1.1.1) (some ((true, ()), ())) (qa (g28 (b_0.2, 1, 1000000, ())) fun y2 => cond (!y2.1.1) (some ((true, ()), ())) (some (((decide ((IntKind.wrap .i64 (t_1.2.2.2.2.2.1 * b_0.1)) > b_0.2)), ()), ())))
def g53 (d : (Int × Int) × uAz × Unit) : Option uAc := F53 qc d.1 d.2.1
def p53 : qE := ⟨[.v (.str zTi), .r (.str uAv)], [.v .bool], g53⟩
def c53 : qS := ⟨24, tyT, [], [(28, p28)], [], [], [], [], [], [], [], [], [], [], none⟩
theorem F53_eq (n : Nat) (d) : qy c53 n Tryz.f53 (body Tryz.f53) p53.ps p53.rs d = F53 n d.1 d.2.1 := by kernel_rfl
theorem h53 : qw Tryz.prog 53 p53 := hQ (cfg := c53) (qp qq (qd h28 qh) rfl (by kernel_rfl)) Tryz.func53 (by kernel_rfl) (qr (by kernel_rfl)) (by kernel_rfl) (F53_eq qc)
def F27 (_n : Nat) (f_0 : uAz) : Option uAh :=
  qa (g28 ((f_0.2.2.1.length : Int), 1, 8, ())) fun y1 => cond (!y1.1.1) (some ((10, ()), ())) (cond ((f_0.2.2.2.1.length : Int) != (f_0.2.2.1.length : Int)) (some ((10, ()), ())) (qa (g28 (f_0.1, 0, 20, ())) fun y2 => cond (!y2.1.1) (some ((10, ()), ())) (qa (g28 (f_0.2.1, 0, 12, ())) fun y3 => cond (!y3.1.1) (some ((10, ()), ())) (cond (decide ((f_0.2.2.2.2.1.length : Int) > 6)) (some ((10, ()), ())) (qa (Mk.m49.p.g (0, 100000, ())) fun y4 => qa (g51 (f_0.2.2.1, (fun v5 => qa y4.1.1 fun q7 => qa y4.1.2.1 fun q8 => qa (g50 (v5, q7, q8, ())) fun y6 => some y6.1.1), ())) fun y9 => cond y9.1.1 (some ((10, ()), ())) (qa (Mk.m49.p.g (0, 1000000, ())) fun y10 => qa (g51 (f_0.2.2.2.1, (fun v11 => qa y10.1.1 fun q13 => qa y10.1.2.1 fun q14 => qa (g50 (v11, q13, q14, ())) fun y12 => some y12.1.1), ())) fun y15 => cond y15.1.1 (some ((10, ()), ())) (qa (g28 (f_0.2.2.2.2.2.1, 0, 1000, ())) fun y16 => cond (!y16.1.1) (some ((10, ()), ())) (qa (g28 (f_0.2.2.2.2.2.2.1, 0, 1000000, ())) fun y17 => cond (!y17.1.1) (some ((10, ()), ())) (qa (g28 (f_0.2.2.2.2.2.2.2, 1, 1440, ())) fun y18 => cond (!y18.1.1) (some ((10, ()), ())) (qa (g52 (f_0.2.2.2.2.1, (fun v19 => qa (g53 (v19, f_0, ())) fun y20 => some y20.1.1), ())) fun y21 => cond y21.1.1 (some ((10, ()), ())) (some ((0, ()), ()))))))))))))
def g27 (d : uAz × Unit) : Option uAh := F27 qc d.1
def p27 : qE := ⟨[.v (.str uAv)], [.v zI], g27⟩
def c27 : qS := ⟨78, tyT, [(1, .str uAv)], [(28, p28), (50, p50), (51, p51), (52, p52), (53, p53)], [], [], [3], [], [], [(49, Mk.m49)], [], [], [], [], none⟩
theorem F27_eq (n : Nat) (d) : qy c27 n Tryz.f27 (body Tryz.f27) p27.ps p27.rs d = F27 n d.1 := by kernel_rfl
theorem h27 : qw Tryz.prog 27 p27 := hQ (cfg := c27) (qp qq (qd h28 (qd h50 (qd h51 (qd h52 (qd h53 qh))))) rfl (by kernel_rfl) (qjC (qgY Mk.k49 qjE))) Tryz.func27 (by kernel_rfl) (qr (by kernel_rfl)) (by kernel_rfl) (F27_eq qc)
def F107 (_n : Nat) (x_0 : Int) (y_1 : Int) : Option uCd :=
  qdQ 32 (qdQ 32 (qaF (IntKind.wrap .u64 ((qbJ .and .u64 x_0 4294967295) * (qbJ .and .u64 y_1 4294967295))) fun z1 => qdQ 32 (qaF (IntKind.wrap .u64 ((IntKind.wrap .u64 ((qdU .u64 x_0 32) * (qbJ .and .u64 y_1 4294967295))) + (qdU .u64 z1 32))) fun z2 => qdQ 32 (qaF (IntKind.wrap .u64 ((qbJ .and .u64 z2 4294967295) + (IntKind.wrap .u64 ((qbJ .and .u64 x_0 4294967295) * (qdU .u64 y_1 32))))) fun z3 => qdQ 32 (qaF (IntKind.wrap .u64 ((IntKind.wrap .u64 ((IntKind.wrap .u64 ((qdU .u64 x_0 32) * (qdU .u64 y_1 32))) + (qdU .u64 z2 32))) + (qdU .u64 z3 32))) fun z4 => some ((z4, (IntKind.wrap .u64 (x_0 * y_1)), ()), ()))))))
def g107 (d : Int × Int × Unit) : Option uCd := F107 qc d.1 d.2.1
def p107 : qE := ⟨[.v (.int .u64), .v (.int .u64)], [.v (.int .u64), .v (.int .u64)], g107⟩
def c107 : qS := ⟨51, tyT, [], [], [], [], [], [], [], [], [], [], [], [], none⟩
theorem F107_eq (n : Nat) (d) : qy c107 n Tryz.f107 (body Tryz.f107) p107.ps p107.rs d = F107 n d.1 d.2.1 := by kernel_rfl
theorem h107 : qw Tryz.prog 107 p107 := hQ (cfg := c107) (qp qq (qh) rfl (by kernel_rfl)) Tryz.func107 (by kernel_rfl) (qr (by kernel_rfl)) (by kernel_rfl) (F107_eq qc)
def F87 (_n : Nat) (x_0 : Int) (y_1 : Int) : Option uCd :=
  qa (g107 (x_0, y_1, ())) fun y1 => some ((y1.1.1, y1.1.2.1, ()), ())
def g87 (d : Int × Int × Unit) : Option uCd := F87 qc d.1 d.2.1
def p87 : qE := ⟨[.v (.int .u64), .v (.int .u64)], [.v (.int .u64), .v (.int .u64)], g87⟩
def c87 : qS := ⟨30, tyT, [], [(107, p107)], [], [], [], [], [], [], [], [], [], [], none⟩
theorem F87_eq (n : Nat) (d) : qy c87 n Tryz.f87 (body Tryz.f87) p87.ps p87.rs d = F87 n d.1 d.2.1 := by kernel_rfl
theorem h87 : qw Tryz.prog 87 p87 := hQ (cfg := c87) (qp qq (qd h107 qh) rfl (by kernel_rfl)) Tryz.func87 (by kernel_rfl) (qr (by kernel_rfl)) (by kernel_rfl) (F87_eq qc)
def B72_8 (_n : Nat) (L : (Int × Unit) × uAm × Unit → Option zTs) (n_8 : Int) (o_30 : List Int) : Option zTs :=
  cond (decide (n_8 < (o_30.length : Int))) (qhl (L (((IntKind.wrap .i64 (n_8 + ((min (o_30.take n_8.toNat).length (o_30.length - n_8.toNat) : Nat) : Int))), ()), ((qbO o_30 (o_30.take n_8.toNat) n_8.toNat), ()), ())) fun E => jC [leK 0 n_8 (leK n_8 (o_30.length : Int) (leK 0 n_8 (leK n_8 (o_30.length : Int) (E)))), leK 0 n_8 (leK n_8 (o_30.length : Int) (leK 0 n_8 (leK n_8 (o_30.length : Int) (E))))]) (some ((), (o_30, ()), ()))
def L72_8 : Nat → (Int × Unit) × uAm × Unit → Option zTs
  | 0, _ => none
  | n + 1, d => B72_8 n (L72_8 n) d.1.1 d.2.1.1
def l72_8 : qY := ⟨⟨[(7, .c (.view 30 [])), (8, .v zI)], [(30, true, .list true 3 zI)], none⟩, [(.exit 0, ⟨[(7, .c (.view 30 []))], [(30, true, .list true 3 zI)], none⟩)], L72_8⟩
def F72 (n : Nat) (x_0 : (List Int)) (count_1 : Int) : Option uCn :=
  cond (decide (count_1 < 0)) (none) (qa (g87 ((IntKind.wrap .u64 (x_0.length : Int)), (IntKind.wrap .u64 count_1), ())) fun y1 => cond (decide (y1.1.1 > 0)) (none) (cond (decide (y1.1.2.1 > 9223372036854775807)) (none) (leK 0 (IntKind.wrap .i64 y1.1.2.1) (leK (IntKind.wrap .i64 y1.1.2.1) (IntKind.wrap .i64 y1.1.2.1) (jE (IntKind.wrap .i64 y1.1.2.1) (qaF ((min x_0.length ((List.replicate (IntKind.wrap .i64 y1.1.2.1).toNat (0 : Int)).length - (0 : Int).toNat) : Nat) : Int) fun z2 => qa (L72_8 n ((z2, ()), ((qbO (List.replicate (IntKind.wrap .i64 y1.1.2.1).toNat (0 : Int)) x_0 (0 : Int).toNat), ()), ())) fun o3 => some ((o3.2.1.1, ()), ())))))))
def g72 (d : (List Int) × Int × Unit) : Option uCn := F72 qc d.1 d.2.1
def p72 : qE := ⟨[.v uBg, .v zI], [.own 3 zI], g72⟩
def c72 : qS := ⟨48, tyT, [], [(87, p87)], [(8, l72_8)], [], [9], [], [], [], [], [], [], [], none⟩
theorem F72_eq (n : Nat) (d) : qy c72 n Tryz.f72 (body Tryz.f72) p72.ps p72.rs d = F72 n d.1 d.2.1 := by kernel_rfl
theorem L72_8_eq (n : Nat) (d) : (l72_8).g (n + 1) d = run c72 n (jW 0 (qe (body Tryz.f72))) ((l72_8).ins.fill d) (qN (l72_8) n) := by kernel_rfl
theorem ls72 : qe (body Tryz.f72) = [jW 0 (qe (body Tryz.f72))] := by kernel_rfl
theorem h72 : qw Tryz.prog 72 p72 := hQ (cfg := c72) (qp qq (qd h87 qh) rfl (by kernel_rfl)) Tryz.func72 (by kernel_rfl) (by rw [ls72]; simp only [List.forall_mem_cons]; exact ⟨qC (key := 8) (li := l72_8) (by kernel_rfl) rfl (fun _ => rfl) (L72_8_eq), fun _ h => by cases h⟩) (by kernel_rfl) (F72_eq qc)
def B54_4 (_n : Nat) (L : uCe × uAl × Unit → Option zTr) (l_0 : List (Int × Int)) (n_1 : Int) (most_6 : Int) (t_24 : Int) (t_25 : Int) (o_22 : List (List Int)) : Option zTr :=
  cond (decide (t_25 < t_24)) (qa (g72 ([1152921504606846976], (IntKind.wrap .i64 (most_6 + 1)), ())) fun y1 => jS t_25 o_22.length (qi o_22 t_25 fun _ => L ((l_0, n_1, most_6, t_24, (IntKind.wrap .i64 (t_25 + 1)), ()), ((o_22.set t_25.toNat y1.1.1), ()), ()))) (some ((l_0, n_1, most_6, ()), (o_22, ()), ()))
def L54_4 : Nat → uCe × uAl × Unit → Option zTr
  | 0, _ => none
  | n + 1, d => B54_4 n (L54_4 n) d.1.1 d.1.2.1 d.1.2.2.1 d.1.2.2.2.1 d.1.2.2.2.2.1 d.2.1.1
def l54_4 : qY := ⟨⟨[(0, .v uAo), (1, .v zI), (6, .v zI), (7, .c (.view 22 [])), (24, .v zI), (25, .v zI)], [(22, true, .list true 26 uBd)], none⟩, [(.exit 0, ⟨[(0, .v uAo), (1, .v zI), (6, .v zI), (7, .c (.view 22 []))], [(22, true, .list true 26 uBd)], none⟩)], L54_4⟩
def B54_13 (_n : Nat) (L : uCc × uAl × Unit → Option uCl) (l_0 : List (Int × Int)) (n_1 : Int) (most_6 : Int) (i_9 : Int) (t_53 : Int) (t_54 : Int) (o_22 : List (List Int)) : Option uCl :=
  cond (decide (t_54 < t_53)) (jS i_9 o_22.length (jS (IntKind.wrap .i64 (i_9 + 1)) o_22.length (qi o_22 (IntKind.wrap .i64 (i_9 + 1)) fun e8 => jS t_54 e8.length (qi o_22 (IntKind.wrap .i64 (i_9 + 1)) fun e9 => qi e9 t_54 fun e10 => qi o_22 i_9 fun e11 => jS t_54 e11.length (qi o_22 i_9 fun e12 => qi e12 t_54 fun _ => qi l_0 i_9 fun e14 => cond (decide ((IntKind.wrap .i64 (t_54 - e14.1)) ≥ 0)) (jS i_9 (o_22.set i_9.toNat (e12.set t_54.toNat e10)).length (qi (o_22.set i_9.toNat (e12.set t_54.toNat e10)) i_9 fun e15 => jS (IntKind.wrap .i64 (t_54 - e14.1)) e15.length (qi (o_22.set i_9.toNat (e12.set t_54.toNat e10)) i_9 fun e16 => qi e16 (IntKind.wrap .i64 (t_54 - e14.1)) fun e17 => cond (decide (e17 < 1152921504606846976)) (jS i_9 (o_22.set i_9.toNat (e12.set t_54.toNat e10)).length (jS i_9 (o_22.set i_9.toNat (e12.set t_54.toNat e10)).length (qi (o_22.set i_9.toNat (e12.set t_54.toNat e10)) i_9 fun e18 => jS t_54 e18.length (qi (o_22.set i_9.toNat (e12.set t_54.toNat e10)) i_9 fun e19 => qi e19 t_54 fun e20 => jS i_9 (o_22.set i_9.toNat (e12.set t_54.toNat e10)).length (qi (o_22.set i_9.toNat (e12.set t_54.toNat e10)) i_9 fun e21 => jS (IntKind.wrap .i64 (t_54 - e14.1)) e21.length (qi (o_22.set i_9.toNat (e12.set t_54.toNat e10)) i_9 fun e22 => qi e22 (IntKind.wrap .i64 (t_54 - e14.1)) fun e23 => qi l_0 i_9 fun e24 => qi (o_22.set i_9.toNat (e12.set t_54.toNat e10)) i_9 fun e25 => jS t_54 e25.length (qi (o_22.set i_9.toNat (e12.set t_54.toNat e10)) i_9 fun e26 => qi e26 t_54 fun _ => qaF ((o_22.set i_9.toNat (e12.set t_54.toNat e10)).set i_9.toNat (e26.set t_54.toNat (min e20 (IntKind.wrap .i64 (e23 + e24.2))))) fun z28 => L ((l_0, n_1, most_6, i_9, t_53, (IntKind.wrap .i64 (t_54 + 1)), ()), (z28, ()), ())))))))) (L ((l_0, n_1, most_6, i_9, t_53, (IntKind.wrap .i64 (t_54 + 1)), ()), ((o_22.set i_9.toNat (e12.set t_54.toNat e10)), ()), ()))))) (L ((l_0, n_1, most_6, i_9, t_53, (IntKind.wrap .i64 (t_54 + 1)), ()), ((o_22.set i_9.toNat (e12.set t_54.toNat e10)), ()), ()))))))) (some ((l_0, n_1, most_6, i_9, ()), (o_22, ()), ()))
def L54_13 : Nat → uCc × uAl × Unit → Option uCl
  | 0, _ => none
  | n + 1, d => B54_13 n (L54_13 n) d.1.1 d.1.2.1 d.1.2.2.1 d.1.2.2.2.1 d.1.2.2.2.2.1 d.1.2.2.2.2.2.1 d.2.1.1
def l54_13 : qY := ⟨⟨[(0, .v uAo), (1, .v zI), (6, .v zI), (7, .c (.view 22 [])), (9, .v zI), (53, .v zI), (54, .v zI)], [(22, true, .list true 26 uBd)], none⟩, [(.exit 4, ⟨[(0, .v uAo), (1, .v zI), (6, .v zI), (7, .c (.view 22 [])), (9, .v zI)], [(22, true, .list true 26 uBd)], none⟩)], L54_13⟩
def B54_10 (n : Nat) (L : uBa × uAl × Unit → Option zTr) (l_0 : List (Int × Int)) (n_1 : Int) (most_6 : Int) (i_9 : Int) (o_22 : List (List Int)) : Option zTr :=
  cond (decide (i_9 ≥ 0)) (jS i_9 o_22.length (qi o_22 i_9 fun e7 => qa (L54_13 n ((l_0, n_1, most_6, i_9, (e7.length : Int), 0, ()), (o_22, ()), ())) fun o29 => L ((o29.1.1, o29.1.2.1, o29.1.2.2.1, (IntKind.wrap .i64 (o29.1.2.2.2.1 - 1)), ()), (o29.2.1.1, ()), ()))) (some ((l_0, n_1, most_6, ()), (o_22, ()), ()))
def L54_10 : Nat → uBa × uAl × Unit → Option zTr
  | 0, _ => none
  | n + 1, d => B54_10 n (L54_10 n) d.1.1 d.1.2.1 d.1.2.2.1 d.1.2.2.2.1 d.2.1.1
def l54_10 : qY := ⟨⟨[(0, .v uAo), (1, .v zI), (6, .v zI), (7, .c (.view 22 [])), (9, .v zI)], [(22, true, .list true 26 uBd)], none⟩, [(.exit 2, ⟨[(0, .v uAo), (1, .v zI), (6, .v zI), (7, .c (.view 22 []))], [(22, true, .list true 26 uBd)], none⟩)], L54_10⟩
def B54_22 (_n : Nat) (L : uBa × uAl × Unit → Option uBp) (l_0 : List (Int × Int)) (most_6 : Int) (tokens_12 : Int) (t_13 : Int) (o_22 : List (List Int)) : Option uBp :=
  cond (decide (t_13 ≤ most_6)) (jS 0 o_22.length (qi o_22 0 fun e31 => jS t_13 e31.length (qi o_22 0 fun e32 => qi e32 t_13 fun e33 => jS 0 o_22.length (qi o_22 0 fun e34 => jS tokens_12 e34.length (qi o_22 0 fun e35 => qi e35 tokens_12 fun e36 => cond (decide (e33 < e36)) (L ((l_0, most_6, t_13, (IntKind.wrap .i64 (t_13 + 1)), ()), (o_22, ()), ())) (L ((l_0, most_6, tokens_12, (IntKind.wrap .i64 (t_13 + 1)), ()), (o_22, ()), ()))))))) (some ((l_0, tokens_12, ()), (o_22, ()), ()))
def L54_22 : Nat → uBa × uAl × Unit → Option uBp
  | 0, _ => none
  | n + 1, d => B54_22 n (L54_22 n) d.1.1 d.1.2.1 d.1.2.2.1 d.1.2.2.2.1 d.2.1.1
def l54_22 : qY := ⟨⟨[(0, .v uAo), (6, .v zI), (7, .c (.view 22 [])), (12, .v zI), (13, .v zI)], [(22, true, .list true 26 uBd)], none⟩, [(.exit 6, ⟨[(0, .v uAo), (7, .c (.view 22 [])), (12, .v zI)], [(22, true, .list true 26 uBd)], none⟩)], L54_22⟩
def B54_34 (_n : Nat) (L : uBu × uBs × Unit → Option uAu) (price_5 : Int) (tokens_12 : Int) (i_14 : Int) (left_16 : Int) (t_150 : List (Int × Int)) (t_151 : Int) (t_152 : Int) (o_15 : Int × Int) (o_22 : List (List Int)) (o_4000149 : List Int) : Option uAu :=
  cond (decide (tokens_12 ≥ o_15.1)) (jS i_14 o_22.length (qi o_22 i_14 fun e45 => jS (IntKind.wrap .i64 (tokens_12 - o_15.1)) e45.length (qi o_22 i_14 fun e46 => qi e46 (IntKind.wrap .i64 (tokens_12 - o_15.1)) fun e47 => cond (decide (e47 < 1152921504606846976)) (jS i_14 o_22.length (qi o_22 i_14 fun e48 => jS (IntKind.wrap .i64 (tokens_12 - o_15.1)) e48.length (qi o_22 i_14 fun e49 => qi e49 (IntKind.wrap .i64 (tokens_12 - o_15.1)) fun e50 => cond ((IntKind.wrap .i64 (e50 + o_15.2)) == left_16) (jS i_14 o_4000149.length (qi o_4000149 i_14 fun e51 => jS i_14 o_4000149.length (qi o_4000149 i_14 fun _ => jS i_14 o_22.length (qi o_22 i_14 fun e53 => jS (IntKind.wrap .i64 (tokens_12 - o_15.1)) e53.length (qi o_22 i_14 fun e54 => qi e54 (IntKind.wrap .i64 (tokens_12 - o_15.1)) fun e55 => L ((price_5, (IntKind.wrap .i64 (tokens_12 - o_15.1)), i_14, e55, t_150, t_151, t_152, ()), (o_15, o_22, (o_4000149.set i_14.toNat (IntKind.wrap .i64 (e51 + 1))), ()), ())))))) (some ((price_5, tokens_12, t_150, t_151, t_152, ()), (o_22, o_4000149, ()), ()))))) (some ((price_5, tokens_12, t_150, t_151, t_152, ()), (o_22, o_4000149, ()), ()))))) (some ((price_5, tokens_12, t_150, t_151, t_152, ()), (o_22, o_4000149, ()), ()))
def L54_34 : Nat → uBu × uBs × Unit → Option uAu
  | 0, _ => none
  | n + 1, d => B54_34 n (L54_34 n) d.1.1 d.1.2.1 d.1.2.2.1 d.1.2.2.2.1 d.1.2.2.2.2.1 d.1.2.2.2.2.2.1 d.1.2.2.2.2.2.2.1 d.2.1.1 d.2.1.2.1 d.2.1.2.2.1
def l54_34 : qY := ⟨⟨[(4, .c (.view 4000149 [])), (5, .v zI), (7, .c (.view 22 [])), (12, .v zI), (14, .v zI), (15, .c (.ptr 15 [])), (16, .v zI), (150, .v uAo), (151, .v zI), (152, .v zI)], [(15, false, .str zTi), (22, true, .list true 26 uBd), (4000149, true, .list true 3 zI)], none⟩, [(.exit 10, ⟨[(4, .c (.view 4000149 [])), (5, .v zI), (7, .c (.view 22 [])), (12, .v zI), (150, .v uAo), (151, .v zI), (152, .v zI)], [(22, true, .list true 26 uBd), (4000149, true, .list true 3 zI)], none⟩)], L54_34⟩
def B54_31 (n : Nat) (L : uBx × uBy × Unit → Option uBi) (price_5 : Int) (tokens_12 : Int) (t_150 : List (Int × Int)) (t_151 : Int) (t_152 : Int) (o_22 : List (List Int)) (o_4000149 : List Int) : Option uBi :=
  cond (decide (t_152 < t_151)) (qi t_150 t_152 fun e41 => jS t_152 o_22.length (qi o_22 t_152 fun e42 => jS tokens_12 e42.length (qi o_22 t_152 fun e43 => qi e43 tokens_12 fun e44 => qa (L54_34 n ((price_5, tokens_12, t_152, e44, t_150, t_151, t_152, ()), (e41, o_22, o_4000149, ()), ())) fun o56 => L ((o56.1.1, o56.1.2.1, o56.1.2.2.1, o56.1.2.2.2.1, (IntKind.wrap .i64 (o56.1.2.2.2.2.1 + 1)), ()), (o56.2.1.1, o56.2.1.2.1, ()), ())))) (some ((price_5, ()), (o_4000149, ()), ()))
def L54_31 : Nat → uBx × uBy × Unit → Option uBi
  | 0, _ => none
  | n + 1, d => B54_31 n (L54_31 n) d.1.1 d.1.2.1 d.1.2.2.1 d.1.2.2.2.1 d.1.2.2.2.2.1 d.2.1.1 d.2.1.2.1
def l54_31 : qY := ⟨⟨[(4, .c (.view 4000149 [])), (5, .v zI), (7, .c (.view 22 [])), (12, .v zI), (150, .v uAo), (151, .v zI), (152, .v zI)], [(22, true, .list true 26 uBd), (4000149, true, .list true 3 zI)], none⟩, [(.exit 8, ⟨[(4, .c (.view 4000149 [])), (5, .v zI)], [(4000149, true, .list true 3 zI)], none⟩)], L54_31⟩
def F54 (n : Nat) (l_0 : uAk) (n_1 : Int) : Option uBf :=
  leK 0 (IntKind.wrap .i64 ((l_0.length : Int) + 1)) (leK (IntKind.wrap .i64 ((l_0.length : Int) + 1)) (IntKind.wrap .i64 ((l_0.length : Int) + 1)) (jE (IntKind.wrap .i64 ((l_0.length : Int) + 1)) (qa (L54_4 n ((l_0, n_1, (IntKind.wrap .i64 (n_1 + 1000)), ((List.replicate (IntKind.wrap .i64 ((l_0.length : Int) + 1)).toNat ([] : List Int)).length : Int), 0, ()), ((List.replicate (IntKind.wrap .i64 ((l_0.length : Int) + 1)).toNat ([] : List Int)), ()), ())) fun o3 => jS (o3.1.1.length : Int) o3.2.1.1.length (qi o3.2.1.1 (o3.1.1.length : Int) fun e4 => jS 0 e4.length (qi o3.2.1.1 (o3.1.1.length : Int) fun e5 => qi e5 0 fun _ => qa (L54_10 n ((o3.1.1, o3.1.2.1, o3.1.2.2.1, (IntKind.wrap .i64 ((o3.1.1.length : Int) - 1)), ()), ((o3.2.1.1.set (o3.1.1.length : Int).toNat (e5.set (0 : Int).toNat 0)), ()), ())) fun o30 => qa (L54_22 n ((o30.1.1, o30.1.2.2.1, o30.1.2.1, o30.1.2.1, ()), (o30.2.1.1, ()), ())) fun o37 => jS 0 o37.2.1.1.length (qi o37.2.1.1 0 fun e38 => jS o37.1.2.1 e38.length (qi o37.2.1.1 0 fun e39 => qi e39 o37.1.2.1 fun e40 => cond (e40 == 1152921504606846976) (none) (leK 0 (o37.1.1.length : Int) (leK (o37.1.1.length : Int) (o37.1.1.length : Int) (jE (o37.1.1.length : Int) (qa (L54_31 n ((e40, o37.1.2.1, o37.1.1, (o37.1.1.length : Int), 0, ()), (o37.2.1.1, (List.replicate (o37.1.1.length : Int).toNat (0 : Int)), ()), ())) fun o57 => some ((o57.2.1.1, o57.1.1, ()), ()))))))))))))
def g54 (d : uAk × Int × Unit) : Option uBf := F54 qc d.1 d.2.1
def p54 : qE := ⟨[.v uAo, .v zI], [.sure true 3 zI, .v zI], g54⟩
def c54 : qS := ⟨218, tyT, [(22, .list true 26 uBd), (4, .bool)], [(72, p72)], [(4, l54_4), (13, l54_13), (10, l54_10), (22, l54_22), (34, l54_34), (31, l54_31)], [], [1000149], [], [], [], [], [], [], [], none⟩
theorem F54_eq (n : Nat) (d) : qy c54 n Tryz.f54 (body Tryz.f54) p54.ps p54.rs d = F54 n d.1 d.2.1 := by kernel_rfl
theorem L54_4_eq (n : Nat) (d) : (l54_4).g (n + 1) d = run c54 n (jW 0 (qe (body Tryz.f54))) ((l54_4).ins.fill d) (qN (l54_4) n) := by kernel_rfl
theorem L54_10_eq (n : Nat) (d) : (l54_10).g (n + 1) d = run c54 n (jW 1 (qe (body Tryz.f54))) ((l54_10).ins.fill d) (qN (l54_10) n) := by kernel_rfl
theorem L54_13_eq (n : Nat) (d) : (l54_13).g (n + 1) d = run c54 n (jW 2 (qe (body Tryz.f54))) ((l54_13).ins.fill d) (qN (l54_13) n) := by kernel_rfl
theorem L54_22_eq (n : Nat) (d) : (l54_22).g (n + 1) d = run c54 n (jW 3 (qe (body Tryz.f54))) ((l54_22).ins.fill d) (qN (l54_22) n) := by kernel_rfl
theorem L54_31_eq (n : Nat) (d) : (l54_31).g (n + 1) d = run c54 n (jW 4 (qe (body Tryz.f54))) ((l54_31).ins.fill d) (qN (l54_31) n) := by kernel_rfl
theorem L54_34_eq (n : Nat) (d) : (l54_34).g (n + 1) d = run c54 n (jW 5 (qe (body Tryz.f54))) ((l54_34).ins.fill d) (qN (l54_34) n) := by kernel_rfl
theorem ls54 : qe (body Tryz.f54) = [jW 0 (qe (body Tryz.f54)), jW 1 (qe (body Tryz.f54)), jW 2 (qe (body Tryz.f54)), jW 3 (qe (body Tryz.f54)), jW 4 (qe (body Tryz.f54)), jW 5 (qe (body Tryz.f54))] := by kernel_rfl
theorem h54 : qw Tryz.prog 54 p54 := hQ (cfg := c54) (qp qq (qd h72 qh) rfl (by kernel_rfl)) Tryz.func54 (by kernel_rfl) (by rw [ls54]; simp only [List.forall_mem_cons]; exact ⟨qC (key := 4) (li := l54_4) (by kernel_rfl) rfl (fun _ => rfl) (L54_4_eq), qC (key := 10) (li := l54_10) (by kernel_rfl) rfl (fun _ => rfl) (L54_10_eq), qC (key := 13) (li := l54_13) (by kernel_rfl) rfl (fun _ => rfl) (L54_13_eq), qC (key := 22) (li := l54_22) (by kernel_rfl) rfl (fun _ => rfl) (L54_22_eq), qC (key := 31) (li := l54_31) (by kernel_rfl) rfl (fun _ => rfl) (L54_31_eq), qC (key := 34) (li := l54_34) (by kernel_rfl) rfl (fun _ => rfl) (L54_34_eq), fun _ h => by cases h⟩) (by kernel_rfl) (F54_eq qc)
def B10054_4 (_n : Nat) (L : uCe × uAl × Unit → Option zTr) (l_0 : List (Int × Int)) (n_1 : Int) (most_6 : Int) (t_24 : Int) (t_25 : Int) (o_22 : List (List Int)) : Option zTr :=
  cond (decide (t_25 < t_24)) (qa (g72 ([1152921504606846976], (IntKind.wrap .i64 (most_6 + 1)), ())) fun y1 => jS t_25 o_22.length (qi o_22 t_25 fun _ => L ((l_0, n_1, most_6, t_24, (IntKind.wrap .i64 (t_25 + 1)), ()), ((o_22.set t_25.toNat y1.1.1), ()), ()))) (some ((l_0, n_1, most_6, ()), (o_22, ()), ()))
def L10054_4 : Nat → uCe × uAl × Unit → Option zTr
  | 0, _ => none
  | n + 1, d => B10054_4 n (L10054_4 n) d.1.1 d.1.2.1 d.1.2.2.1 d.1.2.2.2.1 d.1.2.2.2.2.1 d.2.1.1
def l10054_4 : qY := ⟨⟨[(0, .v uAo), (1, .v zI), (6, .v zI), (7, .c (.view 22 [])), (24, .v zI), (25, .v zI)], [(22, true, .list true 26 uBd)], none⟩, [(.exit 0, ⟨[(0, .v uAo), (1, .v zI), (6, .v zI), (7, .c (.view 22 []))], [(22, true, .list true 26 uBd)], none⟩)], L10054_4⟩
def B10054_13 (_n : Nat) (L : uCc × uAl × Unit → Option uCl) (l_0 : List (Int × Int)) (n_1 : Int) (most_6 : Int) (i_9 : Int) (t_53 : Int) (t_54 : Int) (o_22 : List (List Int)) : Option uCl :=
  cond (decide (t_54 < t_53)) (jS i_9 o_22.length (jS (IntKind.wrap .i64 (i_9 + 1)) o_22.length (qi o_22 (IntKind.wrap .i64 (i_9 + 1)) fun e8 => jS t_54 e8.length (qi o_22 (IntKind.wrap .i64 (i_9 + 1)) fun e9 => qi e9 t_54 fun e10 => qi o_22 i_9 fun e11 => jS t_54 e11.length (qi o_22 i_9 fun e12 => qi e12 t_54 fun _ => qi l_0 i_9 fun e14 => cond (decide ((IntKind.wrap .i64 (t_54 - e14.1)) ≥ 0)) (jS i_9 (o_22.set i_9.toNat (e12.set t_54.toNat e10)).length (qi (o_22.set i_9.toNat (e12.set t_54.toNat e10)) i_9 fun e15 => jS (IntKind.wrap .i64 (t_54 - e14.1)) e15.length (qi (o_22.set i_9.toNat (e12.set t_54.toNat e10)) i_9 fun e16 => qi e16 (IntKind.wrap .i64 (t_54 - e14.1)) fun e17 => cond (decide (e17 < 1152921504606846976)) (jS i_9 (o_22.set i_9.toNat (e12.set t_54.toNat e10)).length (jS i_9 (o_22.set i_9.toNat (e12.set t_54.toNat e10)).length (qi (o_22.set i_9.toNat (e12.set t_54.toNat e10)) i_9 fun e18 => jS t_54 e18.length (qi (o_22.set i_9.toNat (e12.set t_54.toNat e10)) i_9 fun e19 => qi e19 t_54 fun e20 => jS i_9 (o_22.set i_9.toNat (e12.set t_54.toNat e10)).length (qi (o_22.set i_9.toNat (e12.set t_54.toNat e10)) i_9 fun e21 => jS (IntKind.wrap .i64 (t_54 - e14.1)) e21.length (qi (o_22.set i_9.toNat (e12.set t_54.toNat e10)) i_9 fun e22 => qi e22 (IntKind.wrap .i64 (t_54 - e14.1)) fun e23 => qi l_0 i_9 fun e24 => qi (o_22.set i_9.toNat (e12.set t_54.toNat e10)) i_9 fun e25 => jS t_54 e25.length (qi (o_22.set i_9.toNat (e12.set t_54.toNat e10)) i_9 fun e26 => qi e26 t_54 fun _ => qaF ((o_22.set i_9.toNat (e12.set t_54.toNat e10)).set i_9.toNat (e26.set t_54.toNat (min e20 (IntKind.wrap .i64 (e23 + e24.2))))) fun z28 => L ((l_0, n_1, most_6, i_9, t_53, (IntKind.wrap .i64 (t_54 + 1)), ()), (z28, ()), ())))))))) (L ((l_0, n_1, most_6, i_9, t_53, (IntKind.wrap .i64 (t_54 + 1)), ()), ((o_22.set i_9.toNat (e12.set t_54.toNat e10)), ()), ()))))) (L ((l_0, n_1, most_6, i_9, t_53, (IntKind.wrap .i64 (t_54 + 1)), ()), ((o_22.set i_9.toNat (e12.set t_54.toNat e10)), ()), ()))))))) (some ((l_0, n_1, most_6, i_9, ()), (o_22, ()), ()))
def L10054_13 : Nat → uCc × uAl × Unit → Option uCl
  | 0, _ => none
  | n + 1, d => B10054_13 n (L10054_13 n) d.1.1 d.1.2.1 d.1.2.2.1 d.1.2.2.2.1 d.1.2.2.2.2.1 d.1.2.2.2.2.2.1 d.2.1.1
def l10054_13 : qY := ⟨⟨[(0, .v uAo), (1, .v zI), (6, .v zI), (7, .c (.view 22 [])), (9, .v zI), (53, .v zI), (54, .v zI)], [(22, true, .list true 26 uBd)], none⟩, [(.exit 4, ⟨[(0, .v uAo), (1, .v zI), (6, .v zI), (7, .c (.view 22 [])), (9, .v zI)], [(22, true, .list true 26 uBd)], none⟩)], L10054_13⟩
def B10054_10 (n : Nat) (L : uBa × uAl × Unit → Option zTr) (l_0 : List (Int × Int)) (n_1 : Int) (most_6 : Int) (i_9 : Int) (o_22 : List (List Int)) : Option zTr :=
  cond (decide (i_9 ≥ 0)) (jS i_9 o_22.length (qi o_22 i_9 fun e7 => qa (L10054_13 n ((l_0, n_1, most_6, i_9, (e7.length : Int), 0, ()), (o_22, ()), ())) fun o29 => L ((o29.1.1, o29.1.2.1, o29.1.2.2.1, (IntKind.wrap .i64 (o29.1.2.2.2.1 - 1)), ()), (o29.2.1.1, ()), ()))) (some ((l_0, n_1, most_6, ()), (o_22, ()), ()))
def L10054_10 : Nat → uBa × uAl × Unit → Option zTr
  | 0, _ => none
  | n + 1, d => B10054_10 n (L10054_10 n) d.1.1 d.1.2.1 d.1.2.2.1 d.1.2.2.2.1 d.2.1.1
def l10054_10 : qY := ⟨⟨[(0, .v uAo), (1, .v zI), (6, .v zI), (7, .c (.view 22 [])), (9, .v zI)], [(22, true, .list true 26 uBd)], none⟩, [(.exit 2, ⟨[(0, .v uAo), (1, .v zI), (6, .v zI), (7, .c (.view 22 []))], [(22, true, .list true 26 uBd)], none⟩)], L10054_10⟩
def B10054_22 (_n : Nat) (L : uBa × uAl × Unit → Option uBp) (l_0 : List (Int × Int)) (most_6 : Int) (tokens_12 : Int) (t_13 : Int) (o_22 : List (List Int)) : Option uBp :=
  cond (decide (t_13 ≤ most_6)) (jS 0 o_22.length (qi o_22 0 fun e31 => jS t_13 e31.length (qi o_22 0 fun e32 => qi e32 t_13 fun e33 => jS 0 o_22.length (qi o_22 0 fun e34 => jS tokens_12 e34.length (qi o_22 0 fun e35 => qi e35 tokens_12 fun e36 => cond (decide (e33 < e36)) (L ((l_0, most_6, t_13, (IntKind.wrap .i64 (t_13 + 1)), ()), (o_22, ()), ())) (L ((l_0, most_6, tokens_12, (IntKind.wrap .i64 (t_13 + 1)), ()), (o_22, ()), ()))))))) (some ((l_0, tokens_12, ()), (o_22, ()), ()))
def L10054_22 : Nat → uBa × uAl × Unit → Option uBp
  | 0, _ => none
  | n + 1, d => B10054_22 n (L10054_22 n) d.1.1 d.1.2.1 d.1.2.2.1 d.1.2.2.2.1 d.2.1.1
def l10054_22 : qY := ⟨⟨[(0, .v uAo), (6, .v zI), (7, .c (.view 22 [])), (12, .v zI), (13, .v zI)], [(22, true, .list true 26 uBd)], none⟩, [(.exit 6, ⟨[(0, .v uAo), (7, .c (.view 22 [])), (12, .v zI)], [(22, true, .list true 26 uBd)], none⟩)], L10054_22⟩
def B10054_34 (_n : Nat) (L : uBu × uBs × Unit → Option uAu) (price_5 : Int) (tokens_12 : Int) (i_14 : Int) (left_16 : Int) (t_150 : List (Int × Int)) (t_151 : Int) (t_152 : Int) (o_15 : Int × Int) (o_22 : List (List Int)) (o_4000149 : List Int) : Option uAu :=
  cond (decide (tokens_12 ≥ o_15.1)) (jS i_14 o_22.length (qi o_22 i_14 fun e45 => jS (IntKind.wrap .i64 (tokens_12 - o_15.1)) e45.length (qi o_22 i_14 fun e46 => qi e46 (IntKind.wrap .i64 (tokens_12 - o_15.1)) fun e47 => cond (decide (e47 < 1152921504606846976)) (jS i_14 o_22.length (qi o_22 i_14 fun e48 => jS (IntKind.wrap .i64 (tokens_12 - o_15.1)) e48.length (qi o_22 i_14 fun e49 => qi e49 (IntKind.wrap .i64 (tokens_12 - o_15.1)) fun e50 => cond ((IntKind.wrap .i64 (e50 + o_15.2)) == left_16) (jS i_14 o_4000149.length (qi o_4000149 i_14 fun e51 => jS i_14 o_4000149.length (qi o_4000149 i_14 fun _ => jS i_14 o_22.length (qi o_22 i_14 fun e53 => jS (IntKind.wrap .i64 (tokens_12 - o_15.1)) e53.length (qi o_22 i_14 fun e54 => qi e54 (IntKind.wrap .i64 (tokens_12 - o_15.1)) fun e55 => L ((price_5, (IntKind.wrap .i64 (tokens_12 - o_15.1)), i_14, e55, t_150, t_151, t_152, ()), (o_15, o_22, (o_4000149.set i_14.toNat (IntKind.wrap .i64 (e51 + 1))), ()), ())))))) (some ((price_5, tokens_12, t_150, t_151, t_152, ()), (o_22, o_4000149, ()), ()))))) (some ((price_5, tokens_12, t_150, t_151, t_152, ()), (o_22, o_4000149, ()), ()))))) (some ((price_5, tokens_12, t_150, t_151, t_152, ()), (o_22, o_4000149, ()), ()))
def L10054_34 : Nat → uBu × uBs × Unit → Option uAu
  | 0, _ => none
  | n + 1, d => B10054_34 n (L10054_34 n) d.1.1 d.1.2.1 d.1.2.2.1 d.1.2.2.2.1 d.1.2.2.2.2.1 d.1.2.2.2.2.2.1 d.1.2.2.2.2.2.2.1 d.2.1.1 d.2.1.2.1 d.2.1.2.2.1
def l10054_34 : qY := ⟨⟨[(4, .c (.view 4000149 [])), (5, .v zI), (7, .c (.view 22 [])), (12, .v zI), (14, .v zI), (15, .c (.ptr 15 [])), (16, .v zI), (150, .v uAo), (151, .v zI), (152, .v zI)], [(15, false, .str zTi), (22, true, .list true 26 uBd), (4000149, true, .list true 3 zI)], none⟩, [(.exit 10, ⟨[(4, .c (.view 4000149 [])), (5, .v zI), (7, .c (.view 22 [])), (12, .v zI), (150, .v uAo), (151, .v zI), (152, .v zI)], [(22, true, .list true 26 uBd), (4000149, true, .list true 3 zI)], none⟩)], L10054_34⟩
def B10054_31 (n : Nat) (L : uBx × uBy × Unit → Option uBi) (price_5 : Int) (tokens_12 : Int) (t_150 : List (Int × Int)) (t_151 : Int) (t_152 : Int) (o_22 : List (List Int)) (o_4000149 : List Int) : Option uBi :=
  cond (decide (t_152 < t_151)) (qi t_150 t_152 fun e41 => jS t_152 o_22.length (qi o_22 t_152 fun e42 => jS tokens_12 e42.length (qi o_22 t_152 fun e43 => qi e43 tokens_12 fun e44 => qa (L10054_34 n ((price_5, tokens_12, t_152, e44, t_150, t_151, t_152, ()), (e41, o_22, o_4000149, ()), ())) fun o56 => L ((o56.1.1, o56.1.2.1, o56.1.2.2.1, o56.1.2.2.2.1, (IntKind.wrap .i64 (o56.1.2.2.2.2.1 + 1)), ()), (o56.2.1.1, o56.2.1.2.1, ()), ())))) (some ((price_5, ()), (o_4000149, ()), ()))
def L10054_31 : Nat → uBx × uBy × Unit → Option uBi
  | 0, _ => none
  | n + 1, d => B10054_31 n (L10054_31 n) d.1.1 d.1.2.1 d.1.2.2.1 d.1.2.2.2.1 d.1.2.2.2.2.1 d.2.1.1 d.2.1.2.1
def l10054_31 : qY := ⟨⟨[(4, .c (.view 4000149 [])), (5, .v zI), (7, .c (.view 22 [])), (12, .v zI), (150, .v uAo), (151, .v zI), (152, .v zI)], [(22, true, .list true 26 uBd), (4000149, true, .list true 3 zI)], none⟩, [(.exit 8, ⟨[(4, .c (.view 4000149 [])), (5, .v zI)], [(4000149, true, .list true 3 zI)], none⟩)], L10054_31⟩
def F10054 (n : Nat) (l_0 : uAk) (n_1 : Int) : Option uBf :=
  leK 0 (IntKind.wrap .i64 ((l_0.length : Int) + 1)) (leK (IntKind.wrap .i64 ((l_0.length : Int) + 1)) (IntKind.wrap .i64 ((l_0.length : Int) + 1)) (jE (IntKind.wrap .i64 ((l_0.length : Int) + 1)) (qa (L10054_4 n ((l_0, n_1, (IntKind.wrap .i64 (n_1 + 1000)), ((List.replicate (IntKind.wrap .i64 ((l_0.length : Int) + 1)).toNat ([] : List Int)).length : Int), 0, ()), ((List.replicate (IntKind.wrap .i64 ((l_0.length : Int) + 1)).toNat ([] : List Int)), ()), ())) fun o3 => jS (o3.1.1.length : Int) o3.2.1.1.length (qi o3.2.1.1 (o3.1.1.length : Int) fun e4 => jS 0 e4.length (qi o3.2.1.1 (o3.1.1.length : Int) fun e5 => qi e5 0 fun _ => qa (L10054_10 n ((o3.1.1, o3.1.2.1, o3.1.2.2.1, (IntKind.wrap .i64 ((o3.1.1.length : Int) - 1)), ()), ((o3.2.1.1.set (o3.1.1.length : Int).toNat (e5.set (0 : Int).toNat 0)), ()), ())) fun o30 => qa (L10054_22 n ((o30.1.1, o30.1.2.2.1, o30.1.2.1, o30.1.2.1, ()), (o30.2.1.1, ()), ())) fun o37 => jS 0 o37.2.1.1.length (qi o37.2.1.1 0 fun e38 => jS o37.1.2.1 e38.length (qi o37.2.1.1 0 fun e39 => qi e39 o37.1.2.1 fun e40 => cond (e40 == 1152921504606846976) (some ((([] : List Int), 0, ()), ())) (leK 0 (o37.1.1.length : Int) (leK (o37.1.1.length : Int) (o37.1.1.length : Int) (jE (o37.1.1.length : Int) (qa (L10054_31 n ((e40, o37.1.2.1, o37.1.1, (o37.1.1.length : Int), 0, ()), (o37.2.1.1, (List.replicate (o37.1.1.length : Int).toNat (0 : Int)), ()), ())) fun _ => none)))))))))))
def g10054 (d : uAk × Int × Unit) : Option uBf := F10054 qc d.1 d.2.1
def p10054 : qE := ⟨[.v uAo, .v zI], [.sure false 3 zI, .v zI], g10054⟩
def c10054 : qS := ⟨218, tyT, [(22, .list true 26 uBd), (4, .bool)], [(72, p72)], [(4, l10054_4), (13, l10054_13), (10, l10054_10), (22, l10054_22), (34, l10054_34), (31, l10054_31)], [], [1000149], [], [], [], [], [], [], [], none⟩
theorem F10054_eq (n : Nat) (d) : qy c10054 n Tryz.f54 (body Tryz.f54) p10054.ps p10054.rs d = F10054 n d.1 d.2.1 := by kernel_rfl
theorem L10054_4_eq (n : Nat) (d) : (l10054_4).g (n + 1) d = run c10054 n (jW 0 (qe (body Tryz.f54))) ((l10054_4).ins.fill d) (qN (l10054_4) n) := by kernel_rfl
theorem L10054_10_eq (n : Nat) (d) : (l10054_10).g (n + 1) d = run c10054 n (jW 1 (qe (body Tryz.f54))) ((l10054_10).ins.fill d) (qN (l10054_10) n) := by kernel_rfl
theorem L10054_13_eq (n : Nat) (d) : (l10054_13).g (n + 1) d = run c10054 n (jW 2 (qe (body Tryz.f54))) ((l10054_13).ins.fill d) (qN (l10054_13) n) := by kernel_rfl
theorem L10054_22_eq (n : Nat) (d) : (l10054_22).g (n + 1) d = run c10054 n (jW 3 (qe (body Tryz.f54))) ((l10054_22).ins.fill d) (qN (l10054_22) n) := by kernel_rfl
theorem L10054_31_eq (n : Nat) (d) : (l10054_31).g (n + 1) d = run c10054 n (jW 4 (qe (body Tryz.f54))) ((l10054_31).ins.fill d) (qN (l10054_31) n) := by kernel_rfl
theorem L10054_34_eq (n : Nat) (d) : (l10054_34).g (n + 1) d = run c10054 n (jW 5 (qe (body Tryz.f54))) ((l10054_34).ins.fill d) (qN (l10054_34) n) := by kernel_rfl
theorem ls10054 : qe (body Tryz.f54) = [jW 0 (qe (body Tryz.f54)), jW 1 (qe (body Tryz.f54)), jW 2 (qe (body Tryz.f54)), jW 3 (qe (body Tryz.f54)), jW 4 (qe (body Tryz.f54)), jW 5 (qe (body Tryz.f54))] := by kernel_rfl
theorem h10054 : qw Tryz.prog 54 p10054 := hQ (cfg := c10054) (qp qq (qd h72 qh) rfl (by kernel_rfl)) Tryz.func54 (by kernel_rfl) (by rw [ls10054]; simp only [List.forall_mem_cons]; exact ⟨qC (key := 4) (li := l10054_4) (by kernel_rfl) rfl (fun _ => rfl) (L10054_4_eq), qC (key := 10) (li := l10054_10) (by kernel_rfl) rfl (fun _ => rfl) (L10054_10_eq), qC (key := 13) (li := l10054_13) (by kernel_rfl) rfl (fun _ => rfl) (L10054_13_eq), qC (key := 22) (li := l10054_22) (by kernel_rfl) rfl (fun _ => rfl) (L10054_22_eq), qC (key := 31) (li := l10054_31) (by kernel_rfl) rfl (fun _ => rfl) (L10054_31_eq), qC (key := 34) (li := l10054_34) (by kernel_rfl) rfl (fun _ => rfl) (L10054_34_eq), fun _ h => by cases h⟩) (by kernel_rfl) (F10054_eq qc)
def F29 (_n : Nat) (f_0 : uAz) (n_1 : Int) : Option (uBv × (Unit)) :=
  altK (g10054 (f_0.2.2.2.2.1, n_1, ())) (fun _ => some ((([] : List Int), 0, 3, ()), ())) (qa (g54 (f_0.2.2.2.2.1, n_1, ())) fun y2 => some ((y2.1.1, y2.1.2.1, 0, ()), ()))
def g29 (d : uAz × Int × Unit) : Option (uBv × (Unit)) := F29 qc d.1 d.2.1
def p29 : qE := ⟨[.v (.str uAv), .v zI], [.own 3 zI, .v zI, .v zI], g29⟩
def c29 : qS := ⟨20, tyT, [], [(54, p54)], [], [], [], [], [], [], [(54, p10054)], [], [], [], none⟩
theorem F29_eq (n : Nat) (d) : qy c29 n Tryz.f29 (body Tryz.f29) p29.ps p29.rs d = F29 n d.1 d.2.1 := by kernel_rfl
theorem h29 : qw Tryz.prog 29 p29 := hQ (cfg := c29) (qp qq (qd h54 qh) rfl (by kernel_rfl) (hal := qd h10054 qh)) Tryz.func29 (by kernel_rfl) (qr (by kernel_rfl)) (by kernel_rfl) (F29_eq qc)
def F12 (_n : Nat) (f_0 : uAz) (n_1 : Int) : Option (uBv × (Unit)) :=
  qa (g27 (f_0, ())) fun y1 => cond (y1.1.1 != 0) (some ((([] : List Int), 0, y1.1.1, ()), ())) (qa (g28 (n_1, 0, 1000, ())) fun y2 => cond (!y2.1.1) (some ((([] : List Int), 0, 1, ()), ())) (qa (g29 (f_0, n_1, ())) fun y3 => some ((y3.1.1, y3.1.2.1, y3.1.2.2.1, ()), ())))
def g12 (d : uAz × Int × Unit) : Option (uBv × (Unit)) := F12 qc d.1 d.2.1
def p12 : qE := ⟨[.v (.str uAv), .v zI], [.own 3 zI, .v zI, .v zI], g12⟩
def c12 : qS := ⟨22, tyT, [], [(27, p27), (28, p28), (29, p29)], [], [], [], [], [], [], [], [], [], [], none⟩
theorem F12_eq (n : Nat) (d) : qy c12 n Tryz.f12 (body Tryz.f12) p12.ps p12.rs d = F12 n d.1 d.2.1 := by kernel_rfl
theorem h12 : qw Tryz.prog 12 p12 := hQ (cfg := c12) (qp qq (qd h27 (qd h28 (qd h29 qh))) rfl (by kernel_rfl)) Tryz.func12 (by kernel_rfl) (qr (by kernel_rfl)) (by kernel_rfl) (F12_eq qc)
def B13_4 (_n : Nat) (L : ((List Int) × (List Int) × Int × Unit) × (Unit) × Unit → Option (uAs ⊕ uAg)) (a_0 : List Int) (b_1 : List Int) (i_5 : Int) : Option (uAs ⊕ uAg) :=
  cond (decide (i_5 < (a_0.length : Int))) (qi a_0 i_5 fun e1 => qi b_1 i_5 fun e2 => cond (e1 != e2) (some (.inl ((false, ()), (), ()))) (L ((a_0, b_1, (IntKind.wrap .i64 (i_5 + 1)), ()), (), ()))) (some (.inr ((), (), ())))
def L13_4 : Nat → ((List Int) × (List Int) × Int × Unit) × (Unit) × Unit → Option (uAs ⊕ uAg)
  | 0, _ => none
  | n + 1, d => B13_4 n (L13_4 n) d.1.1 d.1.2.1 d.1.2.2.1
def l13_4 : qY := ⟨⟨[(0, .v uBg), (1, .v uBg), (5, .v zI)], [], none⟩, [(.ret, ⟨[(4, .v .bool)], [], none⟩), (.exit 0, ⟨[], [], none⟩)], L13_4⟩
def F13 (n : Nat) (a_0 : (List Int)) (b_1 : (List Int)) : Option uAc :=
  cond ((a_0.length : Int) != (b_1.length : Int)) (some ((false, ()), ())) (qa (L13_4 n ((a_0, b_1, 0, ()), (), ())) fun o3 => qbd o3 (fun d4 => some ((d4.1.1, ()), ())) (fun _ => some ((true, ()), ())))
def g13 (d : (List Int) × (List Int) × Unit) : Option uAc := F13 qc d.1 d.2.1
def p13 : qE := ⟨[.v uBg, .v uBg], [.v .bool], g13⟩
def c13 : qS := ⟨26, tyT, [], [], [(4, l13_4)], [], [], [], [], [], [], [], [], [], none⟩
theorem F13_eq (n : Nat) (d) : qy c13 n Tryz.f13 (body Tryz.f13) p13.ps p13.rs d = F13 n d.1 d.2.1 := by kernel_rfl
theorem L13_4_eq (n : Nat) (d) : (l13_4).g (n + 1) d = run c13 n (jW 0 (qe (body Tryz.f13))) ((l13_4).ins.fill d) (qN (l13_4) n) := by kernel_rfl
theorem ls13 : qe (body Tryz.f13) = [jW 0 (qe (body Tryz.f13))] := by kernel_rfl
theorem h13 : qw Tryz.prog 13 p13 := hQ (cfg := c13) (qp qq (qh) rfl (by kernel_rfl)) Tryz.func13 (by kernel_rfl) (by rw [ls13]; simp only [List.forall_mem_cons]; exact ⟨qC (key := 4) (li := l13_4) (by kernel_rfl) rfl (fun _ => rfl) (L13_4_eq), fun _ h => by cases h⟩) (by kernel_rfl) (F13_eq qc)
def F6 (_n : Nat)  : Option uAc :=
  qaF ((0 : Int), (0 : Int), [5], [0], [(1, 200), (6, 1000)], (0 : Int), (0 : Int), 1) fun z1 => qa (g12 (z1, 7, ())) fun y2 => cond (y2.1.2.2.1 == 0) (cond (y2.1.2.1 == 1200) (qa (g13 (y2.1.1, [1, 1], ())) fun y3 => some ((y3.1.1, ()), ())) (some ((false, ()), ()))) (some ((false, ()), ()))
def g6 (_d : Unit) : Option uAc := F6 qc 
def p6 : qE := ⟨[], [.v .bool], g6⟩
def c6 : qS := ⟨28, tyT, [], [(12, p12), (13, p13)], [], [], [], [], [], [], [], [], [], [], none⟩
theorem F6_eq (n : Nat) (d) : qy c6 n Tryz.f6 (body Tryz.f6) p6.ps p6.rs d = F6 n  := by kernel_rfl
theorem d6 : ql c6 (body Tryz.f6) = true := by kernel_rfl
theorem h6 : qw Tryz.prog 6 p6 := hQ (cfg := c6) (qp qq (qd h12 (qd h13 qh)) rfl (by kernel_rfl)) Tryz.func6 (by kernel_rfl) (qr (by kernel_rfl)) d6 (F6_eq qc)
def F30 (_n : Nat) (n_0 : Int) (low_1 : Int) (high_2 : Int) : Option uAc :=
  cond (decide (n_0 ≥ low_1)) (some (((decide (n_0 ≤ high_2)), ()), ())) (some ((false, ()), ()))
def g30 (d : Int × Int × Int × Unit) : Option uAc := F30 qc d.1 d.2.1 d.2.2.1
def p30 : qE := ⟨[.v zI, .v zI, .v zI], [.v .bool], g30⟩
def c30 : qS := ⟨15, tyT, [], [], [], [], [], [], [], [], [], [], [], [], none⟩
theorem F30_eq (n : Nat) (d) : qy c30 n Tryz.f30 (body Tryz.f30) p30.ps p30.rs d = F30 n d.1 d.2.1 d.2.2.1 := by kernel_rfl
theorem h30 : qw Tryz.prog 30 p30 := hQ (cfg := c30) (qp qq (qh) rfl (by kernel_rfl)) Tryz.func30 (by kernel_rfl) (qr (by kernel_rfl)) (by kernel_rfl) (F30_eq qc)
def B73_2 (_n : Nat) (L : ((List uAe) × (uAe → Option Bool) × Int × Int × Unit) × (Unit) × Unit → Option (zTn ⊕ uAg)) (s_0 : List uAe) (f_1 : uAe → Option Bool) (t_7 : Int) (t_8 : Int) : Option (zTn ⊕ uAg) :=
  cond (decide (t_8 < t_7)) (qi s_0 t_8 fun e1 => qa (f_1 e1) fun y2 => cond y2 (some (.inl ((t_8, ()), (), ()))) (L ((s_0, f_1, t_7, (IntKind.wrap .i64 (t_8 + 1)), ()), (), ()))) (some (.inr ((), (), ())))
def L73_2 : Nat → ((List uAe) × (uAe → Option Bool) × Int × Int × Unit) × (Unit) × Unit → Option (zTn ⊕ uAg)
  | 0, _ => none
  | n + 1, d => B73_2 n (L73_2 n) d.1.1 d.1.2.1 d.1.2.2.1 d.1.2.2.2.1
def l73_2 : qY := ⟨⟨[(0, .v uAx), (1, .v (.fn (.str zTa) .bool)), (7, .v zI), (8, .v zI)], [], none⟩, [(.ret, ⟨[(4, .v zI)], [], none⟩), (.exit 0, ⟨[], [], none⟩)], L73_2⟩
def F73 (n : Nat) (s_0 : (List uAe)) (f_1 : (uAe → Option Bool)) : Option uAh :=
  qa (L73_2 n ((s_0, f_1, (s_0.length : Int), 0, ()), (), ())) fun o3 => qbd o3 (fun d4 => some ((d4.1.1, ()), ())) (fun _ => some (((-1), ()), ()))
def g73 (d : (List uAe) × (uAe → Option Bool) × Unit) : Option uAh := F73 qc d.1 d.2.1
def p73 : qE := ⟨[.v uAx, .v (.fn (.str zTa) .bool)], [.v zI], g73⟩
def c73 : qS := ⟨19, tyT, [], [], [(2, l73_2)], [], [], [], [], [], [], [], [], [], none⟩
theorem F73_eq (n : Nat) (d) : qy c73 n Tryz.f73 (body Tryz.f73) p73.ps p73.rs d = F73 n d.1 d.2.1 := by kernel_rfl
theorem L73_2_eq (n : Nat) (d) : (l73_2).g (n + 1) d = run c73 n (jW 0 (qe (body Tryz.f73))) ((l73_2).ins.fill d) (qN (l73_2) n) := by kernel_rfl
theorem ls73 : qe (body Tryz.f73) = [jW 0 (qe (body Tryz.f73))] := by kernel_rfl
theorem h73 : qw Tryz.prog 73 p73 := hQ (cfg := c73) (qp qq (qh) rfl (by kernel_rfl)) Tryz.func73 (by kernel_rfl) (by rw [ls73]; simp only [List.forall_mem_cons]; exact ⟨qC (key := 2) (li := l73_2) (by kernel_rfl) rfl (fun _ => rfl) (L73_2_eq), fun _ h => by cases h⟩) (by kernel_rfl) (F73_eq qc)
def F55 (_n : Nat) (s_0 : (List uAe)) (f_1 : (uAe → Option Bool)) : Option uAc :=
  qa (g73 (s_0, f_1, ())) fun y1 => some (((decide (y1.1.1 ≥ 0)), ()), ())
def g55 (d : (List uAe) × (uAe → Option Bool) × Unit) : Option uAc := F55 qc d.1 d.2.1
def p55 : qE := ⟨[.v uAx, .v (.fn (.str zTa) .bool)], [.v .bool], g55⟩
def c55 : qS := ⟨9, tyT, [], [(73, p73)], [], [], [], [], [], [], [], [], [], [], none⟩
theorem F55_eq (n : Nat) (d) : qy c55 n Tryz.f55 (body Tryz.f55) p55.ps p55.rs d = F55 n d.1 d.2.1 := by kernel_rfl
theorem h55 : qw Tryz.prog 55 p55 := hQ (cfg := c55) (qp qq (qd h73 qh) rfl (by kernel_rfl)) Tryz.func55 (by kernel_rfl) (qr (by kernel_rfl)) (by kernel_rfl) (F55_eq qc)
def F32 (_n : Nat) (p_0 : uAe) : Option uAc :=
  qa (g30 (p_0.1, (-10000), 10000, ())) fun y1 => cond y1.1.1 (qa (g30 (p_0.2.1, (-10000), 10000, ())) fun y2 => cond y2.1.1 (qa (g30 (p_0.2.2, (-10000), 10000, ())) fun y3 => some ((y3.1.1, ()), ())) (some ((false, ()), ()))) (some ((false, ()), ()))
def g32 (d : uAe × Unit) : Option uAc := F32 qc d.1
def p32 : qE := ⟨[.v (.str zTa)], [.v .bool], g32⟩
def c32 : qS := ⟨16, tyT, [], [(30, p30)], [], [], [], [], [], [], [], [], [], [], none⟩
theorem F32_eq (n : Nat) (d) : qy c32 n Tryz.f32 (body Tryz.f32) p32.ps p32.rs d = F32 n d.1 := by kernel_rfl
theorem h32 : qw Tryz.prog 32 p32 := hQ (cfg := c32) (qp qq (qd h30 qh) rfl (by kernel_rfl)) Tryz.func32 (by kernel_rfl) (qr (by kernel_rfl)) (by kernel_rfl) (F32_eq qc)
def F56 (_n : Nat) (p_0 : uAe) : Option uAc :=
  qa (g32 (p_0, ())) fun y1 => some (((!y1.1.1), ()), ())
def g56 (d : uAe × Unit) : Option uAc := F56 qc d.1
def p56 : qE := ⟨[.v (.str zTa)], [.v .bool], g56⟩
def c56 : qS := ⟨6, tyT, [], [(32, p32)], [], [], [], [], [], [], [], [], [], [], none⟩
theorem F56_eq (n : Nat) (d) : qy c56 n Tryz.f56 (body Tryz.f56) p56.ps p56.rs d = F56 n d.1 := by kernel_rfl
theorem h56 : qw Tryz.prog 56 p56 := hQ (cfg := c56) (qp qq (qd h32 qh) rfl (by kernel_rfl)) Tryz.func56 (by kernel_rfl) (qr (by kernel_rfl)) (by kernel_rfl) (F56_eq qc)
def F31 (_n : Nat) (l_0 : (List uAe)) : Option uAc :=
  qa (g30 ((l_0.length : Int), 3, 60, ())) fun y1 => cond y1.1.1 (qa (g55 (l_0, (fun v2 => qa (g56 (v2, ())) fun y3 => some y3.1.1), ())) fun y4 => some (((!y4.1.1), ()), ())) (some ((false, ()), ()))
def g31 (d : (List uAe) × Unit) : Option uAc := F31 qc d.1
def p31 : qE := ⟨[.v uAx], [.v .bool], g31⟩
def c31 : qS := ⟨11, tyT, [], [(30, p30), (55, p55), (56, p56)], [], [], [], [], [], [], [], [], [], [], none⟩
theorem F31_eq (n : Nat) (d) : qy c31 n Tryz.f31 (body Tryz.f31) p31.ps p31.rs d = F31 n d.1 := by kernel_rfl
theorem h31 : qw Tryz.prog 31 p31 := hQ (cfg := c31) (qp qq (qd h30 (qd h55 (qd h56 qh))) rfl (by kernel_rfl)) Tryz.func31 (by kernel_rfl) (qr (by kernel_rfl)) (by kernel_rfl) (F31_eq qc)
def B57_2 (_n : Nat) (L : ((List uAe) × (uAe → Option Bool) × Int × Int × Unit) × (Unit) × Unit → Option (zTn ⊕ uAg)) (s_0 : List uAe) (f_1 : uAe → Option Bool) (t_7 : Int) (t_8 : Int) : Option (zTn ⊕ uAg) :=
  cond (decide (t_8 < t_7)) (qi s_0 t_8 fun e1 => qa (f_1 e1) fun y2 => cond y2 (some (.inl ((t_8, ()), (), ()))) (L ((s_0, f_1, t_7, (IntKind.wrap .i64 (t_8 + 1)), ()), (), ()))) (some (.inr ((), (), ())))
def L57_2 : Nat → ((List uAe) × (uAe → Option Bool) × Int × Int × Unit) × (Unit) × Unit → Option (zTn ⊕ uAg)
  | 0, _ => none
  | n + 1, d => B57_2 n (L57_2 n) d.1.1 d.1.2.1 d.1.2.2.1 d.1.2.2.2.1
def l57_2 : qY := ⟨⟨[(0, .v uAx), (1, .v (.fn (.str zTa) .bool)), (7, .v zI), (8, .v zI)], [], none⟩, [(.ret, ⟨[(4, .v zI)], [], none⟩), (.exit 0, ⟨[], [], none⟩)], L57_2⟩
def F57 (n : Nat) (s_0 : (List uAe)) (f_1 : (uAe → Option Bool)) : Option uAh :=
  qa (L57_2 n ((s_0, f_1, (s_0.length : Int), 0, ()), (), ())) fun o3 => qbd o3 (fun d4 => some ((d4.1.1, ()), ())) (fun _ => some (((-1), ()), ()))
def g57 (d : (List uAe) × (uAe → Option Bool) × Unit) : Option uAh := F57 qc d.1 d.2.1
def p57 : qE := ⟨[.v uAx, .v (.fn (.str zTa) .bool)], [.v zI], g57⟩
def c57 : qS := ⟨19, tyT, [], [], [(2, l57_2)], [], [], [], [], [], [], [], [], [], none⟩
theorem F57_eq (n : Nat) (d) : qy c57 n Tryz.f57 (body Tryz.f57) p57.ps p57.rs d = F57 n d.1 d.2.1 := by kernel_rfl
theorem L57_2_eq (n : Nat) (d) : (l57_2).g (n + 1) d = run c57 n (jW 0 (qe (body Tryz.f57))) ((l57_2).ins.fill d) (qN (l57_2) n) := by kernel_rfl
theorem ls57 : qe (body Tryz.f57) = [jW 0 (qe (body Tryz.f57))] := by kernel_rfl
theorem h57 : qw Tryz.prog 57 p57 := hQ (cfg := c57) (qp qq (qh) rfl (by kernel_rfl)) Tryz.func57 (by kernel_rfl) (by rw [ls57]; simp only [List.forall_mem_cons]; exact ⟨qC (key := 2) (li := l57_2) (by kernel_rfl) rfl (fun _ => rfl) (L57_2_eq), fun _ h => by cases h⟩) (by kernel_rfl) (F57_eq qc)
def F33 (_n : Nat) (s_0 : (List uAe)) (f_1 : (uAe → Option Bool)) : Option uAc :=
  qa (g57 (s_0, f_1, ())) fun y1 => some (((decide (y1.1.1 ≥ 0)), ()), ())
def g33 (d : (List uAe) × (uAe → Option Bool) × Unit) : Option uAc := F33 qc d.1 d.2.1
def p33 : qE := ⟨[.v uAx, .v (.fn (.str zTa) .bool)], [.v .bool], g33⟩
def c33 : qS := ⟨9, tyT, [], [(57, p57)], [], [], [], [], [], [], [], [], [], [], none⟩
theorem F33_eq (n : Nat) (d) : qy c33 n Tryz.f33 (body Tryz.f33) p33.ps p33.rs d = F33 n d.1 d.2.1 := by kernel_rfl
theorem h33 : qw Tryz.prog 33 p33 := hQ (cfg := c33) (qp qq (qd h57 qh) rfl (by kernel_rfl)) Tryz.func33 (by kernel_rfl) (qr (by kernel_rfl)) (by kernel_rfl) (F33_eq qc)
def F34 (_n : Nat) (p_0 : uAe) : Option uAc :=
  qa (g32 (p_0, ())) fun y1 => cond (!y1.1.1) (some ((true, ()), ())) (some (((p_0.2.2 != 0), ()), ()))
def g34 (d : uAe × Unit) : Option uAc := F34 qc d.1
def p34 : qE := ⟨[.v (.str zTa)], [.v .bool], g34⟩
def c34 : qS := ⟨11, tyT, [], [(32, p32)], [], [], [], [], [], [], [], [], [], [], none⟩
theorem F34_eq (n : Nat) (d) : qy c34 n Tryz.f34 (body Tryz.f34) p34.ps p34.rs d = F34 n d.1 := by kernel_rfl
theorem h34 : qw Tryz.prog 34 p34 := hQ (cfg := c34) (qp qq (qd h32 qh) rfl (by kernel_rfl)) Tryz.func34 (by kernel_rfl) (qr (by kernel_rfl)) (by kernel_rfl) (F34_eq qc)
def F24 (_n : Nat) (l_0 : zTp) (p_1 : uAe) : Option uAh :=
  qaF (IntKind.wrap .i64 ((IntKind.wrap .i64 ((IntKind.wrap .i64 (l_0.2.1 - l_0.1.1)) * (IntKind.wrap .i64 (p_1.2.1 - l_0.1.2.1)))) - (IntKind.wrap .i64 ((IntKind.wrap .i64 (l_0.2.2.1 - l_0.1.2.1)) * (IntKind.wrap .i64 (p_1.1 - l_0.1.1)))))) fun z1 => some ((z1, ()), ())
def g24 (d : zTp × uAe × Unit) : Option uAh := F24 qc d.1 d.2.1
def p24 : qE := ⟨[.v (.str uAq), .v (.str zTa)], [.v zI], g24⟩
def c24 : qS := ⟨34, tyT, [], [], [], [], [], [], [], [], [], [], [], [], none⟩
theorem F24_eq (n : Nat) (d) : qy c24 n Tryz.f24 (body Tryz.f24) p24.ps p24.rs d = F24 n d.1 d.2.1 := by kernel_rfl
theorem h24 : qw Tryz.prog 24 p24 := hQ (cfg := c24) (qp qq (qh) rfl (by kernel_rfl)) Tryz.func24 (by kernel_rfl) (qr (by kernel_rfl)) (by kernel_rfl) (F24_eq qc)
def B35_6 (_n : Nat) (L : (zTh × Int × Int × (List zTp) × Int × Int × (List uAe) × Int × Int × Unit) × (zTp × Unit) × Unit → Option (uAs ⊕ (uBq × (Unit) × Unit))) (r_0 : zTc × uCj) (n_3 : Int) (i_4 : Int) (t_17 : List zTp) (t_18 : Int) (t_19 : Int) (t_28 : List uAe) (t_29 : Int) (t_30 : Int) (o_5 : uAe × uAe) : Option (uAs ⊕ (uBq × (Unit) × Unit)) :=
  cond (decide (t_30 < t_29)) (qi t_28 t_30 fun e2 => cond (t_30 != i_4) (nzK n_3 (cond (t_30 != (Int.tmod (IntKind.wrap .i64 (i_4 + 1)) n_3)) (qa (g24 (o_5, e2, ())) fun y3 => cond (decide (y3.1.1 ≤ 0)) (some (.inl ((false, ()), (), ()))) (L ((r_0, n_3, i_4, t_17, t_18, t_19, t_28, t_29, (IntKind.wrap .i64 (t_30 + 1)), ()), (o_5, ()), ()))) (L ((r_0, n_3, i_4, t_17, t_18, t_19, t_28, t_29, (IntKind.wrap .i64 (t_30 + 1)), ()), (o_5, ()), ())))) (L ((r_0, n_3, i_4, t_17, t_18, t_19, t_28, t_29, (IntKind.wrap .i64 (t_30 + 1)), ()), (o_5, ()), ()))) (some (.inr ((r_0, n_3, t_17, t_18, t_19, ()), (), ())))
def L35_6 : Nat → (zTh × Int × Int × (List zTp) × Int × Int × (List uAe) × Int × Int × Unit) × (zTp × Unit) × Unit → Option (uAs ⊕ (uBq × (Unit) × Unit))
  | 0, _ => none
  | n + 1, d => B35_6 n (L35_6 n) d.1.1 d.1.2.1 d.1.2.2.1 d.1.2.2.2.1 d.1.2.2.2.2.1 d.1.2.2.2.2.2.1 d.1.2.2.2.2.2.2.1 d.1.2.2.2.2.2.2.2.1 d.1.2.2.2.2.2.2.2.2.1 d.2.1.1
def l35_6 : qY := ⟨⟨[(0, .r uAf), (3, .v zI), (4, .v zI), (5, .c (.ptr 5 [])), (17, .v uBm), (18, .v zI), (19, .v zI), (28, .v uAx), (29, .v zI), (30, .v zI)], [(5, false, .str uAq)], none⟩, [(.ret, ⟨[(2, .v .bool)], [], none⟩), (.exit 2, ⟨[(0, .r uAf), (3, .v zI), (17, .v uBm), (18, .v zI), (19, .v zI)], [], none⟩)], L35_6⟩
def B35_3 (n : Nat) (L : uBq × (Unit) × Unit → Option (uAs ⊕ uAg)) (r_0 : zTc × uCj) (n_3 : Int) (t_17 : List zTp) (t_18 : Int) (t_19 : Int) : Option (uAs ⊕ uAg) :=
  cond (decide (t_19 < t_18)) (qi t_17 t_19 fun e1 => qa (L35_6 n ((r_0, n_3, t_19, t_17, t_18, t_19, r_0.1.2.1, (r_0.1.2.1.length : Int), 0, ()), (e1, ()), ())) fun o4 => qbd o4 (fun d5 => some (.inl ((d5.1.1, ()), (), ()))) (fun d6 => L ((d6.1.1, d6.1.2.1, d6.1.2.2.1, d6.1.2.2.2.1, (IntKind.wrap .i64 (d6.1.2.2.2.2.1 + 1)), ()), (), ()))) (some (.inr ((), (), ())))
def L35_3 : Nat → uBq × (Unit) × Unit → Option (uAs ⊕ uAg)
  | 0, _ => none
  | n + 1, d => B35_3 n (L35_3 n) d.1.1 d.1.2.1 d.1.2.2.1 d.1.2.2.2.1 d.1.2.2.2.2.1
def l35_3 : qY := ⟨⟨[(0, .r uAf), (3, .v zI), (17, .v uBm), (18, .v zI), (19, .v zI)], [], none⟩, [(.ret, ⟨[(2, .v .bool)], [], none⟩), (.exit 0, ⟨[], [], none⟩)], L35_3⟩
def F35 (n : Nat) (r_0 : zTh) : Option uAc :=
  qa (L35_3 n ((r_0, (r_0.1.2.1.length : Int), r_0.2.1, (r_0.2.1.length : Int), 0, ()), (), ())) fun o7 => qbd o7 (fun d8 => some ((d8.1.1, ()), ())) (fun _ => some ((true, ()), ()))
def g35 (d : zTh × Unit) : Option uAc := F35 qc d.1
def p35 : qE := ⟨[.r uAf], [.v .bool], g35⟩
def c35 : qS := ⟨54, tyT, [], [(24, p24)], [(6, l35_6), (3, l35_3)], [], [], [], [], [], [], [], [], [], none⟩
theorem F35_eq (n : Nat) (d) : qy c35 n Tryz.f35 (body Tryz.f35) p35.ps p35.rs d = F35 n d.1 := by kernel_rfl
theorem L35_3_eq (n : Nat) (d) : (l35_3).g (n + 1) d = run c35 n (jW 0 (qe (body Tryz.f35))) ((l35_3).ins.fill d) (qN (l35_3) n) := by kernel_rfl
theorem L35_6_eq (n : Nat) (d) : (l35_6).g (n + 1) d = run c35 n (jW 1 (qe (body Tryz.f35))) ((l35_6).ins.fill d) (qN (l35_6) n) := by kernel_rfl
theorem ls35 : qe (body Tryz.f35) = [jW 0 (qe (body Tryz.f35)), jW 1 (qe (body Tryz.f35))] := by kernel_rfl
theorem h35 : qw Tryz.prog 35 p35 := hQ (cfg := c35) (qp qq (qd h24 qh) rfl (by kernel_rfl)) Tryz.func35 (by kernel_rfl) (by rw [ls35]; simp only [List.forall_mem_cons]; exact ⟨qC (key := 3) (li := l35_3) (by kernel_rfl) rfl (fun _ => rfl) (L35_3_eq), qC (key := 6) (li := l35_6) (by kernel_rfl) rfl (fun _ => rfl) (L35_6_eq), fun _ h => by cases h⟩) (by kernel_rfl) (F35_eq qc)
def B14_5 (_n : Nat) (L : (zTc × (List (List uAe)) × Int × Int × Unit) × (zTh × Unit) × Unit → Option ((uCf × (Unit) × Unit) ⊕ uCs)) (r_1 : (List (List uAe)) × uBe) (t_24 : List (List uAe)) (t_25 : Int) (t_26 : Int) (o_11 : zTc × uCj) : Option ((uCf × (Unit) × Unit) ⊕ uCs) :=
  cond (decide (t_26 < t_25)) (qi t_24 t_26 fun e2 => qa (g31 (e2, ())) fun y3 => cond (!y3.1.1) (some (.inl ((none, false, ()), (), ()))) (qi r_1.1 0 fun e4 => cond ((e2.length : Int) != (e4.length : Int)) (some (.inl ((none, false, ()), (), ()))) (L ((r_1, t_24, t_25, (IntKind.wrap .i64 (t_26 + 1)), ()), ((o_11.1, (o_11.2.1, (e2.length : Int))), ()), ())))) (some (.inr ((r_1, ()), (o_11, ()), ())))
def L14_5 : Nat → (zTc × (List (List uAe)) × Int × Int × Unit) × (zTh × Unit) × Unit → Option ((uCf × (Unit) × Unit) ⊕ uCs)
  | 0, _ => none
  | n + 1, d => B14_5 n (L14_5 n) d.1.1 d.1.2.1 d.1.2.2.1 d.1.2.2.2.1 d.2.1.1
def l14_5 : qY := ⟨⟨[(1, .r (.str uAa)), (4, .c (.ptr 11 [])), (24, .v (.list false 37 uAx)), (25, .v zI), (26, .v zI)], [(11, false, .str uBk)], none⟩, [(.ret, ⟨[(2, .v (.ptr uAf)), (3, .v .bool)], [], none⟩), (.exit 0, ⟨[(1, .r (.str uAa)), (4, .c (.ptr 11 []))], [(11, false, .str uBk)], none⟩)], L14_5⟩
def B14_16 (_n : Nat) (L : (zTc × (List uAe) × Int × Int × Unit) × (zTh × Unit) × Unit → Option uCu) (r_1 : (List (List uAe)) × uBe) (t_77 : List uAe) (t_78 : Int) (t_79 : Int) (o_11 : zTc × uCj) : Option uCu :=
  cond (decide (t_79 < t_78)) (qi t_77 t_79 fun e15 => qhl (fun (e16 : Int × (Int × Int)) => L ((r_1, t_77, t_78, (IntKind.wrap .i64 (t_79 + 1)), ()), ((o_11.1, ((o_11.2.1 ++ [(e15, e16)]), o_11.2.2)), ()), ())) fun E => jC [nzK (r_1.2.1.length : Int) (qi r_1.2.1 (Int.tmod (IntKind.wrap .i64 (t_79 + 1)) (r_1.2.1.length : Int)) fun e16 => jE ((o_11.2.1.length : Int) + [(e15, e16)].length) (E e16)), nzK (r_1.2.1.length : Int) (qi r_1.2.1 (Int.tmod (IntKind.wrap .i64 (t_79 + 1)) (r_1.2.1.length : Int)) fun e17 => jC [jE ((o_11.2.1.length : Int) + [(e15, e17)].length) (E e17), jC [jE ((o_11.2.1.length : Int) + [(e15, e17)].length) (E e17), jE ((o_11.2.1.length : Int) + [(e15, e17)].length) (E e17)]])]) (some ((), (o_11, ()), ()))
def L14_16 : Nat → (zTc × (List uAe) × Int × Int × Unit) × (zTh × Unit) × Unit → Option uCu
  | 0, _ => none
  | n + 1, d => B14_16 n (L14_16 n) d.1.1 d.1.2.1 d.1.2.2.1 d.1.2.2.2.1 d.2.1.1
def l14_16 : qY := ⟨⟨[(1, .r (.str uAa)), (4, .c (.ptr 11 [])), (77, .v uAx), (78, .v zI), (79, .v zI)], [(11, false, .str uBk)], none⟩, [(.exit 2, ⟨[(4, .c (.ptr 11 []))], [(11, false, .str uBk)], none⟩)], L14_16⟩
def F14 (n : Nat) (r_0 : zTc) : Option (uCf × (Unit)) :=
  cond (decide ((r_0.1.length : Int) > 20)) (some ((none, false, ()), ())) (qa (g30 ((r_0.2.1.length : Int), 3, 8, ())) fun y1 => cond (!y1.1.1) (some ((none, false, ()), ())) (qa (L14_5 n ((r_0, r_0.1, (r_0.1.length : Int), 0, ()), ((r_0, ([] : List zTp), 1), ()), ())) fun o5 => qbd o5 (fun d6 => some ((d6.1.1, d6.1.2.1, ()), ())) (fun d7 => qa (g30 (d7.1.1.2.2.1, 0, 1000000, ())) fun y8 => cond (!y8.1.1) (some ((none, false, ()), ())) (qa (g30 (d7.1.1.2.2.2.2.2, 0, 1000000, ())) fun y9 => cond (!y9.1.1) (some ((none, false, ()), ())) (qa (g30 (d7.1.1.2.2.2.2.1, 0, d7.1.1.2.2.2.2.2, ())) fun y10 => cond (!y10.1.1) (some ((none, false, ()), ())) (qa (g32 (d7.1.1.2.2.2.1, ())) fun y11 => cond (!y11.1.1) (some ((none, false, ()), ())) (qa (g33 (d7.1.1.2.1, (fun v12 => qa (g34 (v12, ())) fun y13 => some y13.1.1), ())) fun y14 => cond y14.1.1 (some ((none, false, ()), ())) (qa (L14_16 n ((d7.1.1, d7.1.1.2.1, (d7.1.1.2.1.length : Int), 0, ()), (d7.2.1.1, ()), ())) fun o18 => qa (g35 (o18.2.1.1, ())) fun y19 => some (((some o18.2.1.1), y19.1.1, ()), ())))))))))
def g14 (d : zTc × Unit) : Option (uCf × (Unit)) := F14 qc d.1
def p14 : qE := ⟨[.v (.str uAa)], [.v (.ptr uAf), .v .bool], g14⟩
def c14 : qS := ⟨109, tyT, [(1, .str uAa), (10, .str uBk), (8, .str zTa)], [(30, p30), (31, p31), (32, p32), (33, p33), (34, p34), (35, p35)], [(5, l14_5), (16, l14_16)], [], [18], [], [], [], [], [], [], [], none⟩
theorem F14_eq (n : Nat) (d) : qy c14 n Tryz.f14 (body Tryz.f14) p14.ps p14.rs d = F14 n d.1 := by kernel_rfl
theorem L14_5_eq (n : Nat) (d) : (l14_5).g (n + 1) d = run c14 n (jW 0 (qe (body Tryz.f14))) ((l14_5).ins.fill d) (qN (l14_5) n) := by kernel_rfl
theorem L14_16_eq (n : Nat) (d) : (l14_16).g (n + 1) d = run c14 n (jW 1 (qe (body Tryz.f14))) ((l14_16).ins.fill d) (qN (l14_16) n) := by kernel_rfl
theorem ls14 : qe (body Tryz.f14) = [jW 0 (qe (body Tryz.f14)), jW 1 (qe (body Tryz.f14))] := by kernel_rfl
theorem h14 : qw Tryz.prog 14 p14 := hQ (cfg := c14) (qp qq (qd h30 (qd h31 (qd h32 (qd h33 (qd h34 (qd h35 qh)))))) rfl (by kernel_rfl)) Tryz.func14 (by kernel_rfl) (by rw [ls14]; simp only [List.forall_mem_cons]; exact ⟨qC (key := 5) (li := l14_5) (by kernel_rfl) rfl (fun _ => rfl) (L14_5_eq), qC (key := 16) (li := l14_16) (by kernel_rfl) rfl (fun _ => rfl) (L14_16_eq), fun _ h => by cases h⟩) (by kernel_rfl) (F14_eq qc)
def F37 (_n : Nat) (seat_0 : Int) (t_1 : (Option zTh)) (t_2 : Int) (t_3 : Int) : Option uAh :=
  qa t_1 fun q1 => qa t_1 fun q2 => qa t_1 fun q3 => qi q3.2.1 t_2 fun e4 => qa t_1 fun q5 => qi q5.1.1 seat_0 fun e6 => qi e6 t_3 fun e7 => qa (g24 (e4, e7, ())) fun y8 => qaF (IntKind.wrap .i64 ((IntKind.wrap .i64 (q1.1.2.2.2.2.1 - q2.1.2.2.2.2.2)) * y8.1.1)) fun z9 => some ((z9, ()), ())
def g37 (d : Int × (Option zTh) × Int × Int × Unit) : Option uAh := F37 qc d.1 d.2.1 d.2.2.1 d.2.2.2.1
def p37 : qE := ⟨[.v zI, .r (.ptr uAf), .r zI, .r zI], [.v zI], g37⟩
def c37 : qS := ⟨37, tyT, [], [(24, p24)], [], [], [], [], [], [], [], [], [], [], none⟩
theorem F37_eq (n : Nat) (d) : qy c37 n Tryz.f37 (body Tryz.f37) p37.ps p37.rs d = F37 n d.1 d.2.1 d.2.2.1 d.2.2.2.1 := by kernel_rfl
theorem h37 : qw Tryz.prog 37 p37 := hQ (cfg := c37) (qp qq (qd h24 qh) rfl (by kernel_rfl)) Tryz.func37 (by kernel_rfl) (qr (by kernel_rfl)) (by kernel_rfl) (F37_eq qc)
def F39 (_n : Nat) (a_0 : Int) (b_1 : Int) (t_2 : (Int → Option Int)) : Option uAh :=
  qa (t_2 b_1) fun y1 => qa (t_2 a_0) fun y2 => some (((IntKind.wrap .i64 (y1 - y2)), ()), ())
def g39 (d : Int × Int × (Int → Option Int) × Unit) : Option uAh := F39 qc d.1 d.2.1 d.2.2.1
def p39 : qE := ⟨[.v zI, .v zI, .r (.fn zI zI)], [.v zI], g39⟩
def c39 : qS := ⟨13, tyT, [], [], [], [], [1], [], [], [], [], [], [], [], none⟩
theorem F39_eq (n : Nat) (d) : qy c39 n Tryz.f39 (body Tryz.f39) p39.ps p39.rs d = F39 n d.1 d.2.1 d.2.2.1 := by kernel_rfl
theorem h39 : qw Tryz.prog 39 p39 := hQ (cfg := c39) (qp qq (qh) rfl (by kernel_rfl)) Tryz.func39 (by kernel_rfl) (qr (by kernel_rfl)) (by kernel_rfl) (F39_eq qc)
def B40_3 (_n : Nat) (L : (Int × Int × (Int → Option Int) × Int × Int × Int × Unit) × uAm × Unit → Option uBi) (n_0 : Int) (from_1 : Int) (t_3 : Int → Option Int) (sum_7 : Int) (t_11 : Int) (t_12 : Int) (o_2p : List Int) : Option uBi :=
  cond (decide (t_12 < t_11)) (jS t_12 o_2p.length (qi o_2p t_12 fun e1 => cond (decide (e1 ≥ from_1)) (cond (decide (n_0 > 0)) (qa (t_3 e1) fun y2 => L (((IntKind.wrap .i64 (n_0 - 1)), from_1, t_3, (IntKind.wrap .i64 (sum_7 + y2)), t_11, (IntKind.wrap .i64 (t_12 + 1)), ()), (o_2p, ()), ())) (L ((n_0, from_1, t_3, sum_7, t_11, (IntKind.wrap .i64 (t_12 + 1)), ()), (o_2p, ()), ()))) (L ((n_0, from_1, t_3, sum_7, t_11, (IntKind.wrap .i64 (t_12 + 1)), ()), (o_2p, ()), ())))) (some ((sum_7, ()), (o_2p, ()), ()))
def L40_3 : Nat → (Int × Int × (Int → Option Int) × Int × Int × Int × Unit) × uAm × Unit → Option uBi
  | 0, _ => none
  | n + 1, d => B40_3 n (L40_3 n) d.1.1 d.1.2.1 d.1.2.2.1 d.1.2.2.2.1 d.1.2.2.2.2.1 d.1.2.2.2.2.2.1 d.2.1.1
def l40_3 : qY := ⟨⟨[(0, .v zI), (1, .v zI), (3, .r (.fn zI zI)), (7, .v zI), (10, .c (.view 10000002 [])), (11, .v zI), (12, .v zI)], [(10000002, false, .list true 3 zI)], none⟩, [(.exit 0, ⟨[(7, .v zI)], [(10000002, false, .list true 3 zI)], none⟩)], L40_3⟩
def F40 (n : Nat) (n_0 : Int) (from_1 : Int) (t_2 : (List Int)) (t_3 : (Int → Option Int)) : Option ((Int × Unit) × uAm) :=
  qa (L40_3 n ((n_0, from_1, t_3, 0, (t_2.length : Int), 0, ()), (t_2, ()), ())) fun o3 => some ((o3.1.1, ()), (o3.2.1.1, ()))
def g40 (d : Int × Int × (List Int) × (Int → Option Int) × Unit) : Option ((Int × Unit) × uAm) := F40 qc d.1 d.2.1 d.2.2.1 d.2.2.2.1
def p40 : qE := ⟨[.v zI, .v zI, .m uBd, .r (.fn zI zI)], [.v zI], g40⟩
def c40 : qS := ⟨32, tyT, [], [], [(3, l40_3)], [], [], [], [], [], [], [], [], [], none⟩
theorem F40_eq (n : Nat) (d) : qy c40 n Tryz.f40 (body Tryz.f40) p40.ps p40.rs d = F40 n d.1 d.2.1 d.2.2.1 d.2.2.2.1 := by kernel_rfl
theorem L40_3_eq (n : Nat) (d) : (l40_3).g (n + 1) d = run c40 n (jW 0 (qe (body Tryz.f40))) ((l40_3).ins.fill d) (qN (l40_3) n) := by kernel_rfl
theorem ls40 : qe (body Tryz.f40) = [jW 0 (qe (body Tryz.f40))] := by kernel_rfl
theorem h40 : qw Tryz.prog 40 p40 := hQ (cfg := c40) (qp qq (qh) rfl (by kernel_rfl)) Tryz.func40 (by kernel_rfl) (by rw [ls40]; simp only [List.forall_mem_cons]; exact ⟨qC (key := 3) (li := l40_3) (by kernel_rfl) rfl (fun _ => rfl) (L40_3_eq), fun _ h => by cases h⟩) (by kernel_rfl) (F40_eq qc)
def F36 (_n : Nat) (seat_0 : Int) (___1 : Int) (t_2 : (List Bool)) : Option ((Bool × Unit) × uBh) :=
  jS seat_0 t_2.length (qi t_2 seat_0 fun e1 => some ((e1, ()), (t_2, ())))
def g36 (d : Int × Int × (List Bool) × Unit) : Option ((Bool × Unit) × uBh) := F36 qc d.1 d.2.1 d.2.2.1
def p36 : qE := ⟨[.v zI, .v zI, .m (.list true 4 .bool)], [.v .bool], g36⟩
def c36 : qS := ⟨10, tyT, [], [], [], [], [], [], [], [], [], [], [], [], none⟩
theorem F36_eq (n : Nat) (d) : qy c36 n Tryz.f36 (body Tryz.f36) p36.ps p36.rs d = F36 n d.1 d.2.1 d.2.2.1 := by kernel_rfl
theorem h36 : qw Tryz.prog 36 p36 := hQ (cfg := c36) (qp qq (qh) rfl (by kernel_rfl)) Tryz.func36 (by kernel_rfl) (qr (by kernel_rfl)) (by kernel_rfl) (F36_eq qc)
def B10025_4 (_n : Nat) (L : (zTh × Int × zTp × Int × (List (List uAe)) × Int × Int × Unit) × uBh × Unit → Option (((Int × Unit) × uBh × Unit))) (r_0 : zTc × uCj) (phase_1 : Int) (l_9 : uAe × uAe) (sum_10 : Int) (t_39 : List (List uAe)) (t_40 : Int) (t_41 : Int) (o_3p : List Bool) : Option (((Int × Unit) × uBh × Unit)) :=
  cond (decide (t_41 < t_40)) (qi t_39 t_41 fun e3 => qi e3 phase_1 fun e4 => qa (g24 (l_9, e4, ())) fun y5 => qa (g36 (t_41, y5.1.1, o_3p, ())) fun y6 => cond y6.1.1 (qaF (IntKind.wrap .i64 (sum_10 + (IntKind.wrap .i64 (r_0.1.2.2.2.2.2 * y5.1.1)))) fun z7 => L ((r_0, phase_1, l_9, z7, t_39, t_40, (IntKind.wrap .i64 (t_41 + 1)), ()), (y6.2.1, ()), ())) (qaF (IntKind.wrap .i64 (sum_10 + (IntKind.wrap .i64 (r_0.1.2.2.2.2.1 * y5.1.1)))) fun z8 => L ((r_0, phase_1, l_9, z8, t_39, t_40, (IntKind.wrap .i64 (t_41 + 1)), ()), (y6.2.1, ()), ()))) (some ((sum_10, ()), (o_3p, ()), ()))
def L10025_4 : Nat → (zTh × Int × zTp × Int × (List (List uAe)) × Int × Int × Unit) × uBh × Unit → Option (((Int × Unit) × uBh × Unit))
  | 0, _ => none
  | n + 1, d => B10025_4 n (L10025_4 n) d.1.1 d.1.2.1 d.1.2.2.1 d.1.2.2.2.1 d.1.2.2.2.2.1 d.1.2.2.2.2.2.1 d.1.2.2.2.2.2.2.1 d.2.1.1
def l10025_4 : qY := ⟨⟨[(0, .r uAf), (1, .v zI), (3, .c (.fn 36 .nil (.cons (.ptr 10000003 []) .nil))), (9, .r (.str uAq)), (10, .v zI), (39, .v (.list false 37 uAx)), (40, .v zI), (41, .v zI)], [(10000003, false, .list true 4 .bool)], none⟩, [(.exit 0, ⟨[(10, .v zI)], [(10000003, false, .list true 4 .bool)], none⟩)], L10025_4⟩
def F10025 (n : Nat) (r_0 : zTh) (phase_1 : Int) (line_2 : Int) (full_3 : (List Bool)) : Option ((Int × Unit) × uBh) :=
  qi r_0.2.1 line_2 fun e1 => qa (g24 (e1, r_0.1.2.2.2.1, ())) fun y2 => qa (L10025_4 n ((r_0, phase_1, e1, (IntKind.wrap .i64 (r_0.1.2.2.1 * y2.1.1)), r_0.1.1, (r_0.1.1.length : Int), 0, ()), (full_3, ()), ())) fun o9 => some ((o9.1.1, ()), (o9.2.1.1, ()))
def g10025 (d : zTh × Int × Int × (List Bool) × Unit) : Option ((Int × Unit) × uBh) := F10025 qc d.1 d.2.1 d.2.2.1 d.2.2.2.1
def p10025 : qE := ⟨[.r uAf, .v zI, .v zI, .cm 36 (.list true 4 .bool)], [.v zI], g10025⟩
def c10025 : qS := ⟨73, tyT, [(9, .str uAq)], [(24, p24), (36, p36)], [(4, l10025_4)], [], [2, 6], [], [], [], [], [], [], [], none⟩
theorem F10025_eq (n : Nat) (d) : qy c10025 n Tryz.f25 (body Tryz.f25) p10025.ps p10025.rs d = F10025 n d.1 d.2.1 d.2.2.1 d.2.2.2.1 := by kernel_rfl
theorem L10025_4_eq (n : Nat) (d) : (l10025_4).g (n + 1) d = run c10025 n (jW 0 (qe (body Tryz.f25))) ((l10025_4).ins.fill d) (qN (l10025_4) n) := by kernel_rfl
theorem ls10025 : qe (body Tryz.f25) = [jW 0 (qe (body Tryz.f25))] := by kernel_rfl
theorem h10025 : qw Tryz.prog 25 p10025 := hQ (cfg := c10025) (qp qq (qd h24 (qd h36 qh)) rfl (by kernel_rfl)) Tryz.func25 (by kernel_rfl) (by rw [ls10025]; simp only [List.forall_mem_cons]; exact ⟨qC (key := 4) (li := l10025_4) (by kernel_rfl) rfl (fun _ => rfl) (L10025_4_eq), fun _ h => by cases h⟩) (by kernel_rfl) (F10025_eq qc)
def B74_4 (_n : Nat) (L : (Int × Int × (Int → Int → Option Int) × Int × Int × Unit) × uAm × Unit → Option (((Int × Int × (Int → Int → Option Int) × Int × Unit) × uAm × Unit))) (a_1 : Int) (b_2 : Int) (cmp_3 : Int → Int → Option Int) (i_8 : Int) (j_9 : Int) (o_0p : List Int) : Option (((Int × Int × (Int → Int → Option Int) × Int × Unit) × uAm × Unit)) :=
  qa (cond (decide (j_9 > a_1)) (jC [jS j_9 o_0p.length (jC [qi o_0p j_9 fun e1 => jS (IntKind.wrap .i64 (j_9 - 1)) o_0p.length (qi o_0p (IntKind.wrap .i64 (j_9 - 1)) fun e2 => qa (cmp_3 e1 e2) fun y3 => some ((a_1, b_2, cmp_3, i_8, j_9, (decide (y3 < 0)), ()), (o_0p, ()), ())), jS (IntKind.wrap .i64 (j_9 - 1)) o_0p.length (jC [qi o_0p j_9 fun e4 => qi o_0p (IntKind.wrap .i64 (j_9 - 1)) fun e5 => qa (cmp_3 e4 e5) fun y6 => some ((a_1, b_2, cmp_3, i_8, j_9, (decide (y6 < 0)), ()), (o_0p, ()), ()), qi o_0p (IntKind.wrap .i64 (j_9 - 1)) fun e7 => qi o_0p j_9 fun e8 => qa (cmp_3 e8 e7) fun y9 => some ((a_1, b_2, cmp_3, i_8, j_9, (decide (y9 < 0)), ()), (o_0p, ()), ())])]), jS (IntKind.wrap .i64 (j_9 - 1)) o_0p.length (jC [jS j_9 o_0p.length (jC [qi o_0p j_9 fun e10 => qi o_0p (IntKind.wrap .i64 (j_9 - 1)) fun e11 => qa (cmp_3 e10 e11) fun y12 => some ((a_1, b_2, cmp_3, i_8, j_9, (decide (y12 < 0)), ()), (o_0p, ()), ()), qi o_0p (IntKind.wrap .i64 (j_9 - 1)) fun e13 => qi o_0p j_9 fun e14 => qa (cmp_3 e14 e13) fun y15 => some ((a_1, b_2, cmp_3, i_8, j_9, (decide (y15 < 0)), ()), (o_0p, ()), ())]), qi o_0p (IntKind.wrap .i64 (j_9 - 1)) fun e16 => jS j_9 o_0p.length (qi o_0p j_9 fun e17 => qa (cmp_3 e17 e16) fun y18 => some ((a_1, b_2, cmp_3, i_8, j_9, (decide (y18 < 0)), ()), (o_0p, ()), ()))])]) (some ((a_1, b_2, cmp_3, i_8, j_9, false, ()), (o_0p, ()), ()))) fun d19 => cond d19.1.2.2.2.2.2.1 (qa (jS (IntKind.wrap .i64 (d19.1.2.2.2.2.1 - 1)) d19.2.1.1.length (jS d19.1.2.2.2.2.1 d19.2.1.1.length (jC [qi d19.2.1.1 (IntKind.wrap .i64 (d19.1.2.2.2.2.1 - 1)) fun e20 => qi d19.2.1.1 d19.1.2.2.2.2.1 fun e21 => jS d19.1.2.2.2.2.1 d19.2.1.1.length (qi d19.2.1.1 d19.1.2.2.2.2.1 fun _ => jS (IntKind.wrap .i64 (d19.1.2.2.2.2.1 - 1)) (d19.2.1.1.set d19.1.2.2.2.2.1.toNat e20).length (qi (d19.2.1.1.set d19.1.2.2.2.2.1.toNat e20) (IntKind.wrap .i64 (d19.1.2.2.2.2.1 - 1)) fun _ => some ((d19.1.1, d19.1.2.1, d19.1.2.2.1, d19.1.2.2.2.1, d19.1.2.2.2.2.1, ()), (((d19.2.1.1.set d19.1.2.2.2.2.1.toNat e20).set (IntKind.wrap .i64 (d19.1.2.2.2.2.1 - 1)).toNat e21), ()), ()))), qi d19.2.1.1 d19.1.2.2.2.2.1 fun e24 => qi d19.2.1.1 (IntKind.wrap .i64 (d19.1.2.2.2.2.1 - 1)) fun e25 => jS d19.1.2.2.2.2.1 d19.2.1.1.length (qi d19.2.1.1 d19.1.2.2.2.2.1 fun _ => jS (IntKind.wrap .i64 (d19.1.2.2.2.2.1 - 1)) (d19.2.1.1.set d19.1.2.2.2.2.1.toNat e25).length (qi (d19.2.1.1.set d19.1.2.2.2.2.1.toNat e25) (IntKind.wrap .i64 (d19.1.2.2.2.2.1 - 1)) fun _ => some ((d19.1.1, d19.1.2.1, d19.1.2.2.1, d19.1.2.2.2.1, d19.1.2.2.2.2.1, ()), (((d19.2.1.1.set d19.1.2.2.2.2.1.toNat e25).set (IntKind.wrap .i64 (d19.1.2.2.2.2.1 - 1)).toNat e24), ()), ())))]))) fun d28 => L ((d28.1.1, d28.1.2.1, d28.1.2.2.1, d28.1.2.2.2.1, (IntKind.wrap .i64 (d28.1.2.2.2.2.1 - 1)), ()), (d28.2.1.1, ()), ())) (some ((d19.1.1, d19.1.2.1, d19.1.2.2.1, d19.1.2.2.2.1, ()), (d19.2.1.1, ()), ()))
def L74_4 : Nat → (Int × Int × (Int → Int → Option Int) × Int × Int × Unit) × uAm × Unit → Option (((Int × Int × (Int → Int → Option Int) × Int × Unit) × uAm × Unit))
  | 0, _ => none
  | n + 1, d => B74_4 n (L74_4 n) d.1.1 d.1.2.1 d.1.2.2.1 d.1.2.2.2.1 d.1.2.2.2.2.1 d.2.1.1
def l74_4 : qY := ⟨⟨[(0, .c (.view 10000000 [])), (1, .v zI), (2, .v zI), (3, .v (.fn2 zI zI zI)), (8, .v zI), (9, .v zI)], [(10000000, true, .list true 3 zI)], none⟩, [(.exit 2, ⟨[(0, .c (.view 10000000 [])), (1, .v zI), (2, .v zI), (3, .v (.fn2 zI zI zI)), (8, .v zI)], [(10000000, true, .list true 3 zI)], none⟩)], L74_4⟩
def B74_1 (n : Nat) (L : (Int × Int × (Int → Int → Option Int) × Int × Unit) × uAm × Unit → Option zTs) (a_1 : Int) (b_2 : Int) (cmp_3 : Int → Int → Option Int) (i_8 : Int) (o_0p : List Int) : Option zTs :=
  cond (decide (i_8 < b_2)) (qa (L74_4 n ((a_1, b_2, cmp_3, i_8, i_8, ()), (o_0p, ()), ())) fun o29 => L ((o29.1.1, o29.1.2.1, o29.1.2.2.1, (IntKind.wrap .i64 (o29.1.2.2.2.1 + 1)), ()), (o29.2.1.1, ()), ())) (some ((), (o_0p, ()), ()))
def L74_1 : Nat → (Int × Int × (Int → Int → Option Int) × Int × Unit) × uAm × Unit → Option zTs
  | 0, _ => none
  | n + 1, d => B74_1 n (L74_1 n) d.1.1 d.1.2.1 d.1.2.2.1 d.1.2.2.2.1 d.2.1.1
def l74_1 : qY := ⟨⟨[(0, .c (.view 10000000 [])), (1, .v zI), (2, .v zI), (3, .v (.fn2 zI zI zI)), (8, .v zI)], [(10000000, true, .list true 3 zI)], none⟩, [(.exit 0, ⟨[], [(10000000, true, .list true 3 zI)], none⟩)], L74_1⟩
def F74 (n : Nat) (data_0 : List Int) (a_1 : Int) (b_2 : Int) (cmp_3 : (Int → Int → Option Int)) : Option ((Unit) × uAm) :=
  qa (L74_1 n ((a_1, b_2, cmp_3, (IntKind.wrap .i64 (a_1 + 1)), ()), (data_0, ()), ())) fun o30 => some ((), (o30.2.1.1, ()))
def g74 (d : (List Int) × Int × Int × (Int → Int → Option Int) × Unit) : Option ((Unit) × uAm) := F74 qc d.1 d.2.1 d.2.2.1 d.2.2.2.1
def p74 : qE := ⟨[.mr 3 zI, .v zI, .v zI, .v (.fn2 zI zI zI)], [], g74⟩
def c74 : qS := ⟨53, tyT, [], [], [(4, l74_4), (1, l74_1)], [], [4, 6], [], [], [], [], [], [], [(4, ⟨[(0, .c (.view 10000000 [])), (1, .v zI), (2, .v zI), (3, .v (.fn2 zI zI zI)), (8, .v zI), (9, .v zI), (34, .v .bool)], [(10000000, true, .list true 3 zI)], none⟩), (6, ⟨[(0, .c (.view 10000000 [])), (1, .v zI), (2, .v zI), (3, .v (.fn2 zI zI zI)), (8, .v zI), (9, .v zI)], [(10000000, true, .list true 3 zI)], none⟩)], none⟩
theorem F74_eq (n : Nat) (d) : qy c74 n Tryz.f74 (body Tryz.f74) p74.ps p74.rs d = F74 n d.1 d.2.1 d.2.2.1 d.2.2.2.1 := by kernel_rfl
theorem L74_1_eq (n : Nat) (d) : (l74_1).g (n + 1) d = run c74 n (jW 0 (qe (body Tryz.f74))) ((l74_1).ins.fill d) (qN (l74_1) n) := by kernel_rfl
theorem L74_4_eq (n : Nat) (d) : (l74_4).g (n + 1) d = run c74 n (jW 1 (qe (body Tryz.f74))) ((l74_4).ins.fill d) (qN (l74_4) n) := by kernel_rfl
theorem ls74 : qe (body Tryz.f74) = [jW 0 (qe (body Tryz.f74)), jW 1 (qe (body Tryz.f74))] := by kernel_rfl
theorem h74 : qw Tryz.prog 74 p74 := hQ (cfg := c74) (qp qq (qh) rfl (by kernel_rfl)) Tryz.func74 (by kernel_rfl) (by rw [ls74]; simp only [List.forall_mem_cons]; exact ⟨qC (key := 1) (li := l74_1) (by kernel_rfl) rfl (fun _ => rfl) (L74_1_eq), qC (key := 4) (li := l74_4) (by kernel_rfl) rfl (fun _ => rfl) (L74_4_eq), fun _ h => by cases h⟩) (by kernel_rfl) (F74_eq qc)
def g75 (_ : (List Int) × Int × Int × Int × (Int → Int → Option Int) × Unit) : Option (Unit × (List Int) × Unit) := none
def p75 : qE := ⟨[.mr 3 zI, .v zI, .v zI, .v zI, .v (.fn2 zI zI zI)], [], g75⟩
theorem h75 : qw Tryz.prog 75 p75 := ⟨qab Tryz.func75 rfl (by kernel_rfl), fun d y h => by cases h⟩
def B58_2 (_n : Nat) (L : (Int × (Int → Int → Option Int) × Int × Int × Int × Unit) × uAm × Unit → Option (((Int × (Int → Int → Option Int) × Int × Int × Unit) × uAm × Unit))) (n_1 : Int) (cmp_2 : Int → Int → Option Int) (blockSize_6 : Int) (a_7 : Int) (b_8 : Int) (o_0p : List Int) : Option (((Int × (Int → Int → Option Int) × Int × Int × Unit) × uAm × Unit)) :=
  cond (decide (b_8 ≤ n_1)) (qa (g74 (o_0p, a_7, b_8, cmp_2, ())) fun y1 => L ((n_1, cmp_2, blockSize_6, b_8, (IntKind.wrap .i64 (b_8 + blockSize_6)), ()), (y1.2.1, ()), ())) (some ((n_1, cmp_2, blockSize_6, a_7, ()), (o_0p, ()), ()))
def L58_2 : Nat → (Int × (Int → Int → Option Int) × Int × Int × Int × Unit) × uAm × Unit → Option (((Int × (Int → Int → Option Int) × Int × Int × Unit) × uAm × Unit))
  | 0, _ => none
  | n + 1, d => B58_2 n (L58_2 n) d.1.1 d.1.2.1 d.1.2.2.1 d.1.2.2.2.1 d.1.2.2.2.2.1 d.2.1.1
def l58_2 : qY := ⟨⟨[(0, .c (.view 10000000 [])), (1, .v zI), (2, .v (.fn2 zI zI zI)), (6, .v zI), (7, .v zI), (8, .v zI)], [(10000000, true, .list true 3 zI)], none⟩, [(.exit 0, ⟨[(0, .c (.view 10000000 [])), (1, .v zI), (2, .v (.fn2 zI zI zI)), (6, .v zI), (7, .v zI)], [(10000000, true, .list true 3 zI)], none⟩)], L58_2⟩
def B58_9 (_n : Nat) (L : (Int × (Int → Int → Option Int) × Int × Int × Int × Unit) × uAm × Unit → Option (((Int × (Int → Int → Option Int) × Int × Int × Unit) × uAm × Unit))) (n_1 : Int) (cmp_2 : Int → Int → Option Int) (blockSize_6 : Int) (a_7 : Int) (b_8 : Int) (o_0p : List Int) : Option (((Int × (Int → Int → Option Int) × Int × Int × Unit) × uAm × Unit)) :=
  cond (decide (b_8 ≤ n_1)) (qa (g75 (o_0p, a_7, (IntKind.wrap .i64 (a_7 + blockSize_6)), b_8, cmp_2, ())) fun y4 => L ((n_1, cmp_2, blockSize_6, b_8, (IntKind.wrap .i64 (b_8 + (IntKind.wrap .i64 (2 * blockSize_6)))), ()), (y4.2.1, ()), ())) (some ((n_1, cmp_2, blockSize_6, a_7, ()), (o_0p, ()), ()))
def L58_9 : Nat → (Int × (Int → Int → Option Int) × Int × Int × Int × Unit) × uAm × Unit → Option (((Int × (Int → Int → Option Int) × Int × Int × Unit) × uAm × Unit))
  | 0, _ => none
  | n + 1, d => B58_9 n (L58_9 n) d.1.1 d.1.2.1 d.1.2.2.1 d.1.2.2.2.1 d.1.2.2.2.2.1 d.2.1.1
def l58_9 : qY := ⟨⟨[(0, .c (.view 10000000 [])), (1, .v zI), (2, .v (.fn2 zI zI zI)), (6, .v zI), (7, .v zI), (8, .v zI)], [(10000000, true, .list true 3 zI)], none⟩, [(.exit 4, ⟨[(0, .c (.view 10000000 [])), (1, .v zI), (2, .v (.fn2 zI zI zI)), (6, .v zI), (7, .v zI)], [(10000000, true, .list true 3 zI)], none⟩)], L58_9⟩
def B58_7 (n : Nat) (L : (Int × (Int → Int → Option Int) × Int × Unit) × uAm × Unit → Option zTs) (n_1 : Int) (cmp_2 : Int → Int → Option Int) (blockSize_6 : Int) (o_0p : List Int) : Option zTs :=
  cond (decide (blockSize_6 < n_1)) (qa (L58_9 n ((n_1, cmp_2, blockSize_6, 0, (IntKind.wrap .i64 (2 * blockSize_6)), ()), (o_0p, ()), ())) fun o5 => cond (decide ((IntKind.wrap .i64 (o5.1.2.2.2.1 + o5.1.2.2.1)) < o5.1.1)) (qa (g75 (o5.2.1.1, o5.1.2.2.2.1, (IntKind.wrap .i64 (o5.1.2.2.2.1 + o5.1.2.2.1)), o5.1.1, o5.1.2.1, ())) fun y6 => L ((o5.1.1, o5.1.2.1, (IntKind.wrap .i64 (o5.1.2.2.1 * 2)), ()), (y6.2.1, ()), ())) (L ((o5.1.1, o5.1.2.1, (IntKind.wrap .i64 (o5.1.2.2.1 * 2)), ()), (o5.2.1.1, ()), ()))) (some ((), (o_0p, ()), ()))
def L58_7 : Nat → (Int × (Int → Int → Option Int) × Int × Unit) × uAm × Unit → Option zTs
  | 0, _ => none
  | n + 1, d => B58_7 n (L58_7 n) d.1.1 d.1.2.1 d.1.2.2.1 d.2.1.1
def l58_7 : qY := ⟨⟨[(0, .c (.view 10000000 [])), (1, .v zI), (2, .v (.fn2 zI zI zI)), (6, .v zI)], [(10000000, true, .list true 3 zI)], none⟩, [(.exit 2, ⟨[], [(10000000, true, .list true 3 zI)], none⟩)], L58_7⟩
def F58 (n : Nat) (data_0 : List Int) (n_1 : Int) (cmp_2 : (Int → Int → Option Int)) : Option ((Unit) × uAm) :=
  qa (L58_2 n ((n_1, cmp_2, 20, 0, 20, ()), (data_0, ()), ())) fun o2 => qa (g74 (o2.2.1.1, o2.1.2.2.2.1, o2.1.1, o2.1.2.1, ())) fun y3 => qa (L58_7 n ((o2.1.1, o2.1.2.1, o2.1.2.2.1, ()), (y3.2.1, ()), ())) fun o7 => some ((), (o7.2.1.1, ()))
def g58 (d : (List Int) × Int × (Int → Int → Option Int) × Unit) : Option ((Unit) × uAm) := F58 qc d.1 d.2.1 d.2.2.1
def p58 : qE := ⟨[.mr 3 zI, .v zI, .v (.fn2 zI zI zI)], [], g58⟩
def c58 : qS := ⟨63, tyT, [], [(74, p74), (75, p75)], [(2, l58_2), (9, l58_9), (7, l58_7)], [], [], [], [], [], [], [], [], [], none⟩
theorem F58_eq (n : Nat) (d) : qy c58 n Tryz.f58 (body Tryz.f58) p58.ps p58.rs d = F58 n d.1 d.2.1 d.2.2.1 := by kernel_rfl
theorem L58_2_eq (n : Nat) (d) : (l58_2).g (n + 1) d = run c58 n (jW 0 (qe (body Tryz.f58))) ((l58_2).ins.fill d) (qN (l58_2) n) := by kernel_rfl
theorem L58_7_eq (n : Nat) (d) : (l58_7).g (n + 1) d = run c58 n (jW 1 (qe (body Tryz.f58))) ((l58_7).ins.fill d) (qN (l58_7) n) := by kernel_rfl
theorem L58_9_eq (n : Nat) (d) : (l58_9).g (n + 1) d = run c58 n (jW 2 (qe (body Tryz.f58))) ((l58_9).ins.fill d) (qN (l58_9) n) := by kernel_rfl
theorem ls58 : qe (body Tryz.f58) = [jW 0 (qe (body Tryz.f58)), jW 1 (qe (body Tryz.f58)), jW 2 (qe (body Tryz.f58))] := by kernel_rfl
theorem h58 : qw Tryz.prog 58 p58 := hQ (cfg := c58) (qp qq (qd h74 (qd h75 qh)) rfl (by kernel_rfl)) Tryz.func58 (by kernel_rfl) (by rw [ls58]; simp only [List.forall_mem_cons]; exact ⟨qC (key := 2) (li := l58_2) (by kernel_rfl) rfl (fun _ => rfl) (L58_2_eq), qC (key := 7) (li := l58_7) (by kernel_rfl) rfl (fun _ => rfl) (L58_7_eq), qC (key := 9) (li := l58_9) (by kernel_rfl) rfl (fun _ => rfl) (L58_9_eq), fun _ h => by cases h⟩) (by kernel_rfl) (F58_eq qc)
def F38 (_n : Nat) (x_0 : (List Int)) (cmp_1 : (Int → Int → Option Int)) : Option (List Int) :=
  qa (g58 (x_0, (x_0.length : Int), cmp_1, ())) fun y1 => some y1.2.1
def g38 (d : (Int → Int → Option Int) × Unit) (x : List Int) : Option (List Int) := F38 qc x d.1
def m38 : qee := ⟨[.v (.fn2 zI zI zI)], 0, .list true 3 zI, g38⟩
def c38 : qS := ⟨9, tyT, [], [(58, p58)], [], [], [], [], [], [], [], [], [], [], none⟩
theorem F38_eq (n : Nat) (d) (x) : qkO c38 n (body Tryz.f38) m38 d x = F38 n x d.1 := by kernel_rfl
theorem h38 : GoodM Tryz.prog 38 m38 := fn_doneM qcL (cfg := c38) (qp qq (qd h58 qh) rfl (by kernel_rfl)) Tryz.func38 rfl rfl (by kernel_rfl) rfl rfl rfl rfl rfl (qr (by kernel_rfl)) (by kernel_rfl) (fun d x y h => ⟨qc, (F38_eq qc d x).trans h⟩)
def B16_6 (_n : Nat) (L : ((Option zTh) × Int × Int × (Int → Option Int) × Int × Int × Unit) × uBc × Unit → Option ((((Option zTh) × Int × Int × (Int → Option Int) × Unit) × uBc × Unit))) (r_3 : Option zTh) (phase_4 : Int) (line_5 : Int) (takes_9 : Int → Option Int) (t_29 : Int) (t_30 : Int) (o_7 : List Bool) (o_10 : List Int) : Option ((((Option zTh) × Int × Int × (Int → Option Int) × Unit) × uBc × Unit)) :=
  cond (decide (t_30 < t_29)) (jE ((o_10.length : Int) + [t_30].length) (L ((r_3, phase_4, line_5, takes_9, t_29, (IntKind.wrap .i64 (t_30 + 1)), ()), (o_7, (o_10 ++ [t_30]), ()), ()))) (some ((r_3, phase_4, line_5, takes_9, ()), (o_7, o_10, ()), ()))
def L16_6 : Nat → ((Option zTh) × Int × Int × (Int → Option Int) × Int × Int × Unit) × uBc × Unit → Option ((((Option zTh) × Int × Int × (Int → Option Int) × Unit) × uBc × Unit))
  | 0, _ => none
  | n + 1, d => B16_6 n (L16_6 n) d.1.1 d.1.2.1 d.1.2.2.1 d.1.2.2.2.1 d.1.2.2.2.2.1 d.1.2.2.2.2.2.1 d.2.1.1 d.2.1.2.1
def l16_6 : qY := ⟨⟨[(3, .r (.ptr uAf)), (4, .r zI), (5, .r zI), (7, .c (.ptr 7 [])), (8, .c (.fn 36 .nil (.cons (.ptr 7 []) .nil))), (9, .r (.fn zI zI)), (10, .c (.ptr 10 [])), (29, .v zI), (30, .v zI)], [(7, false, .list true 4 .bool), (10, false, .list true 3 zI)], none⟩, [(.exit 0, ⟨[(3, .r (.ptr uAf)), (4, .r zI), (5, .r zI), (7, .c (.ptr 7 [])), (8, .c (.fn 36 .nil (.cons (.ptr 7 []) .nil))), (9, .r (.fn zI zI)), (10, .c (.ptr 10 []))], [(7, false, .list true 4 .bool), (10, false, .list true 3 zI)], none⟩)], L16_6⟩
def B16_13 (_n : Nat) (L : ((Option zTh) × Int × Int × (Int → Option Int) × Int × Unit) × uBc × Unit → Option ((((Option zTh) × Int × Int × (Int → Option Int) × Int × Unit) × uBc × Unit))) (r_3 : Option zTh) (phase_4 : Int) (line_5 : Int) (most_12 : Int → Option Int) (left_13 : Int) (o_7 : List Bool) (o_10 : List Int) : Option ((((Option zTh) × Int × Int × (Int → Option Int) × Int × Unit) × uBc × Unit)) :=
  qa r_3 fun q10 => qa (g10025 (q10, phase_4, line_5, o_7, ())) fun y11 => qa (g40 (left_13, 0, o_10, most_12, ())) fun y12 => cond (decide ((IntKind.wrap .i64 (y11.1.1 - y12.1.1)) ≥ 0)) (L ((r_3, phase_4, line_5, most_12, (IntKind.wrap .i64 (left_13 + 1)), ()), (y11.2.1, y12.2.1, ()), ())) (some ((r_3, phase_4, line_5, most_12, left_13, ()), (y11.2.1, y12.2.1, ()), ()))
def L16_13 : Nat → ((Option zTh) × Int × Int × (Int → Option Int) × Int × Unit) × uBc × Unit → Option ((((Option zTh) × Int × Int × (Int → Option Int) × Int × Unit) × uBc × Unit))
  | 0, _ => none
  | n + 1, d => B16_13 n (L16_13 n) d.1.1 d.1.2.1 d.1.2.2.1 d.1.2.2.2.1 d.1.2.2.2.2.1 d.2.1.1 d.2.1.2.1
def l16_13 : qY := ⟨⟨[(3, .r (.ptr uAf)), (4, .r zI), (5, .r zI), (7, .c (.ptr 7 [])), (8, .c (.fn 36 .nil (.cons (.ptr 7 []) .nil))), (12, .k 40 10 (.fn zI zI)), (13, .v zI)], [(7, false, .list true 4 .bool), (10, false, .list true 3 zI)], none⟩, [(.exit 2, ⟨[(3, .r (.ptr uAf)), (4, .r zI), (5, .r zI), (7, .c (.ptr 7 [])), (8, .c (.fn 36 .nil (.cons (.ptr 7 []) .nil))), (12, .k 40 10 (.fn zI zI)), (13, .v zI)], [(7, false, .list true 4 .bool), (10, false, .list true 3 zI)], none⟩)], L16_13⟩
def B16_16 (_n : Nat) (L : ((Option zTh) × Int × Int × (Int → Option Int) × Int × Int × Int × Unit) × uBc × Unit → Option (((Unit) × uBh × Unit))) (r_3 : Option zTh) (phase_4 : Int) (line_5 : Int) (most_12 : Int → Option Int) (left_13 : Int) (t_55 : Int) (t_56 : Int) (o_7 : List Bool) (o_10 : List Int) : Option (((Unit) × uBh × Unit)) :=
  cond (decide (t_56 < t_55)) (cond (left_13 == 0) (some ((), (o_7, ()), ())) (jS t_56 o_7.length (qi o_7 t_56 fun _ => qa r_3 fun q15 => qa (g10025 (q15, phase_4, line_5, (o_7.set t_56.toNat true), ())) fun y16 => qa (g40 ((IntKind.wrap .i64 (left_13 - 1)), (IntKind.wrap .i64 (t_56 + 1)), o_10, most_12, ())) fun y17 => cond (decide ((IntKind.wrap .i64 (y16.1.1 - y17.1.1)) < 0)) (cond (decide ((IntKind.wrap .i64 (left_13 - 1)) ≤ (IntKind.wrap .i64 ((IntKind.wrap .i64 ((y16.2.1.length : Int) - t_56)) - 1)))) (L ((r_3, phase_4, line_5, most_12, (IntKind.wrap .i64 (left_13 - 1)), t_55, (IntKind.wrap .i64 (t_56 + 1)), ()), (y16.2.1, y17.2.1, ()), ())) (jS t_56 y16.2.1.length (qi y16.2.1 t_56 fun _ => L ((r_3, phase_4, line_5, most_12, left_13, t_55, (IntKind.wrap .i64 (t_56 + 1)), ()), ((y16.2.1.set t_56.toNat false), y17.2.1, ()), ())))) (jS t_56 y16.2.1.length (qi y16.2.1 t_56 fun _ => L ((r_3, phase_4, line_5, most_12, left_13, t_55, (IntKind.wrap .i64 (t_56 + 1)), ()), ((y16.2.1.set t_56.toNat false), y17.2.1, ()), ())))))) (some ((), (o_7, ()), ()))
def L16_16 : Nat → ((Option zTh) × Int × Int × (Int → Option Int) × Int × Int × Int × Unit) × uBc × Unit → Option (((Unit) × uBh × Unit))
  | 0, _ => none
  | n + 1, d => B16_16 n (L16_16 n) d.1.1 d.1.2.1 d.1.2.2.1 d.1.2.2.2.1 d.1.2.2.2.2.1 d.1.2.2.2.2.2.1 d.1.2.2.2.2.2.2.1 d.2.1.1 d.2.1.2.1
def l16_16 : qY := ⟨⟨[(3, .r (.ptr uAf)), (4, .r zI), (5, .r zI), (7, .c (.ptr 7 [])), (8, .c (.fn 36 .nil (.cons (.ptr 7 []) .nil))), (12, .k 40 10 (.fn zI zI)), (13, .v zI), (55, .v zI), (56, .v zI)], [(7, false, .list true 4 .bool), (10, false, .list true 3 zI)], none⟩, [(.exit 4, ⟨[(7, .c (.ptr 7 []))], [(7, false, .list true 4 .bool)], none⟩)], L16_16⟩
def F16 (n : Nat) (r_0 : zTh) (phase_1 : Int) (line_2 : Int) : Option (uBh × (Unit)) :=
  qa (some r_0) fun q1 => leK 0 (q1.1.1.length : Int) (leK (q1.1.1.length : Int) (q1.1.1.length : Int) (jE (q1.1.1.length : Int) (qa (some r_0) fun q4 => qa (L16_6 n (((some r_0), phase_1, line_2, (fun v2 => qa (g37 (v2, (some r_0), line_2, phase_1, ())) fun y3 => some y3.1.1), (q4.1.1.length : Int), 0, ()), ((List.replicate (q1.1.1.length : Int).toNat false), ([] : List Int), ()), ())) fun o5 => qa (g38 ((fun v6 v7 => qa (g39 (v6, v7, o5.1.2.2.2.1, ())) fun y8 => some y8.1.1), ()) o5.2.1.2.1) fun y9 => qa (L16_13 n ((o5.1.1, o5.1.2.1, o5.1.2.2.1, o5.1.2.2.2.1, 0, ()), (o5.2.1.1, y9, ()), ())) fun o13 => qa (L16_16 n ((o13.1.1, o13.1.2.1, o13.1.2.2.1, o13.1.2.2.2.1, o13.1.2.2.2.2.1, (o13.2.1.1.length : Int), 0, ()), (o13.2.1.1, o13.2.1.2.1, ()), ())) fun o20 => some ((o20.2.1.1, ()), ()))))
def g16 (d : zTh × Int × Int × Unit) : Option (uBh × (Unit)) := F16 qc d.1 d.2.1 d.2.2.1
def p16 : qE := ⟨[.r uAf, .v zI, .v zI], [.own 4 .bool], g16⟩
def c16 : qS := ⟨94, tyT, [(7, .list true 4 .bool), (10, .list true 3 zI)], [(37, p37), (39, p39), (40, p40), (25, p10025)], [(6, l16_6), (13, l16_13), (16, l16_16)], [], [], [], [], [], [], [], [(38, m38)], [], none⟩
def l16 : List Code := [qgk (body Tryz.f16), qgk (qbo (body Tryz.f16)), qgk (qbo (qbo (body Tryz.f16)))]
def E16 : Code := (qbo (qbo (qbo (qbo (body Tryz.f16)))))
theorem F16_eq (n : Nat) (d) : absFnV c16 n Tryz.f16 l16 (opC (qgk (qbo (qbo (qbo (body Tryz.f16))))) 0) E16 9 23 (.fn zI zI) [.r uAf, .v zI, .v zI] [.own 4 .bool] d = F16 n d.1 d.2.1 d.2.2.1 := by kernel_rfl
theorem L16_6_eq (n : Nat) (d) : (l16_6).g (n + 1) d = run c16 n (jW 0 (qe (E16))) ((l16_6).ins.fill d) (qN (l16_6) n) := by kernel_rfl
theorem L16_13_eq (n : Nat) (d) : (l16_13).g (n + 1) d = run c16 n (jW 1 (qe (E16))) ((l16_13).ins.fill d) (qN (l16_13) n) := by kernel_rfl
theorem L16_16_eq (n : Nat) (d) : (l16_16).g (n + 1) d = run c16 n (jW 2 (qe (E16))) ((l16_16).ins.fill d) (qN (l16_16) n) := by kernel_rfl
theorem ls16 : qe (E16) = [jW 0 (qe (E16)), jW 1 (qe (E16)), jW 2 (qe (E16))] := by kernel_rfl
theorem dE16 : ql c16 E16 = true := by kernel_rfl
theorem d16 : (l16.all fun c => (qe c).isEmpty && ql c16 c) = true := by kernel_rfl
theorem h16 : qw Tryz.prog 16 p16 := fn_doneV qcL (cfg := c16) (qp qq (qd h37 (qd h39 (qd h40 (qd h10025 qh)))) rfl (by kernel_rfl) (hma := masOne h38)) Tryz.func16 rfl (by kernel_rfl) rfl (linesOK d16) (E := E16) (qam (by rw [ls16]; simp only [List.forall_mem_cons]; exact ⟨qC (key := 6) (li := l16_6) (by kernel_rfl) rfl (fun _ => rfl) (L16_6_eq), qC (key := 13) (li := l16_13) (by kernel_rfl) rfl (fun _ => rfl) (L16_13_eq), qC (key := 16) (li := l16_16) (by kernel_rfl) rfl (fun _ => rfl) (L16_16_eq), fun _ h => by cases h⟩)) dE16 (TF := 92) (fun w => by kernel_rfl) (fun w => by kernel_rfl) (α := .int .i64) (β := .int .i64) (o1 := opC (qgk (qbo (qbo (qbo (body Tryz.f16))))) 0) (i := regI (qgk (qbo (qbo (qbo (body Tryz.f16)))))) (t := 23) (tv := 9) (ty2 := (opC (qgk (qbo (qbo (qbo (body Tryz.f16))))) 1).type) (po2 := (opC (qgk (qbo (qbo (qbo (body Tryz.f16))))) 1).pos) (af2 := (opC (qgk (qbo (qbo (qbo (body Tryz.f16))))) 1).after) (ty3 := (opC (qgk (qbo (qbo (qbo (body Tryz.f16))))) 2).type) (po3 := (opC (qgk (qbo (qbo (qbo (body Tryz.f16))))) 2).pos) (af3 := (opC (qgk (qbo (qbo (qbo (body Tryz.f16))))) 2).after) rfl (by decide) rfl (by kernel_rfl) (fun d y h => ⟨qc, (F16_eq qc d).trans h⟩)
def B25_4 (_n : Nat) (L : (zTh × Int × (Int → Int → Option Bool) × zTp × Int × (List (List uAe)) × Int × Int × Unit) × (Unit) × Unit → Option (zTn)) (r_0 : zTc × uCj) (phase_1 : Int) (full_3 : Int → Int → Option Bool) (l_9 : uAe × uAe) (sum_10 : Int) (t_39 : List (List uAe)) (t_40 : Int) (t_41 : Int) : Option (zTn) :=
  cond (decide (t_41 < t_40)) (qi t_39 t_41 fun e3 => qi e3 phase_1 fun e4 => qa (g24 (l_9, e4, ())) fun y5 => qa (full_3 t_41 y5.1.1) fun y6 => cond y6 (qaF (IntKind.wrap .i64 (sum_10 + (IntKind.wrap .i64 (r_0.1.2.2.2.2.2 * y5.1.1)))) fun z7 => L ((r_0, phase_1, full_3, l_9, z7, t_39, t_40, (IntKind.wrap .i64 (t_41 + 1)), ()), (), ())) (qaF (IntKind.wrap .i64 (sum_10 + (IntKind.wrap .i64 (r_0.1.2.2.2.2.1 * y5.1.1)))) fun z8 => L ((r_0, phase_1, full_3, l_9, z8, t_39, t_40, (IntKind.wrap .i64 (t_41 + 1)), ()), (), ()))) (some ((sum_10, ()), (), ()))
def L25_4 : Nat → (zTh × Int × (Int → Int → Option Bool) × zTp × Int × (List (List uAe)) × Int × Int × Unit) × (Unit) × Unit → Option (zTn)
  | 0, _ => none
  | n + 1, d => B25_4 n (L25_4 n) d.1.1 d.1.2.1 d.1.2.2.1 d.1.2.2.2.1 d.1.2.2.2.2.1 d.1.2.2.2.2.2.1 d.1.2.2.2.2.2.2.1 d.1.2.2.2.2.2.2.2.1
def l25_4 : qY := ⟨⟨[(0, .r uAf), (1, .v zI), (3, .v (.fn2 zI zI .bool)), (9, .r (.str uAq)), (10, .v zI), (39, .v (.list false 37 uAx)), (40, .v zI), (41, .v zI)], [], none⟩, [(.exit 0, ⟨[(10, .v zI)], [], none⟩)], L25_4⟩
def F25 (n : Nat) (r_0 : zTh) (phase_1 : Int) (line_2 : Int) (full_3 : (Int → Int → Option Bool)) : Option uAh :=
  qi r_0.2.1 line_2 fun e1 => qa (g24 (e1, r_0.1.2.2.2.1, ())) fun y2 => qa (L25_4 n ((r_0, phase_1, full_3, e1, (IntKind.wrap .i64 (r_0.1.2.2.1 * y2.1.1)), r_0.1.1, (r_0.1.1.length : Int), 0, ()), (), ())) fun o9 => some ((o9.1.1, ()), ())
def g25 (d : zTh × Int × Int × (Int → Int → Option Bool) × Unit) : Option uAh := F25 qc d.1 d.2.1 d.2.2.1 d.2.2.2.1
def p25 : qE := ⟨[.r uAf, .v zI, .v zI, .v (.fn2 zI zI .bool)], [.v zI], g25⟩
def c25 : qS := ⟨73, tyT, [(9, .str uAq)], [(24, p24)], [(4, l25_4)], [], [2, 6], [], [], [], [], [], [], [], none⟩
theorem F25_eq (n : Nat) (d) : qy c25 n Tryz.f25 (body Tryz.f25) p25.ps p25.rs d = F25 n d.1 d.2.1 d.2.2.1 d.2.2.2.1 := by kernel_rfl
theorem L25_4_eq (n : Nat) (d) : (l25_4).g (n + 1) d = run c25 n (jW 0 (qe (body Tryz.f25))) ((l25_4).ins.fill d) (qN (l25_4) n) := by kernel_rfl
theorem ls25 : qe (body Tryz.f25) = [jW 0 (qe (body Tryz.f25))] := by kernel_rfl
theorem h25 : qw Tryz.prog 25 p25 := hQ (cfg := c25) (qp qq (qd h24 qh) rfl (by kernel_rfl)) Tryz.func25 (by kernel_rfl) (by rw [ls25]; simp only [List.forall_mem_cons]; exact ⟨qC (key := 4) (li := l25_4) (by kernel_rfl) rfl (fun _ => rfl) (L25_4_eq), fun _ h => by cases h⟩) (by kernel_rfl) (F25_eq qc)
def F26 (_n : Nat) (___0 : Int) (arm_1 : Int) : Option uAc :=
  some (((decide (arm_1 < 0)), ()), ())
def g26 (d : Int × Int × Unit) : Option uAc := F26 qc d.1 d.2.1
def p26 : qE := ⟨[.v zI, .v zI], [.v .bool], g26⟩
def c26 : qS := ⟨7, tyT, [], [], [], [], [], [], [], [], [], [], [], [], none⟩
theorem F26_eq (n : Nat) (d) : qy c26 n Tryz.f26 (body Tryz.f26) p26.ps p26.rs d = F26 n d.1 d.2.1 := by kernel_rfl
theorem h26 : qw Tryz.prog 26 p26 := hQ (cfg := c26) (qp qq (qh) rfl (by kernel_rfl)) Tryz.func26 (by kernel_rfl) (qr (by kernel_rfl)) (by kernel_rfl) (F26_eq qc)
namespace Iw
open Go.RowKit Go.Shelf Go.Proofs
attribute [local go_sem] Oper.semAt_some
def intOf : Value → Int
  | .int _ n => n
  | _ => 0
set_option maxRecDepth 100000 in
set_option maxHeartbeats 4000000 in
theorem worst1 (l Rb Ro len cap P : Nat) (sa : Option Addr) (mom : Nat → Nat → Int) (hP : P ≤ 1000000) (hlen : len ≤ 1000000) (J Jx : Nat → World → Prop)
    (e25 : ∀ args w, (callFunc 25 args).run Tryz.prog w = .ok (.enter 25 args) w)
    (hJK : ∀ k U, J k U → U.cell? ⟨Rb, Ro + 9, none⟩ = some (.int .i64 P) ∧ U.cell? ⟨Rb, Ro + 8, none⟩ = some (.slice sa len cap))
    (hM : ∀ (p q : Nat) U, p < P → q < len → J (p * len + q) U → CallsIn Fence.wide 0 Tryz.prog 25 #[.pointer (some ⟨Rb, Ro, none⟩), .int .i64 p, .int .i64 q, .func (.func 26) #[] #[]] U fun e U' => e = .returned (.int .i64 (mom p q)) ∧ J (p * len + q) U')
    (hY : ∀ m (p q : Nat) U, p < P → q < len → J (p * len + q) U → YieldAt Fence.wide m Tryz.prog l #[.agg #[.int .i64 p, .int .i64 q], .int .i64 (mom p q)] U fun e U' => (e = .returned (.bool true) ∧ J (p * len + q + 1) U') ∨ (e = .returned (.bool false) ∧ Jx 0 U'))
    (W : World) (h0 : J 0 W) :
    CallsIn Fence.wide 1 Tryz.prog 15 #[.pointer (some ⟨Rb, Ro, none⟩), .func (.yield l) #[] #[]] W fun e W' => (∃ v, e = .returned v) ∧ (J (P * len) W' ∨ ∃ i, Jx i W') := by
  refine callsIn_of_wp Tryz.func15 rfl trivial ?_ rfl
  simp only [Tryz.ntmps15, List.size_toArray, List.length_cons, List.length_nil, Nat.reduceAdd, Nat.reduceSub, Array.replicate_succ, Array.replicate_zero, List.push_toArray, List.append_toArray, List.nil_append, List.cons_append]
  obtain ⟨hc9, hc8⟩ := hJK 0 W h0
  have hP2 : (P : Int) ≤ 1000000 := by omega
  have hlen2 : (len : Int) ≤ 1000000 := by omega
  gi_wp2
  gi_loopw [10] (fun i wr => ∃ p : Nat, p ≤ P ∧ i = .int .i64 (p : Int) ∧ J (p * len) wr) (fun i _ => ((P : Int) - intOf i).toNat)
  case atStart => exact ⟨0, Nat.zero_le _, rfl, by simpa using h0⟩
  case round =>
    obtain ⟨p, hp, rfl, hJs⟩ := hrel
    obtain ⟨hc9, hc8⟩ := hJK _ _ hJs
    by_cases hlt : p < P
    · have hlt2 : (p : Int) < P := by omega
      gi_wp2
      gi_loopw [18] (fun i w2 => ∃ q : Nat, q ≤ len ∧ i = .int .i64 (q : Int) ∧ J (p * len + q) w2) (fun i _ => ((len : Int) - intOf i).toNat)
      case atStart => exact ⟨0, Nat.zero_le _, rfl, by simpa using hJs⟩
      case round =>
        obtain ⟨q, hq, rfl, hJq⟩ := hrel
        by_cases hlq : q < len
        · have hlq2 : (q : Int) < len := by omega
          gi_wp2
          refine ⟨trivial, (hM p q _ hlt hlq hJq).mono ?_⟩
          rintro e W2 ⟨rfl, hJ2⟩
          obtain ⟨fn, tmps, assign, body, hy, hR⟩ := hY 0 p q _ hlt hlq hJ2
          gi_wp2
          refine hR.mono ?_
          rintro e W3 (⟨rfl, hJ3⟩ | ⟨rfl, hx⟩)
          · gi_wp2
            go_roundw
            case rel => exact ⟨q + 1, by omega, by simp, hJ3⟩
            case measure => simp [intOf]; omega
          · gi_wp2
            refine bodyPost_ret (results_none rfl _ _ _) rfl ?_
            exact ⟨⟨_, rfl⟩, .inr ⟨_, hx⟩⟩
        · obtain rfl : q = len := by omega
          gi_wp2
          go_roundw
          case rel => exact ⟨p + 1, by omega, by simp, by rw [Nat.succ_mul]; exact hJq⟩
          case measure => simp [intOf]; omega
    · obtain rfl : p = P := by omega
      gi_wp2
      go_end0
      exact ⟨⟨_, rfl⟩, .inl hJs⟩
section
open Go.Vi
def tR : Ty := .str (.pair (.str uAa) (.pair uBm zI))
abbrev RigD := zTh
def mapO {α β : Type} (f : α → Option β) : List α → Option (List β)
  | [] => some []
  | x :: xs => qa (f x) fun y => qa (mapO f xs) fun ys => some (y :: ys)
theorem qh9 {α β : Type} {f : α → Option β} : ∀ {l : List α} {r : List β}, mapO f l = some r → r.length = l.length ∧ ∀ (i : Nat) x y, l[i]? = some x → r[i]? = some y → f x = some y
  | [], r, h => by
    cases h
    exact ⟨rfl, fun i x y hx => by simp at hx⟩
  | x :: xs, r, h => by
    simp only [mapO, qo] at h
    obtain ⟨y, hy, h⟩ := Option.bind_eq_some_iff.1 h
    obtain ⟨ys, hys, h⟩ := Option.bind_eq_some_iff.1 h
    cases h
    obtain ⟨h1, h2⟩ := qh9 hys
    refine ⟨by simp [h1], fun i a b ha hb => ?_⟩
    cases i with
    | zero => cases ha; cases hb; exact hy
    | succ i => exact h2 i a b (by simpa using ha) (by simpa using hb)
def outF : Int → Int → Option Bool := fun v3 v4 => qa (g26 (v3, v4, ())) fun y => some y.1.1
def momF (r : RigD) (p q : Nat) : Option Int := qa (g25 (r, (p : Int), (q : Int), outF, ())) fun y => some y.1.1
def momO (r : RigD) (L k : Nat) : Option (List Int × Int) := qa (momF r (k / L) (k % L)) fun m => some ([((k / L : Nat) : Int), ((k % L : Nat) : Int)], m)
def it15 : Iter := ⟨[.r tR], .pair (.arr 2 zI) zI, fun (d : RigD × Unit) => leK 0 d.1.2.2 (leK d.1.2.2 1000000 (leK (d.1.2.1.length : Int) 1000000 (mapO (momO d.1 d.1.2.1.length) (List.range (d.1.2.2.toNat * d.1.2.1.length)))))⟩
theorem qji {c : Array Value} {o n i : Nat} {v : Value} (h : (seg c o n)[i]? = some v) : c[o + i]? = some v := by
  unfold seg at h
  rw [List.getElem?_take] at h
  split at h
  · rw [List.getElem?_drop] at h
    simpa using h
  · cases h
theorem outF_rep (w : World) (H : FH) : qx Tryz.prog (.fn2 zI zI .bool) w H outF [.func (.func 26) #[] #[]] [] := by
  refine ⟨rfl, 26, #[], #[], rfl, h26.1, ?_⟩
  intro x y z hz H' w' cx cy hle hok hx hy
  obtain ⟨rfl, _⟩ := hx
  obtain ⟨rfl, _⟩ := hy
  unfold outF at hz
  rw [qo] at hz
  obtain ⟨u, hu, hz⟩ := Option.bind_eq_some_iff.1 hz
  cases hz
  have hs := h26.2 (x, y, ()) u hu w' H' [.int .i64 x, .int .i64 y] [qH, qH] hok
    ⟨_, _, qH, _, rfl, rfl, rfl, rfl, ⟨[.int .i64 x], rfl, rfl, rfl⟩, _, _, qH, _, rfl, rfl, rfl, rfl, ⟨[.int .i64 y], rfl, rfl, rfl⟩, rfl, rfl⟩ (by simp [qf, qH]) (by simp [qf, qH])
  refine hs.mono ?_
  rintro e w'' ⟨us, H2, Φs', Ψs, rfl, hm, _, _, _, hres, _⟩
  obtain ⟨v, vs', φ, Φs2, rfl, rfl, _, _, ⟨cs, rfl, hc, _⟩, rfl, rfl⟩ := hres
  refine ⟨cs, rfl, hm.mono (fun b hb => by simp [qf, qH] at hb), ⟨hc, rfl⟩⟩
set_option maxRecDepth 100000 in
theorem it15_ok : qeg Tryz.prog (5000000 + 15) it15 := by
  refine ⟨qab Tryz.func15 rfl (by kernel_rfl), rfl, ?_⟩
  rintro ⟨r, ⟨⟩⟩ xs hg w H vs Φs hok ⟨v, vs', φ, Φs', rfl, rfl, hfz, hφ, ⟨Rb, Ro, blk, rfl, hb, hrep⟩, rfl, rfl⟩ _ _
  change RigD at r
  change List (List Int × Int) at xs
  replace hg : leK 0 r.2.2 (leK r.2.2 1000000 (leK (r.2.1.length : Int) 1000000 (mapO (momO r r.2.1.length) (List.range (r.2.2.toNat * r.2.1.length))))) = some xs := hg
  unfold leK at hg
  split at hg
  case isFalse => cases hg
  rename_i h1
  split at hg
  case isFalse => cases hg
  rename_i h2
  split at hg
  case isFalse => cases hg
  rename_i h3
  obtain ⟨hxl, hxs⟩ := qh9 hg
  rw [List.length_range] at hxl
  obtain ⟨P, hP⟩ : ∃ P : Nat, r.2.2 = (P : Int) := ⟨r.2.2.toNat, by omega⟩
  obtain ⟨L, hL⟩ : ∃ L : Nat, r.2.1.length = L := ⟨_, rfl⟩
  have hPn : r.2.2.toNat = P := by omega
  rw [hL] at hxs hxl h3
  rw [hPn] at hxl hxs
  have hxk : ∀ k, k < P * L → ∃ m, momF r (k / L) (k % L) = some m ∧ xs[k]? = some ([((k / L : Nat) : Int), ((k % L : Nat) : Int)], m) := by
    intro k hk
    have hx : xs[k]? = some (xs[k]'(by omega)) := List.getElem?_eq_getElem _
    have h4 := hxs k k _ (by rw [List.getElem?_range hk]) hx
    unfold momO at h4
    rw [qo] at h4
    obtain ⟨m, hm, h4⟩ := Option.bind_eq_some_iff.1 h4
    exact ⟨m, hm, by rw [hx, ← Option.some.inj h4]⟩
  obtain ⟨mom, hmom⟩ : ∃ mom : Nat → Nat → Int, mom = fun p q => (momF r p q).getD 0 := ⟨_, rfl⟩
  have hmm : ∀ p q m, momF r p q = some m → mom p q = m := fun p q m h => by rw [hmom]; simp [h]
  have hdm : ∀ p q, q < L → (p * L + q) / L = p ∧ (p * L + q) % L = q := fun p q hq => ⟨by rw [Nat.mul_comm, Nat.mul_add_div (by omega), Nat.div_eq_of_lt hq, Nat.add_zero], by rw [Nat.mul_comm, Nat.mul_add_mod, Nat.mod_eq_of_lt hq]⟩
  have hlt : ∀ p q, p < P → q < L → p * L + q < P * L := fun p q hp hq => by
    have := Nat.mul_le_mul_right L (show p + 1 ≤ P from hp)
    rw [Nat.succ_mul] at this
    omega
  obtain ⟨tb, fb, hbk⟩ := hok Rb blk hb
  obtain ⟨c8, hc8, cap, sa, hc9⟩ : ∃ c8 : List Value, c8.length = 8 ∧ ∃ cap sa, seg blk Ro tR.size = c8 ++ [.slice sa L cap, .int .i64 P] := by
    obtain ⟨c1, c2, f1, f2, e1, e2, r1, r2⟩ := hrep
    obtain ⟨d1, d2, g1, g2, e3, e4, ⟨_, sa, cap, e5, _⟩, e6, _⟩ := r2
    refine ⟨c1, qx.length _ r1, cap, sa, ?_⟩
    rw [e1, e3, e5, e6, hL, hP]
    rfl
  have hcell : ∀ U : World, U.heap[Rb]? = w.heap[Rb]? → U.cell? ⟨Rb, Ro + 9, none⟩ = some (.int .i64 P) ∧ U.cell? ⟨Rb, Ro + 8, none⟩ = some (.slice sa L cap) := by
    intro U hA
    have hA' := hA.trans hbk
    refine ⟨?_, ?_⟩
    · rw [qQ hA']
      refine qji (n := tR.size) ?_
      rw [hc9, List.getElem?_append_right (by omega), hc8]
      rfl
    · rw [qQ hA']
      refine qji (n := tR.size) ?_
      rw [hc9, List.getElem?_append_right (by omega), hc8]
      rfl
  refine ⟨fun k => [.int .i64 ((k / L : Nat) : Int), .int .i64 ((k % L : Nat) : Int), .int .i64 (mom (k / L) (k % L))], ?_, ?_⟩
  · intro k x hx
    have hx' : xs[k]? = some x := hx
    have hk : k < P * L := by rw [← hxl]; exact (List.getElem?_eq_some_iff.1 hx').1
    obtain ⟨m, hm, hx2⟩ := hxk k hk
    rw [hx'] at hx2
    cases hx2
    refine ⟨[.int .i64 ((k / L : Nat) : Int), .int .i64 ((k % L : Nat) : Int)], [.int .i64 (mom (k / L) (k % L))], [], [], rfl, rfl, ⟨rfl, [.int .i64 ((k / L : Nat) : Int)], [.int .i64 ((k % L : Nat) : Int)], [], [], rfl, rfl, ⟨rfl, rfl⟩, [.int .i64 ((k % L : Nat) : Int)], [], [], [], rfl, rfl, ⟨rfl, rfl⟩, rfl, rfl⟩, ?_, rfl⟩
    rw [hmm _ _ _ hm]
  · change qdH _ _ _ (List.length (α := List Int × Int) xs) _ _ _ _
    rw [hxl]
    intro l J Jx W hW hJ hJx hY h0
    have hHW : ∀ b c, H b = some c → W.heap[b]? = w.heap[b]? := fun b c hbc => by
      obtain ⟨t, f, e⟩ := hok b c hbc
      exact hW.block b (Array.getElem?_eq_some_iff.1 e).1
    refine (callsIn_wide (n := 1)).1 ((worst1 l Rb Ro L cap P sa mom (by omega) (by omega) (fun k U => (∀ b c, H b = some c → U.heap[b]? = w.heap[b]?) ∧ W.heap.size ≤ U.heap.size ∧ ∃ O, J k O U) (fun _ U => ∃ i O, Jx i O U)
      (fun args w' => qeo h25.1 args w') (fun k U hA => hcell U (hA.1 Rb blk hb)) ?_ ?_ W ⟨hHW, Nat.le_refl _, _, h0⟩).mono ?_)
    · rintro p q U hp hq ⟨hH, hsz, O, hJA⟩
      obtain ⟨m, hm, _⟩ := hxk (p * L + q) (hlt p q hp hq)
      rw [(hdm p q hq).1, (hdm p q hq).2] at hm
      have hmpq := hmm _ _ _ hm
      unfold momF at hm
      rw [qo] at hm
      obtain ⟨y, hy, hm⟩ := Option.bind_eq_some_iff.1 hm
      cases hm
      have hokA : HOk H U := fun b c hbc => by
        obtain ⟨t, f, e⟩ := hok b c hbc
        exact ⟨t, f, (hH b c hbc).trans e⟩
      have hs := h25.2 (r, ((p : Int)), ((q : Int)), outF, ()) y hy U H [.pointer (some ⟨Rb, Ro, none⟩), .int .i64 p, .int .i64 q, .func (.func 26) #[] #[]] [qH, qH, qH, qH] hokA
        ⟨_, _, qH, _, rfl, rfl, hfz, rfl, ⟨Rb, Ro, blk, rfl, hb, qx.mono _ (FH.le_refl H) (by simp) hrep⟩, _, _, qH, _, rfl, rfl, rfl, rfl, ⟨[.int .i64 p], rfl, rfl, rfl⟩, _, _, qH, _, rfl, rfl, rfl, rfl, ⟨[.int .i64 q], rfl, rfl, rfl⟩, _, _, qH, _, rfl, rfl, rfl, rfl, ⟨[.func (.func 26) #[] #[]], rfl, outF_rep U H⟩, rfl, rfl⟩ (by simp [qf, qH]) (by simp [qf, qH])
      refine (callsIn_wide (n := 0)).2 (hs.mono ?_)
      rintro e U' ⟨us, H2, Φs', Ψs, rfl, hmod, _, _, _, hres, _⟩
      obtain ⟨v, vs', φ, Φs2, rfl, rfl, _, _, ⟨cs, rfl, hc, _⟩, rfl, rfl⟩ := hres
      have hmod : j9 (fun _ => False) U U' := hmod.mono (fun b hb => by simp [qf, qH] at hb)
      refine ⟨by rw [hmpq, hc]; rfl, fun b c hbc => ?_, Nat.le_trans hsz hmod.size, _, hJ _ O (fun b => O b ∨ (U.heap.size ≤ b ∧ b < U'.heap.size)) U U' hJA ⟨none, ⟨hmod.os, hmod.tape, hmod.output, hmod.size, fun k hk _ => hmod.block k hk (fun h => h)⟩, fun r hr => (by cases hr), fun b => Iff.rfl⟩⟩
      obtain ⟨t, f, e⟩ := hokA b c hbc
      exact (hmod.block b (Array.getElem?_eq_some_iff.1 e).1 (fun h => h)).trans (hH b c hbc)
    · rintro m p q U hp hq ⟨hH, hsz, O, hJA⟩
      obtain ⟨fn, tmps, assign, body, hy, hR⟩ := hY m (p * L + q) O U (hlt p q hp hq) hJA
      refine ⟨fn, tmps, assign, body, ?_, hR.mono ?_⟩
      · simp only [(hdm p q hq).1, (hdm p q hq).2] at hy
        exact hy
      · rintro e U' ⟨hk, ⟨rfl, hJ2, hkH, _⟩ | ⟨rfl, hx⟩⟩
        · exact .inl ⟨rfl, fun b c hbc => (hkH b c hbc).trans (hH b c hbc), Nat.le_trans hsz hk.size, O, hJ2⟩
        · exact .inr ⟨rfl, _, _, hx⟩
    · rintro e U ⟨he, ⟨_, _, O, hJA⟩ | ⟨_, i, O, hx⟩⟩
      · exact ⟨he, .inl ⟨O, hJA⟩⟩
      · exact ⟨he, .inr ⟨i, O, hx⟩⟩
end
end Iw
def Q7_5 (_n : Nat) (L : ((List Bool) × Int × Int × Bool × Int × (Option zTh) × Unit) → Option (X × uBn)) (t_20 : uCp) (loading_2 : (List Bool)) (phase_3 : Int) (line_4 : Int) (found_5 : Bool) (e_6 : Int) (x_7 : (Option zTh)) : Option (X × uBn) :=
  cond (decide (t_20.2 < 0)) (qa (qi t_20.1 0 fun e2 => qi t_20.1 1 fun e3 => qi t_20.1 0 fun e4 => qi t_20.1 1 fun e5 => qa x_7 fun q6 => qa (g16 (q6, e2, e3, ())) fun y7 => some ((), (y7.1.1, e4, e5, true, 0, ()), ())) fun d8 => some (.ret, (d8.2.1.1, d8.2.1.2.1, d8.2.1.2.2.1, d8.2.1.2.2.2.1, d8.2.1.2.2.2.2.1, ()))) (L (loading_2, phase_3, line_4, found_5, e_6, x_7, ()))
def R7_5 (n : Nat) : List uCp → ((List Bool) × Int × Int × Bool × Int × (Option zTh) × Unit) → Option (X × uBn)
  | [], d => some (.norm, (d.1, d.2.1, d.2.2.1, d.2.2.2.1, d.2.2.2.2.1, ()))
  | x :: r, d => Q7_5 n (R7_5 n r) x d.1 d.2.1 d.2.2.1 d.2.2.2.1 d.2.2.2.2.1 d.2.2.2.2.2.1
def r7_5 : qcj := ⟨.pair (.arr 2 zI) zI, [2, 3, 4, 5, 6, 7], [.m (.list false 4 .bool), .m zI, .m zI, .m .bool, .m zI, .r (.ptr uAf)], [.norm, .ret], R7_5⟩
def F7 (n : Nat) (r_0 : zTc) : Option (uBn × (Unit)) :=
  qa (g14 (r_0, ())) fun y1 => cond (!y1.1.2.1) (some (([], 0, 0, false, 33, ()), ())) (qa y1.1.1 fun q9 => qa (Iw.it15.g (q9, ())) fun l11 => qa (R7_5 n l11 (([] : List Bool), (0 : Int), (0 : Int), false, (0 : Int), y1.1.1, ())) fun o10 => cond (X.same .norm o10.1) (some (([], 0, 0, false, 0, ()), ())) (cond (X.same .ret o10.1) (some ((o10.2.1, o10.2.2.1, o10.2.2.2.1, o10.2.2.2.2.1, o10.2.2.2.2.2.1, ()), ())) (none)))
def g7 (d : zTc × Unit) : Option (uBn × (Unit)) := F7 qc d.1
def p7 : qE := ⟨[.v (.str uAa)], [.v (.list false 4 .bool), .v zI, .v zI, .v .bool, .v zI], g7⟩
def c7 : qS := ⟨34, tyT, [(9, .arr 2 zI)], [(14, p14), (16, p16)], [], [], [8], [(5000015, Iw.it15)], [(5, r7_5)], [], [], [], [], [(8, ⟨[], [(10000000, false, .list false 4 .bool), (10000001, false, .int .i64), (10000002, false, .int .i64), (10000003, false, .bool), (10000004, false, .int .i64)], none⟩)], none⟩
theorem F7_eq (n : Nat) (d) : qy c7 n Tryz.f7 (body Tryz.f7) p7.ps p7.rs d = F7 n d.1 := by kernel_rfl
theorem R7_5_eq (n : Nat) (x r d) : (r7_5).g n (x :: r) d = run c7 n (asR (jW 0 (jI (body Tryz.f7)))) (qdB r7_5 [20, 21] d x) (qeW (qga c7 r7_5 n (bdR (jW 0 (jI (body Tryz.f7)))) r d) qhk) := by kernel_rfl
theorem rs7 : jI (body Tryz.f7) = [jW 0 (jI (body Tryz.f7))] := by kernel_rfl
theorem d7 : qcb c7 (body Tryz.f7) = true := by kernel_rfl
theorem h7 : qw Tryz.prog 7 p7 := qd5 qcL (cfg := c7) (qp qq (qd h14 (qd h16 qh)) rfl (by kernel_rfl)) (qg5 Iw.it15_ok qjO) Tryz.func7 rfl rfl (by kernel_rfl) rfl (qr (by kernel_rfl)) (by rw [rs7]; simp only [List.forall_mem_cons]; exact ⟨qdZ (key := 5) (li := r7_5) (pl := [20, 21]) (by kernel_rfl) rfl (by kernel_rfl) (by kernel_rfl) (qr (by kernel_rfl)) (fun _ _ => rfl) R7_5_eq, fun _ h => by cases h⟩) d7 (fun d y h => ⟨qc, (F7_eq qc d).trans h⟩)
def B8_5 (_n : Nat) (L : (zTc × Int × Unit) × (zTc × zTc × Unit) × Unit → Option uCq) (r_1 : (List (List uAe)) × uBe) (i_4 : Int) (o_2 : (List (List uAe)) × uBe) (o_3 : (List (List uAe)) × uBe) : Option uCq :=
  cond (decide (i_4 < (r_1.1.length : Int))) (qhl (fun (e2 : List uAe) => L ((r_1, (IntKind.wrap .i64 (i_4 + 1)), ()), (o_2, ((o_3.1 ++ [(([] : List uAe) ++ e2)]), o_3.2), ()), ())) fun E => qi r_1.1 i_4 fun e2 => jC [jE ((([] : List uAe).length : Int) + e2.length) (jE ((o_3.1.length : Int) + [(([] : List uAe) ++ e2)].length) (E e2)), jC [jE ((([] : List uAe).length : Int) + e2.length) (jE ((o_3.1.length : Int) + [(([] : List uAe) ++ e2)].length) (E e2)), jE ((([] : List uAe).length : Int) + e2.length) (jC [jE ((o_3.1.length : Int) + [(([] : List uAe) ++ e2)].length) (E e2), jE ((o_3.1.length : Int) + [(([] : List uAe) ++ e2)].length) (E e2)])]]) (some ((), (o_2, o_3, ()), ()))
def L8_5 : Nat → (zTc × Int × Unit) × (zTc × zTc × Unit) × Unit → Option uCq
  | 0, _ => none
  | n + 1, d => B8_5 n (L8_5 n) d.1.1 d.1.2.1 d.2.1.1 d.2.1.2.1
def l8_5 : qY := ⟨⟨[(1, .r (.str uAa)), (2, .c (.ptr 2 [])), (3, .c (.ptr 3 [])), (4, .v zI)], [(2, false, .str uAa), (3, false, .str (.pair (.list true 37 uAx) uCo))], none⟩, [(.exit 0, ⟨[(2, .c (.ptr 2 [])), (3, .c (.ptr 3 []))], [(2, false, .str uAa), (3, false, .str (.pair (.list true 37 uAx) uCo))], none⟩)], L8_5⟩
def F8 (n : Nat) (r_0 : zTc) : Option ((zTc × Unit) × (Unit)) :=
  jE ((([] : List uAe).length : Int) + r_0.2.1.length) (qaF (([] : List (List uAe)), (r_0.1, ((([] : List uAe) ++ r_0.2.1), r_0.2.2)).2) fun z1 => qa (L8_5 n ((r_0, 0, ()), ((([] : List (List uAe)), (([] : List uAe), ((0 : Int), (((0 : Int), ((0 : Int), (0 : Int))), ((0 : Int), (0 : Int)))))), z1, ()), ())) fun o3 => some ((o3.2.1.2.1, ()), ()))
def g8 (d : zTc × Unit) : Option ((zTc × Unit) × (Unit)) := F8 qc d.1
def p8 : qE := ⟨[.v (.str uAa)], [.v (.str uAa)], g8⟩
def c8 : qS := ⟨32, tyT, [(1, .str uAa), (6, .list true 39 (.str zTa)), (9, .list true 39 (.str zTa)), (21, .list true 39 (.str zTa)), (27, .list true 39 (.str zTa))], [], [(5, l8_5)], [], [7, 6000011, 8000031], [], [], [], [], [], [], [], none⟩
theorem F8_eq (n : Nat) (d) : qy c8 n Tryz.f8 (body Tryz.f8) p8.ps p8.rs d = F8 n d.1 := by kernel_rfl
theorem L8_5_eq (n : Nat) (d) : (l8_5).g (n + 1) d = run c8 n (jW 0 (qe (body Tryz.f8))) ((l8_5).ins.fill d) (qN (l8_5) n) := by kernel_rfl
theorem ls8 : qe (body Tryz.f8) = [jW 0 (qe (body Tryz.f8))] := by kernel_rfl
theorem d8 : ql c8 (body Tryz.f8) = true := by kernel_rfl
theorem h8 : qw Tryz.prog 8 p8 := hQ (cfg := c8) (qp qq (qh) rfl (by kernel_rfl)) Tryz.func8 (by kernel_rfl) (by rw [ls8]; simp only [List.forall_mem_cons]; exact ⟨qC (key := 5) (li := l8_5) (by kernel_rfl) rfl (fun _ => rfl) (L8_5_eq), fun _ h => by cases h⟩) d8 (F8_eq qc)
def F42 (_n : Nat) (n_0 : Int) (low_1 : Int) (high_2 : Int) : Option uAc :=
  cond (decide (n_0 ≥ low_1)) (some (((decide (n_0 ≤ high_2)), ()), ())) (some ((false, ()), ()))
def g42 (d : Int × Int × Int × Unit) : Option uAc := F42 qc d.1 d.2.1 d.2.2.1
def p42 : qE := ⟨[.v zI, .v zI, .v zI], [.v .bool], g42⟩
def c42 : qS := ⟨15, tyT, [], [], [], [], [], [], [], [], [], [], [], [], none⟩
theorem F42_eq (n : Nat) (d) : qy c42 n Tryz.f42 (body Tryz.f42) p42.ps p42.rs d = F42 n d.1 d.2.1 d.2.2.1 := by kernel_rfl
theorem h42 : qw Tryz.prog 42 p42 := hQ (cfg := c42) (qp qq (qh) rfl (by kernel_rfl)) Tryz.func42 (by kernel_rfl) (qr (by kernel_rfl)) (by kernel_rfl) (F42_eq qc)
def B41_4 (_n : Nat) (L : (Int × Unit) × (uAw × Unit) × Unit → Option (zTn ⊕ uAg)) (i_3 : Int) (o_1 : (List zTo) × Int) : Option (zTn ⊕ uAg) :=
  cond (decide (i_3 < (o_1.1.length : Int))) (qi o_1.1 i_3 fun e2 => qa (g42 (e2.1, 1, 40, ())) fun y3 => cond (!y3.1.1) (some (.inl ((70, ()), (), ()))) (qa (g42 (e2.2.1, 0, 100, ())) fun y4 => cond (!y4.1.1) (some (.inl ((70, ()), (), ()))) (qa (g42 (e2.2.2.1, 1, 100, ())) fun y5 => cond (!y5.1.1) (some (.inl ((70, ()), (), ()))) (qa (g42 (e2.2.2.2.1, 0, 100, ())) fun y6 => cond (!y6.1.1) (some (.inl ((70, ()), (), ()))) (L (((IntKind.wrap .i64 (i_3 + 1)), ()), (o_1, ()), ())))))) (some (.inr ((), (), ())))
def L41_4 : Nat → (Int × Unit) × (uAw × Unit) × Unit → Option (zTn ⊕ uAg)
  | 0, _ => none
  | n + 1, d => B41_4 n (L41_4 n) d.1.1 d.2.1.1
def l41_4 : qY := ⟨⟨[(1, .c (.ptr 1 [])), (3, .v zI)], [(1, false, .str zTe)], none⟩, [(.ret, ⟨[(2, .v zI)], [], none⟩), (.exit 0, ⟨[], [], none⟩)], L41_4⟩
def F41 (n : Nat) (f_0 : uAw) : Option uAh :=
  cond (decide ((f_0.1.length : Int) > 8)) (some ((70, ()), ())) (qa (g42 (f_0.2, 0, 100, ())) fun y1 => cond (!y1.1.1) (some ((70, ()), ())) (qa (L41_4 n ((0, ()), (f_0, ()), ())) fun o7 => qbd o7 (fun d8 => some ((d8.1.1, ()), ())) (fun _ => some ((0, ()), ()))))
def g41 (d : uAw × Unit) : Option uAh := F41 qc d.1
def p41 : qE := ⟨[.v (.str zTe)], [.v zI], g41⟩
def c41 : qS := ⟨49, tyT, [], [(42, p42)], [(4, l41_4)], [], [], [], [], [], [], [], [], [], none⟩
theorem F41_eq (n : Nat) (d) : qy c41 n Tryz.f41 (body Tryz.f41) p41.ps p41.rs d = F41 n d.1 := by kernel_rfl
theorem L41_4_eq (n : Nat) (d) : (l41_4).g (n + 1) d = run c41 n (jW 0 (qe (body Tryz.f41))) ((l41_4).ins.fill d) (qN (l41_4) n) := by kernel_rfl
theorem ls41 : qe (body Tryz.f41) = [jW 0 (qe (body Tryz.f41))] := by kernel_rfl
theorem h41 : qw Tryz.prog 41 p41 := hQ (cfg := c41) (qp qq (qd h42 qh) rfl (by kernel_rfl)) Tryz.func41 (by kernel_rfl) (by rw [ls41]; simp only [List.forall_mem_cons]; exact ⟨qC (key := 4) (li := l41_4) (by kernel_rfl) rfl (fun _ => rfl) (L41_4_eq), fun _ h => by cases h⟩) (by kernel_rfl) (F41_eq qc)
def B17_13 (_n : Nat) (L : ((List zTq) × Int × Int × Unit) × (uAw × zTq × Unit) × Unit → Option (zTn ⊕ uCg)) (l_1 : List zTq) (i_6 : Int) (k_8 : Int) (o_2 : (List zTo) × Int) (o_7 : Int × (Int × (Int × uCp))) : Option (zTn ⊕ uCg) :=
  cond (decide (k_8 < (o_7.2.2.2.1.length : Int))) (qi o_7.2.2.2.1 k_8 fun e7 => qa (g42 (e7, 0, (IntKind.wrap .i64 ((o_2.1.length : Int) - 1)), ())) fun y8 => cond (!y8.1.1) (some (.inl ((71, ()), (), ()))) (L ((l_1, i_6, (IntKind.wrap .i64 (k_8 + 1)), ()), (o_2, o_7, ()), ()))) (some (.inr ((l_1, i_6, ()), (o_2, ()), ())))
def L17_13 : Nat → ((List zTq) × Int × Int × Unit) × (uAw × zTq × Unit) × Unit → Option (zTn ⊕ uCg)
  | 0, _ => none
  | n + 1, d => B17_13 n (L17_13 n) d.1.1 d.1.2.1 d.1.2.2.1 d.2.1.1 d.2.1.2.1
def l17_13 : qY := ⟨⟨[(1, .v uBr), (2, .c (.ptr 2 [])), (6, .v zI), (7, .c (.ptr 7 [])), (8, .v zI)], [(2, false, .str zTe), (7, false, .str zTk)], none⟩, [(.ret, ⟨[(4, .v zI)], [], none⟩), (.exit 2, ⟨[(1, .v uBr), (2, .c (.ptr 2 [])), (6, .v zI)], [(2, false, .str zTe)], none⟩)], L17_13⟩
def B17_7 (n : Nat) (L : ((List zTq) × Int × Unit) × (uAw × Unit) × Unit → Option (zTn ⊕ uAg)) (l_1 : List zTq) (i_6 : Int) (o_2 : (List zTo) × Int) : Option (zTn ⊕ uAg) :=
  cond (decide (i_6 < (l_1.length : Int))) (qi l_1 i_6 fun e2 => qa (g42 (e2.1, 0, 2000, ())) fun y3 => cond (!y3.1.1) (some (.inl ((71, ()), (), ()))) (qa (g42 (e2.2.1, 1, 40, ())) fun y4 => cond (!y4.1.1) (some (.inl ((71, ()), (), ()))) (qa (g42 (e2.2.2.1, 0, 10000, ())) fun y5 => cond (!y5.1.1) (some (.inl ((71, ()), (), ()))) (cond (decide ((e2.2.2.2.1.length : Int) > 10)) (some (.inl ((71, ()), (), ()))) (qa (g42 (e2.2.2.2.2, 0, 2000, ())) fun y6 => cond (!y6.1.1) (some (.inl ((71, ()), (), ()))) (qa (L17_13 n ((l_1, i_6, 0, ()), (o_2, e2, ()), ())) fun o9 => qbd o9 (fun d10 => some (.inl ((d10.1.1, ()), (), ()))) (fun d11 => L ((d11.1.1, (IntKind.wrap .i64 (d11.1.2.1 + 1)), ()), (d11.2.1.1, ()), ())))))))) (some (.inr ((), (), ())))
def L17_7 : Nat → ((List zTq) × Int × Unit) × (uAw × Unit) × Unit → Option (zTn ⊕ uAg)
  | 0, _ => none
  | n + 1, d => B17_7 n (L17_7 n) d.1.1 d.1.2.1 d.2.1.1
def l17_7 : qY := ⟨⟨[(1, .v uBr), (2, .c (.ptr 2 [])), (6, .v zI)], [(2, false, .str zTe)], none⟩, [(.ret, ⟨[(4, .v zI)], [], none⟩), (.exit 0, ⟨[], [], none⟩)], L17_7⟩
def F17 (n : Nat) (f_0 : uAw) (l_1 : (List zTq)) : Option uAh :=
  qa (g41 (f_0, ())) fun y1 => cond (y1.1.1 != 0) (some ((y1.1.1, ()), ())) (cond (decide ((l_1.length : Int) > 60)) (some ((71, ()), ())) (qa (L17_7 n ((l_1, 0, ()), (f_0, ()), ())) fun o12 => qbd o12 (fun d13 => some ((d13.1.1, ()), ())) (fun _ => some ((0, ()), ()))))
def g17 (d : uAw × (List zTq) × Unit) : Option uAh := F17 qc d.1 d.2.1
def p17 : qE := ⟨[.v (.str zTe), .v uBr], [.v zI], g17⟩
def c17 : qS := ⟨73, tyT, [], [(41, p41), (42, p42)], [(13, l17_13), (7, l17_7)], [], [], [], [], [], [], [], [], [], none⟩
theorem F17_eq (n : Nat) (d) : qy c17 n Tryz.f17 (body Tryz.f17) p17.ps p17.rs d = F17 n d.1 d.2.1 := by kernel_rfl
theorem L17_7_eq (n : Nat) (d) : (l17_7).g (n + 1) d = run c17 n (jW 0 (qe (body Tryz.f17))) ((l17_7).ins.fill d) (qN (l17_7) n) := by kernel_rfl
theorem L17_13_eq (n : Nat) (d) : (l17_13).g (n + 1) d = run c17 n (jW 1 (qe (body Tryz.f17))) ((l17_13).ins.fill d) (qN (l17_13) n) := by kernel_rfl
theorem ls17 : qe (body Tryz.f17) = [jW 0 (qe (body Tryz.f17)), jW 1 (qe (body Tryz.f17))] := by kernel_rfl
theorem h17 : qw Tryz.prog 17 p17 := hQ (cfg := c17) (qp qq (qd h41 (qd h42 qh)) rfl (by kernel_rfl)) Tryz.func17 (by kernel_rfl) (by rw [ls17]; simp only [List.forall_mem_cons]; exact ⟨qC (key := 7) (li := l17_7) (by kernel_rfl) rfl (fun _ => rfl) (L17_7_eq), qC (key := 13) (li := l17_13) (by kernel_rfl) rfl (fun _ => rfl) (L17_13_eq), fun _ h => by cases h⟩) (by kernel_rfl) (F17_eq qc)
def F59 (_n : Nat) (n_0 : Int) (low_1 : Int) (high_2 : Int) : Option uAc :=
  cond (decide (n_0 ≥ low_1)) (some (((decide (n_0 ≤ high_2)), ()), ())) (some ((false, ()), ()))
def g59 (d : Int × Int × Int × Unit) : Option uAc := F59 qc d.1 d.2.1 d.2.2.1
def p59 : qE := ⟨[.v zI, .v zI, .v zI], [.v .bool], g59⟩
def c59 : qS := ⟨15, tyT, [], [], [], [], [], [], [], [], [], [], [], [], none⟩
theorem F59_eq (n : Nat) (d) : qy c59 n Tryz.f59 (body Tryz.f59) p59.ps p59.rs d = F59 n d.1 d.2.1 d.2.2.1 := by kernel_rfl
theorem h59 : qw Tryz.prog 59 p59 := hQ (cfg := c59) (qp qq (qh) rfl (by kernel_rfl)) Tryz.func59 (by kernel_rfl) (qr (by kernel_rfl)) (by kernel_rfl) (F59_eq qc)
def B43_4 (_n : Nat) (L : (Int × Unit) × (zTd × Unit) × Unit → Option (zTn ⊕ uBz)) (i_3 : Int) (o_1 : (List uAi) × uBt) : Option (zTn ⊕ uBz) :=
  cond (decide (i_3 < (o_1.1.length : Int))) (qi o_1.1 i_3 fun e1 => qa (g59 (e1.1, 0, (IntKind.wrap .i64 ((o_1.2.2.length : Int) - 1)), ())) fun y2 => cond (!y2.1.1) (some (.inl ((100, ()), (), ()))) (qa (g59 (e1.2.1, 1, 10000, ())) fun y3 => cond (!y3.1.1) (some (.inl ((100, ()), (), ()))) (qa (g59 (e1.2.2.1, 0, 9, ())) fun y4 => cond (!y4.1.1) (some (.inl ((100, ()), (), ()))) (L (((IntKind.wrap .i64 (i_3 + 1)), ()), (o_1, ()), ()))))) (some (.inr ((), (o_1, ()), ())))
def L43_4 : Nat → (Int × Unit) × (zTd × Unit) × Unit → Option (zTn ⊕ uBz)
  | 0, _ => none
  | n + 1, d => B43_4 n (L43_4 n) d.1.1 d.2.1.1
def l43_4 : qY := ⟨⟨[(1, .c (.ptr 1 [])), (3, .v zI)], [(1, false, .str zTb)], none⟩, [(.ret, ⟨[(2, .v zI)], [], none⟩), (.exit 0, ⟨[(1, .c (.ptr 1 []))], [(1, false, .str zTb)], none⟩)], L43_4⟩
def B43_10 (_n : Nat) (L : (Int × Unit) × (zTd × Unit) × Unit → Option (zTn ⊕ uBz)) (i_5 : Int) (o_1 : (List uAi) × uBt) : Option (zTn ⊕ uBz) :=
  cond (decide (i_5 < (o_1.2.1.length : Int))) (qi o_1.2.1 i_5 fun e8 => qa (g59 (e8, 0, 9, ())) fun y9 => cond (!y9.1.1) (some (.inl ((100, ()), (), ()))) (L (((IntKind.wrap .i64 (i_5 + 1)), ()), (o_1, ()), ()))) (some (.inr ((), (o_1, ()), ())))
def L43_10 : Nat → (Int × Unit) × (zTd × Unit) × Unit → Option (zTn ⊕ uBz)
  | 0, _ => none
  | n + 1, d => B43_10 n (L43_10 n) d.1.1 d.2.1.1
def l43_10 : qY := ⟨⟨[(1, .c (.ptr 1 [])), (5, .v zI)], [(1, false, .str zTb)], none⟩, [(.ret, ⟨[(2, .v zI)], [], none⟩), (.exit 2, ⟨[(1, .c (.ptr 1 []))], [(1, false, .str zTb)], none⟩)], L43_10⟩
def B43_15 (_n : Nat) (L : (Int × Unit) × (zTd × Unit) × Unit → Option (zTn ⊕ uAg)) (i_6 : Int) (o_1 : (List uAi) × uBt) : Option (zTn ⊕ uAg) :=
  cond (decide (i_6 < (o_1.2.2.length : Int))) (qi o_1.2.2 i_6 fun e13 => qa (g59 (e13, 0, 10000, ())) fun y14 => cond (!y14.1.1) (some (.inl ((100, ()), (), ()))) (L (((IntKind.wrap .i64 (i_6 + 1)), ()), (o_1, ()), ()))) (some (.inr ((), (), ())))
def L43_15 : Nat → (Int × Unit) × (zTd × Unit) × Unit → Option (zTn ⊕ uAg)
  | 0, _ => none
  | n + 1, d => B43_15 n (L43_15 n) d.1.1 d.2.1.1
def l43_15 : qY := ⟨⟨[(1, .c (.ptr 1 [])), (6, .v zI)], [(1, false, .str zTb)], none⟩, [(.ret, ⟨[(2, .v zI)], [], none⟩), (.exit 4, ⟨[], [], none⟩)], L43_15⟩
def F43 (n : Nat) (b_0 : zTd) : Option uAh :=
  cond (decide ((b_0.1.length : Int) > 20)) (some ((100, ()), ())) (cond (decide ((b_0.2.1.length : Int) > 8)) (some ((100, ()), ())) (cond (decide ((b_0.2.2.length : Int) > 10)) (some ((100, ()), ())) (qa (L43_4 n ((0, ()), (b_0, ()), ())) fun o5 => qbd o5 (fun d6 => some ((d6.1.1, ()), ())) (fun d7 => qa (L43_10 n ((0, ()), (d7.2.1.1, ()), ())) fun o10 => qbd o10 (fun d11 => some ((d11.1.1, ()), ())) (fun d12 => qa (L43_15 n ((0, ()), (d12.2.1.1, ()), ())) fun o15 => qbd o15 (fun d16 => some ((d16.1.1, ()), ())) (fun _ => some ((0, ()), ())))))))
def g43 (d : zTd × Unit) : Option uAh := F43 qc d.1
def p43 : qE := ⟨[.v (.str zTb)], [.v zI], g43⟩
def c43 : qS := ⟨83, tyT, [], [(59, p59)], [(4, l43_4), (10, l43_10), (15, l43_15)], [], [], [], [], [], [], [], [], [], none⟩
theorem F43_eq (n : Nat) (d) : qy c43 n Tryz.f43 (body Tryz.f43) p43.ps p43.rs d = F43 n d.1 := by kernel_rfl
theorem L43_4_eq (n : Nat) (d) : (l43_4).g (n + 1) d = run c43 n (jW 0 (qe (body Tryz.f43))) ((l43_4).ins.fill d) (qN (l43_4) n) := by kernel_rfl
theorem L43_10_eq (n : Nat) (d) : (l43_10).g (n + 1) d = run c43 n (jW 1 (qe (body Tryz.f43))) ((l43_10).ins.fill d) (qN (l43_10) n) := by kernel_rfl
theorem L43_15_eq (n : Nat) (d) : (l43_15).g (n + 1) d = run c43 n (jW 2 (qe (body Tryz.f43))) ((l43_15).ins.fill d) (qN (l43_15) n) := by kernel_rfl
theorem ls43 : qe (body Tryz.f43) = [jW 0 (qe (body Tryz.f43)), jW 1 (qe (body Tryz.f43)), jW 2 (qe (body Tryz.f43))] := by kernel_rfl
theorem h43 : qw Tryz.prog 43 p43 := hQ (cfg := c43) (qp qq (qd h59 qh) rfl (by kernel_rfl)) Tryz.func43 (by kernel_rfl) (by rw [ls43]; simp only [List.forall_mem_cons]; exact ⟨qC (key := 4) (li := l43_4) (by kernel_rfl) rfl (fun _ => rfl) (L43_4_eq), qC (key := 10) (li := l43_10) (by kernel_rfl) rfl (fun _ => rfl) (L43_10_eq), qC (key := 15) (li := l43_15) (by kernel_rfl) rfl (fun _ => rfl) (L43_15_eq), fun _ h => by cases h⟩) (by kernel_rfl) (F43_eq qc)
def F60 (_n : Nat) (b_0 : zTd) (rule_1 : Int) (first_2 : Int) (second_3 : Int) : Option uAc :=
  qi b_0.1 rule_1 fun e1 => qa (g59 (first_2, 0, (IntKind.wrap .i64 ((b_0.2.1.length : Int) - 1)), ())) fun y2 => cond (!y2.1.1) (some ((false, ()), ())) (qi b_0.2.1 first_2 fun e3 => cond (decide (e3 < e1.2.2.1)) (some ((false, ()), ())) (cond (!e1.2.2.2) (some (((second_3 == (-1)), ()), ())) (qa (g59 (second_3, 0, (IntKind.wrap .i64 ((b_0.2.1.length : Int) - 1)), ())) fun y4 => cond y4.1.1 (cond (second_3 != first_2) (qi b_0.2.1 second_3 fun e5 => some (((decide (e5 ≥ e1.2.2.1)), ()), ())) (some ((false, ()), ()))) (some ((false, ()), ())))))
def g60 (d : zTd × Int × Int × Int × Unit) : Option uAc := F60 qc d.1 d.2.1 d.2.2.1 d.2.2.2.1
def p60 : qE := ⟨[.v (.str zTb), .v zI, .v zI, .v zI], [.v .bool], g60⟩
def c60 : qS := ⟨58, tyT, [], [(59, p59)], [], [], [], [], [], [], [], [], [], [], none⟩
theorem F60_eq (n : Nat) (d) : qy c60 n Tryz.f60 (body Tryz.f60) p60.ps p60.rs d = F60 n d.1 d.2.1 d.2.2.1 d.2.2.2.1 := by kernel_rfl
theorem h60 : qw Tryz.prog 60 p60 := hQ (cfg := c60) (qp qq (qd h59 qh) rfl (by kernel_rfl)) Tryz.func60 (by kernel_rfl) (qr (by kernel_rfl)) (by kernel_rfl) (F60_eq qc)
def B61_4 (_n : Nat) (L : uBw × (Unit) × Unit → Option (uAs ⊕ uAg)) (l_0 : List zTg) (n_1 : Int) (i_5 : Int) : Option (uAs ⊕ uAg) :=
  cond (decide (i_5 < (l_0.length : Int))) (qi l_0 i_5 fun e3 => cond (e3.2.1 == 3) (qi l_0 i_5 fun e4 => cond (e4.2.2.1 == n_1) (some (.inl ((false, ()), (), ()))) (L ((l_0, n_1, (IntKind.wrap .i64 (i_5 + 1)), ()), (), ()))) (L ((l_0, n_1, (IntKind.wrap .i64 (i_5 + 1)), ()), (), ()))) (some (.inr ((), (), ())))
def L61_4 : Nat → uBw × (Unit) × Unit → Option (uAs ⊕ uAg)
  | 0, _ => none
  | n + 1, d => B61_4 n (L61_4 n) d.1.1 d.1.2.1 d.1.2.2.1
def l61_4 : qY := ⟨⟨[(0, .v uAd), (1, .v zI), (5, .v zI)], [], none⟩, [(.ret, ⟨[(4, .v .bool)], [], none⟩), (.exit 0, ⟨[], [], none⟩)], L61_4⟩
def F61 (n : Nat) (l_0 : (List zTg)) (n_1 : Int) : Option uAc :=
  qa (g59 (n_1, 0, (IntKind.wrap .i64 ((l_0.length : Int) - 1)), ())) fun y1 => cond (!y1.1.1) (some ((false, ()), ())) (qi l_0 n_1 fun e2 => cond (e2.2.1 != 2) (some ((false, ()), ())) (qa (L61_4 n ((l_0, n_1, 0, ()), (), ())) fun o5 => qbd o5 (fun d6 => some ((d6.1.1, ()), ())) (fun _ => some ((true, ()), ()))))
def g61 (d : (List zTg) × Int × Unit) : Option uAc := F61 qc d.1 d.2.1
def p61 : qE := ⟨[.v uAd, .v zI], [.v .bool], g61⟩
def c61 : qS := ⟨41, tyT, [], [(59, p59)], [(4, l61_4)], [], [], [], [], [], [], [], [], [], none⟩
theorem F61_eq (n : Nat) (d) : qy c61 n Tryz.f61 (body Tryz.f61) p61.ps p61.rs d = F61 n d.1 d.2.1 := by kernel_rfl
theorem L61_4_eq (n : Nat) (d) : (l61_4).g (n + 1) d = run c61 n (jW 0 (qe (body Tryz.f61))) ((l61_4).ins.fill d) (qN (l61_4) n) := by kernel_rfl
theorem ls61 : qe (body Tryz.f61) = [jW 0 (qe (body Tryz.f61))] := by kernel_rfl
theorem h61 : qw Tryz.prog 61 p61 := hQ (cfg := c61) (qp qq (qd h59 qh) rfl (by kernel_rfl)) Tryz.func61 (by kernel_rfl) (by rw [ls61]; simp only [List.forall_mem_cons]; exact ⟨qC (key := 4) (li := l61_4) (by kernel_rfl) rfl (fun _ => rfl) (L61_4_eq), fun _ h => by cases h⟩) (by kernel_rfl) (F61_eq qc)
def F44 (_n : Nat) (b_0 : zTd) (before_1 : (List zTg)) (x_2 : zTg) : Option uAc :=
  cond (decide ((before_1.length : Int) > 0)) (qi before_1 (IntKind.wrap .i64 ((before_1.length : Int) - 1)) fun e1 => qa (g59 (x_2.1, e1.1, 10000, ())) fun y2 => cond (!y2.1.1) (some ((false, ()), ())) (qa (g59 (x_2.2.2.1, 0, (IntKind.wrap .i64 ((b_0.2.2.length : Int) - 1)), ())) fun y3 => qa (g59 (x_2.2.2.2.1, 0, (IntKind.wrap .i64 ((b_0.2.1.length : Int) - 1)), ())) fun y4 => cond (x_2.2.1 == 1) (qa (g59 (x_2.2.2.1, 0, (IntKind.wrap .i64 ((b_0.1.length : Int) - 1)), ())) fun y5 => cond y5.1.1 (qa (g60 (b_0, x_2.2.2.1, x_2.2.2.2.1, x_2.2.2.2.2, ())) fun y6 => some ((y6.1.1, ()), ())) (some ((false, ()), ()))) (cond (x_2.2.1 == 2) (cond y3.1.1 (qa (g59 (x_2.2.2.2.1, 1, 3, ())) fun y7 => cond y7.1.1 (some (((x_2.2.2.2.2 == 0), ()), ())) (some ((false, ()), ()))) (some ((false, ()), ()))) (cond (x_2.2.1 == 3) (qa (g61 (before_1, x_2.2.2.1, ())) fun y8 => cond y8.1.1 (cond y4.1.1 (some (((x_2.2.2.2.2 == 0), ()), ())) (some ((false, ()), ()))) (some ((false, ()), ()))) (cond (x_2.2.1 == 4) (cond y3.1.1 (cond y4.1.1 (some (((x_2.2.2.2.2 == 0), ()), ())) (some ((false, ()), ()))) (some ((false, ()), ()))) (cond (x_2.2.1 == 5) (cond y3.1.1 (qa (g59 (x_2.2.2.2.1, 0, 10000, ())) fun y9 => cond y9.1.1 (some (((x_2.2.2.2.2 == 0), ()), ())) (some ((false, ()), ()))) (some ((false, ()), ()))) (cond (x_2.2.1 == 6) (cond y3.1.1 (cond (x_2.2.2.2.1 == 0) (some (((x_2.2.2.2.2 == 0), ()), ())) (some ((false, ()), ()))) (some ((false, ()), ()))) (some ((false, ()), ()))))))))) (qa (g59 (x_2.1, 0, 10000, ())) fun y10 => cond (!y10.1.1) (some ((false, ()), ())) (qa (g59 (x_2.2.2.1, 0, (IntKind.wrap .i64 ((b_0.2.2.length : Int) - 1)), ())) fun y11 => qa (g59 (x_2.2.2.2.1, 0, (IntKind.wrap .i64 ((b_0.2.1.length : Int) - 1)), ())) fun y12 => cond (x_2.2.1 == 1) (qa (g59 (x_2.2.2.1, 0, (IntKind.wrap .i64 ((b_0.1.length : Int) - 1)), ())) fun y13 => cond y13.1.1 (qa (g60 (b_0, x_2.2.2.1, x_2.2.2.2.1, x_2.2.2.2.2, ())) fun y14 => some ((y14.1.1, ()), ())) (some ((false, ()), ()))) (cond (x_2.2.1 == 2) (cond y11.1.1 (qa (g59 (x_2.2.2.2.1, 1, 3, ())) fun y15 => cond y15.1.1 (some (((x_2.2.2.2.2 == 0), ()), ())) (some ((false, ()), ()))) (some ((false, ()), ()))) (cond (x_2.2.1 == 3) (qa (g61 (before_1, x_2.2.2.1, ())) fun y16 => cond y16.1.1 (cond y12.1.1 (some (((x_2.2.2.2.2 == 0), ()), ())) (some ((false, ()), ()))) (some ((false, ()), ()))) (cond (x_2.2.1 == 4) (cond y11.1.1 (cond y12.1.1 (some (((x_2.2.2.2.2 == 0), ()), ())) (some ((false, ()), ()))) (some ((false, ()), ()))) (cond (x_2.2.1 == 5) (cond y11.1.1 (qa (g59 (x_2.2.2.2.1, 0, 10000, ())) fun y17 => cond y17.1.1 (some (((x_2.2.2.2.2 == 0), ()), ())) (some ((false, ()), ()))) (some ((false, ()), ()))) (cond (x_2.2.1 == 6) (cond y11.1.1 (cond (x_2.2.2.2.1 == 0) (some (((x_2.2.2.2.2 == 0), ()), ())) (some ((false, ()), ()))) (some ((false, ()), ()))) (some ((false, ()), ())))))))))
def g44 (d : zTd × (List zTg) × zTg × Unit) : Option uAc := F44 qc d.1 d.2.1 d.2.2.1
def p44 : qE := ⟨[.v (.str zTb), .v uAd, .v uAp], [.v .bool], g44⟩
def c44 : qS := ⟨124, tyT, [], [(59, p59), (60, p60), (61, p61)], [], [], [], [], [], [], [], [], [], [], none⟩
theorem F44_eq (n : Nat) (d) : qy c44 n Tryz.f44 (body Tryz.f44) p44.ps p44.rs d = F44 n d.1 d.2.1 d.2.2.1 := by kernel_rfl
theorem h44 : qw Tryz.prog 44 p44 := hQ (cfg := c44) (qp qq (qd h59 (qd h60 (qd h61 qh))) rfl (by kernel_rfl)) Tryz.func44 (by kernel_rfl) (qr (by kernel_rfl)) (by kernel_rfl) (F44_eq qc)
def B18_7 (_n : Nat) (L : ((List zTg) × Int × Unit) × (zTd × Unit) × Unit → Option ((uAt × (Unit) × Unit) ⊕ uAg)) (l_1 : List zTg) (i_7 : Int) (o_2 : (List uAi) × uBt) : Option ((uAt × (Unit) × Unit) ⊕ uAg) :=
  cond (decide (i_7 < (l_1.length : Int))) (leK 0 i_7 (leK i_7 (l_1.length : Int) (qi l_1 i_7 fun e2 => qa (g44 (o_2, (l_1.take i_7.toNat), e2, ())) fun y3 => cond (!y3.1.1) (some (.inl ((i_7, 101, ()), (), ()))) (L ((l_1, (IntKind.wrap .i64 (i_7 + 1)), ()), (o_2, ()), ()))))) (some (.inr ((), (), ())))
def L18_7 : Nat → ((List zTg) × Int × Unit) × (zTd × Unit) × Unit → Option ((uAt × (Unit) × Unit) ⊕ uAg)
  | 0, _ => none
  | n + 1, d => B18_7 n (L18_7 n) d.1.1 d.1.2.1 d.2.1.1
def l18_7 : qY := ⟨⟨[(1, .v uAd), (2, .c (.ptr 2 [])), (7, .v zI)], [(2, false, .str zTb)], none⟩, [(.ret, ⟨[(4, .v zI), (5, .v zI)], [], none⟩), (.exit 0, ⟨[], [], none⟩)], L18_7⟩
def F18 (n : Nat) (b_0 : zTd) (l_1 : (List zTg)) : Option uCd :=
  qa (g43 (b_0, ())) fun y1 => cond (y1.1.1 != 0) (some ((0, y1.1.1, ()), ())) (cond (decide ((l_1.length : Int) > 100)) (some ((0, 2, ()), ())) (qa (L18_7 n ((l_1, 0, ()), (b_0, ()), ())) fun o4 => qbd o4 (fun d5 => some ((d5.1.1, d5.1.2.1, ()), ())) (fun _ => some ((0, 0, ()), ()))))
def g18 (d : zTd × (List zTg) × Unit) : Option uCd := F18 qc d.1 d.2.1
def p18 : qE := ⟨[.v (.str zTb), .v uAd], [.v zI, .v zI], g18⟩
def c18 : qS := ⟨33, tyT, [], [(43, p43), (44, p44)], [(7, l18_7)], [], [], [], [], [], [], [], [], [], none⟩
theorem F18_eq (n : Nat) (d) : qy c18 n Tryz.f18 (body Tryz.f18) p18.ps p18.rs d = F18 n d.1 d.2.1 := by kernel_rfl
theorem L18_7_eq (n : Nat) (d) : (l18_7).g (n + 1) d = run c18 n (jW 0 (qe (body Tryz.f18))) ((l18_7).ins.fill d) (qN (l18_7) n) := by kernel_rfl
theorem ls18 : qe (body Tryz.f18) = [jW 0 (qe (body Tryz.f18))] := by kernel_rfl
theorem d18 : ql c18 (body Tryz.f18) = true := by kernel_rfl
theorem h18 : qw Tryz.prog 18 p18 := hQ (cfg := c18) (qp qq (qd h43 (qd h44 qh)) rfl (by kernel_rfl)) Tryz.func18 (by kernel_rfl) (by rw [ls18]; simp only [List.forall_mem_cons]; exact ⟨qC (key := 7) (li := l18_7) (by kernel_rfl) rfl (fun _ => rfl) (L18_7_eq), fun _ h => by cases h⟩) d18 (F18_eq qc)
def F45 (_n : Nat) (n_0 : Int) (low_1 : Int) (high_2 : Int) : Option uAc :=
  cond (decide (n_0 ≥ low_1)) (some (((decide (n_0 ≤ high_2)), ()), ())) (some ((false, ()), ()))
def g45 (d : Int × Int × Int × Unit) : Option uAc := F45 qc d.1 d.2.1 d.2.2.1
def p45 : qE := ⟨[.v zI, .v zI, .v zI], [.v .bool], g45⟩
def c45 : qS := ⟨15, tyT, [], [], [], [], [], [], [], [], [], [], [], [], none⟩
theorem F45_eq (n : Nat) (d) : qy c45 n Tryz.f45 (body Tryz.f45) p45.ps p45.rs d = F45 n d.1 d.2.1 d.2.2.1 := by kernel_rfl
theorem h45 : qw Tryz.prog 45 p45 := hQ (cfg := c45) (qp qq (qh) rfl (by kernel_rfl)) Tryz.func45 (by kernel_rfl) (qr (by kernel_rfl)) (by kernel_rfl) (F45_eq qc)
def B19_4 (_n : Nat) (L : (Int × Unit) × (zTf × Unit) × Unit → Option (zTn ⊕ uCa)) (i_3 : Int) (o_1 : zTt × (zTt × uAe)) : Option (zTn ⊕ uCa) :=
  cond (decide (i_3 < (o_1.1.length : Int))) (qi o_1.1 i_3 fun e4 => qa (g45 (e4.1, (-1), (IntKind.wrap .i64 (i_3 - 1)), ())) fun y5 => cond (!y5.1.1) (some (.inl ((50, ()), (), ()))) (qa (g45 (e4.2.1, 1, 1000, ())) fun y6 => cond (!y6.1.1) (some (.inl ((50, ()), (), ()))) (qa (g45 (e4.2.2.1, 0, 20, ())) fun y7 => cond (!y7.1.1) (some (.inl ((50, ()), (), ()))) (qa (g45 (e4.2.2.2, 1, 10000, ())) fun y8 => cond (!y8.1.1) (some (.inl ((50, ()), (), ()))) (L (((IntKind.wrap .i64 (i_3 + 1)), ()), (o_1, ()), ())))))) (some (.inr ((), (o_1, ()), ())))
def L19_4 : Nat → (Int × Unit) × (zTf × Unit) × Unit → Option (zTn ⊕ uCa)
  | 0, _ => none
  | n + 1, d => B19_4 n (L19_4 n) d.1.1 d.2.1.1
def l19_4 : qY := ⟨⟨[(1, .c (.ptr 1 [])), (3, .v zI)], [(1, false, .str uAb)], none⟩, [(.ret, ⟨[(2, .v zI)], [], none⟩), (.exit 0, ⟨[(1, .c (.ptr 1 []))], [(1, false, .str uAb)], none⟩)], L19_4⟩
def B19_10 (_n : Nat) (L : (Int × Unit) × (zTf × Unit) × Unit → Option (zTn ⊕ uAg)) (i_5 : Int) (o_1 : zTt × (zTt × uAe)) : Option (zTn ⊕ uAg) :=
  cond (decide (i_5 < (o_1.2.1.length : Int))) (qi o_1.2.1 i_5 fun e12 => qa (g45 (e12.1, 0, (IntKind.wrap .i64 ((o_1.1.length : Int) - 1)), ())) fun y13 => cond (!y13.1.1) (some (.inl ((50, ()), (), ()))) (qa (g45 (e12.2.1, 0, 2, ())) fun y14 => cond (!y14.1.1) (some (.inl ((50, ()), (), ()))) (qa (g45 (e12.2.2.1, 1, 1000, ())) fun y15 => cond (!y15.1.1) (some (.inl ((50, ()), (), ()))) (qa (g45 (e12.2.2.2, 0, 1000, ())) fun y16 => cond (!y16.1.1) (some (.inl ((50, ()), (), ()))) (L (((IntKind.wrap .i64 (i_5 + 1)), ()), (o_1, ()), ())))))) (some (.inr ((), (), ())))
def L19_10 : Nat → (Int × Unit) × (zTf × Unit) × Unit → Option (zTn ⊕ uAg)
  | 0, _ => none
  | n + 1, d => B19_10 n (L19_10 n) d.1.1 d.2.1.1
def l19_10 : qY := ⟨⟨[(1, .c (.ptr 1 [])), (5, .v zI)], [(1, false, .str uAb)], none⟩, [(.ret, ⟨[(2, .v zI)], [], none⟩), (.exit 2, ⟨[], [], none⟩)], L19_10⟩
def F19 (n : Nat) (s_0 : zTf) : Option uAh :=
  cond (decide ((s_0.1.length : Int) > 10)) (some ((50, ()), ())) (cond (decide ((s_0.2.1.length : Int) > 16)) (some ((50, ()), ())) (qa (g45 (s_0.2.2.1, 1, 1000, ())) fun y1 => cond (!y1.1.1) (some ((50, ()), ())) (qa (g45 (s_0.2.2.2.1, 0, 20, ())) fun y2 => cond (!y2.1.1) (some ((50, ()), ())) (qa (g45 (s_0.2.2.2.2, 1, 1000, ())) fun y3 => cond (!y3.1.1) (some ((50, ()), ())) (qa (L19_4 n ((0, ()), (s_0, ()), ())) fun o9 => qbd o9 (fun d10 => some ((d10.1.1, ()), ())) (fun d11 => qa (L19_10 n ((0, ()), (d11.2.1.1, ()), ())) fun o17 => qbd o17 (fun d18 => some ((d18.1.1, ()), ())) (fun _ => some ((0, ()), ()))))))))
def g19 (d : zTf × Unit) : Option uAh := F19 qc d.1
def p19 : qE := ⟨[.v (.str uAb)], [.v zI], g19⟩
def c19 : qS := ⟨109, tyT, [], [(45, p45)], [(4, l19_4), (10, l19_10)], [], [], [], [], [], [], [], [], [], none⟩
theorem F19_eq (n : Nat) (d) : qy c19 n Tryz.f19 (body Tryz.f19) p19.ps p19.rs d = F19 n d.1 := by kernel_rfl
theorem L19_4_eq (n : Nat) (d) : (l19_4).g (n + 1) d = run c19 n (jW 0 (qe (body Tryz.f19))) ((l19_4).ins.fill d) (qN (l19_4) n) := by kernel_rfl
theorem L19_10_eq (n : Nat) (d) : (l19_10).g (n + 1) d = run c19 n (jW 1 (qe (body Tryz.f19))) ((l19_10).ins.fill d) (qN (l19_10) n) := by kernel_rfl
theorem ls19 : qe (body Tryz.f19) = [jW 0 (qe (body Tryz.f19)), jW 1 (qe (body Tryz.f19))] := by kernel_rfl
theorem h19 : qw Tryz.prog 19 p19 := hQ (cfg := c19) (qp qq (qd h45 qh) rfl (by kernel_rfl)) Tryz.func19 (by kernel_rfl) (by rw [ls19]; simp only [List.forall_mem_cons]; exact ⟨qC (key := 4) (li := l19_4) (by kernel_rfl) rfl (fun _ => rfl) (L19_4_eq), qC (key := 10) (li := l19_10) (by kernel_rfl) rfl (fun _ => rfl) (L19_10_eq), fun _ h => by cases h⟩) (by kernel_rfl) (F19_eq qc)
def F20 (_n : Nat) (n_0 : Int) (low_1 : Int) (high_2 : Int) : Option uAc :=
  cond (decide (n_0 ≥ low_1)) (some (((decide (n_0 ≤ high_2)), ()), ())) (some ((false, ()), ()))
def g20 (d : Int × Int × Int × Unit) : Option uAc := F20 qc d.1 d.2.1 d.2.2.1
def p20 : qE := ⟨[.v zI, .v zI, .v zI], [.v .bool], g20⟩
def c20 : qS := ⟨15, tyT, [], [], [], [], [], [], [], [], [], [], [], [], none⟩
theorem F20_eq (n : Nat) (d) : qy c20 n Tryz.f20 (body Tryz.f20) p20.ps p20.rs d = F20 n d.1 d.2.1 d.2.2.1 := by kernel_rfl
theorem h20 : qw Tryz.prog 20 p20 := hQ (cfg := c20) (qp qq (qh) rfl (by kernel_rfl)) Tryz.func20 (by kernel_rfl) (qr (by kernel_rfl)) (by kernel_rfl) (F20_eq qc)
def B9_14 (_n : Nat) (L : uAt × (zTj × Unit) × Unit → Option (zTn ⊕ uAg)) (n_4 : Int) (i_5 : Int) (o_1 : uAw × uCm) : Option (zTn ⊕ uAg) :=
  cond (decide (i_5 < n_4)) (qi o_1.2.2.2.2.2.1 i_5 fun e5 => qa (g20 (e5, 0, 200, ())) fun y6 => cond (!y6.1.1) (some (.inl ((120, ()), (), ()))) (qi o_1.2.2.2.2.2.2 i_5 fun e7 => qa (g20 (e7, 0, 100, ())) fun y8 => cond (!y8.1.1) (some (.inl ((120, ()), (), ()))) (L ((n_4, (IntKind.wrap .i64 (i_5 + 1)), ()), (o_1, ()), ())))) (some (.inr ((), (), ())))
def L9_14 : Nat → uAt × (zTj × Unit) × Unit → Option (zTn ⊕ uAg)
  | 0, _ => none
  | n + 1, d => B9_14 n (L9_14 n) d.1.1 d.1.2.1 d.2.1.1
def l9_14 : qY := ⟨⟨[(1, .c (.ptr 1 [])), (4, .v zI), (5, .v zI)], [(1, false, .str uAj)], none⟩, [(.ret, ⟨[(2, .v zI)], [], none⟩), (.exit 0, ⟨[], [], none⟩)], L9_14⟩
def F9 (n : Nat) (g_0 : zTj) : Option uAh :=
  qa (g17 (g_0.1, [], ())) fun y1 => cond (y1.1.1 != 0) (some ((y1.1.1, ()), ())) (qa (g18 (g_0.2.1, g_0.2.2.1, ())) fun y2 => cond (y2.1.2.1 != 0) (some ((y2.1.2.1, ()), ())) (qa (g19 (g_0.2.2.2.2.1, ())) fun y3 => cond (y3.1.1 != 0) (some ((y3.1.1, ()), ())) (cond ((g_0.2.1.2.2.length : Int) != (g_0.1.1.length : Int)) (some ((120, ()), ())) (cond ((g_0.2.2.2.2.1.2.1.length : Int) != (g_0.1.1.length : Int)) (some ((120, ()), ())) (cond ((g_0.2.2.2.2.2.1.length : Int) != (g_0.1.1.length : Int)) (some ((120, ()), ())) (cond ((g_0.2.2.2.2.2.2.length : Int) != (g_0.1.1.length : Int)) (some ((120, ()), ())) (qa (g20 (g_0.2.2.2.1, 0, 10000, ())) fun y4 => cond (!y4.1.1) (some ((120, ()), ())) (qa (L9_14 n (((g_0.1.1.length : Int), 0, ()), (g_0, ()), ())) fun o9 => qbd o9 (fun d10 => some ((d10.1.1, ()), ())) (fun _ => some ((0, ()), ()))))))))))
def g9 (d : zTj × Unit) : Option uAh := F9 qc d.1
def p9 : qE := ⟨[.v (.str uAj)], [.v zI], g9⟩
def c9 : qS := ⟨88, tyT, [], [(17, p17), (18, p18), (19, p19), (20, p20)], [(14, l9_14)], [], [], [], [], [], [], [], [], [], none⟩
theorem F9_eq (n : Nat) (d) : qy c9 n Tryz.f9 (body Tryz.f9) p9.ps p9.rs d = F9 n d.1 := by kernel_rfl
theorem L9_14_eq (n : Nat) (d) : (l9_14).g (n + 1) d = run c9 n (jW 0 (qe (body Tryz.f9))) ((l9_14).ins.fill d) (qN (l9_14) n) := by kernel_rfl
theorem ls9 : qe (body Tryz.f9) = [jW 0 (qe (body Tryz.f9))] := by kernel_rfl
theorem h9 : qw Tryz.prog 9 p9 := hQ (cfg := c9) (qp qq (qd h17 (qd h18 (qd h19 (qd h20 qh)))) rfl (by kernel_rfl)) Tryz.func9 (by kernel_rfl) (by rw [ls9]; simp only [List.forall_mem_cons]; exact ⟨qC (key := 14) (li := l9_14) (by kernel_rfl) rfl (fun _ => rfl) (L9_14_eq), fun _ h => by cases h⟩) (by kernel_rfl) (F9_eq qc)
def F46 (_n : Nat) (f_0 : uAw) : Option ((uAw × Unit) × (Unit)) :=
  jE ((([] : List zTo).length : Int) + f_0.1.length) (some ((((([] : List zTo) ++ f_0.1), f_0.2), ()), ()))
def g46 (d : uAw × Unit) : Option ((uAw × Unit) × (Unit)) := F46 qc d.1
def p46 : qE := ⟨[.v (.str zTe)], [.v (.str zTe)], g46⟩
def c46 : qS := ⟨10, tyT, [(1, .str zTe), (6, .list true 118 uBo)], [], [], [], [1], [], [], [], [], [], [], [], none⟩
theorem F46_eq (n : Nat) (d) : qy c46 n Tryz.f46 (body Tryz.f46) p46.ps p46.rs d = F46 n d.1 := by kernel_rfl
theorem h46 : qw Tryz.prog 46 p46 := hQ (cfg := c46) (qp qq (qh) rfl (by kernel_rfl)) Tryz.func46 (by kernel_rfl) (qr (by kernel_rfl)) (by kernel_rfl) (F46_eq qc)
def F21 (_n : Nat) (g_0 : zTj) : Option ((zTj × Unit) × (Unit)) :=
  qa (g46 (g_0.1, ())) fun y1 => qhl (jE ((([] : List zTg).length : Int) + g_0.2.2.1.length) (qaF (((y1.1.1, g_0.2).1, (((([] : List uAi) ++ g_0.2.1.1), (([] : List Int) ++ g_0.2.1.2.1), (([] : List Int) ++ g_0.2.1.2.2)), ((y1.1.1, g_0.2).2).2)).1, ((((y1.1.1, g_0.2).1, (((([] : List uAi) ++ g_0.2.1.1), (([] : List Int) ++ g_0.2.1.2.1), (([] : List Int) ++ g_0.2.1.2.2)), ((y1.1.1, g_0.2).2).2)).2).1, ((([] : List zTg) ++ g_0.2.2.1), ((((y1.1.1, g_0.2).1, (((([] : List uAi) ++ g_0.2.1.1), (([] : List Int) ++ g_0.2.1.2.1), (([] : List Int) ++ g_0.2.1.2.2)), ((y1.1.1, g_0.2).2).2)).2).2).2))) fun z2 => jE ((([] : List (Int × uAe)).length : Int) + g_0.2.2.2.2.1.1.length) (qaF (z2.1, (z2.2.1, (z2.2.2.1, (z2.2.2.2.1, (((([] : List (Int × uAe)) ++ g_0.2.2.2.2.1.1), z2.2.2.2.2.1.2), z2.2.2.2.2.2))))) fun z3 => jE ((([] : List (Int × uAe)).length : Int) + g_0.2.2.2.2.1.2.1.length) (qaF (z3.1, (z3.2.1, (z3.2.2.1, (z3.2.2.2.1, ((z3.2.2.2.2.1.1, ((([] : List (Int × uAe)) ++ g_0.2.2.2.2.1.2.1), z3.2.2.2.2.1.2.2)), z3.2.2.2.2.2))))) fun z4 => jE ((([] : List Int).length : Int) + g_0.2.2.2.2.2.1.length) (qaF (z4.1, (z4.2.1, (z4.2.2.1, (z4.2.2.2.1, (z4.2.2.2.2.1, ((([] : List Int) ++ g_0.2.2.2.2.2.1), z4.2.2.2.2.2.2)))))) fun z5 => jE ((([] : List Int).length : Int) + g_0.2.2.2.2.2.2.length) (qaF (z5.1, (z5.2.1, (z5.2.2.1, (z5.2.2.2.1, (z5.2.2.2.2.1, (z5.2.2.2.2.2.1, (([] : List Int) ++ g_0.2.2.2.2.2.2))))))) fun z6 => some ((z6, ()), ()))))))) fun E => jC [jC [jE ((([] : List uAi).length : Int) + g_0.2.1.1.length) (jC [jC [jE ((([] : List Int).length : Int) + g_0.2.1.2.1.length) (jE ((([] : List Int).length : Int) + g_0.2.1.2.2.length) (E)), jE ((([] : List Int).length : Int) + g_0.2.1.2.1.length) (jE ((([] : List Int).length : Int) + g_0.2.1.2.2.length) (E))], jE ((([] : List Int).length : Int) + g_0.2.1.2.1.length) (jE ((([] : List Int).length : Int) + g_0.2.1.2.2.length) (E))]), jC [jE ((([] : List uAi).length : Int) + g_0.2.1.1.length) (jC [jE ((([] : List Int).length : Int) + g_0.2.1.2.1.length) (jE ((([] : List Int).length : Int) + g_0.2.1.2.2.length) (E)), jE ((([] : List Int).length : Int) + g_0.2.1.2.1.length) (jE ((([] : List Int).length : Int) + g_0.2.1.2.2.length) (E))]), jE ((([] : List uAi).length : Int) + g_0.2.1.1.length) (jE ((([] : List Int).length : Int) + g_0.2.1.2.1.length) (jE ((([] : List Int).length : Int) + g_0.2.1.2.2.length) (E)))], jC [jE ((([] : List uAi).length : Int) + g_0.2.1.1.length) (jE ((([] : List Int).length : Int) + g_0.2.1.2.1.length) (jE ((([] : List Int).length : Int) + g_0.2.1.2.2.length) (E))), jE ((([] : List uAi).length : Int) + g_0.2.1.1.length) (jE ((([] : List Int).length : Int) + g_0.2.1.2.1.length) (jE ((([] : List Int).length : Int) + g_0.2.1.2.2.length) (E)))]], jC [jC [jE ((([] : List uAi).length : Int) + g_0.2.1.1.length) (jC [jE ((([] : List Int).length : Int) + g_0.2.1.2.1.length) (jE ((([] : List Int).length : Int) + g_0.2.1.2.2.length) (E)), jE ((([] : List Int).length : Int) + g_0.2.1.2.1.length) (jE ((([] : List Int).length : Int) + g_0.2.1.2.2.length) (E))]), jE ((([] : List uAi).length : Int) + g_0.2.1.1.length) (jE ((([] : List Int).length : Int) + g_0.2.1.2.1.length) (jE ((([] : List Int).length : Int) + g_0.2.1.2.2.length) (E)))], jE ((([] : List uAi).length : Int) + g_0.2.1.1.length) (jE ((([] : List Int).length : Int) + g_0.2.1.2.1.length) (jE ((([] : List Int).length : Int) + g_0.2.1.2.2.length) (E)))], jC [jC [jE ((([] : List uAi).length : Int) + g_0.2.1.1.length) (jE ((([] : List Int).length : Int) + g_0.2.1.2.1.length) (jE ((([] : List Int).length : Int) + g_0.2.1.2.2.length) (E))), jE ((([] : List uAi).length : Int) + g_0.2.1.1.length) (jE ((([] : List Int).length : Int) + g_0.2.1.2.1.length) (jE ((([] : List Int).length : Int) + g_0.2.1.2.2.length) (E)))], jE ((([] : List uAi).length : Int) + g_0.2.1.1.length) (jE ((([] : List Int).length : Int) + g_0.2.1.2.1.length) (jE ((([] : List Int).length : Int) + g_0.2.1.2.2.length) (E)))]]
def g21 (d : zTj × Unit) : Option ((zTj × Unit) × (Unit)) := F21 qc d.1
def p21 : qE := ⟨[.v (.str uAj)], [.ownv (.str uAr)], g21⟩
def c21 : qS := ⟨56, tyT, [(1, .str uAj), (13, .list true 120 (.str zTl)), (18, .list true 3 zI), (23, .list true 3 zI), (29, .list true 74 uAp), (35, .list true 102 (.str uBl)), (42, .list true 104 (.str uBl)), (48, .list true 3 zI), (53, .list true 3 zI), (55, .str uAr), (2, .str uAr)], [(46, p46)], [], [], [3, 6000030, 6000037, 6000044], [], [], [], [], [], [], [], none⟩
theorem F21_eq (n : Nat) (d) : qy c21 n Tryz.f21 (body Tryz.f21) p21.ps p21.rs d = F21 n d.1 := by kernel_rfl
theorem h21 : qw Tryz.prog 21 p21 := hQ (cfg := c21) (qp qq (qd h46 qh) rfl (by kernel_rfl)) Tryz.func21 (by kernel_rfl) (qr (by kernel_rfl)) (by kernel_rfl) (F21_eq qc)
def F79 (_n : Nat) (n_0 : Int) (low_1 : Int) (high_2 : Int) : Option uAc :=
  cond (decide (n_0 ≥ low_1)) (some (((decide (n_0 ≤ high_2)), ()), ())) (some ((false, ()), ()))
def g79 (d : Int × Int × Int × Unit) : Option uAc := F79 qc d.1 d.2.1 d.2.2.1
def p79 : qE := ⟨[.v zI, .v zI, .v zI], [.v .bool], g79⟩
def c79 : qS := ⟨15, tyT, [], [], [], [], [], [], [], [], [], [], [], [], none⟩
theorem F79_eq (n : Nat) (d) : qy c79 n Tryz.f79 (body Tryz.f79) p79.ps p79.rs d = F79 n d.1 d.2.1 d.2.2.1 := by kernel_rfl
theorem h79 : qw Tryz.prog 79 p79 := hQ (cfg := c79) (qp qq (qh) rfl (by kernel_rfl)) Tryz.func79 (by kernel_rfl) (qr (by kernel_rfl)) (by kernel_rfl) (F79_eq qc)
def F89 (_n : Nat) (b_0 : zTo) : Option uAc :=
  qa (g79 (b_0.1, 1, 40, ())) fun y1 => cond (!y1.1.1) (some ((true, ()), ())) (qa (g79 (b_0.2.1, 0, 100, ())) fun y2 => cond (!y2.1.1) (some ((true, ()), ())) (qa (g79 (b_0.2.2.1, 1, 100, ())) fun y3 => cond (!y3.1.1) (some ((true, ()), ())) (qa (g79 (b_0.2.2.2.1, 0, 100, ())) fun y4 => some (((!y4.1.1), ()), ()))))
def g89 (d : zTo × Unit) : Option uAc := F89 qc d.1
def p89 : qE := ⟨[.v uBo], [.v .bool], g89⟩
def c89 : qS := ⟨25, tyT, [], [(79, p79)], [], [], [], [], [], [], [], [], [], [], none⟩
theorem F89_eq (n : Nat) (d) : qy c89 n Tryz.f89 (body Tryz.f89) p89.ps p89.rs d = F89 n d.1 := by kernel_rfl
theorem h89 : qw Tryz.prog 89 p89 := hQ (cfg := c89) (qp qq (qd h79 qh) rfl (by kernel_rfl)) Tryz.func89 (by kernel_rfl) (qr (by kernel_rfl)) (by kernel_rfl) (F89_eq qc)
def B109_2 (_n : Nat) (L : ((List zTo) × (zTo → Option Bool) × Int × Int × Unit) × (Unit) × Unit → Option (zTn ⊕ uAg)) (s_0 : List zTo) (f_1 : zTo → Option Bool) (t_7 : Int) (t_8 : Int) : Option (zTn ⊕ uAg) :=
  cond (decide (t_8 < t_7)) (qi s_0 t_8 fun e1 => qa (f_1 e1) fun y2 => cond y2 (some (.inl ((t_8, ()), (), ()))) (L ((s_0, f_1, t_7, (IntKind.wrap .i64 (t_8 + 1)), ()), (), ()))) (some (.inr ((), (), ())))
def L109_2 : Nat → ((List zTo) × (zTo → Option Bool) × Int × Int × Unit) × (Unit) × Unit → Option (zTn ⊕ uAg)
  | 0, _ => none
  | n + 1, d => B109_2 n (L109_2 n) d.1.1 d.1.2.1 d.1.2.2.1 d.1.2.2.2.1
def l109_2 : qY := ⟨⟨[(0, .v (.list false 118 uBo)), (1, .v (.fn uBo .bool)), (7, .v zI), (8, .v zI)], [], none⟩, [(.ret, ⟨[(4, .v zI)], [], none⟩), (.exit 0, ⟨[], [], none⟩)], L109_2⟩
def F109 (n : Nat) (s_0 : (List zTo)) (f_1 : (zTo → Option Bool)) : Option uAh :=
  qa (L109_2 n ((s_0, f_1, (s_0.length : Int), 0, ()), (), ())) fun o3 => qbd o3 (fun d4 => some ((d4.1.1, ()), ())) (fun _ => some (((-1), ()), ()))
def g109 (d : (List zTo) × (zTo → Option Bool) × Unit) : Option uAh := F109 qc d.1 d.2.1
def p109 : qE := ⟨[.v (.list false 118 uBo), .v (.fn uBo .bool)], [.v zI], g109⟩
def c109 : qS := ⟨19, tyT, [], [], [(2, l109_2)], [], [], [], [], [], [], [], [], [], none⟩
theorem F109_eq (n : Nat) (d) : qy c109 n Tryz.f109 (body Tryz.f109) p109.ps p109.rs d = F109 n d.1 d.2.1 := by kernel_rfl
theorem L109_2_eq (n : Nat) (d) : (l109_2).g (n + 1) d = run c109 n (jW 0 (qe (body Tryz.f109))) ((l109_2).ins.fill d) (qN (l109_2) n) := by kernel_rfl
theorem ls109 : qe (body Tryz.f109) = [jW 0 (qe (body Tryz.f109))] := by kernel_rfl
theorem h109 : qw Tryz.prog 109 p109 := hQ (cfg := c109) (qp qq (qh) rfl (by kernel_rfl)) Tryz.func109 (by kernel_rfl) (by rw [ls109]; simp only [List.forall_mem_cons]; exact ⟨qC (key := 2) (li := l109_2) (by kernel_rfl) rfl (fun _ => rfl) (L109_2_eq), fun _ h => by cases h⟩) (by kernel_rfl) (F109_eq qc)
def F90 (_n : Nat) (s_0 : (List zTo)) (f_1 : (zTo → Option Bool)) : Option uAc :=
  qa (g109 (s_0, f_1, ())) fun y1 => some (((decide (y1.1.1 ≥ 0)), ()), ())
def g90 (d : (List zTo) × (zTo → Option Bool) × Unit) : Option uAc := F90 qc d.1 d.2.1
def p90 : qE := ⟨[.v (.list false 118 uBo), .v (.fn uBo .bool)], [.v .bool], g90⟩
def c90 : qS := ⟨9, tyT, [], [(109, p109)], [], [], [], [], [], [], [], [], [], [], none⟩
theorem F90_eq (n : Nat) (d) : qy c90 n Tryz.f90 (body Tryz.f90) p90.ps p90.rs d = F90 n d.1 d.2.1 := by kernel_rfl
theorem h90 : qw Tryz.prog 90 p90 := hQ (cfg := c90) (qp qq (qd h109 qh) rfl (by kernel_rfl)) Tryz.func90 (by kernel_rfl) (qr (by kernel_rfl)) (by kernel_rfl) (F90_eq qc)
def F76 (_n : Nat) (f_0 : uAw) : Option uAh :=
  cond (decide ((f_0.1.length : Int) > 8)) (some ((70, ()), ())) (qa (g79 (f_0.2, 0, 100, ())) fun y1 => cond (!y1.1.1) (some ((70, ()), ())) (qa (g90 (f_0.1, (fun v2 => qa (g89 (v2, ())) fun y3 => some y3.1.1), ())) fun y4 => cond y4.1.1 (some ((70, ()), ())) (some ((0, ()), ()))))
def g76 (d : uAw × Unit) : Option uAh := F76 qc d.1
def p76 : qE := ⟨[.v (.str zTe)], [.v zI], g76⟩
def c76 : qS := ⟨20, tyT, [], [(79, p79), (89, p89), (90, p90)], [], [], [], [], [], [], [], [], [], [], none⟩
theorem F76_eq (n : Nat) (d) : qy c76 n Tryz.f76 (body Tryz.f76) p76.ps p76.rs d = F76 n d.1 := by kernel_rfl
theorem h76 : qw Tryz.prog 76 p76 := hQ (cfg := c76) (qp qq (qd h79 (qd h89 (qd h90 qh))) rfl (by kernel_rfl)) Tryz.func76 (by kernel_rfl) (qr (by kernel_rfl)) (by kernel_rfl) (F76_eq qc)
def F78 (_n : Nat) (n_0 : Int) (t_1 : uAw) : Option uAc :=
  qa (g79 (n_0, 0, (IntKind.wrap .i64 ((t_1.1.length : Int) - 1)), ())) fun y1 => some (((!y1.1.1), ()), ())
def g78 (d : Int × uAw × Unit) : Option uAc := F78 qc d.1 d.2.1
def p78 : qE := ⟨[.v zI, .r (.str zTe)], [.v .bool], g78⟩
def c78 : qS := ⟨11, tyT, [], [(79, p79)], [], [], [], [], [], [], [], [], [], [], none⟩
theorem F78_eq (n : Nat) (d) : qy c78 n Tryz.f78 (body Tryz.f78) p78.ps p78.rs d = F78 n d.1 d.2.1 := by kernel_rfl
theorem h78 : qw Tryz.prog 78 p78 := hQ (cfg := c78) (qp qq (qd h79 qh) rfl (by kernel_rfl)) Tryz.func78 (by kernel_rfl) (qr (by kernel_rfl)) (by kernel_rfl) (F78_eq qc)
def F77 (_n : Nat) (g_0 : zTq) (t_1 : uAw) : Option uAc :=
  qa (g79 (g_0.1, 0, 2000, ())) fun y1 => cond (!y1.1.1) (some ((true, ()), ())) (qa (g79 (g_0.2.1, 1, 40, ())) fun y2 => cond (!y2.1.1) (some ((true, ()), ())) (qa (g79 (g_0.2.2.1, 0, 10000, ())) fun y3 => cond (!y3.1.1) (some ((true, ()), ())) (qa (g79 (g_0.2.2.2.2, 0, 2000, ())) fun y4 => cond (!y4.1.1) (some ((true, ()), ())) (cond (decide ((g_0.2.2.2.1.length : Int) > 10)) (some ((true, ()), ())) (qa (g51 (g_0.2.2.2.1, (fun v5 => qa (g78 (v5, t_1, ())) fun y6 => some y6.1.1), ())) fun y7 => some ((y7.1.1, ()), ()))))))
def g77 (d : zTq × uAw × Unit) : Option uAc := F77 qc d.1 d.2.1
def p77 : qE := ⟨[.v (.str zTk), .r (.str zTe)], [.v .bool], g77⟩
def c77 : qS := ⟨40, tyT, [], [(51, p51), (78, p78), (79, p79)], [], [], [], [], [], [], [], [], [], [], none⟩
theorem F77_eq (n : Nat) (d) : qy c77 n Tryz.f77 (body Tryz.f77) p77.ps p77.rs d = F77 n d.1 d.2.1 := by kernel_rfl
theorem h77 : qw Tryz.prog 77 p77 := hQ (cfg := c77) (qp qq (qd h51 (qd h78 (qd h79 qh))) rfl (by kernel_rfl)) Tryz.func77 (by kernel_rfl) (qr (by kernel_rfl)) (by kernel_rfl) (F77_eq qc)
def B91_2 (_n : Nat) (L : ((List zTq) × (zTq → Option Bool) × Int × Int × Unit) × (Unit) × Unit → Option (zTn ⊕ uAg)) (s_0 : List zTq) (f_1 : zTq → Option Bool) (t_7 : Int) (t_8 : Int) : Option (zTn ⊕ uAg) :=
  cond (decide (t_8 < t_7)) (qi s_0 t_8 fun e1 => qa (f_1 e1) fun y2 => cond y2 (some (.inl ((t_8, ()), (), ()))) (L ((s_0, f_1, t_7, (IntKind.wrap .i64 (t_8 + 1)), ()), (), ()))) (some (.inr ((), (), ())))
def L91_2 : Nat → ((List zTq) × (zTq → Option Bool) × Int × Int × Unit) × (Unit) × Unit → Option (zTn ⊕ uAg)
  | 0, _ => none
  | n + 1, d => B91_2 n (L91_2 n) d.1.1 d.1.2.1 d.1.2.2.1 d.1.2.2.2.1
def l91_2 : qY := ⟨⟨[(0, .v uBr), (1, .v (.fn (.str zTk) .bool)), (7, .v zI), (8, .v zI)], [], none⟩, [(.ret, ⟨[(4, .v zI)], [], none⟩), (.exit 0, ⟨[], [], none⟩)], L91_2⟩
def F91 (n : Nat) (s_0 : (List zTq)) (f_1 : (zTq → Option Bool)) : Option uAh :=
  qa (L91_2 n ((s_0, f_1, (s_0.length : Int), 0, ()), (), ())) fun o3 => qbd o3 (fun d4 => some ((d4.1.1, ()), ())) (fun _ => some (((-1), ()), ()))
def g91 (d : (List zTq) × (zTq → Option Bool) × Unit) : Option uAh := F91 qc d.1 d.2.1
def p91 : qE := ⟨[.v uBr, .v (.fn (.str zTk) .bool)], [.v zI], g91⟩
def c91 : qS := ⟨19, tyT, [], [], [(2, l91_2)], [], [], [], [], [], [], [], [], [], none⟩
theorem F91_eq (n : Nat) (d) : qy c91 n Tryz.f91 (body Tryz.f91) p91.ps p91.rs d = F91 n d.1 d.2.1 := by kernel_rfl
theorem L91_2_eq (n : Nat) (d) : (l91_2).g (n + 1) d = run c91 n (jW 0 (qe (body Tryz.f91))) ((l91_2).ins.fill d) (qN (l91_2) n) := by kernel_rfl
theorem ls91 : qe (body Tryz.f91) = [jW 0 (qe (body Tryz.f91))] := by kernel_rfl
theorem h91 : qw Tryz.prog 91 p91 := hQ (cfg := c91) (qp qq (qh) rfl (by kernel_rfl)) Tryz.func91 (by kernel_rfl) (by rw [ls91]; simp only [List.forall_mem_cons]; exact ⟨qC (key := 2) (li := l91_2) (by kernel_rfl) rfl (fun _ => rfl) (L91_2_eq), fun _ h => by cases h⟩) (by kernel_rfl) (F91_eq qc)
def F80 (_n : Nat) (s_0 : (List zTq)) (f_1 : (zTq → Option Bool)) : Option uAc :=
  qa (g91 (s_0, f_1, ())) fun y1 => some (((decide (y1.1.1 ≥ 0)), ()), ())
def g80 (d : (List zTq) × (zTq → Option Bool) × Unit) : Option uAc := F80 qc d.1 d.2.1
def p80 : qE := ⟨[.v uBr, .v (.fn (.str zTk) .bool)], [.v .bool], g80⟩
def c80 : qS := ⟨9, tyT, [], [(91, p91)], [], [], [], [], [], [], [], [], [], [], none⟩
theorem F80_eq (n : Nat) (d) : qy c80 n Tryz.f80 (body Tryz.f80) p80.ps p80.rs d = F80 n d.1 d.2.1 := by kernel_rfl
theorem h80 : qw Tryz.prog 80 p80 := hQ (cfg := c80) (qp qq (qd h91 qh) rfl (by kernel_rfl)) Tryz.func80 (by kernel_rfl) (qr (by kernel_rfl)) (by kernel_rfl) (F80_eq qc)
def F62 (_n : Nat) (f_0 : uAw) (l_1 : (List zTq)) : Option uAh :=
  qa (g76 (f_0, ())) fun y1 => cond (y1.1.1 != 0) (some ((y1.1.1, ()), ())) (cond (decide ((l_1.length : Int) > 60)) (some ((71, ()), ())) (qa (g80 (l_1, (fun v2 => qa (g77 (v2, f_0, ())) fun y3 => some y3.1.1), ())) fun y4 => cond y4.1.1 (some ((71, ()), ())) (some ((0, ()), ()))))
def g62 (d : uAw × (List zTq) × Unit) : Option uAh := F62 qc d.1 d.2.1
def p62 : qE := ⟨[.v (.str zTe), .v uBr], [.v zI], g62⟩
def c62 : qS := ⟨21, tyT, [], [(76, p76), (77, p77), (80, p80)], [], [], [], [], [], [], [], [], [], [], none⟩
theorem F62_eq (n : Nat) (d) : qy c62 n Tryz.f62 (body Tryz.f62) p62.ps p62.rs d = F62 n d.1 d.2.1 := by kernel_rfl
theorem h62 : qw Tryz.prog 62 p62 := hQ (cfg := c62) (qp qq (qd h76 (qd h77 (qd h80 qh))) rfl (by kernel_rfl)) Tryz.func62 (by kernel_rfl) (qr (by kernel_rfl)) (by kernel_rfl) (F62_eq qc)
def B124_2 (_n : Nat) (L : ((List uAi) × (uAi → Option Bool) × Int × Int × Unit) × (Unit) × Unit → Option (zTn ⊕ uAg)) (s_0 : List uAi) (f_1 : uAi → Option Bool) (t_7 : Int) (t_8 : Int) : Option (zTn ⊕ uAg) :=
  cond (decide (t_8 < t_7)) (qi s_0 t_8 fun e1 => qa (f_1 e1) fun y2 => cond y2 (some (.inl ((t_8, ()), (), ()))) (L ((s_0, f_1, t_7, (IntKind.wrap .i64 (t_8 + 1)), ()), (), ()))) (some (.inr ((), (), ())))
def L124_2 : Nat → ((List uAi) × (uAi → Option Bool) × Int × Int × Unit) × (Unit) × Unit → Option (zTn ⊕ uAg)
  | 0, _ => none
  | n + 1, d => B124_2 n (L124_2 n) d.1.1 d.1.2.1 d.1.2.2.1 d.1.2.2.2.1
def l124_2 : qY := ⟨⟨[(0, .v uCh), (1, .v (.fn (.str zTl) .bool)), (7, .v zI), (8, .v zI)], [], none⟩, [(.ret, ⟨[(4, .v zI)], [], none⟩), (.exit 0, ⟨[], [], none⟩)], L124_2⟩
def F124 (n : Nat) (s_0 : (List uAi)) (f_1 : (uAi → Option Bool)) : Option uAh :=
  qa (L124_2 n ((s_0, f_1, (s_0.length : Int), 0, ()), (), ())) fun o3 => qbd o3 (fun d4 => some ((d4.1.1, ()), ())) (fun _ => some (((-1), ()), ()))
def g124 (d : (List uAi) × (uAi → Option Bool) × Unit) : Option uAh := F124 qc d.1 d.2.1
def p124 : qE := ⟨[.v uCh, .v (.fn (.str zTl) .bool)], [.v zI], g124⟩
def c124 : qS := ⟨19, tyT, [], [], [(2, l124_2)], [], [], [], [], [], [], [], [], [], none⟩
theorem F124_eq (n : Nat) (d) : qy c124 n Tryz.f124 (body Tryz.f124) p124.ps p124.rs d = F124 n d.1 d.2.1 := by kernel_rfl
theorem L124_2_eq (n : Nat) (d) : (l124_2).g (n + 1) d = run c124 n (jW 0 (qe (body Tryz.f124))) ((l124_2).ins.fill d) (qN (l124_2) n) := by kernel_rfl
theorem ls124 : qe (body Tryz.f124) = [jW 0 (qe (body Tryz.f124))] := by kernel_rfl
theorem h124 : qw Tryz.prog 124 p124 := hQ (cfg := c124) (qp qq (qh) rfl (by kernel_rfl)) Tryz.func124 (by kernel_rfl) (by rw [ls124]; simp only [List.forall_mem_cons]; exact ⟨qC (key := 2) (li := l124_2) (by kernel_rfl) rfl (fun _ => rfl) (L124_2_eq), fun _ h => by cases h⟩) (by kernel_rfl) (F124_eq qc)
def F110 (_n : Nat) (s_0 : (List uAi)) (f_1 : (uAi → Option Bool)) : Option uAc :=
  qa (g124 (s_0, f_1, ())) fun y1 => some (((decide (y1.1.1 ≥ 0)), ()), ())
def g110 (d : (List uAi) × (uAi → Option Bool) × Unit) : Option uAc := F110 qc d.1 d.2.1
def p110 : qE := ⟨[.v uCh, .v (.fn (.str zTl) .bool)], [.v .bool], g110⟩
def c110 : qS := ⟨9, tyT, [], [(124, p124)], [], [], [], [], [], [], [], [], [], [], none⟩
theorem F110_eq (n : Nat) (d) : qy c110 n Tryz.f110 (body Tryz.f110) p110.ps p110.rs d = F110 n d.1 d.2.1 := by kernel_rfl
theorem h110 : qw Tryz.prog 110 p110 := hQ (cfg := c110) (qp qq (qd h124 qh) rfl (by kernel_rfl)) Tryz.func110 (by kernel_rfl) (qr (by kernel_rfl)) (by kernel_rfl) (F110_eq qc)
def F94 (_n : Nat) (n_0 : Int) (low_1 : Int) (high_2 : Int) : Option uAc :=
  cond (decide (n_0 ≥ low_1)) (some (((decide (n_0 ≤ high_2)), ()), ())) (some ((false, ()), ()))
def g94 (d : Int × Int × Int × Unit) : Option uAc := F94 qc d.1 d.2.1 d.2.2.1
def p94 : qE := ⟨[.v zI, .v zI, .v zI], [.v .bool], g94⟩
def c94 : qS := ⟨15, tyT, [], [], [], [], [], [], [], [], [], [], [], [], none⟩
theorem F94_eq (n : Nat) (d) : qy c94 n Tryz.f94 (body Tryz.f94) p94.ps p94.rs d = F94 n d.1 d.2.1 d.2.2.1 := by kernel_rfl
theorem h94 : qw Tryz.prog 94 p94 := hQ (cfg := c94) (qp qq (qh) rfl (by kernel_rfl)) Tryz.func94 (by kernel_rfl) (qr (by kernel_rfl)) (by kernel_rfl) (F94_eq qc)
def F111 (_n : Nat) (r_0 : uAi) (t_1 : zTd) : Option uAc :=
  qa (g94 (r_0.1, 0, (IntKind.wrap .i64 ((t_1.2.2.length : Int) - 1)), ())) fun y1 => cond (!y1.1.1) (some ((true, ()), ())) (qa (g94 (r_0.2.1, 1, 10000, ())) fun y2 => cond (!y2.1.1) (some ((true, ()), ())) (qa (g94 (r_0.2.2.1, 0, 9, ())) fun y3 => some (((!y3.1.1), ()), ())))
def g111 (d : uAi × zTd × Unit) : Option uAc := F111 qc d.1 d.2.1
def p111 : qE := ⟨[.v (.str zTl), .r (.str zTb)], [.v .bool], g111⟩
def c111 : qS := ⟨24, tyT, [], [(94, p94)], [], [], [], [], [], [], [], [], [], [], none⟩
theorem F111_eq (n : Nat) (d) : qy c111 n Tryz.f111 (body Tryz.f111) p111.ps p111.rs d = F111 n d.1 d.2.1 := by kernel_rfl
theorem h111 : qw Tryz.prog 111 p111 := hQ (cfg := c111) (qp qq (qd h94 qh) rfl (by kernel_rfl)) Tryz.func111 (by kernel_rfl) (qr (by kernel_rfl)) (by kernel_rfl) (F111_eq qc)
def F112 (_n : Nat) (n_0 : Int) : Option uAc :=
  qa (g94 (n_0, 0, 9, ())) fun y1 => some (((!y1.1.1), ()), ())
def g112 (d : Int × Unit) : Option uAc := F112 qc d.1
def p112 : qE := ⟨[.v zI], [.v .bool], g112⟩
def c112 : qS := ⟨6, tyT, [], [(94, p94)], [], [], [], [], [], [], [], [], [], [], none⟩
theorem F112_eq (n : Nat) (d) : qy c112 n Tryz.f112 (body Tryz.f112) p112.ps p112.rs d = F112 n d.1 := by kernel_rfl
theorem h112 : qw Tryz.prog 112 p112 := hQ (cfg := c112) (qp qq (qd h94 qh) rfl (by kernel_rfl)) Tryz.func112 (by kernel_rfl) (qr (by kernel_rfl)) (by kernel_rfl) (F112_eq qc)
def F113 (_n : Nat) (n_0 : Int) : Option uAc :=
  qa (g94 (n_0, 0, 10000, ())) fun y1 => some (((!y1.1.1), ()), ())
def g113 (d : Int × Unit) : Option uAc := F113 qc d.1
def p113 : qE := ⟨[.v zI], [.v .bool], g113⟩
def c113 : qS := ⟨6, tyT, [], [(94, p94)], [], [], [], [], [], [], [], [], [], [], none⟩
theorem F113_eq (n : Nat) (d) : qy c113 n Tryz.f113 (body Tryz.f113) p113.ps p113.rs d = F113 n d.1 := by kernel_rfl
theorem h113 : qw Tryz.prog 113 p113 := hQ (cfg := c113) (qp qq (qd h94 qh) rfl (by kernel_rfl)) Tryz.func113 (by kernel_rfl) (qr (by kernel_rfl)) (by kernel_rfl) (F113_eq qc)
def F92 (_n : Nat) (b_0 : zTd) : Option uAh :=
  cond (decide ((b_0.1.length : Int) > 20)) (some ((100, ()), ())) (cond (decide ((b_0.2.1.length : Int) > 8)) (some ((100, ()), ())) (cond (decide ((b_0.2.2.length : Int) > 10)) (some ((100, ()), ())) (qa (g110 (b_0.1, (fun v1 => qa (g111 (v1, b_0, ())) fun y2 => some y2.1.1), ())) fun y3 => cond y3.1.1 (some ((100, ()), ())) (qa (g51 (b_0.2.1, (fun v4 => qa (g112 (v4, ())) fun y5 => some y5.1.1), ())) fun y6 => cond y6.1.1 (some ((100, ()), ())) (qa (g51 (b_0.2.2, (fun v7 => qa (g113 (v7, ())) fun y8 => some y8.1.1), ())) fun y9 => cond y9.1.1 (some ((100, ()), ())) (some ((0, ()), ())))))))
def g92 (d : zTd × Unit) : Option uAh := F92 qc d.1
def p92 : qE := ⟨[.v (.str zTb)], [.v zI], g92⟩
def c92 : qS := ⟨39, tyT, [], [(51, p51), (110, p110), (111, p111), (112, p112), (113, p113)], [], [], [], [], [], [], [], [], [], [], none⟩
theorem F92_eq (n : Nat) (d) : qy c92 n Tryz.f92 (body Tryz.f92) p92.ps p92.rs d = F92 n d.1 := by kernel_rfl
theorem h92 : qw Tryz.prog 92 p92 := hQ (cfg := c92) (qp qq (qd h51 (qd h110 (qd h111 (qd h112 (qd h113 qh))))) rfl (by kernel_rfl)) Tryz.func92 (by kernel_rfl) (qr (by kernel_rfl)) (by kernel_rfl) (F92_eq qc)
def F117 (_n : Nat) (l_0 : uAn) (n_1 : Int) : Option uAc :=
  qa (g94 (n_1, 0, (IntKind.wrap .i64 ((l_0.1.2.1.length : Int) - 1)), ())) fun y1 => some ((y1.1.1, ()), ())
def g117 (d : uAn × Int × Unit) : Option uAc := F117 qc d.1 d.2.1
def p117 : qE := ⟨[.v uAy, .v zI], [.v .bool], g117⟩
def c117 : qS := ⟨12, tyT, [], [(94, p94)], [], [], [], [], [], [], [], [], [], [], none⟩
theorem F117_eq (n : Nat) (d) : qy c117 n Tryz.f117 (body Tryz.f117) p117.ps p117.rs d = F117 n d.1 d.2.1 := by kernel_rfl
theorem h117 : qw Tryz.prog 117 p117 := hQ (cfg := c117) (qp qq (qd h94 qh) rfl (by kernel_rfl)) Tryz.func117 (by kernel_rfl) (qr (by kernel_rfl)) (by kernel_rfl) (F117_eq qc)
def F125 (_n : Nat) (l_0 : uAn) (rule_1 : Int) (n_2 : Int) : Option uAc :=
  qa (g117 (l_0, n_2, ())) fun y1 => cond y1.1.1 (qi l_0.1.2.1 n_2 fun e2 => qi l_0.1.1 rule_1 fun e3 => some (((decide (e2 ≥ e3.2.2.1)), ()), ())) (some ((false, ()), ()))
def g125 (d : uAn × Int × Int × Unit) : Option uAc := F125 qc d.1 d.2.1 d.2.2.1
def p125 : qE := ⟨[.v uAy, .v zI, .v zI], [.v .bool], g125⟩
def c125 : qS := ⟨26, tyT, [], [(117, p117)], [], [], [], [], [], [], [], [], [], [], none⟩
theorem F125_eq (n : Nat) (d) : qy c125 n Tryz.f125 (body Tryz.f125) p125.ps p125.rs d = F125 n d.1 d.2.1 d.2.2.1 := by kernel_rfl
theorem h125 : qw Tryz.prog 125 p125 := hQ (cfg := c125) (qp qq (qd h117 qh) rfl (by kernel_rfl)) Tryz.func125 (by kernel_rfl) (qr (by kernel_rfl)) (by kernel_rfl) (F125_eq qc)
def F114 (_n : Nat) (l_0 : uAn) (rule_1 : Int) (a_2 : Int) (b_3 : Int) : Option uAc :=
  qi l_0.1.1 rule_1 fun e1 => cond (!e1.2.2.2) (qa (g125 (l_0, rule_1, a_2, ())) fun y2 => cond y2.1.1 (some (((b_3 == (-1)), ()), ())) (some ((false, ()), ()))) (qa (g125 (l_0, rule_1, a_2, ())) fun y3 => cond y3.1.1 (qa (g125 (l_0, rule_1, b_3, ())) fun y4 => cond y4.1.1 (some (((a_2 != b_3), ()), ())) (some ((false, ()), ()))) (some ((false, ()), ())))
def g114 (d : uAn × Int × Int × Int × Unit) : Option uAc := F114 qc d.1 d.2.1 d.2.2.1 d.2.2.2.1
def p114 : qE := ⟨[.v uAy, .v zI, .v zI, .v zI], [.v .bool], g114⟩
def c114 : qS := ⟨40, tyT, [], [(125, p125)], [], [], [], [], [], [], [], [], [], [], none⟩
theorem F114_eq (n : Nat) (d) : qy c114 n Tryz.f114 (body Tryz.f114) p114.ps p114.rs d = F114 n d.1 d.2.1 d.2.2.1 d.2.2.2.1 := by kernel_rfl
theorem h114 : qw Tryz.prog 114 p114 := hQ (cfg := c114) (qp qq (qd h125 qh) rfl (by kernel_rfl)) Tryz.func114 (by kernel_rfl) (qr (by kernel_rfl)) (by kernel_rfl) (F114_eq qc)
def F115 (_n : Nat) (l_0 : uAn) (n_1 : Int) : Option uAc :=
  qa (g94 (n_1, 0, (IntKind.wrap .i64 ((l_0.1.2.2.length : Int) - 1)), ())) fun y1 => some ((y1.1.1, ()), ())
def g115 (d : uAn × Int × Unit) : Option uAc := F115 qc d.1 d.2.1
def p115 : qE := ⟨[.v uAy, .v zI], [.v .bool], g115⟩
def c115 : qS := ⟨12, tyT, [], [(94, p94)], [], [], [], [], [], [], [], [], [], [], none⟩
theorem F115_eq (n : Nat) (d) : qy c115 n Tryz.f115 (body Tryz.f115) p115.ps p115.rs d = F115 n d.1 d.2.1 := by kernel_rfl
theorem h115 : qw Tryz.prog 115 p115 := hQ (cfg := c115) (qp qq (qd h94 qh) rfl (by kernel_rfl)) Tryz.func115 (by kernel_rfl) (qr (by kernel_rfl)) (by kernel_rfl) (F115_eq qc)
def B118_2 (_n : Nat) (L : ((List zTg) × (zTg → Option Bool) × Int × Int × Unit) × (Unit) × Unit → Option (zTn ⊕ uAg)) (s_0 : List zTg) (f_1 : zTg → Option Bool) (t_7 : Int) (t_8 : Int) : Option (zTn ⊕ uAg) :=
  cond (decide (t_8 < t_7)) (qi s_0 t_8 fun e1 => qa (f_1 e1) fun y2 => cond y2 (some (.inl ((t_8, ()), (), ()))) (L ((s_0, f_1, t_7, (IntKind.wrap .i64 (t_8 + 1)), ()), (), ()))) (some (.inr ((), (), ())))
def L118_2 : Nat → ((List zTg) × (zTg → Option Bool) × Int × Int × Unit) × (Unit) × Unit → Option (zTn ⊕ uAg)
  | 0, _ => none
  | n + 1, d => B118_2 n (L118_2 n) d.1.1 d.1.2.1 d.1.2.2.1 d.1.2.2.2.1
def l118_2 : qY := ⟨⟨[(0, .v uAd), (1, .v (.fn uAp .bool)), (7, .v zI), (8, .v zI)], [], none⟩, [(.ret, ⟨[(4, .v zI)], [], none⟩), (.exit 0, ⟨[], [], none⟩)], L118_2⟩
def F118 (n : Nat) (s_0 : (List zTg)) (f_1 : (zTg → Option Bool)) : Option uAh :=
  qa (L118_2 n ((s_0, f_1, (s_0.length : Int), 0, ()), (), ())) fun o3 => qbd o3 (fun d4 => some ((d4.1.1, ()), ())) (fun _ => some (((-1), ()), ()))
def g118 (d : (List zTg) × (zTg → Option Bool) × Unit) : Option uAh := F118 qc d.1 d.2.1
def p118 : qE := ⟨[.v uAd, .v (.fn uAp .bool)], [.v zI], g118⟩
def c118 : qS := ⟨19, tyT, [], [], [(2, l118_2)], [], [], [], [], [], [], [], [], [], none⟩
theorem F118_eq (n : Nat) (d) : qy c118 n Tryz.f118 (body Tryz.f118) p118.ps p118.rs d = F118 n d.1 d.2.1 := by kernel_rfl
theorem L118_2_eq (n : Nat) (d) : (l118_2).g (n + 1) d = run c118 n (jW 0 (qe (body Tryz.f118))) ((l118_2).ins.fill d) (qN (l118_2) n) := by kernel_rfl
theorem ls118 : qe (body Tryz.f118) = [jW 0 (qe (body Tryz.f118))] := by kernel_rfl
theorem h118 : qw Tryz.prog 118 p118 := hQ (cfg := c118) (qp qq (qh) rfl (by kernel_rfl)) Tryz.func118 (by kernel_rfl) (by rw [ls118]; simp only [List.forall_mem_cons]; exact ⟨qC (key := 2) (li := l118_2) (by kernel_rfl) rfl (fun _ => rfl) (L118_2_eq), fun _ h => by cases h⟩) (by kernel_rfl) (F118_eq qc)
def F126 (_n : Nat) (s_0 : (List zTg)) (f_1 : (zTg → Option Bool)) : Option uAc :=
  qa (g118 (s_0, f_1, ())) fun y1 => some (((decide (y1.1.1 ≥ 0)), ()), ())
def g126 (d : (List zTg) × (zTg → Option Bool) × Unit) : Option uAc := F126 qc d.1 d.2.1
def p126 : qE := ⟨[.v uAd, .v (.fn uAp .bool)], [.v .bool], g126⟩
def c126 : qS := ⟨9, tyT, [], [(118, p118)], [], [], [], [], [], [], [], [], [], [], none⟩
theorem F126_eq (n : Nat) (d) : qy c126 n Tryz.f126 (body Tryz.f126) p126.ps p126.rs d = F126 n d.1 d.2.1 := by kernel_rfl
theorem h126 : qw Tryz.prog 126 p126 := hQ (cfg := c126) (qp qq (qd h118 qh) rfl (by kernel_rfl)) Tryz.func126 (by kernel_rfl) (qr (by kernel_rfl)) (by kernel_rfl) (F126_eq qc)
def F127 (_n : Nat) (x_0 : zTg) (t_1 : Int) : Option uAc :=
  cond (x_0.2.1 == 3) (some (((x_0.2.2.1 == t_1), ()), ())) (some ((false, ()), ()))
def g127 (d : zTg × Int × Unit) : Option uAc := F127 qc d.1 d.2.1
def p127 : qE := ⟨[.v uAp, .r zI], [.v .bool], g127⟩
def c127 : qS := ⟨13, tyT, [], [], [], [], [], [], [], [], [], [], [], [], none⟩
theorem F127_eq (n : Nat) (d) : qy c127 n Tryz.f127 (body Tryz.f127) p127.ps p127.rs d = F127 n d.1 d.2.1 := by kernel_rfl
theorem h127 : qw Tryz.prog 127 p127 := hQ (cfg := c127) (qp qq (qh) rfl (by kernel_rfl)) Tryz.func127 (by kernel_rfl) (qr (by kernel_rfl)) (by kernel_rfl) (F127_eq qc)
def F116 (_n : Nat) (l_0 : uAn) (n_1 : Int) : Option uAc :=
  qa (g126 (l_0.2, (fun v1 => qa (g127 (v1, n_1, ())) fun y2 => some y2.1.1), ())) fun y3 => some ((y3.1.1, ()), ())
def g116 (d : uAn × Int × Unit) : Option uAc := F116 qc d.1 d.2.1
def p116 : qE := ⟨[.v uAy, .v zI], [.v .bool], g116⟩
def c116 : qS := ⟨9, tyT, [], [(126, p126), (127, p127)], [], [], [], [], [], [], [], [], [], [], none⟩
theorem F116_eq (n : Nat) (d) : qy c116 n Tryz.f116 (body Tryz.f116) p116.ps p116.rs d = F116 n d.1 d.2.1 := by kernel_rfl
theorem h116 : qw Tryz.prog 116 p116 := hQ (cfg := c116) (qp qq (qd h126 (qd h127 qh)) rfl (by kernel_rfl)) Tryz.func116 (by kernel_rfl) (qr (by kernel_rfl)) (by kernel_rfl) (F116_eq qc)
def F93 (_n : Nat) (l_0 : uAn) (x_1 : zTg) : Option uAc :=
  cond (decide ((l_0.2.length : Int) > 0)) (qi l_0.2 (IntKind.wrap .i64 ((l_0.2.length : Int) - 1)) fun e1 => qa (g94 (x_1.1, e1.1, 10000, ())) fun y2 => cond (!y2.1.1) (some ((false, ()), ())) (cond (x_1.2.1 == 1) (qa (g94 (x_1.2.2.1, 0, (IntKind.wrap .i64 ((l_0.1.1.length : Int) - 1)), ())) fun y3 => cond y3.1.1 (qa (g114 (l_0, x_1.2.2.1, x_1.2.2.2.1, x_1.2.2.2.2, ())) fun y4 => some ((y4.1.1, ()), ())) (some ((false, ()), ()))) (cond (x_1.2.1 == 2) (qa (g115 (l_0, x_1.2.2.1, ())) fun y5 => cond y5.1.1 (qa (g94 (x_1.2.2.2.1, 1, 3, ())) fun y6 => cond y6.1.1 (some (((x_1.2.2.2.2 == 0), ()), ())) (some ((false, ()), ()))) (some ((false, ()), ()))) (cond (x_1.2.1 == 3) (qa (g94 (x_1.2.2.1, 0, (IntKind.wrap .i64 ((l_0.2.length : Int) - 1)), ())) fun y7 => cond y7.1.1 (qi l_0.2 x_1.2.2.1 fun e8 => cond (e8.2.1 == 2) (qa (g116 (l_0, x_1.2.2.1, ())) fun y9 => cond (!y9.1.1) (qa (g117 (l_0, x_1.2.2.2.1, ())) fun y10 => cond y10.1.1 (some (((x_1.2.2.2.2 == 0), ()), ())) (some ((false, ()), ()))) (some ((false, ()), ()))) (some ((false, ()), ()))) (some ((false, ()), ()))) (cond (x_1.2.1 == 4) (qa (g115 (l_0, x_1.2.2.1, ())) fun y11 => cond y11.1.1 (qa (g117 (l_0, x_1.2.2.2.1, ())) fun y12 => cond y12.1.1 (some (((x_1.2.2.2.2 == 0), ()), ())) (some ((false, ()), ()))) (some ((false, ()), ()))) (cond (x_1.2.1 == 5) (qa (g115 (l_0, x_1.2.2.1, ())) fun y13 => cond y13.1.1 (qa (g94 (x_1.2.2.2.1, 0, 10000, ())) fun y14 => cond y14.1.1 (some (((x_1.2.2.2.2 == 0), ()), ())) (some ((false, ()), ()))) (some ((false, ()), ()))) (cond (x_1.2.1 == 6) (qa (g115 (l_0, x_1.2.2.1, ())) fun y15 => cond y15.1.1 (cond (x_1.2.2.2.1 == 0) (some (((x_1.2.2.2.2 == 0), ()), ())) (some ((false, ()), ()))) (some ((false, ()), ()))) (some ((false, ()), ()))))))))) (qa (g94 (x_1.1, 0, 10000, ())) fun y16 => cond (!y16.1.1) (some ((false, ()), ())) (cond (x_1.2.1 == 1) (qa (g94 (x_1.2.2.1, 0, (IntKind.wrap .i64 ((l_0.1.1.length : Int) - 1)), ())) fun y17 => cond y17.1.1 (qa (g114 (l_0, x_1.2.2.1, x_1.2.2.2.1, x_1.2.2.2.2, ())) fun y18 => some ((y18.1.1, ()), ())) (some ((false, ()), ()))) (cond (x_1.2.1 == 2) (qa (g115 (l_0, x_1.2.2.1, ())) fun y19 => cond y19.1.1 (qa (g94 (x_1.2.2.2.1, 1, 3, ())) fun y20 => cond y20.1.1 (some (((x_1.2.2.2.2 == 0), ()), ())) (some ((false, ()), ()))) (some ((false, ()), ()))) (cond (x_1.2.1 == 3) (qa (g94 (x_1.2.2.1, 0, (IntKind.wrap .i64 ((l_0.2.length : Int) - 1)), ())) fun y21 => cond y21.1.1 (qi l_0.2 x_1.2.2.1 fun e22 => cond (e22.2.1 == 2) (qa (g116 (l_0, x_1.2.2.1, ())) fun y23 => cond (!y23.1.1) (qa (g117 (l_0, x_1.2.2.2.1, ())) fun y24 => cond y24.1.1 (some (((x_1.2.2.2.2 == 0), ()), ())) (some ((false, ()), ()))) (some ((false, ()), ()))) (some ((false, ()), ()))) (some ((false, ()), ()))) (cond (x_1.2.1 == 4) (qa (g115 (l_0, x_1.2.2.1, ())) fun y25 => cond y25.1.1 (qa (g117 (l_0, x_1.2.2.2.1, ())) fun y26 => cond y26.1.1 (some (((x_1.2.2.2.2 == 0), ()), ())) (some ((false, ()), ()))) (some ((false, ()), ()))) (cond (x_1.2.1 == 5) (qa (g115 (l_0, x_1.2.2.1, ())) fun y27 => cond y27.1.1 (qa (g94 (x_1.2.2.2.1, 0, 10000, ())) fun y28 => cond y28.1.1 (some (((x_1.2.2.2.2 == 0), ()), ())) (some ((false, ()), ()))) (some ((false, ()), ()))) (cond (x_1.2.1 == 6) (qa (g115 (l_0, x_1.2.2.1, ())) fun y29 => cond y29.1.1 (cond (x_1.2.2.2.1 == 0) (some (((x_1.2.2.2.2 == 0), ()), ())) (some ((false, ()), ()))) (some ((false, ()), ()))) (some ((false, ()), ())))))))))
def g93 (d : uAn × zTg × Unit) : Option uAc := F93 qc d.1 d.2.1
def p93 : qE := ⟨[.v uAy, .v uAp], [.v .bool], g93⟩
def c93 : qS := ⟨148, tyT, [], [(94, p94), (114, p114), (115, p115), (116, p116), (117, p117)], [], [], [], [], [], [], [], [], [], [], none⟩
theorem F93_eq (n : Nat) (d) : qy c93 n Tryz.f93 (body Tryz.f93) p93.ps p93.rs d = F93 n d.1 d.2.1 := by kernel_rfl
theorem h93 : qw Tryz.prog 93 p93 := hQ (cfg := c93) (qp qq (qd h94 (qd h114 (qd h115 (qd h116 (qd h117 qh))))) rfl (by kernel_rfl)) Tryz.func93 (by kernel_rfl) (qr (by kernel_rfl)) (by kernel_rfl) (F93_eq qc)
def B81_8 (_n : Nat) (L : uBw × (uAn × Unit) × Unit → Option ((uAt × (uAn × Unit) × Unit) ⊕ ((Unit) × (uAn × Unit) × Unit))) (t_22 : List zTg) (t_23 : Int) (t_24 : Int) (o_4 : zTd × (List zTg)) : Option ((uAt × (uAn × Unit) × Unit) ⊕ ((Unit) × (uAn × Unit) × Unit)) :=
  cond (decide (t_24 < t_23)) (qi t_22 t_24 fun e2 => qa (g93 (o_4, e2, ())) fun y3 => cond (!y3.1.1) (some (.inl ((t_24, 101, ()), (o_4, ()), ()))) (jE ((o_4.2.length : Int) + [e2].length) (L ((t_22, t_23, (IntKind.wrap .i64 (t_24 + 1)), ()), ((o_4.1, (o_4.2 ++ [e2])), ()), ())))) (some (.inr ((), (o_4, ()), ())))
def L81_8 : Nat → uBw × (uAn × Unit) × Unit → Option ((uAt × (uAn × Unit) × Unit) ⊕ ((Unit) × (uAn × Unit) × Unit))
  | 0, _ => none
  | n + 1, d => B81_8 n (L81_8 n) d.1.1 d.1.2.1 d.1.2.2.1 d.2.1.1
def l81_8 : qY := ⟨⟨[(4, .c (.ptr 4 [])), (22, .v uAd), (23, .v zI), (24, .v zI)], [(4, false, .str uCb)], none⟩, [(.ret, ⟨[(4, .c (.ptr 4 [])), (5, .v zI), (6, .v zI)], [(4, false, .str uCb)], none⟩), (.exit 0, ⟨[(4, .c (.ptr 4 []))], [(4, false, .str uCb)], none⟩)], L81_8⟩
def F81 (n : Nat) (b_0 : zTd) (entries_1 : (List zTg)) : Option ((uAn × Int × Int × Unit) × (Unit)) :=
  qa (g92 (b_0, ())) fun y1 => cond (y1.1.1 != 0) (some ((((([] : List uAi), (([] : List Int), ([] : List Int))), ([] : List zTg)), 0, y1.1.1, ()), ())) (cond (decide ((entries_1.length : Int) > 100)) (some ((((([] : List uAi), (([] : List Int), ([] : List Int))), ([] : List zTg)), 0, 2, ()), ())) (qa (L81_8 n ((entries_1, (entries_1.length : Int), 0, ()), ((b_0, ([] : List zTg)), ()), ())) fun o4 => qbd o4 (fun d5 => some ((d5.2.1.1, d5.1.1, d5.1.2.1, ()), ())) (fun d6 => some ((d6.2.1.1, 0, 0, ()), ()))))
def g81 (d : zTd × (List zTg) × Unit) : Option ((uAn × Int × Int × Unit) × (Unit)) := F81 qc d.1 d.2.1
def p81 : qE := ⟨[.v (.str zTb), .v uAd], [.v uAy, .v zI, .v zI], g81⟩
def c81 : qS := ⟨43, tyT, [(4, .str uCb), (21, .str uCb)], [(92, p92), (93, p93)], [(8, l81_8)], [], [], [], [], [], [], [], [], [], none⟩
theorem F81_eq (n : Nat) (d) : qy c81 n Tryz.f81 (body Tryz.f81) p81.ps p81.rs d = F81 n d.1 d.2.1 := by kernel_rfl
theorem L81_8_eq (n : Nat) (d) : (l81_8).g (n + 1) d = run c81 n (jW 0 (qe (body Tryz.f81))) ((l81_8).ins.fill d) (qN (l81_8) n) := by kernel_rfl
theorem ls81 : qe (body Tryz.f81) = [jW 0 (qe (body Tryz.f81))] := by kernel_rfl
theorem h81 : qw Tryz.prog 81 p81 := hQ (cfg := c81) (qp qq (qd h92 (qd h93 qh)) rfl (by kernel_rfl)) Tryz.func81 (by kernel_rfl) (by rw [ls81]; simp only [List.forall_mem_cons]; exact ⟨qC (key := 8) (li := l81_8) (by kernel_rfl) rfl (fun _ => rfl) (L81_8_eq), fun _ h => by cases h⟩) (by kernel_rfl) (F81_eq qc)
def F63 (_n : Nat) (b_0 : zTd) (l_1 : (List zTg)) : Option uCd :=
  qa (g81 (b_0, l_1, ())) fun y1 => some ((y1.1.2.1, y1.1.2.2.1, ()), ())
def g63 (d : zTd × (List zTg) × Unit) : Option uCd := F63 qc d.1 d.2.1
def p63 : qE := ⟨[.v (.str zTb), .v uAd], [.v zI, .v zI], g63⟩
def c63 : qS := ⟨15, tyT, [], [(81, p81)], [], [], [], [], [], [], [], [], [], [], none⟩
theorem F63_eq (n : Nat) (d) : qy c63 n Tryz.f63 (body Tryz.f63) p63.ps p63.rs d = F63 n d.1 d.2.1 := by kernel_rfl
theorem h63 : qw Tryz.prog 63 p63 := hQ (cfg := c63) (qp qq (qd h81 qh) rfl (by kernel_rfl)) Tryz.func63 (by kernel_rfl) (qr (by kernel_rfl)) (by kernel_rfl) (F63_eq qc)
def F82 (_n : Nat) (n_0 : Int) (low_1 : Int) (high_2 : Int) : Option uAc :=
  cond (decide (n_0 ≥ low_1)) (some (((decide (n_0 ≤ high_2)), ()), ())) (some ((false, ()), ()))
def g82 (d : Int × Int × Int × Unit) : Option uAc := F82 qc d.1 d.2.1 d.2.2.1
def p82 : qE := ⟨[.v zI, .v zI, .v zI], [.v .bool], g82⟩
def c82 : qS := ⟨15, tyT, [], [], [], [], [], [], [], [], [], [], [], [], none⟩
theorem F82_eq (n : Nat) (d) : qy c82 n Tryz.f82 (body Tryz.f82) p82.ps p82.rs d = F82 n d.1 d.2.1 d.2.2.1 := by kernel_rfl
theorem h82 : qw Tryz.prog 82 p82 := hQ (cfg := c82) (qp qq (qh) rfl (by kernel_rfl)) Tryz.func82 (by kernel_rfl) (qr (by kernel_rfl)) (by kernel_rfl) (F82_eq qc)
def B64_4 (_n : Nat) (L : uCt × (zTf × Unit) × Unit → Option (zTn ⊕ uCa)) (t_36 : List (Int × uAe)) (t_37 : Int) (t_38 : Int) (o_1 : zTt × (zTt × uAe)) : Option (zTn ⊕ uCa) :=
  cond (decide (t_38 < t_37)) (qi t_36 t_38 fun e4 => qa (g82 (e4.1, (-1), (IntKind.wrap .i64 (t_38 - 1)), ())) fun y5 => cond (!y5.1.1) (some (.inl ((50, ()), (), ()))) (qa (g82 (e4.2.1, 1, 1000, ())) fun y6 => cond (!y6.1.1) (some (.inl ((50, ()), (), ()))) (qa (g82 (e4.2.2.1, 0, 20, ())) fun y7 => cond (!y7.1.1) (some (.inl ((50, ()), (), ()))) (qa (g82 (e4.2.2.2, 1, 10000, ())) fun y8 => cond (!y8.1.1) (some (.inl ((50, ()), (), ()))) (L ((t_36, t_37, (IntKind.wrap .i64 (t_38 + 1)), ()), (o_1, ()), ())))))) (some (.inr ((), (o_1, ()), ())))
def L64_4 : Nat → uCt × (zTf × Unit) × Unit → Option (zTn ⊕ uCa)
  | 0, _ => none
  | n + 1, d => B64_4 n (L64_4 n) d.1.1 d.1.2.1 d.1.2.2.1 d.2.1.1
def l64_4 : qY := ⟨⟨[(1, .c (.ptr 1 [])), (36, .v (.list false 102 (.str uBl))), (37, .v zI), (38, .v zI)], [(1, false, .str uAb)], none⟩, [(.ret, ⟨[(2, .v zI)], [], none⟩), (.exit 0, ⟨[(1, .c (.ptr 1 []))], [(1, false, .str uAb)], none⟩)], L64_4⟩
def B64_10 (_n : Nat) (L : uCt × (zTf × Unit) × Unit → Option (zTn ⊕ uAg)) (t_69 : List (Int × uAe)) (t_70 : Int) (t_71 : Int) (o_1 : zTt × (zTt × uAe)) : Option (zTn ⊕ uAg) :=
  cond (decide (t_71 < t_70)) (qi t_69 t_71 fun e12 => qa (g82 (e12.1, 0, (IntKind.wrap .i64 ((o_1.1.length : Int) - 1)), ())) fun y13 => cond (!y13.1.1) (some (.inl ((50, ()), (), ()))) (qa (g82 (e12.2.1, 0, 2, ())) fun y14 => cond (!y14.1.1) (some (.inl ((50, ()), (), ()))) (qa (g82 (e12.2.2.1, 1, 1000, ())) fun y15 => cond (!y15.1.1) (some (.inl ((50, ()), (), ()))) (qa (g82 (e12.2.2.2, 0, 1000, ())) fun y16 => cond (!y16.1.1) (some (.inl ((50, ()), (), ()))) (L ((t_69, t_70, (IntKind.wrap .i64 (t_71 + 1)), ()), (o_1, ()), ())))))) (some (.inr ((), (), ())))
def L64_10 : Nat → uCt × (zTf × Unit) × Unit → Option (zTn ⊕ uAg)
  | 0, _ => none
  | n + 1, d => B64_10 n (L64_10 n) d.1.1 d.1.2.1 d.1.2.2.1 d.2.1.1
def l64_10 : qY := ⟨⟨[(1, .c (.ptr 1 [])), (69, .v (.list false 104 (.str uBl))), (70, .v zI), (71, .v zI)], [(1, false, .str uAb)], none⟩, [(.ret, ⟨[(2, .v zI)], [], none⟩), (.exit 2, ⟨[], [], none⟩)], L64_10⟩
def F64 (n : Nat) (s_0 : zTf) : Option uAh :=
  cond (decide ((s_0.1.length : Int) > 10)) (some ((50, ()), ())) (cond (decide ((s_0.2.1.length : Int) > 16)) (some ((50, ()), ())) (qa (g82 (s_0.2.2.1, 1, 1000, ())) fun y1 => cond (!y1.1.1) (some ((50, ()), ())) (qa (g82 (s_0.2.2.2.1, 0, 20, ())) fun y2 => cond (!y2.1.1) (some ((50, ()), ())) (qa (g82 (s_0.2.2.2.2, 1, 1000, ())) fun y3 => cond (!y3.1.1) (some ((50, ()), ())) (qa (L64_4 n ((s_0.1, (s_0.1.length : Int), 0, ()), (s_0, ()), ())) fun o9 => qbd o9 (fun d10 => some ((d10.1.1, ()), ())) (fun d11 => qa (L64_10 n ((d11.2.1.1.2.1, (d11.2.1.1.2.1.length : Int), 0, ()), (d11.2.1.1, ()), ())) fun o17 => qbd o17 (fun d18 => some ((d18.1.1, ()), ())) (fun _ => some ((0, ()), ()))))))))
def g64 (d : zTf × Unit) : Option uAh := F64 qc d.1
def p64 : qE := ⟨[.v (.str uAb)], [.v zI], g64⟩
def c64 : qS := ⟨102, tyT, [], [(82, p82)], [(4, l64_4), (10, l64_10)], [], [], [], [], [], [], [], [], [], none⟩
theorem F64_eq (n : Nat) (d) : qy c64 n Tryz.f64 (body Tryz.f64) p64.ps p64.rs d = F64 n d.1 := by kernel_rfl
theorem L64_4_eq (n : Nat) (d) : (l64_4).g (n + 1) d = run c64 n (jW 0 (qe (body Tryz.f64))) ((l64_4).ins.fill d) (qN (l64_4) n) := by kernel_rfl
theorem L64_10_eq (n : Nat) (d) : (l64_10).g (n + 1) d = run c64 n (jW 1 (qe (body Tryz.f64))) ((l64_10).ins.fill d) (qN (l64_10) n) := by kernel_rfl
theorem ls64 : qe (body Tryz.f64) = [jW 0 (qe (body Tryz.f64)), jW 1 (qe (body Tryz.f64))] := by kernel_rfl
theorem h64 : qw Tryz.prog 64 p64 := hQ (cfg := c64) (qp qq (qd h82 qh) rfl (by kernel_rfl)) Tryz.func64 (by kernel_rfl) (by rw [ls64]; simp only [List.forall_mem_cons]; exact ⟨qC (key := 4) (li := l64_4) (by kernel_rfl) rfl (fun _ => rfl) (L64_4_eq), qC (key := 10) (li := l64_10) (by kernel_rfl) rfl (fun _ => rfl) (L64_10_eq), fun _ h => by cases h⟩) (by kernel_rfl) (F64_eq qc)
def F67 (_n : Nat) (n_0 : Int) (low_1 : Int) (high_2 : Int) : Option uAc :=
  cond (decide (n_0 ≥ low_1)) (some (((decide (n_0 ≤ high_2)), ()), ())) (some ((false, ()), ()))
def g67 (d : Int × Int × Int × Unit) : Option uAc := F67 qc d.1 d.2.1 d.2.2.1
def p67 : qE := ⟨[.v zI, .v zI, .v zI], [.v .bool], g67⟩
def c67 : qS := ⟨15, tyT, [], [], [], [], [], [], [], [], [], [], [], [], none⟩
theorem F67_eq (n : Nat) (d) : qy c67 n Tryz.f67 (body Tryz.f67) p67.ps p67.rs d = F67 n d.1 d.2.1 d.2.2.1 := by kernel_rfl
theorem h67 : qw Tryz.prog 67 p67 := hQ (cfg := c67) (qp qq (qh) rfl (by kernel_rfl)) Tryz.func67 (by kernel_rfl) (qr (by kernel_rfl)) (by kernel_rfl) (F67_eq qc)
def F66 (_n : Nat) (x_0 : Int) (t_1 : Int) : Option uAc :=
  qa (g67 (x_0, 0, t_1, ())) fun y1 => some (((!y1.1.1), ()), ())
def g66 (d : Int × Int × Unit) : Option uAc := F66 qc d.1 d.2.1
def p66 : qE := ⟨[.v zI, .r zI], [.v .bool], g66⟩
def c66 : qS := ⟨8, tyT, [], [(67, p67)], [], [], [], [], [], [], [], [], [], [], none⟩
theorem F66_eq (n : Nat) (d) : qy c66 n Tryz.f66 (body Tryz.f66) p66.ps p66.rs d = F66 n d.1 d.2.1 := by kernel_rfl
theorem h66 : qw Tryz.prog 66 p66 := hQ (cfg := c66) (qp qq (qd h67 qh) rfl (by kernel_rfl)) Tryz.func66 (by kernel_rfl) (qr (by kernel_rfl)) (by kernel_rfl) (F66_eq qc)
def F47 (_n : Nat) (g_0 : zTj) : Option uAh :=
  qa (g62 (g_0.1, [], ())) fun y1 => cond (y1.1.1 != 0) (some ((y1.1.1, ()), ())) (qa (g63 (g_0.2.1, g_0.2.2.1, ())) fun y2 => cond (y2.1.2.1 != 0) (some ((y2.1.2.1, ()), ())) (qa (g64 (g_0.2.2.2.2.1, ())) fun y3 => cond (y3.1.1 != 0) (some ((y3.1.1, ()), ())) (cond ((g_0.2.1.2.2.length : Int) != (g_0.1.1.length : Int)) (cond ((g_0.2.1.2.2.length : Int) != (g_0.1.1.length : Int)) (some ((120, ()), ())) (qa (Mk.m65.p.g (200, ())) fun y4 => qa (g51 (g_0.2.2.2.2.2.1, (fun v5 => qa y4.1.1 fun q7 => qa (g66 (v5, q7, ())) fun y6 => some y6.1.1), ())) fun y8 => cond y8.1.1 (cond y8.1.1 (some ((120, ()), ())) (some ((0, ()), ()))) (qa (Mk.m65.p.g (100, ())) fun y9 => qa (g51 (g_0.2.2.2.2.2.2, (fun v10 => qa y9.1.1 fun q12 => qa (g66 (v10, q12, ())) fun y11 => some y11.1.1), ())) fun y13 => cond y13.1.1 (some ((120, ()), ())) (some ((0, ()), ()))))) (cond ((g_0.2.2.2.2.1.2.1.length : Int) != (g_0.1.1.length : Int)) (cond ((g_0.2.2.2.2.1.2.1.length : Int) != (g_0.1.1.length : Int)) (some ((120, ()), ())) (qa (Mk.m65.p.g (200, ())) fun y14 => qa (g51 (g_0.2.2.2.2.2.1, (fun v15 => qa y14.1.1 fun q17 => qa (g66 (v15, q17, ())) fun y16 => some y16.1.1), ())) fun y18 => cond y18.1.1 (cond y18.1.1 (some ((120, ()), ())) (some ((0, ()), ()))) (qa (Mk.m65.p.g (100, ())) fun y19 => qa (g51 (g_0.2.2.2.2.2.2, (fun v20 => qa y19.1.1 fun q22 => qa (g66 (v20, q22, ())) fun y21 => some y21.1.1), ())) fun y23 => cond y23.1.1 (some ((120, ()), ())) (some ((0, ()), ()))))) (cond ((g_0.2.2.2.2.2.1.length : Int) != (g_0.1.1.length : Int)) (cond ((g_0.2.2.2.2.2.1.length : Int) != (g_0.1.1.length : Int)) (some ((120, ()), ())) (qa (Mk.m65.p.g (200, ())) fun y24 => qa (g51 (g_0.2.2.2.2.2.1, (fun v25 => qa y24.1.1 fun q27 => qa (g66 (v25, q27, ())) fun y26 => some y26.1.1), ())) fun y28 => cond y28.1.1 (cond y28.1.1 (some ((120, ()), ())) (some ((0, ()), ()))) (qa (Mk.m65.p.g (100, ())) fun y29 => qa (g51 (g_0.2.2.2.2.2.2, (fun v30 => qa y29.1.1 fun q32 => qa (g66 (v30, q32, ())) fun y31 => some y31.1.1), ())) fun y33 => cond y33.1.1 (some ((120, ()), ())) (some ((0, ()), ()))))) (cond ((g_0.2.2.2.2.2.2.length : Int) != (g_0.1.1.length : Int)) (cond ((g_0.2.2.2.2.2.2.length : Int) != (g_0.1.1.length : Int)) (some ((120, ()), ())) (qa (Mk.m65.p.g (200, ())) fun y34 => qa (g51 (g_0.2.2.2.2.2.1, (fun v35 => qa y34.1.1 fun q37 => qa (g66 (v35, q37, ())) fun y36 => some y36.1.1), ())) fun y38 => cond y38.1.1 (cond y38.1.1 (some ((120, ()), ())) (some ((0, ()), ()))) (qa (Mk.m65.p.g (100, ())) fun y39 => qa (g51 (g_0.2.2.2.2.2.2, (fun v40 => qa y39.1.1 fun q42 => qa (g66 (v40, q42, ())) fun y41 => some y41.1.1), ())) fun y43 => cond y43.1.1 (some ((120, ()), ())) (some ((0, ()), ()))))) (qa (g67 (g_0.2.2.2.1, 0, 10000, ())) fun y44 => cond (!y44.1.1) (some ((120, ()), ())) (qa (Mk.m65.p.g (200, ())) fun y45 => qa (g51 (g_0.2.2.2.2.2.1, (fun v46 => qa y45.1.1 fun q48 => qa (g66 (v46, q48, ())) fun y47 => some y47.1.1), ())) fun y49 => cond y49.1.1 (cond y49.1.1 (some ((120, ()), ())) (some ((0, ()), ()))) (qa (Mk.m65.p.g (100, ())) fun y50 => qa (g51 (g_0.2.2.2.2.2.2, (fun v51 => qa y50.1.1 fun q53 => qa (g66 (v51, q53, ())) fun y52 => some y52.1.1), ())) fun y54 => cond y54.1.1 (some ((120, ()), ())) (some ((0, ()), ())))))))))))
def g47 (d : zTj × Unit) : Option uAh := F47 qc d.1
def p47 : qE := ⟨[.v (.str uAj)], [.v zI], g47⟩
def c47 : qS := ⟨74, tyT, [(1, .str uAj)], [(51, p51), (62, p62), (63, p63), (64, p64), (66, p66), (67, p67)], [], [], [18, 19], [], [], [(65, Mk.m65)], [], [], [], [], none⟩
theorem F47_eq (n : Nat) (d) : qy c47 n Tryz.f47 (body Tryz.f47) p47.ps p47.rs d = F47 n d.1 := by kernel_rfl
theorem h47 : qw Tryz.prog 47 p47 := hQ (cfg := c47) (qp qq (qd h51 (qd h62 (qd h63 (qd h64 (qd h66 (qd h67 qh)))))) rfl (by kernel_rfl) (qjC (qgY Mk.k65 qjE))) Tryz.func47 (by kernel_rfl) (qr (by kernel_rfl)) (by kernel_rfl) (F47_eq qc)
def F119 (_n : Nat) (x_0 : zTg) (t_1 : Int) : Option uAc :=
  some (((decide (x_0.1 > t_1)), ()), ())
def g119 (d : zTg × Int × Unit) : Option uAc := F119 qc d.1 d.2.1
def p119 : qE := ⟨[.v uAp, .r zI], [.v .bool], g119⟩
def c119 : qS := ⟨8, tyT, [], [], [], [], [], [], [], [], [], [], [], [], none⟩
theorem F119_eq (n : Nat) (d) : qy c119 n Tryz.f119 (body Tryz.f119) p119.ps p119.rs d = F119 n d.1 d.2.1 := by kernel_rfl
theorem h119 : qw Tryz.prog 119 p119 := hQ (cfg := c119) (qp qq (qh) rfl (by kernel_rfl)) Tryz.func119 (by kernel_rfl) (qr (by kernel_rfl)) (by kernel_rfl) (F119_eq qc)
def F95 (_n : Nat) (l_0 : uAn) (day_1 : Int) : Option ((uAn × Unit) × (Unit)) :=
  qa (g118 (l_0.2, (fun v1 => qa (g119 (v1, day_1, ())) fun y2 => some y2.1.1), ())) fun y3 => cond (decide (y3.1.1 ≥ 0)) (leK 0 y3.1.1 (leK y3.1.1 (l_0.2.length : Int) (some (((l_0.1, (l_0.2.take y3.1.1.toNat)), ()), ())))) (some ((l_0, ()), ()))
def g95 (d : uAn × Int × Unit) : Option ((uAn × Unit) × (Unit)) := F95 qc d.1 d.2.1
def p95 : qE := ⟨[.v uAy, .v zI], [.v uAy], g95⟩
def c95 : qS := ⟨18, tyT, [], [(118, p118), (119, p119)], [], [], [], [], [], [], [], [], [], [], none⟩
theorem F95_eq (n : Nat) (d) : qy c95 n Tryz.f95 (body Tryz.f95) p95.ps p95.rs d = F95 n d.1 d.2.1 := by kernel_rfl
theorem h95 : qw Tryz.prog 95 p95 := hQ (cfg := c95) (qp qq (qd h118 (qd h119 qh)) rfl (by kernel_rfl)) Tryz.func95 (by kernel_rfl) (qr (by kernel_rfl)) (by kernel_rfl) (F95_eq qc)
def F83 (_n : Nat) (b_0 : zTd) (entries_1 : (List zTg)) (day_2 : Int) : Option ((uAn × Int × Unit) × (Unit)) :=
  qa (g81 (b_0, entries_1, ())) fun y1 => cond (y1.1.2.2.1 != 0) (some ((y1.1.1, y1.1.2.2.1, ()), ())) (qa (g94 (day_2, 0, 10000, ())) fun y2 => cond (!y2.1.1) (some ((y1.1.1, 1, ()), ())) (qa (g95 (y1.1.1, day_2, ())) fun y3 => some ((y3.1.1, 0, ()), ())))
def g83 (d : zTd × (List zTg) × Int × Unit) : Option ((uAn × Int × Unit) × (Unit)) := F83 qc d.1 d.2.1 d.2.2.1
def p83 : qE := ⟨[.v (.str zTb), .v uAd, .v zI], [.v uAy, .v zI], g83⟩
def c83 : qS := ⟨31, tyT, [], [(81, p81), (94, p94), (95, p95)], [], [], [], [], [], [], [], [], [], [], none⟩
theorem F83_eq (n : Nat) (d) : qy c83 n Tryz.f83 (body Tryz.f83) p83.ps p83.rs d = F83 n d.1 d.2.1 d.2.2.1 := by kernel_rfl
theorem h83 : qw Tryz.prog 83 p83 := hQ (cfg := c83) (qp qq (qd h81 (qd h94 (qd h95 qh))) rfl (by kernel_rfl)) Tryz.func83 (by kernel_rfl) (qr (by kernel_rfl)) (by kernel_rfl) (F83_eq qc)
def F96 (_n : Nat) (reason_0 : Int) (is_1 : Bool) (t_2 : (List Int)) : Option ((Unit) × uAm) :=
  cond is_1 (jE ((t_2.length : Int) + [reason_0].length) (some ((), ((t_2 ++ [reason_0]), ())))) (some ((), (t_2, ())))
def g96 (d : Int × Bool × (List Int) × Unit) : Option ((Unit) × uAm) := F96 qc d.1 d.2.1 d.2.2.1
def p96 : qE := ⟨[.v zI, .v .bool, .m uBd], [], g96⟩
def c96 : qS := ⟨10, tyT, [], [], [], [], [], [], [], [], [], [], [], [], none⟩
theorem F96_eq (n : Nat) (d) : qy c96 n Tryz.f96 (body Tryz.f96) p96.ps p96.rs d = F96 n d.1 d.2.1 d.2.2.1 := by kernel_rfl
theorem h96 : qw Tryz.prog 96 p96 := hQ (cfg := c96) (qp qq (qh) rfl (by kernel_rfl)) Tryz.func96 (by kernel_rfl) (qr (by kernel_rfl)) (by kernel_rfl) (F96_eq qc)
def Q99_2 (_n : Nat) (L : (Int × (zTg → Option Bool) × Int × Unit) → Option (X × (Int × Unit))) (t_10 : zTg) (ride_4 : Int) (wanted_5 : (zTg → Option Bool)) (t_6 : Int) : Option (X × (Int × Unit)) :=
  qa (wanted_5 t_10) fun y2 => cond y2 (some (.ret, (t_10.1, ()))) (cond (t_10.2.1 == 6) (cond (t_10.2.2.1 == ride_4) (some (.ret, ((-1), ()))) (L (ride_4, wanted_5, t_6, ()))) (L (ride_4, wanted_5, t_6, ())))
def R99_2 (n : Nat) : List zTg → (Int × (zTg → Option Bool) × Int × Unit) → Option (X × (Int × Unit))
  | [], d => some (.norm, (d.2.2.1, ()))
  | x :: r, d => Q99_2 n (R99_2 n r) x d.1 d.2.1 d.2.2.1
def qjn : qcj := ⟨.str (.pair zI uBl), [4, 5, 6], [.r zI, .r (.fn uAp .bool), .m zI], [.norm, .ret], R99_2⟩
def F99 (n : Nat) (l_0 : uAn) (ride_1 : Int) (wanted_2 : (zTg → Option Bool)) : Option uAh :=
  qa (Ib.m122.p.g (l_0, ())) fun y1 => qa y1.1.1 fun q3 => qa (Ib.it129.g (q3, ())) fun l5 => qa (R99_2 n l5 (ride_1, wanted_2, (0 : Int), ())) fun o4 => cond (X.same .norm o4.1) (some (((-1), ()), ())) (cond (X.same .ret o4.1) (some ((o4.2.1, ()), ())) (none))
def g99 (d : uAn × Int × (zTg → Option Bool) × Unit) : Option uAh := F99 qc d.1 d.2.1 d.2.2.1
def p99 : qE := ⟨[.v uAy, .v zI, .v (.fn uAp .bool)], [.v zI], g99⟩
def c99 : qS := ⟨27, tyT, [], [], [], [], [], [(129, Ib.it129)], [(2, qjn)], [(122, Ib.m122)], [], [], [], [], none⟩
theorem F99_eq (n : Nat) (d) : qy c99 n Tryz.f99 (body Tryz.f99) p99.ps p99.rs d = F99 n d.1 d.2.1 d.2.2.1 := by kernel_rfl
theorem R99_2_eq (n : Nat) (x r d) : (qjn).g n (x :: r) d = run c99 n (asR (jW 0 (jI (body Tryz.f99)))) (qdB qjn [10] d x) (qeW (qga c99 qjn n (bdR (jW 0 (jI (body Tryz.f99)))) r d) qhk) := by kernel_rfl
theorem rs99 : jI (body Tryz.f99) = [jW 0 (jI (body Tryz.f99))] := by kernel_rfl
theorem h99 : qw Tryz.prog 99 p99 := qd5 qcL (cfg := c99) (qp qq (qh) rfl (by kernel_rfl) (qjC (qgY Ib.k122 qjE))) (qg5 Ib.it129_ok qjO) Tryz.func99 rfl rfl (by kernel_rfl) rfl (qr (by kernel_rfl)) (by rw [rs99]; simp only [List.forall_mem_cons]; exact ⟨qdZ (key := 2) (li := qjn) (pl := [10]) (by kernel_rfl) rfl (by kernel_rfl) (by kernel_rfl) (qr (by kernel_rfl)) (fun _ _ => rfl) R99_2_eq, fun _ h => by cases h⟩) (by kernel_rfl) (fun d y h => ⟨qc, (F99_eq qc d).trans h⟩)
def F128 (_n : Nat) (x_0 : zTg) (t_1 : Int) : Option uAc :=
  cond (x_0.2.1 == 1) (some (((x_0.2.2.1 == t_1), ()), ())) (some ((false, ()), ()))
def g128 (d : zTg × Int × Unit) : Option uAc := F128 qc d.1 d.2.1
def p128 : qE := ⟨[.v uAp, .r zI], [.v .bool], g128⟩
def c128 : qS := ⟨13, tyT, [], [], [], [], [], [], [], [], [], [], [], [], none⟩
theorem F128_eq (n : Nat) (d) : qy c128 n Tryz.f128 (body Tryz.f128) p128.ps p128.rs d = F128 n d.1 d.2.1 := by kernel_rfl
theorem h128 : qw Tryz.prog 128 p128 := hQ (cfg := c128) (qp qq (qh) rfl (by kernel_rfl)) Tryz.func128 (by kernel_rfl) (qr (by kernel_rfl)) (by kernel_rfl) (F128_eq qc)
def F120 (_n : Nat) (l_0 : uAn) (rule_1 : Int) : Option uAh :=
  qi l_0.1.1 rule_1 fun e1 => qa (g99 (l_0, e1.1, (fun v2 => qa (g128 (v2, rule_1, ())) fun y3 => some y3.1.1), ())) fun y4 => cond (decide (y4.1.1 < 0)) (some (((-1), ()), ())) (qi l_0.1.1 rule_1 fun e5 => some (((IntKind.wrap .i64 ((IntKind.wrap .i64 (y4.1.1 + e5.2.1)) - 1)), ()), ()))
def g120 (d : uAn × Int × Unit) : Option uAh := F120 qc d.1 d.2.1
def p120 : qE := ⟨[.v uAy, .v zI], [.v zI], g120⟩
def c120 : qS := ⟨28, tyT, [], [(99, p99), (128, p128)], [], [], [], [], [], [], [], [], [], [], none⟩
theorem F120_eq (n : Nat) (d) : qy c120 n Tryz.f120 (body Tryz.f120) p120.ps p120.rs d = F120 n d.1 d.2.1 := by kernel_rfl
theorem h120 : qw Tryz.prog 120 p120 := hQ (cfg := c120) (qp qq (qd h99 (qd h128 qh)) rfl (by kernel_rfl)) Tryz.func120 (by kernel_rfl) (qr (by kernel_rfl)) (by kernel_rfl) (F120_eq qc)
def B97_3 (_n : Nat) (L : (Int × Int × (List uAi) × Int × Int × Unit) × (uAn × Unit) × Unit → Option (zTn)) (ride_1 : Int) (day_5 : Int) (t_10 : List uAi) (t_11 : Int) (t_12 : Int) (o_2 : zTd × (List zTg)) : Option (zTn) :=
  cond (decide (t_12 < t_11)) (qi t_10 t_12 fun e1 => cond (e1.1 == ride_1) (qa (g120 (o_2, t_12, ())) fun y2 => L ((ride_1, (min day_5 y2.1.1), t_10, t_11, (IntKind.wrap .i64 (t_12 + 1)), ()), (o_2, ()), ())) (L ((ride_1, day_5, t_10, t_11, (IntKind.wrap .i64 (t_12 + 1)), ()), (o_2, ()), ()))) (some ((day_5, ()), (), ()))
def L97_3 : Nat → (Int × Int × (List uAi) × Int × Int × Unit) × (uAn × Unit) × Unit → Option (zTn)
  | 0, _ => none
  | n + 1, d => B97_3 n (L97_3 n) d.1.1 d.1.2.1 d.1.2.2.1 d.1.2.2.2.1 d.1.2.2.2.2.1 d.2.1.1
def l97_3 : qY := ⟨⟨[(1, .v zI), (2, .c (.ptr 2 [])), (5, .v zI), (10, .v uCh), (11, .v zI), (12, .v zI)], [(2, false, .str uCk)], none⟩, [(.exit 0, ⟨[(5, .v zI)], [], none⟩)], L97_3⟩
def F97 (n : Nat) (l_0 : uAn) (ride_1 : Int) : Option uAh :=
  qa (L97_3 n ((ride_1, 10000, l_0.1.1, (l_0.1.1.length : Int), 0, ()), (l_0, ()), ())) fun o3 => some ((o3.1.1, ()), ())
def g97 (d : uAn × Int × Unit) : Option uAh := F97 qc d.1 d.2.1
def p97 : qE := ⟨[.v uAy, .v zI], [.v zI], g97⟩
def c97 : qS := ⟨28, tyT, [], [(120, p120)], [(3, l97_3)], [], [], [], [], [], [], [], [], [], none⟩
theorem F97_eq (n : Nat) (d) : qy c97 n Tryz.f97 (body Tryz.f97) p97.ps p97.rs d = F97 n d.1 d.2.1 := by kernel_rfl
theorem L97_3_eq (n : Nat) (d) : (l97_3).g (n + 1) d = run c97 n (jW 0 (qe (body Tryz.f97))) ((l97_3).ins.fill d) (qN (l97_3) n) := by kernel_rfl
theorem ls97 : qe (body Tryz.f97) = [jW 0 (qe (body Tryz.f97))] := by kernel_rfl
theorem h97 : qw Tryz.prog 97 p97 := hQ (cfg := c97) (qp qq (qd h120 qh) rfl (by kernel_rfl)) Tryz.func97 (by kernel_rfl) (by rw [ls97]; simp only [List.forall_mem_cons]; exact ⟨qC (key := 3) (li := l97_3) (by kernel_rfl) rfl (fun _ => rfl) (L97_3_eq), fun _ h => by cases h⟩) (by kernel_rfl) (F97_eq qc)
def B121_2 (_n : Nat) (L : uBw × (uAn × (List Int) × Unit) × Unit → Option zTs) (t_6 : List zTg) (t_7 : Int) (t_8 : Int) (o_1 : zTd × (List zTg)) (o_2 : List Int) : Option zTs :=
  cond (decide (t_8 < t_7)) (qi t_6 t_8 fun e1 => cond (e1.2.1 == 2) (qa (g116 (o_1, t_8, ())) fun y2 => cond (!y2.1.1) (jE ((o_2.length : Int) + [t_8].length) (L ((t_6, t_7, (IntKind.wrap .i64 (t_8 + 1)), ()), (o_1, (o_2 ++ [t_8]), ()), ()))) (L ((t_6, t_7, (IntKind.wrap .i64 (t_8 + 1)), ()), (o_1, o_2, ()), ()))) (L ((t_6, t_7, (IntKind.wrap .i64 (t_8 + 1)), ()), (o_1, o_2, ()), ()))) (some ((), (o_2, ()), ()))
def L121_2 : Nat → uBw × (uAn × (List Int) × Unit) × Unit → Option zTs
  | 0, _ => none
  | n + 1, d => B121_2 n (L121_2 n) d.1.1 d.1.2.1 d.1.2.2.1 d.2.1.1 d.2.1.2.1
def l121_2 : qY := ⟨⟨[(1, .c (.ptr 1 [])), (2, .c (.view 2 [])), (6, .v uAd), (7, .v zI), (8, .v zI)], [(1, false, .str uCk), (2, true, .list true 3 zI)], none⟩, [(.exit 0, ⟨[(2, .c (.view 2 []))], [(2, true, .list true 3 zI)], none⟩)], L121_2⟩
def F121 (n : Nat) (l_0 : uAn) : Option uCn :=
  qa (L121_2 n ((l_0.2, (l_0.2.length : Int), 0, ()), (l_0, ([] : List Int), ()), ())) fun o3 => some ((o3.2.1.1, ()), ())
def g121 (d : uAn × Unit) : Option uCn := F121 qc d.1
def p121 : qE := ⟨[.v uAy], [.own 3 zI], g121⟩
def c121 : qS := ⟨28, tyT, [], [(116, p116)], [(2, l121_2)], [], [], [], [], [], [], [], [], [], none⟩
theorem F121_eq (n : Nat) (d) : qy c121 n Tryz.f121 (body Tryz.f121) p121.ps p121.rs d = F121 n d.1 := by kernel_rfl
theorem L121_2_eq (n : Nat) (d) : (l121_2).g (n + 1) d = run c121 n (jW 0 (qe (body Tryz.f121))) ((l121_2).ins.fill d) (qN (l121_2) n) := by kernel_rfl
theorem ls121 : qe (body Tryz.f121) = [jW 0 (qe (body Tryz.f121))] := by kernel_rfl
theorem h121 : qw Tryz.prog 121 p121 := hQ (cfg := c121) (qp qq (qd h116 qh) rfl (by kernel_rfl)) Tryz.func121 (by kernel_rfl) (by rw [ls121]; simp only [List.forall_mem_cons]; exact ⟨qC (key := 2) (li := l121_2) (by kernel_rfl) rfl (fun _ => rfl) (L121_2_eq), fun _ h => by cases h⟩) (by kernel_rfl) (F121_eq qc)
def B98_3 (_n : Nat) (L : uBb × (uAn × (List Int) × (List Int) × Unit) × Unit → Option zTs) (ride_1 : Int) (t_11 : Int) (t_12 : Int) (o_2 : zTd × (List zTg)) (o_5 : List Int) (o_11000 : List Int) : Option zTs :=
  cond (decide (t_12 < t_11)) (jS t_12 o_11000.length (qi o_11000 t_12 fun e2 => qi o_2.2 e2 fun e3 => cond (e3.2.2.1 == ride_1) (jS e3.2.2.2.1 4 (qi o_5 e3.2.2.2.1 fun e4 => jS e3.2.2.2.1 4 (qi o_5 e3.2.2.2.1 fun _ => L ((ride_1, t_11, (IntKind.wrap .i64 (t_12 + 1)), ()), (o_2, (o_5.set e3.2.2.2.1.toNat (IntKind.wrap .i64 (e4 + 1))), o_11000, ()), ())))) (L ((ride_1, t_11, (IntKind.wrap .i64 (t_12 + 1)), ()), (o_2, o_5, o_11000, ()), ())))) (some ((), (o_5, ()), ()))
def L98_3 : Nat → uBb × (uAn × (List Int) × (List Int) × Unit) × Unit → Option zTs
  | 0, _ => none
  | n + 1, d => B98_3 n (L98_3 n) d.1.1 d.1.2.1 d.1.2.2.1 d.2.1.1 d.2.1.2.1 d.2.1.2.2.1
def l98_3 : qY := ⟨⟨[(1, .v zI), (2, .c (.ptr 2 [])), (5, .c (.ptr 5 [])), (10, .c (.view 11000 [])), (11, .v zI), (12, .v zI)], [(2, false, .str uCk), (5, false, .arr 4 zI), (11000, true, .list true 3 zI)], none⟩, [(.exit 0, ⟨[(5, .c (.ptr 5 []))], [(5, false, .arr 4 zI)], none⟩)], L98_3⟩
def F98 (n : Nat) (l_0 : uAn) (ride_1 : Int) : Option uAc :=
  qa (g121 (l_0, ())) fun y1 => qa (L98_3 n ((ride_1, (y1.1.1.length : Int), 0, ()), (l_0, (List.replicate 4 (0 : Int)), y1.1.1, ()), ())) fun o6 => jS 3 4 (qi o6.2.1.1 3 fun e7 => cond (e7 == 0) (jS 2 4 (qi o6.2.1.1 2 fun e8 => some (((decide (e8 ≤ 1)), ()), ()))) (some ((false, ()), ())))
def g98 (d : uAn × Int × Unit) : Option uAc := F98 qc d.1 d.2.1
def p98 : qE := ⟨[.v uAy, .v zI], [.v .bool], g98⟩
def c98 : qS := ⟨40, tyT, [], [(121, p121)], [(3, l98_3)], [], [], [], [], [], [], [], [], [], none⟩
theorem F98_eq (n : Nat) (d) : qy c98 n Tryz.f98 (body Tryz.f98) p98.ps p98.rs d = F98 n d.1 d.2.1 := by kernel_rfl
theorem L98_3_eq (n : Nat) (d) : (l98_3).g (n + 1) d = run c98 n (jW 0 (qe (body Tryz.f98))) ((l98_3).ins.fill d) (qN (l98_3) n) := by kernel_rfl
theorem ls98 : qe (body Tryz.f98) = [jW 0 (qe (body Tryz.f98))] := by kernel_rfl
theorem h98 : qw Tryz.prog 98 p98 := hQ (cfg := c98) (qp qq (qd h121 qh) rfl (by kernel_rfl)) Tryz.func98 (by kernel_rfl) (by rw [ls98]; simp only [List.forall_mem_cons]; exact ⟨qC (key := 3) (li := l98_3) (by kernel_rfl) rfl (fun _ => rfl) (L98_3_eq), fun _ h => by cases h⟩) (by kernel_rfl) (F98_eq qc)
def F100 (_n : Nat) (x_0 : zTg) (t_1 : Int) : Option uAc :=
  cond (x_0.2.1 == 4) (some (((x_0.2.2.1 == t_1), ()), ())) (some ((false, ()), ()))
def g100 (d : zTg × Int × Unit) : Option uAc := F100 qc d.1 d.2.1
def p100 : qE := ⟨[.v uAp, .r zI], [.v .bool], g100⟩
def c100 : qS := ⟨13, tyT, [], [], [], [], [], [], [], [], [], [], [], [], none⟩
theorem F100_eq (n : Nat) (d) : qy c100 n Tryz.f100 (body Tryz.f100) p100.ps p100.rs d = F100 n d.1 d.2.1 := by kernel_rfl
theorem h100 : qw Tryz.prog 100 p100 := hQ (cfg := c100) (qp qq (qh) rfl (by kernel_rfl)) Tryz.func100 (by kernel_rfl) (qr (by kernel_rfl)) (by kernel_rfl) (F100_eq qc)
def Q101_2 (_n : Nat) (L : uAt → Option (X × (Int × Unit))) (t_8 : zTg) (ride_3 : Int) (t_4 : Int) : Option (X × (Int × Unit)) :=
  cond (t_8.2.1 == 5) (cond (t_8.2.2.1 == ride_3) (some (.ret, (t_8.2.2.2.1, ()))) (L (ride_3, t_4, ()))) (L (ride_3, t_4, ()))
def R101_2 (n : Nat) : List zTg → uAt → Option (X × (Int × Unit))
  | [], d => some (.norm, (d.2.1, ()))
  | x :: r, d => Q101_2 n (R101_2 n r) x d.1 d.2.1
def qgP : qcj := ⟨.str (.pair zI uBl), [3, 4], [.r zI, .m zI], [.norm, .ret], R101_2⟩
def F101 (n : Nat) (l_0 : uAn) (ride_1 : Int) : Option uAh :=
  qa (Ib.m122.p.g (l_0, ())) fun y1 => qa y1.1.1 fun q2 => qa (Ib.it129.g (q2, ())) fun l4 => qa (R101_2 n l4 (ride_1, (0 : Int), ())) fun o3 => cond (X.same .norm o3.1) (qi l_0.1.2.2 ride_1 fun e5 => some ((e5, ()), ())) (cond (X.same .ret o3.1) (some ((o3.2.1, ()), ())) (none))
def g101 (d : uAn × Int × Unit) : Option uAh := F101 qc d.1 d.2.1
def p101 : qE := ⟨[.v uAy, .v zI], [.v zI], g101⟩
def c101 : qS := ⟨26, tyT, [], [], [], [], [], [(129, Ib.it129)], [(2, qgP)], [(122, Ib.m122)], [], [], [], [], none⟩
theorem F101_eq (n : Nat) (d) : qy c101 n Tryz.f101 (body Tryz.f101) p101.ps p101.rs d = F101 n d.1 d.2.1 := by kernel_rfl
theorem R101_2_eq (n : Nat) (x r d) : (qgP).g n (x :: r) d = run c101 n (asR (jW 0 (jI (body Tryz.f101)))) (qdB qgP [8] d x) (qeW (qga c101 qgP n (bdR (jW 0 (jI (body Tryz.f101)))) r d) qhk) := by kernel_rfl
theorem rs101 : jI (body Tryz.f101) = [jW 0 (jI (body Tryz.f101))] := by kernel_rfl
theorem h101 : qw Tryz.prog 101 p101 := qd5 qcL (cfg := c101) (qp qq (qh) rfl (by kernel_rfl) (qjC (qgY Ib.k122 qjE))) (qg5 Ib.it129_ok qjO) Tryz.func101 rfl rfl (by kernel_rfl) rfl (qr (by kernel_rfl)) (by rw [rs101]; simp only [List.forall_mem_cons]; exact ⟨qdZ (key := 2) (li := qgP) (pl := [8]) (by kernel_rfl) rfl (by kernel_rfl) (by kernel_rfl) (qr (by kernel_rfl)) (fun _ _ => rfl) R101_2_eq, fun _ h => by cases h⟩) (by kernel_rfl) (fun d y h => ⟨qc, (F101_eq qc d).trans h⟩)
def F84 (_n : Nat) (l_0 : uAn) (ride_1 : Int) (day_2 : Int) : Option uCn :=
  qa (g97 (l_0, ride_1, ())) fun y1 => qa (g96 (1, (decide (y1.1.1 < day_2)), ([] : List Int), ())) fun y2 => qa (g98 (l_0, ride_1, ())) fun y3 => qa (g96 (2, (!y3.1.1), y2.2.1, ())) fun y4 => qa (g99 (l_0, ride_1, (fun v5 => qa (g100 (v5, ride_1, ())) fun y6 => some y6.1.1), ())) fun y7 => qa (g96 (3, (y7.1.1 != day_2), y4.2.1, ())) fun y8 => qa (g101 (l_0, ride_1, ())) fun y9 => qa (g96 (4, (decide (y9.1.1 < day_2)), y8.2.1, ())) fun y10 => some ((y10.2.1, ()), ())
def g84 (d : uAn × Int × Int × Unit) : Option uCn := F84 qc d.1 d.2.1 d.2.2.1
def p84 : qE := ⟨[.v uAy, .v zI, .v zI], [.v uBg], g84⟩
def c84 : qS := ⟨38, tyT, [(6, .list true 3 zI)], [(96, p96), (97, p97), (98, p98), (99, p99), (100, p100), (101, p101)], [], [], [], [], [], [], [], [], [], [], none⟩
theorem F84_eq (n : Nat) (d) : qy c84 n Tryz.f84 (body Tryz.f84) p84.ps p84.rs d = F84 n d.1 d.2.1 d.2.2.1 := by kernel_rfl
theorem h84 : qw Tryz.prog 84 p84 := hQ (cfg := c84) (qp qq (qd h96 (qd h97 (qd h98 (qd h99 (qd h100 (qd h101 qh)))))) rfl (by kernel_rfl)) Tryz.func84 (by kernel_rfl) (qr (by kernel_rfl)) (by kernel_rfl) (F84_eq qc)
def B68_5 (_n : Nat) (L : uBb × ((List Int) × uAn × Unit) × Unit → Option zTs) (day_2 : Int) (t_23 : Int) (t_24 : Int) (o_6 : List Int) (o_8 : zTd × (List zTg)) : Option zTs :=
  cond (decide (t_24 < t_23)) (qa (g84 (o_8, t_24, day_2, ())) fun y2 => cond ((y2.1.1.length : Int) == 0) (jE ((o_6.length : Int) + [t_24].length) (L ((day_2, t_23, (IntKind.wrap .i64 (t_24 + 1)), ()), ((o_6 ++ [t_24]), o_8, ()), ()))) (L ((day_2, t_23, (IntKind.wrap .i64 (t_24 + 1)), ()), (o_6, o_8, ()), ()))) (some ((), (o_6, ()), ()))
def L68_5 : Nat → uBb × ((List Int) × uAn × Unit) × Unit → Option zTs
  | 0, _ => none
  | n + 1, d => B68_5 n (L68_5 n) d.1.1 d.1.2.1 d.1.2.2.1 d.2.1.1 d.2.1.2.1
def l68_5 : qY := ⟨⟨[(2, .v zI), (6, .c (.view 6 [])), (8, .c (.ptr 8 [])), (23, .v zI), (24, .v zI)], [(6, true, .list true 3 zI), (8, false, .str uCk)], none⟩, [(.exit 0, ⟨[(6, .c (.view 6 []))], [(6, true, .list true 3 zI)], none⟩)], L68_5⟩
def F68 (n : Nat) (b_0 : zTd) (entries_1 : (List zTg)) (day_2 : Int) : Option uBf :=
  qa (g83 (b_0, entries_1, day_2, ())) fun y1 => cond (y1.1.2.1 != 0) (some ((([] : List Int), y1.1.2.1, ()), ())) (qa (L68_5 n ((day_2, (y1.1.1.1.2.2.length : Int), 0, ()), (([] : List Int), y1.1.1, ()), ())) fun o3 => some ((o3.2.1.1, 0, ()), ()))
def g68 (d : zTd × (List zTg) × Int × Unit) : Option uBf := F68 qc d.1 d.2.1 d.2.2.1
def p68 : qE := ⟨[.v (.str zTb), .v uAd, .v zI], [.own 3 zI, .v zI], g68⟩
def c68 : qS := ⟨39, tyT, [], [(83, p83), (84, p84)], [(5, l68_5)], [], [], [], [], [], [], [], [], [], none⟩
theorem F68_eq (n : Nat) (d) : qy c68 n Tryz.f68 (body Tryz.f68) p68.ps p68.rs d = F68 n d.1 d.2.1 d.2.2.1 := by kernel_rfl
theorem L68_5_eq (n : Nat) (d) : (l68_5).g (n + 1) d = run c68 n (jW 0 (qe (body Tryz.f68))) ((l68_5).ins.fill d) (qN (l68_5) n) := by kernel_rfl
theorem ls68 : qe (body Tryz.f68) = [jW 0 (qe (body Tryz.f68))] := by kernel_rfl
theorem h68 : qw Tryz.prog 68 p68 := hQ (cfg := c68) (qp qq (qd h83 (qd h84 qh)) rfl (by kernel_rfl)) Tryz.func68 (by kernel_rfl) (by rw [ls68]; simp only [List.forall_mem_cons]; exact ⟨qC (key := 5) (li := l68_5) (by kernel_rfl) rfl (fun _ => rfl) (L68_5_eq), fun _ h => by cases h⟩) (by kernel_rfl) (F68_eq qc)
def F102 (_n : Nat) (s_0 : zTf) (set_1 : Int) : Option uAc :=
  qdQ (s_0.2.1.length : Int) (qa (g82 (set_1, 0, (IntKind.wrap .i64 ((shlI .i64 1 (s_0.2.1.length : Int)) - 1)), ())) fun y1 => some ((y1.1.1, ()), ()))
def g102 (d : zTf × Int × Unit) : Option uAc := F102 qc d.1 d.2.1
def p102 : qE := ⟨[.v (.str uAb), .v zI], [.v .bool], g102⟩
def c102 : qS := ⟨12, tyT, [], [(82, p82)], [], [], [], [], [], [], [], [], [], [], none⟩
theorem F102_eq (n : Nat) (d) : qy c102 n Tryz.f102 (body Tryz.f102) p102.ps p102.rs d = F102 n d.1 d.2.1 := by kernel_rfl
theorem h102 : qw Tryz.prog 102 p102 := hQ (cfg := c102) (qp qq (qd h82 qh) rfl (by kernel_rfl)) Tryz.func102 (by kernel_rfl) (qr (by kernel_rfl)) (by kernel_rfl) (F102_eq qc)
def F85 (_n : Nat) (s_0 : zTf) (set_1 : Int) : Option uAh :=
  qa (g64 (s_0, ())) fun y1 => cond (y1.1.1 != 0) (some ((y1.1.1, ()), ())) (qa (g102 (s_0, set_1, ())) fun y2 => cond (!y2.1.1) (some ((1, ()), ())) (some ((0, ()), ())))
def g85 (d : zTf × Int × Unit) : Option uAh := F85 qc d.1 d.2.1
def p85 : qE := ⟨[.v (.str uAb), .v zI], [.v zI], g85⟩
def c85 : qS := ⟨15, tyT, [], [(64, p64), (102, p102)], [], [], [], [], [], [], [], [], [], [], none⟩
theorem F85_eq (n : Nat) (d) : qy c85 n Tryz.f85 (body Tryz.f85) p85.ps p85.rs d = F85 n d.1 d.2.1 := by kernel_rfl
theorem h85 : qw Tryz.prog 85 p85 := hQ (cfg := c85) (qp qq (qd h64 (qd h102 qh)) rfl (by kernel_rfl)) Tryz.func85 (by kernel_rfl) (qr (by kernel_rfl)) (by kernel_rfl) (F85_eq qc)
def Q103_7 (_n : Nat) (L : (zTf × (List (List Int)) × (Int × uAe) × Unit) → Option (X × uAl)) (t_31 : Int) (s_2 : zTf) (out_5 : (List (List Int))) (l_7 : (Int × uAe)) : Option (X × uAl) :=
  cond (t_31 == (-1)) (qhl (fun (e5 : Int) (e6 : List Int) => L (s_2, (out_5.set (s_2.1.length : Int).toNat (e6.set l_7.2.1.toNat (IntKind.wrap .i64 (e5 + l_7.2.2.1)))), l_7, ())) fun E => jC [jS (s_2.1.length : Int) out_5.length (jC [jS l_7.2.1 3 (jC [qi out_5 (s_2.1.length : Int) fun e4 => qi e4 l_7.2.1 fun e5 => jS (s_2.1.length : Int) out_5.length (jS l_7.2.1 3 (qi out_5 (s_2.1.length : Int) fun e6 => qi e6 l_7.2.1 fun _ => E e5 e6)), jS (s_2.1.length : Int) out_5.length (qi out_5 (s_2.1.length : Int) fun e8 => qi e8 l_7.2.1 fun e9 => jS l_7.2.1 3 (qi out_5 (s_2.1.length : Int) fun e10 => qi e10 l_7.2.1 fun _ => E e9 e10))]), jS (s_2.1.length : Int) out_5.length (jS l_7.2.1 3 (qi out_5 (s_2.1.length : Int) fun e12 => qi e12 l_7.2.1 fun e13 => jS l_7.2.1 3 (qi out_5 (s_2.1.length : Int) fun e14 => qi e14 l_7.2.1 fun _ => E e13 e14)))]), jS (s_2.1.length : Int) out_5.length (jS (s_2.1.length : Int) out_5.length (jS l_7.2.1 3 (qi out_5 (s_2.1.length : Int) fun e16 => qi e16 l_7.2.1 fun e17 => jS l_7.2.1 3 (qi out_5 (s_2.1.length : Int) fun e18 => qi e18 l_7.2.1 fun _ => E e17 e18))))]) (qhl (fun (e21 : Int) (e22 : List Int) => L (s_2, (out_5.set t_31.toNat (e22.set l_7.2.1.toNat (IntKind.wrap .i64 (e21 + l_7.2.2.1)))), l_7, ())) fun E => jC [jS t_31 out_5.length (jC [jS l_7.2.1 3 (jC [qi out_5 t_31 fun e20 => qi e20 l_7.2.1 fun e21 => jS t_31 out_5.length (jS l_7.2.1 3 (qi out_5 t_31 fun e22 => qi e22 l_7.2.1 fun _ => E e21 e22)), jS t_31 out_5.length (qi out_5 t_31 fun e24 => qi e24 l_7.2.1 fun e25 => jS l_7.2.1 3 (qi out_5 t_31 fun e26 => qi e26 l_7.2.1 fun _ => E e25 e26))]), jS t_31 out_5.length (jS l_7.2.1 3 (qi out_5 t_31 fun e28 => qi e28 l_7.2.1 fun e29 => jS l_7.2.1 3 (qi out_5 t_31 fun e30 => qi e30 l_7.2.1 fun _ => E e29 e30)))]), jS t_31 out_5.length (jS t_31 out_5.length (jS l_7.2.1 3 (qi out_5 t_31 fun e32 => qi e32 l_7.2.1 fun e33 => jS l_7.2.1 3 (qi out_5 t_31 fun e34 => qi e34 l_7.2.1 fun _ => E e33 e34))))])
def R103_7 (n : Nat) : List Int → (zTf × (List (List Int)) × (Int × uAe) × Unit) → Option (X × uAl)
  | [], d => some (.norm, (d.2.1, ()))
  | x :: r, d => Q103_7 n (R103_7 n r) x d.1 d.2.1 d.2.2.1
def qgO : qcj := ⟨.int .i64, [2, 5, 7], [.r (.str uAb), .m (.list true 160 (.arr 3 zI)), .r (.str uBl)], [.norm], R103_7⟩
def B103_3 (n : Nat) (L : (Int × zTf × zTt × Int × Int × Unit) × uAl × Unit → Option (((Unit) × uAl × Unit))) (set_1 : Int) (s_2 : zTt × (zTt × uAe)) (t_15 : List (Int × uAe)) (t_16 : Int) (t_17 : Int) (o_5 : List (List Int)) : Option (((Unit) × uAl × Unit)) :=
  cond (decide (t_17 < t_16)) (qi t_15 t_17 fun e2 => qdQ t_17 (cond ((qbJ .and .i64 (qdU .i64 set_1 t_17) 1) == 0) (L ((set_1, s_2, t_15, t_16, (IntKind.wrap .i64 (t_17 + 1)), ()), (o_5, ()), ())) (qa (It.m123.p.g (s_2, e2.1, ())) fun y3 => qa y3.1.2.1 fun q4 => qa (It.it131.g (y3.1.1, q4, ())) fun l6 => qa (R103_7 n l6 (s_2, o_5, e2, ())) fun o5 => cond (X.same .norm o5.1) (L ((set_1, s_2, t_15, t_16, (IntKind.wrap .i64 (t_17 + 1)), ()), (o5.2.1, ()), ())) (none)))) (some ((), (o_5, ()), ()))
def L103_3 : Nat → (Int × zTf × zTt × Int × Int × Unit) × uAl × Unit → Option (((Unit) × uAl × Unit))
  | 0, _ => none
  | n + 1, d => B103_3 n (L103_3 n) d.1.1 d.1.2.1 d.1.2.2.1 d.1.2.2.2.1 d.1.2.2.2.2.1 d.2.1.1
def l103_3 : qY := ⟨⟨[(1, .v zI), (2, .r (.str uAb)), (5, .c (.ptr 5 [])), (15, .v (.list false 104 (.str uBl))), (16, .v zI), (17, .v zI)], [(5, false, .list true 160 (.arr 3 zI))], none⟩, [(.exit 0, ⟨[(5, .c (.ptr 5 []))], [(5, false, .list true 160 (.arr 3 zI))], none⟩)], L103_3⟩
def F103 (n : Nat) (s_0 : zTf) (set_1 : Int) : Option (uAl × (Unit)) :=
  leK 0 (IntKind.wrap .i64 ((s_0.1.length : Int) + 1)) (leK (IntKind.wrap .i64 ((s_0.1.length : Int) + 1)) (IntKind.wrap .i64 ((s_0.1.length : Int) + 1)) (jE (IntKind.wrap .i64 ((s_0.1.length : Int) + 1)) (qaF (List.replicate (IntKind.wrap .i64 ((s_0.1.length : Int) + 1)).toNat (List.replicate 3 (0 : Int))) fun z1 => qa (L103_3 n ((set_1, s_0, s_0.2.1, (s_0.2.1.length : Int), 0, ()), (z1, ()), ())) fun o7 => some ((o7.2.1.1, ()), ()))))
def g103 (d : zTf × Int × Unit) : Option (uAl × (Unit)) := F103 qc d.1 d.2.1
def p103 : qE := ⟨[.v (.str uAb), .v zI], [.own 160 (.arr 3 zI)], g103⟩
def c103 : qS := ⟨51, tyT, [(2, .str uAb), (5, .list true 160 (.arr 3 zI)), (7, .str uBl)], [], [(3, l103_3)], [], [10], [(131, It.it131)], [(7, qgO)], [(123, It.m123)], [], [], [], [], none⟩
theorem F103_eq (n : Nat) (d) : qy c103 n Tryz.f103 (body Tryz.f103) p103.ps p103.rs d = F103 n d.1 d.2.1 := by kernel_rfl
theorem L103_3_eq (n : Nat) (d) : (l103_3).g (n + 1) d = run c103 n (jW 0 (qe (body Tryz.f103))) ((l103_3).ins.fill d) (qN (l103_3) n) := by kernel_rfl
theorem ls103 : qe (body Tryz.f103) = [jW 0 (qe (body Tryz.f103))] := by kernel_rfl
theorem R103_7_eq (n : Nat) (x r d) : (qgO).g n (x :: r) d = run c103 n (asR (jW 0 (jI (body Tryz.f103)))) (qdB qgO [31] d x) (qeW (qga c103 qgO n (bdR (jW 0 (jI (body Tryz.f103)))) r d) qhk) := by kernel_rfl
theorem rs103 : jI (body Tryz.f103) = [jW 0 (jI (body Tryz.f103))] := by kernel_rfl
theorem h103 : qw Tryz.prog 103 p103 := qd5 qcL (cfg := c103) (qp qq (qh) rfl (by kernel_rfl) (qjC (qgY It.k123 qjE))) (qg5 It.it131_ok qjO) Tryz.func103 rfl rfl (by kernel_rfl) rfl (by rw [ls103]; simp only [List.forall_mem_cons]; exact ⟨qC (key := 3) (li := l103_3) (by kernel_rfl) rfl (fun _ => rfl) (L103_3_eq), fun _ h => by cases h⟩) (by rw [rs103]; simp only [List.forall_mem_cons]; exact ⟨qdZ (key := 7) (li := qgO) (pl := [31]) (by kernel_rfl) rfl (by kernel_rfl) (by kernel_rfl) (qr (by kernel_rfl)) (fun _ _ => rfl) R103_7_eq, fun _ h => by cases h⟩) (by kernel_rfl) (fun d y h => ⟨qc, (F103_eq qc d).trans h⟩)
def F104 (_n : Nat) (a_0 : (List Int)) : Option uAh :=
  jS 0 3 (qi a_0 0 fun e1 => jS 1 3 (qi a_0 1 fun e2 => jS 2 3 (qi a_0 2 fun e3 => some (((max (max e1 e2) e3), ()), ()))))
def g104 (d : (List Int) × Unit) : Option uAh := F104 qc d.1
def p104 : qE := ⟨[.v (.arr 3 zI)], [.v zI], g104⟩
def c104 : qS := ⟨10, tyT, [], [], [], [], [], [], [], [], [], [], [], [], none⟩
theorem F104_eq (n : Nat) (d) : qy c104 n Tryz.f104 (body Tryz.f104) p104.ps p104.rs d = F104 n d.1 := by kernel_rfl
theorem h104 : qw Tryz.prog 104 p104 := hQ (cfg := c104) (qp qq (qh) rfl (by kernel_rfl)) Tryz.func104 (by kernel_rfl) (qr (by kernel_rfl)) (by kernel_rfl) (F104_eq qc)
def F105 (_n : Nat) (s_0 : zTf) (b_1 : Int) : Option uAh :=
  cond (b_1 == (s_0.1.length : Int)) (some ((s_0.2.2.1, ()), ())) (cond (b_1 == (-1)) (some ((s_0.2.2.1, ()), ())) (qi s_0.1 b_1 fun e1 => some ((e1.2.1, ()), ())))
def g105 (d : zTf × Int × Unit) : Option uAh := F105 qc d.1 d.2.1
def p105 : qE := ⟨[.v (.str uAb), .v zI], [.v zI], g105⟩
def c105 : qS := ⟨22, tyT, [], [], [], [], [], [], [], [], [], [], [], [], none⟩
theorem F105_eq (n : Nat) (d) : qy c105 n Tryz.f105 (body Tryz.f105) p105.ps p105.rs d = F105 n d.1 d.2.1 := by kernel_rfl
theorem h105 : qw Tryz.prog 105 p105 := hQ (cfg := c105) (qp qq (qh) rfl (by kernel_rfl)) Tryz.func105 (by kernel_rfl) (qr (by kernel_rfl)) (by kernel_rfl) (F105_eq qc)
def B86_5 (_n : Nat) (L : uAt × (zTf × (List (List Int)) × Unit) × Unit → Option (uCr ⊕ uAg)) (t_23 : Int) (t_24 : Int) (o_2 : zTt × (zTt × uAe)) (o_11000 : List (List Int)) : Option (uCr ⊕ uAg) :=
  cond (decide (t_24 < t_23)) (jS t_24 o_11000.length (qi o_11000 t_24 fun e4 => qa (g104 (e4, ())) fun y5 => qa (g105 (o_2, t_24, ())) fun y6 => cond (decide (y5.1.1 > y6.1.1)) (some (.inl ((t_24, true, ()), (), ()))) (L ((t_23, (IntKind.wrap .i64 (t_24 + 1)), ()), (o_2, o_11000, ()), ())))) (some (.inr ((), (), ())))
def L86_5 : Nat → uAt × (zTf × (List (List Int)) × Unit) × Unit → Option (uCr ⊕ uAg)
  | 0, _ => none
  | n + 1, d => B86_5 n (L86_5 n) d.1.1 d.1.2.1 d.2.1.1 d.2.1.2.1
def l86_5 : qY := ⟨⟨[(2, .c (.ptr 2 [])), (6, .c (.view 11000 [])), (23, .v zI), (24, .v zI)], [(2, false, .str uAb), (11000, true, .list true 160 (.arr 3 zI))], none⟩, [(.ret, ⟨[(4, .v zI), (5, .v .bool)], [], none⟩), (.exit 0, ⟨[], [], none⟩)], L86_5⟩
def F86 (n : Nat) (s_0 : zTf) (set_1 : Int) : Option ((Int × Bool × Unit) × (Unit)) :=
  qa (g103 (s_0, set_1, ())) fun y1 => jS (s_0.1.length : Int) y1.1.1.length (qi y1.1.1 (s_0.1.length : Int) fun e2 => qa (g104 (e2, ())) fun y3 => cond (decide (y3.1.1 > s_0.2.2.1)) (some (((-1), true, ()), ())) (qa (L86_5 n (((s_0.1.length : Int), 0, ()), (s_0, y1.1.1, ()), ())) fun o7 => qbd o7 (fun d8 => some ((d8.1.1, d8.1.2.1, ()), ())) (fun _ => some ((0, false, ()), ()))))
def g86 (d : zTf × Int × Unit) : Option ((Int × Bool × Unit) × (Unit)) := F86 qc d.1 d.2.1
def p86 : qE := ⟨[.v (.str uAb), .v zI], [.v zI, .v .bool], g86⟩
def c86 : qS := ⟨38, tyT, [], [(103, p103), (104, p104), (105, p105)], [(5, l86_5)], [], [], [], [], [], [], [], [], [], none⟩
theorem F86_eq (n : Nat) (d) : qy c86 n Tryz.f86 (body Tryz.f86) p86.ps p86.rs d = F86 n d.1 d.2.1 := by kernel_rfl
theorem L86_5_eq (n : Nat) (d) : (l86_5).g (n + 1) d = run c86 n (jW 0 (qe (body Tryz.f86))) ((l86_5).ins.fill d) (qN (l86_5) n) := by kernel_rfl
theorem ls86 : qe (body Tryz.f86) = [jW 0 (qe (body Tryz.f86))] := by kernel_rfl
theorem h86 : qw Tryz.prog 86 p86 := hQ (cfg := c86) (qp qq (qd h103 (qd h104 (qd h105 qh))) rfl (by kernel_rfl)) Tryz.func86 (by kernel_rfl) (by rw [ls86]; simp only [List.forall_mem_cons]; exact ⟨qC (key := 5) (li := l86_5) (by kernel_rfl) rfl (fun _ => rfl) (L86_5_eq), fun _ h => by cases h⟩) (by kernel_rfl) (F86_eq qc)
def F69 (_n : Nat) (s_0 : zTf) (set_1 : Int) : Option ((Int × Bool × Int × Unit) × (Unit)) :=
  qa (g85 (s_0, set_1, ())) fun y1 => cond (y1.1.1 != 0) (some ((0, false, y1.1.1, ()), ())) (qa (g86 (s_0, set_1, ())) fun y2 => some ((y2.1.1, (!y2.1.2.1), 0, ()), ()))
def g69 (d : zTf × Int × Unit) : Option ((Int × Bool × Int × Unit) × (Unit)) := F69 qc d.1 d.2.1
def p69 : qE := ⟨[.v (.str uAb), .v zI], [.v zI, .v .bool, .v zI], g69⟩
def c69 : qS := ⟨25, tyT, [], [(85, p85), (86, p86)], [], [], [], [], [], [], [], [], [], [], none⟩
theorem F69_eq (n : Nat) (d) : qy c69 n Tryz.f69 (body Tryz.f69) p69.ps p69.rs d = F69 n d.1 d.2.1 := by kernel_rfl
theorem h69 : qw Tryz.prog 69 p69 := hQ (cfg := c69) (qp qq (qd h85 (qd h86 qh)) rfl (by kernel_rfl)) Tryz.func69 (by kernel_rfl) (qr (by kernel_rfl)) (by kernel_rfl) (F69_eq qc)
def B48_6 (_n : Nat) (L : uBb × (zTj × (List Int) × (List Int) × Unit) × Unit → Option zTs) (set_5 : Int) (t_24 : Int) (t_25 : Int) (o_1 : uAw × uCm) (o_2 : List Int) (o_19000 : List Int) : Option zTs :=
  cond (decide (t_25 < t_24)) (jS t_25 o_19000.length (qi o_19000 t_25 fun e2 => qdQ e2 (qa (g69 (o_1.2.2.2.2.1, (qbJ .or .i64 set_5 (shlI .i64 1 e2)), ())) fun y3 => cond (y3.1.2.2.1 == 0) (cond y3.1.2.1 (qdQ e2 (jE ((o_2.length : Int) + [e2].length) (L (((qbJ .or .i64 set_5 (shlI .i64 1 e2)), t_24, (IntKind.wrap .i64 (t_25 + 1)), ()), (o_1, (o_2 ++ [e2]), o_19000, ()), ())))) (L ((set_5, t_24, (IntKind.wrap .i64 (t_25 + 1)), ()), (o_1, o_2, o_19000, ()), ()))) (L ((set_5, t_24, (IntKind.wrap .i64 (t_25 + 1)), ()), (o_1, o_2, o_19000, ()), ()))))) (some ((), (o_2, ()), ()))
def L48_6 : Nat → uBb × (zTj × (List Int) × (List Int) × Unit) × Unit → Option zTs
  | 0, _ => none
  | n + 1, d => B48_6 n (L48_6 n) d.1.1 d.1.2.1 d.1.2.2.1 d.2.1.1 d.2.1.2.1 d.2.1.2.2.1
def l48_6 : qY := ⟨⟨[(1, .c (.ptr 1 [])), (2, .c (.view 2 [])), (5, .v zI), (23, .c (.view 19000 [])), (24, .v zI), (25, .v zI)], [(1, false, .str uAj), (2, true, .list true 3 zI), (19000, true, .list true 3 zI)], none⟩, [(.exit 0, ⟨[(2, .c (.view 2 []))], [(2, true, .list true 3 zI)], none⟩)], L48_6⟩
def F48 (n : Nat) (g_0 : zTj) : Option uCn :=
  qa (g68 (g_0.2.1, g_0.2.2.1, g_0.2.2.2.1, ())) fun y1 => cond (y1.1.2.1 != 0) (some ((([] : List Int), ()), ())) (qa (L48_6 n ((0, (y1.1.1.length : Int), 0, ()), (g_0, ([] : List Int), y1.1.1, ()), ())) fun o4 => some ((o4.2.1.1, ()), ()))
def g48 (d : zTj × Unit) : Option uCn := F48 qc d.1
def p48 : qE := ⟨[.v (.str uAj)], [.own 3 zI], g48⟩
def c48 : qS := ⟨55, tyT, [], [(68, p68), (69, p69)], [(6, l48_6)], [], [], [], [], [], [], [], [], [], none⟩
theorem F48_eq (n : Nat) (d) : qy c48 n Tryz.f48 (body Tryz.f48) p48.ps p48.rs d = F48 n d.1 := by kernel_rfl
theorem L48_6_eq (n : Nat) (d) : (l48_6).g (n + 1) d = run c48 n (jW 0 (qe (body Tryz.f48))) ((l48_6).ins.fill d) (qN (l48_6) n) := by kernel_rfl
theorem ls48 : qe (body Tryz.f48) = [jW 0 (qe (body Tryz.f48))] := by kernel_rfl
theorem h48 : qw Tryz.prog 48 p48 := hQ (cfg := c48) (qp qq (qd h68 (qd h69 qh)) rfl (by kernel_rfl)) Tryz.func48 (by kernel_rfl) (by rw [ls48]; simp only [List.forall_mem_cons]; exact ⟨qC (key := 6) (li := l48_6) (by kernel_rfl) rfl (fun _ => rfl) (L48_6_eq), fun _ h => by cases h⟩) (by kernel_rfl) (F48_eq qc)
def F22 (_n : Nat) (g_0 : zTj) : Option uBf :=
  qa (g47 (g_0, ())) fun y1 => cond (y1.1.1 != 0) (some ((([] : List Int), y1.1.1, ()), ())) (qa (g48 (g_0, ())) fun y2 => some ((y2.1.1, 0, ()), ()))
def g22 (d : zTj × Unit) : Option uBf := F22 qc d.1
def p22 : qE := ⟨[.v (.str uAj)], [.own 3 zI, .v zI], g22⟩
def c22 : qS := ⟨12, tyT, [], [(47, p47), (48, p48)], [], [], [], [], [], [], [], [], [], [], none⟩
theorem F22_eq (n : Nat) (d) : qy c22 n Tryz.f22 (body Tryz.f22) p22.ps p22.rs d = F22 n d.1 := by kernel_rfl
theorem h22 : qw Tryz.prog 22 p22 := hQ (cfg := c22) (qp qq (qd h47 (qd h48 qh)) rfl (by kernel_rfl)) Tryz.func22 (by kernel_rfl) (qr (by kernel_rfl)) (by kernel_rfl) (F22_eq qc)
def B23_2 (_n : Nat) (L : uBv × (Unit) × Unit → Option (uAs ⊕ uAg)) (l_0 : List Int) (n_1 : Int) (i_5 : Int) : Option (uAs ⊕ uAg) :=
  cond (decide (i_5 < (l_0.length : Int))) (qi l_0 i_5 fun e1 => cond (e1 == n_1) (some (.inl ((true, ()), (), ()))) (L ((l_0, n_1, (IntKind.wrap .i64 (i_5 + 1)), ()), (), ()))) (some (.inr ((), (), ())))
def L23_2 : Nat → uBv × (Unit) × Unit → Option (uAs ⊕ uAg)
  | 0, _ => none
  | n + 1, d => B23_2 n (L23_2 n) d.1.1 d.1.2.1 d.1.2.2.1
def l23_2 : qY := ⟨⟨[(0, .v uBg), (1, .v zI), (5, .v zI)], [], none⟩, [(.ret, ⟨[(4, .v .bool)], [], none⟩), (.exit 0, ⟨[], [], none⟩)], L23_2⟩
def F23 (n : Nat) (l_0 : (List Int)) (n_1 : Int) : Option uAc :=
  qa (L23_2 n ((l_0, n_1, 0, ()), (), ())) fun o2 => qbd o2 (fun d3 => some ((d3.1.1, ()), ())) (fun _ => some ((false, ()), ()))
def g23 (d : (List Int) × Int × Unit) : Option uAc := F23 qc d.1 d.2.1
def p23 : qE := ⟨[.v uBg, .v zI], [.v .bool], g23⟩
def c23 : qS := ⟨18, tyT, [], [], [(2, l23_2)], [], [], [], [], [], [], [], [], [], none⟩
theorem F23_eq (n : Nat) (d) : qy c23 n Tryz.f23 (body Tryz.f23) p23.ps p23.rs d = F23 n d.1 d.2.1 := by kernel_rfl
theorem L23_2_eq (n : Nat) (d) : (l23_2).g (n + 1) d = run c23 n (jW 0 (qe (body Tryz.f23))) ((l23_2).ins.fill d) (qN (l23_2) n) := by kernel_rfl
theorem ls23 : qe (body Tryz.f23) = [jW 0 (qe (body Tryz.f23))] := by kernel_rfl
theorem h23 : qw Tryz.prog 23 p23 := hQ (cfg := c23) (qp qq (qh) rfl (by kernel_rfl)) Tryz.func23 (by kernel_rfl) (by rw [ls23]; simp only [List.forall_mem_cons]; exact ⟨qC (key := 2) (li := l23_2) (by kernel_rfl) rfl (fun _ => rfl) (L23_2_eq), fun _ h => by cases h⟩) (by kernel_rfl) (F23_eq qc)
def F10 (_n : Nat) (g_0 : zTj) (n_1 : Int) : Option uAc :=
  cond (decide ((g_0.2.2.1.length : Int) ≥ 100)) (some ((true, ()), ())) (cond (decide ((g_0.2.2.1.length : Int) > 0)) (qi g_0.2.2.1 (IntKind.wrap .i64 ((g_0.2.2.1.length : Int) - 1)) fun e1 => cond (decide (e1.1 > g_0.2.2.2.1)) (some ((true, ()), ())) (qa (g21 (g_0, ())) fun y2 => jE ((y2.1.1.2.2.1.length : Int) + [(g_0.2.2.2.1, 2, n_1, 3, (0 : Int))].length) (qaF (y2.1.1.1, (y2.1.1.2.1, ((y2.1.1.2.2.1 ++ [(g_0.2.2.2.1, 2, n_1, 3, (0 : Int))]), y2.1.1.2.2.2))) fun z3 => qa (g22 (z3, ())) fun y4 => cond (y4.1.2.1 == 0) (qa (g23 (y4.1.1, n_1, ())) fun y5 => some (((!y5.1.1), ()), ())) (some ((false, ()), ()))))) (qa (g21 (g_0, ())) fun y6 => jE ((y6.1.1.2.2.1.length : Int) + [(g_0.2.2.2.1, 2, n_1, 3, (0 : Int))].length) (qaF (y6.1.1.1, (y6.1.1.2.1, ((y6.1.1.2.2.1 ++ [(g_0.2.2.2.1, 2, n_1, 3, (0 : Int))]), y6.1.1.2.2.2))) fun z7 => qa (g22 (z7, ())) fun y8 => cond (y8.1.2.1 == 0) (qa (g23 (y8.1.1, n_1, ())) fun y9 => some (((!y9.1.1), ()), ())) (some ((false, ()), ())))))
def g10 (d : zTj × Int × Unit) : Option uAc := F10 qc d.1 d.2.1
def p10 : qE := ⟨[.v (.str uAj), .v zI], [.v .bool], g10⟩
def c10 : qS := ⟨54, tyT, [(2, .str uAj), (6, .str uAr)], [(21, p21), (22, p22), (23, p23)], [], [], [2], [], [], [], [], [], [], [], none⟩
theorem F10_eq (n : Nat) (d) : qy c10 n Tryz.f10 (body Tryz.f10) p10.ps p10.rs d = F10 n d.1 d.2.1 := by kernel_rfl
theorem d10 : ql c10 (body Tryz.f10) = true := by kernel_rfl
theorem h10 : qw Tryz.prog 10 p10 := hQ (cfg := c10) (qp qq (qd h21 (qd h22 (qd h23 qh))) rfl (by kernel_rfl)) Tryz.func10 (by kernel_rfl) (qr (by kernel_rfl)) d10 (F10_eq qc)
def B11_17 (_n : Nat) (L : (zTc × (Option zTh) × Int × (List zTp) × Int × Int × Int × Int × Unit) × (Int × Int × Int × zTp × Unit) × Unit → Option (uCi ⊕ (uBj × uBb × Unit))) (r_1 : (List (List uAe)) × uBe) (x_4 : Option zTh) (line_10 : Int) (t_52 : List zTp) (t_53 : Int) (t_54 : Int) (t_62 : Int) (t_63 : Int) (o_2 : Int) (o_3 : Int) (o_6 : Int) (o_11 : uAe × uAe) : Option (uCi ⊕ (uBj × uBb × Unit)) :=
  cond (decide (t_63 < t_62)) (qa (g24 (o_11, r_1.2.2.2.1, ())) fun y14 => cond (decide (y14.1.1 < 0)) (qa x_4 fun q15 => qa (g25 (q15, t_63, line_10, (fun v16 v17 => qa (g26 (v16, v17, ())) fun y18 => some y18.1.1), ())) fun y19 => nzK (IntKind.wrap .i64 (0 - y14.1.1)) (cond (decide (o_6 > (IntKind.wrap .i64 (Int.tdiv y19.1.1 (IntKind.wrap .i64 (0 - y14.1.1)))))) (some (.inl ((), (0, 3, ()), ()))) (L ((r_1, x_4, line_10, t_52, t_53, t_54, t_62, (IntKind.wrap .i64 (t_63 + 1)), ()), (o_2, o_3, o_6, o_11, ()), ())))) (L ((r_1, x_4, line_10, t_52, t_53, t_54, t_62, (IntKind.wrap .i64 (t_63 + 1)), ()), (o_2, o_3, o_6, o_11, ()), ()))) (some (.inr ((r_1, x_4, t_52, t_53, t_54, ()), (o_2, o_3, o_6, ()), ())))
def L11_17 : Nat → (zTc × (Option zTh) × Int × (List zTp) × Int × Int × Int × Int × Unit) × (Int × Int × Int × zTp × Unit) × Unit → Option (uCi ⊕ (uBj × uBb × Unit))
  | 0, _ => none
  | n + 1, d => B11_17 n (L11_17 n) d.1.1 d.1.2.1 d.1.2.2.1 d.1.2.2.2.1 d.1.2.2.2.2.1 d.1.2.2.2.2.2.1 d.1.2.2.2.2.2.2.1 d.1.2.2.2.2.2.2.2.1 d.2.1.1 d.2.1.2.1 d.2.1.2.2.1 d.2.1.2.2.2.1
def l11_17 : qY := ⟨⟨[(1, .r (.str uAa)), (2, .c (.ptr 2 [])), (3, .c (.ptr 3 [])), (4, .r (.ptr uAf)), (6, .c (.ptr 6 [])), (10, .v zI), (11, .c (.ptr 11 [])), (52, .v uBm), (53, .v zI), (54, .v zI), (62, .v zI), (63, .v zI)], [(2, false, .int .i64), (3, false, .int .i64), (6, false, .int .i64), (11, false, .str uAq)], none⟩, [(.ret, ⟨[(2, .c (.ptr 2 [])), (3, .c (.ptr 3 []))], [(2, false, .int .i64), (3, false, .int .i64)], none⟩), (.exit 4, ⟨[(1, .r (.str uAa)), (2, .c (.ptr 2 [])), (3, .c (.ptr 3 [])), (4, .r (.ptr uAf)), (6, .c (.ptr 6 [])), (52, .v uBm), (53, .v zI), (54, .v zI)], [(2, false, .int .i64), (3, false, .int .i64), (6, false, .int .i64)], none⟩)], L11_17⟩
def B11_14 (n : Nat) (L : uBj × uBb × Unit → Option (uCi ⊕ ((Unit) × uBb × Unit))) (r_1 : (List (List uAe)) × uBe) (x_4 : Option zTh) (t_52 : List zTp) (t_53 : Int) (t_54 : Int) (o_2 : Int) (o_3 : Int) (o_6 : Int) : Option (uCi ⊕ ((Unit) × uBb × Unit)) :=
  cond (decide (t_54 < t_53)) (qi t_52 t_54 fun e12 => qa x_4 fun q13 => qa (L11_17 n ((r_1, x_4, t_54, t_52, t_53, t_54, q13.2.2, 0, ()), (o_2, o_3, o_6, e12, ()), ())) fun o20 => qbd o20 (fun d21 => some (.inl ((), (d21.2.1.1, d21.2.1.2.1, ()), ()))) (fun d22 => L ((d22.1.1, d22.1.2.1, d22.1.2.2.1, d22.1.2.2.2.1, (IntKind.wrap .i64 (d22.1.2.2.2.2.1 + 1)), ()), (d22.2.1.1, d22.2.1.2.1, d22.2.1.2.2.1, ()), ()))) (some (.inr ((), (o_2, o_3, o_6, ()), ())))
def L11_14 : Nat → uBj × uBb × Unit → Option (uCi ⊕ ((Unit) × uBb × Unit))
  | 0, _ => none
  | n + 1, d => B11_14 n (L11_14 n) d.1.1 d.1.2.1 d.1.2.2.1 d.1.2.2.2.1 d.1.2.2.2.2.1 d.2.1.1 d.2.1.2.1 d.2.1.2.2.1
def l11_14 : qY := ⟨⟨[(1, .r (.str uAa)), (2, .c (.ptr 2 [])), (3, .c (.ptr 3 [])), (4, .r (.ptr uAf)), (6, .c (.ptr 6 [])), (52, .v uBm), (53, .v zI), (54, .v zI)], [(2, false, .int .i64), (3, false, .int .i64), (6, false, .int .i64)], none⟩, [(.ret, ⟨[(2, .c (.ptr 2 [])), (3, .c (.ptr 3 []))], [(2, false, .int .i64), (3, false, .int .i64)], none⟩), (.exit 2, ⟨[(2, .c (.ptr 2 [])), (3, .c (.ptr 3 [])), (6, .c (.ptr 6 []))], [(2, false, .int .i64), (3, false, .int .i64), (6, false, .int .i64)], none⟩)], L11_14⟩
def Q11_6 (_n : Nat) (L : (zTc × Int × Int × (Option zTh) × Int × Unit) → Option (X × uBb)) (t_23 : uCp) (r_1 : zTc) (t_2 : Int) (t_3 : Int) (x_4 : (Option zTh)) (need_6 : Int) : Option (X × uBb) :=
  cond (decide (t_23.2 ≥ 0)) (L (r_1, t_2, t_3, x_4, need_6, ())) (qa (qi t_23.1 1 fun e2 => qa x_4 fun q3 => qi q3.2.1 e2 fun e4 => qa (g24 (e4, r_1.2.2.2.1, ())) fun y5 => some ((r_1, x_4, t_23.2, y5.1.1, ()), (t_2, t_3, need_6, ()), ())) fun d6 => cond (decide (d6.1.2.2.2.1 ≤ 0)) (some (.ret, (0, 3, d6.2.1.2.2.1, ()))) (qa (jC [nzK d6.1.2.2.2.1 (some ((d6.1.1, d6.1.2.1, ()), (d6.2.1.1, d6.2.1.2.1, (max d6.2.1.2.2.1 (IntKind.wrap .i64 (Int.tdiv (IntKind.wrap .i64 ((IntKind.wrap .i64 ((IntKind.wrap .i64 (0 - d6.1.2.2.1)) + d6.1.2.2.2.1)) - 1)) d6.1.2.2.2.1))), ()), ())), jC [nzK d6.1.2.2.2.1 (some ((d6.1.1, d6.1.2.1, ()), (d6.2.1.1, d6.2.1.2.1, (max d6.2.1.2.2.1 (IntKind.wrap .i64 (Int.tdiv (IntKind.wrap .i64 ((IntKind.wrap .i64 ((IntKind.wrap .i64 (0 - d6.1.2.2.1)) + d6.1.2.2.2.1)) - 1)) d6.1.2.2.2.1))), ()), ())), nzK d6.1.2.2.2.1 (some ((d6.1.1, d6.1.2.1, ()), (d6.2.1.1, d6.2.1.2.1, (max d6.2.1.2.2.1 (IntKind.wrap .i64 (Int.tdiv (IntKind.wrap .i64 ((IntKind.wrap .i64 ((IntKind.wrap .i64 (0 - d6.1.2.2.1)) + d6.1.2.2.2.1)) - 1)) d6.1.2.2.2.1))), ()), ()))]]) fun d7 => L (r_1, d7.2.1.1, d7.2.1.2.1, x_4, d7.2.1.2.2.1, ())))
def R11_6 (n : Nat) : List uCp → (zTc × Int × Int × (Option zTh) × Int × Unit) → Option (X × uBb)
  | [], d => some (.norm, (d.2.1, d.2.2.1, d.2.2.2.2.1, ()))
  | x :: r, d => Q11_6 n (R11_6 n r) x d.1 d.2.1 d.2.2.1 d.2.2.2.1 d.2.2.2.2.1
def qjo : qcj := ⟨.pair (.arr 2 zI) zI, [1, 2, 3, 4, 6], [.r (.str uAa), .m zI, .m zI, .r (.ptr uAf), .m zI], [.norm, .ret], R11_6⟩
def F11 (n : Nat) (r_0 : zTc) : Option uCd :=
  qa (g14 (r_0, ())) fun y1 => cond (!y1.1.2.1) (some ((0, 33, ()), ())) (qa y1.1.1 fun q8 => qa (Iw.it15.g (q8, ())) fun l10 => qa (R11_6 n l10 (r_0, (0 : Int), (0 : Int), y1.1.1, 0, ())) fun o9 => cond (X.same .norm o9.1) (qa y1.1.1 fun q11 => qa (L11_14 n ((r_0, y1.1.1, q11.2.1, (q11.2.1.length : Int), 0, ()), (o9.2.1, o9.2.2.1, o9.2.2.2.1, ()), ())) fun o23 => qbd o23 (fun d24 => some ((d24.2.1.1, d24.2.1.2.1, ()), ())) (fun d25 => some ((d25.2.1.2.2.1, 0, ()), ()))) (cond (X.same .ret o9.1) (some ((o9.2.1, o9.2.2.1, ()), ())) (none)))
def g11 (d : zTc × Unit) : Option uCd := F11 qc d.1
def p11 : qE := ⟨[.v (.str uAa)], [.v zI, .v zI], g11⟩
def c11 : qS := ⟨86, tyT, [(7, .arr 2 zI), (1, .str uAa)], [(14, p14), (24, p24), (25, p25), (26, p26)], [(17, l11_17), (14, l11_14)], [], [9, 12], [(5000015, Iw.it15)], [(6, qjo)], [], [], [], [], [(9, ⟨[(1, .r (.str uAa)), (2, .c (.ptr 10000001 [])), (3, .c (.ptr 10000002 [])), (4, .r (.ptr uAf)), (6, .c (.ptr 10000004 [])), (8, .v zI), (9, .v zI)], [(10000001, false, .int .i64), (10000002, false, .int .i64), (10000004, false, .int .i64)], none⟩), (12, ⟨[(1, .r (.str uAa)), (2, .c (.ptr 10000001 [])), (3, .c (.ptr 10000002 [])), (4, .r (.ptr uAf)), (6, .c (.ptr 10000004 []))], [(10000001, false, .int .i64), (10000002, false, .int .i64), (10000004, false, .int .i64)], none⟩)], none⟩
theorem F11_eq (n : Nat) (d) : qy c11 n Tryz.f11 (body Tryz.f11) p11.ps p11.rs d = F11 n d.1 := by kernel_rfl
theorem L11_14_eq (n : Nat) (d) : (l11_14).g (n + 1) d = run c11 n (jW 0 (qe (body Tryz.f11))) ((l11_14).ins.fill d) (qN (l11_14) n) := by kernel_rfl
theorem L11_17_eq (n : Nat) (d) : (l11_17).g (n + 1) d = run c11 n (jW 1 (qe (body Tryz.f11))) ((l11_17).ins.fill d) (qN (l11_17) n) := by kernel_rfl
theorem ls11 : qe (body Tryz.f11) = [jW 0 (qe (body Tryz.f11)), jW 1 (qe (body Tryz.f11))] := by kernel_rfl
theorem R11_6_eq (n : Nat) (x r d) : (qjo).g n (x :: r) d = run c11 n (asR (jW 0 (jI (body Tryz.f11)))) (qdB qjo [23, 24] d x) (qeW (qga c11 qjo n (bdR (jW 0 (jI (body Tryz.f11)))) r d) qhk) := by kernel_rfl
theorem rs11 : jI (body Tryz.f11) = [jW 0 (jI (body Tryz.f11))] := by kernel_rfl
theorem h11 : qw Tryz.prog 11 p11 := qd5 qcL (cfg := c11) (qp qq (qd h14 (qd h24 (qd h25 (qd h26 qh)))) rfl (by kernel_rfl)) (qg5 Iw.it15_ok qjO) Tryz.func11 rfl rfl (by kernel_rfl) rfl (by rw [ls11]; simp only [List.forall_mem_cons]; exact ⟨qC (key := 14) (li := l11_14) (by kernel_rfl) rfl (fun _ => rfl) (L11_14_eq), qC (key := 17) (li := l11_17) (by kernel_rfl) rfl (fun _ => rfl) (L11_17_eq), fun _ h => by cases h⟩) (by rw [rs11]; simp only [List.forall_mem_cons]; exact ⟨qdZ (key := 6) (li := qjo) (pl := [23, 24]) (by kernel_rfl) rfl (by kernel_rfl) (by kernel_rfl) (qr (by kernel_rfl)) (fun _ _ => rfl) R11_6_eq, fun _ h => by cases h⟩) (by kernel_rfl) (fun d y h => ⟨qc, (F11_eq qc d).trans h⟩)
def F3 (_n : Nat) (g_0 : zTj) (r_1 : zTc) (n_2 : Int) : Option uAc :=
  qa (g4 (g_0, ())) fun y1 => cond y1.1.1 (qa (g6 ()) fun y2 => some ((y2.1.1, ()), ())) (qa (g5 (r_1, ())) fun y3 => cond y3.1.1 (qa (g6 ()) fun y4 => some ((y4.1.1, ()), ())) (cond (decide ((r_1.1.length : Int) > 10)) (qa (g6 ()) fun y5 => some ((y5.1.1, ()), ())) (qa (g8 (r_1, ())) fun y6 => qa (g7 (y6.1.1, ())) fun y7 => cond (y7.1.2.2.2.2.1 != 0) (qa (g6 ()) fun y8 => some ((y8.1.1, ()), ())) (qa (g9 (g_0, ())) fun y9 => cond (y9.1.1 != 0) (qa (g6 ()) fun y10 => some ((y10.1.1, ()), ())) (cond (decide (n_2 < 0)) (qa (g6 ()) fun y11 => some ((y11.1.1, ()), ())) (cond (decide (n_2 ≥ (g_0.1.1.length : Int))) (qa (g6 ()) fun y12 => some ((y12.1.1, ()), ())) (cond y7.1.2.2.2.1 (qa (g10 (g_0, n_2, ())) fun y13 => cond (!y13.1.1) (some ((false, ()), ())) (qa (g8 (r_1, ())) fun y14 => qa (g11 (y14.1.1, ())) fun y15 => cond (y15.1.2.1 != 0) (cond (y15.1.2.1 == 3) (cond y7.1.2.2.2.1 (qa (g6 ()) fun y16 => some ((y16.1.1, ()), ())) (some ((false, ()), ()))) (some ((false, ()), ()))) (qa (g8 (r_1, ())) fun y17 => qaF (y17.1.1.1, (y17.1.1.2.1, ((IntKind.wrap .i64 (y17.1.1.2.2.1 + y15.1.1)), y17.1.1.2.2.2))) fun z18 => qa (g7 (z18, ())) fun y19 => cond (y7.1.2.2.2.1 == (decide (y15.1.1 > 0))) (cond (y19.1.2.2.2.2.1 != 0) (cond (decide (z18.2.2.1 > 1000000)) (qa (g6 ()) fun y20 => some ((y20.1.1, ()), ())) (cond (y19.1.2.2.2.2.1 == 0) (cond (!y19.1.2.2.2.1) (qa (g6 ()) fun y21 => some ((y21.1.1, ()), ())) (some ((false, ()), ()))) (some ((false, ()), ())))) (cond (y19.1.2.2.2.2.1 == 0) (cond (!y19.1.2.2.2.1) (qa (g6 ()) fun y22 => some ((y22.1.1, ()), ())) (some ((false, ()), ()))) (some ((false, ()), ())))) (some ((false, ()), ()))))) (qa (g8 (r_1, ())) fun y23 => qa (g11 (y23.1.1, ())) fun y24 => cond (y24.1.2.1 != 0) (cond (y24.1.2.1 == 3) (cond y7.1.2.2.2.1 (qa (g6 ()) fun y25 => some ((y25.1.1, ()), ())) (some ((false, ()), ()))) (some ((false, ()), ()))) (qa (g8 (r_1, ())) fun y26 => qaF (y26.1.1.1, (y26.1.1.2.1, ((IntKind.wrap .i64 (y26.1.1.2.2.1 + y24.1.1)), y26.1.1.2.2.2))) fun z27 => qa (g7 (z27, ())) fun y28 => cond (y7.1.2.2.2.1 == (decide (y24.1.1 > 0))) (cond (y28.1.2.2.2.2.1 != 0) (cond (decide (z27.2.2.1 > 1000000)) (qa (g6 ()) fun y29 => some ((y29.1.1, ()), ())) (cond (y28.1.2.2.2.2.1 == 0) (cond (!y28.1.2.2.2.1) (qa (g6 ()) fun y30 => some ((y30.1.1, ()), ())) (some ((false, ()), ()))) (some ((false, ()), ())))) (cond (y28.1.2.2.2.2.1 == 0) (cond (!y28.1.2.2.2.1) (qa (g6 ()) fun y31 => some ((y31.1.1, ()), ())) (some ((false, ()), ()))) (some ((false, ()), ())))) (some ((false, ()), ())))))))))))
def g3 (d : zTj × zTc × Int × Unit) : Option uAc := F3 qc d.1 d.2.1 d.2.2.1
def p3 : qE := ⟨[.v (.str uAj), .v (.str uAa), .v zI], [.v .bool], g3⟩
def c3 : qS := ⟨124, tyT, [(3, .str uAj), (4, .str uAa), (14, .str uAa)], [(4, p4), (5, p5), (6, p6), (7, p7), (8, p8), (9, p9), (10, p10), (11, p11)], [], [], [], [], [], [], [], [], [], [], none⟩
theorem F3_eq (n : Nat) (d) : qy c3 n Tryz.f3 (body Tryz.f3) p3.ps p3.rs d = F3 n d.1 d.2.1 d.2.2.1 := by kernel_rfl
theorem h3 : qw Tryz.prog 3 p3 := hQ (cfg := c3) (qp qq (qd h4 (qd h5 (qd h6 (qd h7 (qd h8 (qd h9 (qd h10 (qd h11 qh)))))))) rfl (by kernel_rfl)) Tryz.func3 (by kernel_rfl) (qr (by kernel_rfl)) (by kernel_rfl) (F3_eq qc)
end
end Go.Proofs.Tryz.V
