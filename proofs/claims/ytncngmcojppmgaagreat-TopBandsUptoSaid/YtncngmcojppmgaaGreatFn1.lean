/- The contracts of functions of the program, printed by program from the interpreter: each says what a call returns. No condition beyond those typed in each theorem. -/
import Derived.Test.YtncngmcojppmgaaGreatQ3
import Derived.Test.YtncngmcojppmgaaGreatMk
import Derived.Test.YtncngmcojppmgaaGreatVi47
import Derived.Test.YtncngmcojppmgaaGreatProg
namespace Go.Proofs.Tryz.V
noncomputable section
open Go.Vi
set_option maxRecDepth 100000
abbrev zI : Ty := .int .i64
abbrev zTg : Ty := .pair zI zI
abbrev zTi : Ty := .str (.pair zI (.pair zI (.pair zI (.pair zI .bool))))
abbrev zTj : Type := Int × (Int × (Int × ((List Int) × Int)))
abbrev zTl : Type := Int × (Int × (Int × (Int × Bool)))
abbrev uAb : Type := List (Int × Int)
abbrev zTq : Type := (List Int) × (Int × (Int × (uAb × (Int × Int))))
abbrev uAd : Type := (Bool × Unit) × (Unit)
abbrev uAf : Type := Int × (Int × (Int × (Bool × (Int × Int))))
abbrev uAg : Type := (List (List Int)) × Unit
abbrev zTp : Type := ((uAb × Int × Int × Unit) × uAg × Unit)
abbrev uAh : Ty := .list false 56 (.str zTg)
abbrev uAi : Ty := .pair zI (.pair zI (.pair zI (.pair .bool zTg)))
abbrev uAj : Ty := .pair zI (.pair zI zTg)
abbrev uAk : Ty := .list true 3 zI
abbrev zTr : Ty := .pair uAk zI
abbrev uAm : Type := (List zTl) × Int
abbrev uAo : Type := (Unit) × (Unit) × Unit
abbrev uAq : Ty := .list false 3 zI
abbrev zTd : Ty := .pair zI (.pair zI (.pair uAq (.pair uAq (.pair uAh (.pair zI zTg)))))
abbrev zTh : Ty := .str (.pair zI (.pair zI (.pair zI (.pair uAq zI))))
abbrev uAs : Type := uAb × Int × Int × Int × Unit
abbrev uAt : Type := Int × Int × Unit
abbrev uAu : Type := (Bool × Unit) × (Unit) × Unit
abbrev uAv : Ty := .list false 90 (.str zTg)
abbrev uAw : Type := (Int × Unit) × (Unit) × Unit
abbrev uAx : Type := Int × Int × Int × Int × Int × Int × Int × Unit
abbrev uAy : Type := Int × (Int × (Int × Int))
abbrev zTn : Type := Int × uAy
abbrev zTa : Type := (List (Option (zTl × zTq))) × ((List (Option (zTj × uAy))) × (Int × (List uAf)))
abbrev zTm : Type := uAb × (Int × zTa) × Unit
abbrev uAe : Type := (Int × zTa) × Unit
abbrev zTo : Type := (Unit) × uAe × Unit
abbrev uAn : Type := (List Int) × (Int × zTa) × Unit
abbrev uAr : Type := (Int × Int × Int × Int × Int × Int × Unit) × zTm × Unit
abbrev uAz : Ty := .list false 46 zTh
abbrev uBa : Type := (Int × Unit) × (Unit)
abbrev uBb : Type := uAb × (List Int) × (Int × zTa) × Unit
abbrev uBc : Type := (List Int) × Unit
abbrev uBf : Ty := .pair zTi (.pair uAk (.pair zI (.pair zI (.pair (.list true 90 (.str zTg)) zTg))))
abbrev zTc : Ty := .list true 81 (.op (.str uBf))
abbrev uBg : Ty := .pair zTi (.pair uAq (.pair zI (.pair zI (.pair uAv zTg))))
abbrev uBh : Type := (List Int) × ((List Int) × (uAb × ((List Int) × Int)))
abbrev uBj : Type := Int × uAb × Int × uAb × Int × Int × Unit
abbrev uBk : Type := Int × Int × Int × Int × Unit
abbrev uBl : Ty := .str (.pair zI uAj)
abbrev uBm : Type := ((uAb × Int × Unit) × uAg × Unit)
abbrev uBn : Ty := .pair uAk (.pair uAk (.pair (.list true 118 (.str zTg)) zTr))
abbrev uAc : Ty := .pair (.str zTd) (.pair (.str uBn) (.pair zI (.str (.pair zI (.pair zI uAj)))))
abbrev uBo : Type := Int × Int × Int × Unit
abbrev uBp : Type := (Int × Int) × (List (List Int)) × (List Int) × Unit
abbrev uBq : Type := Int × Int × Int × Int × uAb × Int × Int × Unit
abbrev uBr : Type := (List zTj) × Int × uAm × Unit
abbrev uBs : Type := (List zTj) × Unit
abbrev uBt : Type := Int × Int × uAb × Int × Int × Unit
abbrev uBu : Type := (List (List Int)) × (List Int) × Unit
abbrev uAl : Type := (uBt × uBu × Unit)
abbrev uBw : Type := ((Int × Unit) × uBc × Unit)
abbrev uBx : Ty := .pair uAq (.pair uAq (.pair (.list false 118 (.str zTg)) (.pair uAq zI)))
abbrev zTf : Ty := .pair (.str uBx) (.pair zI (.str (.pair zI (.pair zI uAj))))
abbrev uBe : Ty := .str (.pair (.str zTd) zTf)
abbrev uBy : Type := Int × ((List Int) × ((List Int) × (uAb × (Int × (Int × Int)))))
abbrev zTk : Type := Int × uBy
abbrev zTe : Type := zTk × (uBh × (Int × (Int × zTn)))
abbrev uBi : Type := zTk × (List zTn) × (List uAf) × Unit
abbrev uBv : Type := (Unit) × (zTe × Unit) × Unit
abbrev uBz : Type := uAb × Int × Int × Int × Int × Int × Unit
abbrev uCa : Type := (Unit) × uAe
abbrev uCb : Type := ((List Int) × Int × Int × Unit) × (Unit)
abbrev uCc : Type := (List Int) × Int × Unit
abbrev uCd : Ty := .list false 44 zTi
abbrev uAp : Ty := .str (.pair uCd zI)
abbrev uCe : Ty := .str (.pair zTh uAj)
abbrev zTb : Ty := .pair (.list true 85 (.op uCe)) (.pair zI (.list true 42 (.str uAi)))
abbrev uAa : Ty := .pair zI (.pair zTc zTb)
abbrev uCf : Type := uAb × Int × Int × Int × Int × Unit
abbrev uCg : Type := (List zTj) × Int × uAm × Int × Unit
abbrev uCh : Type := uAb × (List Int) × (Int × Int) × (Int × zTa) × Unit
abbrev uCi : Type := (uAs × uAg × Unit)
abbrev uCj : Type := (List zTn) × Int × Int × Unit
abbrev uCk : Type := uAb × (Int × Int) × (Int × zTa) × Unit
abbrev uCl : Type := uBr × (zTk × (List zTn) × Unit) × Unit
abbrev uCm : Ty := .list false 40 uBl
abbrev uCn : Type := (Unit) × (zTe × Unit)
abbrev uCo : Type := (Option zTe) × Int × Int × Unit
abbrev uBd : Type := uCo × (Unit) × Unit
def tyT : List (Nat × Ty) := [(2, .int .i64), (3, .int .i64), (4, .bool), (5, .int .u8), (6, .int .u8), (7, .str (.pair zI (.pair zI (.pair .bool (.int .u8))))), (22, .list false 44 zTi), (24, .str (.pair uCd zI)), (25, .list false 46 zTh), (28, .list false 42 (.str uAi)), (29, .int .i64), (34, .list false 3 zI), (35, .list false 56 (.str zTg)), (37, .str zTd), (38, .list false 40 uBl), (40, .str (.pair zI uAj)), (42, .str uAi), (44, .str (.pair zI (.pair zI (.pair zI (.pair zI .bool))))), (46, .str (.pair zI (.pair zI (.pair zI (.pair uAq zI))))), (47, .list false 118 (.str zTg)), (49, .str uBx), (56, .str zTg), (60, .list false 81 (.ptr (.str uBg))), (61, .list false 85 (.ptr uCe)), (63, .str (.pair zI (.pair (.list false 81 (.ptr (.str uBg))) (.pair (.list false 85 (.ptr uCe)) (.pair zI (.list false 42 (.str uAi))))))), (64, .ptr (.str (.pair zI (.pair (.list false 81 (.ptr (.str uBg))) (.pair (.list false 85 (.ptr uCe)) (.pair zI (.list false 42 (.str uAi)))))))), (66, .ptr uBe), (71, .str (.pair zI (.pair zI uAj))), (73, .str (.pair (.str zTd) zTf)), (77, .fn zI .bool), (79, .fn zTh .bool), (81, .ptr (.str uBg)), (82, .list false 90 (.str zTg)), (84, .str uBg), (85, .ptr uCe), (87, .str (.pair zTh uAj)), (90, .str zTg), (93, .fn2 (.str uAi) (.str uAi) zI), (99, .fn (.str zTg) .bool), (102, .fn zTi .bool), (108, .fn (.str zTg) .bool), (110, .fn2 (.str zTg) (.str zTg) zI), (114, .int .u64), (118, .str zTg), (120, .ptr (.str zTg)), (122, .list false 34 uAq), (137, .int .u32), (139, .int .u64)]
theorem qI : tysB Tryz.prog tyT = true := by kernel_rfl
theorem qb4 : Tryz.prog.follows .mixedOrders = true := by kernel_rfl
theorem hQ {cfg : jM} {f : FuncId} {fn : Func} {p : jH} (hc : qA Tryz.prog cfg) (hf : Tryz.prog.funcs[f]? = some fn) (ha : (fn.body.isSome && (Nat.beq fn.ntmps cfg.nt && (!(fn.name == "runtime.NumGoroutine") && Nat.ble p.ps.length cfg.nt))) = true) (hl : ∀ b ∈ qh (body fn), qdu cfg b) (hd : qw cfg (body fn) = true) (he : ∀ d, jL cfg qi fn (body fn) p.ps p.rs d = p.g d) : jA Tryz.prog f p := by
  simp only [Bool.and_eq_true, Bool.not_eq_true'] at ha
  exact fn_done qb4 hc hf ha.1 (Nat.eq_of_beq_eq_true ha.2.1) ha.2.2.1 ha.2.2.2 hl hd (fun d y h => ⟨qi, (he d).trans h⟩)
def B4_4 (_n : Nat) (L : ((List zTj) × Int × Unit) × (Unit) × Unit → Option (uAu ⊕ uAo)) (l_1 : List zTj) (i_5 : Int) : Option (uAu ⊕ uAo) :=
  cond (decide (i_5 < (l_1.length : Int))) (qc l_1 i_5 fun e1 => cond (decide ((e1.2.2.2.1.length : Int) > 20)) (some (.inl ((true, ()), (), ()))) (L ((l_1, (IntKind.wrap .i64 (i_5 + 1)), ()), (), ()))) (some (.inr ((), (), ())))
def L4_4 : Nat → ((List zTj) × Int × Unit) × (Unit) × Unit → Option (uAu ⊕ uAo)
  | 0, _ => none
  | n + 1, d => B4_4 n (L4_4 n) d.1.1 d.1.2.1
def l4_4 : j0 := ⟨⟨[(1, .v uAz), (5, .v zI)], [], none⟩, [(.ret, ⟨[(4, .v .bool)], [], none⟩), (.exit 0, ⟨[], [], none⟩)], L4_4⟩
def F4 (n : Nat) (f_0 : uAm) (l_1 : (List zTj)) : Option uAd :=
  cond (decide ((f_0.1.length : Int) > 10)) (some ((true, ()), ())) (cond (decide ((l_1.length : Int) > 70)) (some ((true, ()), ())) (qa (L4_4 n ((l_1, 0, ()), (), ())) fun o2 => qeJ o2 (fun d3 => some ((d3.1.1, ()), ())) (fun _ => some ((false, ()), ()))))
def g4 (d : uAm × (List zTj) × Unit) : Option uAd := F4 qi d.1 d.2.1
def p4 : jH := ⟨[.v uAp, .v uAz], [.v .bool], g4⟩
def c4 : jM := ⟨28, tyT, [], [], [(4, l4_4)], [], [], [], [], [], [], [], [], [], none, [], []⟩
theorem F4_eq (n : Nat) (d) : jL c4 n Tryz.f4 (body Tryz.f4) p4.ps p4.rs d = F4 n d.1 d.2.1 := by kernel_rfl
theorem L4_4_eq (n : Nat) (d) : (l4_4).g (n + 1) d = run c4 n (nth 0 (qh (body Tryz.f4))) ((l4_4).ins.fill d) (jI (l4_4) n) := by kernel_rfl
theorem ls4 : qh (body Tryz.f4) = [nth 0 (qh (body Tryz.f4))] := by kernel_rfl
theorem d4 : qw c4 (body Tryz.f4) = true := by kernel_rfl
theorem h4 : jA Tryz.prog 4 p4 := hQ (cfg := c4) (qH qI (qv) rfl (by kernel_rfl)) Tryz.func4 (by kernel_rfl) (by rw [ls4]; simp only [List.forall_mem_cons]; exact ⟨qW (key := 4) (li := l4_4) (by kernel_rfl) rfl (fun _ => rfl) (L4_4_eq), fun _ h => by cases h⟩) d4 (F4_eq qi)
def B11_4 (_n : Nat) (L : ((List Int) × (List Int) × Int × Unit) × (Unit) × Unit → Option (uAu ⊕ uAo)) (a_0 : List Int) (b_1 : List Int) (i_5 : Int) : Option (uAu ⊕ uAo) :=
  cond (decide (i_5 < (a_0.length : Int))) (qc a_0 i_5 fun e1 => qc b_1 i_5 fun e2 => cond (e1 != e2) (some (.inl ((false, ()), (), ()))) (L ((a_0, b_1, (IntKind.wrap .i64 (i_5 + 1)), ()), (), ()))) (some (.inr ((), (), ())))
def L11_4 : Nat → ((List Int) × (List Int) × Int × Unit) × (Unit) × Unit → Option (uAu ⊕ uAo)
  | 0, _ => none
  | n + 1, d => B11_4 n (L11_4 n) d.1.1 d.1.2.1 d.1.2.2.1
def l11_4 : j0 := ⟨⟨[(0, .v uAq), (1, .v uAq), (5, .v zI)], [], none⟩, [(.ret, ⟨[(4, .v .bool)], [], none⟩), (.exit 0, ⟨[], [], none⟩)], L11_4⟩
def F11 (n : Nat) (a_0 : (List Int)) (b_1 : (List Int)) : Option uAd :=
  cond ((a_0.length : Int) != (b_1.length : Int)) (some ((false, ()), ())) (qa (L11_4 n ((a_0, b_1, 0, ()), (), ())) fun o3 => qeJ o3 (fun d4 => some ((d4.1.1, ()), ())) (fun _ => some ((true, ()), ())))
def g11 (d : (List Int) × (List Int) × Unit) : Option uAd := F11 qi d.1 d.2.1
def p11 : jH := ⟨[.v uAq, .v uAq], [.v .bool], g11⟩
def c11 : jM := ⟨26, tyT, [], [], [(4, l11_4)], [], [], [], [], [], [], [], [], [], none, [], []⟩
theorem F11_eq (n : Nat) (d) : jL c11 n Tryz.f11 (body Tryz.f11) p11.ps p11.rs d = F11 n d.1 d.2.1 := by kernel_rfl
theorem L11_4_eq (n : Nat) (d) : (l11_4).g (n + 1) d = run c11 n (nth 0 (qh (body Tryz.f11))) ((l11_4).ins.fill d) (jI (l11_4) n) := by kernel_rfl
theorem ls11 : qh (body Tryz.f11) = [nth 0 (qh (body Tryz.f11))] := by kernel_rfl
theorem h11 : jA Tryz.prog 11 p11 := hQ (cfg := c11) (qH qI (qv) rfl (by kernel_rfl)) Tryz.func11 (by kernel_rfl) (by rw [ls11]; simp only [List.forall_mem_cons]; exact ⟨qW (key := 4) (li := l11_4) (by kernel_rfl) rfl (fun _ => rfl) (L11_4_eq), fun _ h => by cases h⟩) (by kernel_rfl) (F11_eq qi)
def F18 (_n : Nat) (n_0 : Int) (low_1 : Int) (high_2 : Int) : Option uAd :=
  cond (decide (n_0 ≥ low_1)) (some (((decide (n_0 ≤ high_2)), ()), ())) (some ((false, ()), ()))
def g18 (d : Int × Int × Int × Unit) : Option uAd := F18 qi d.1 d.2.1 d.2.2.1
def p18 : jH := ⟨[.v zI, .v zI, .v zI], [.v .bool], g18⟩
def c18 : jM := ⟨15, tyT, [], [], [], [], [], [], [], [], [], [], [], [], none, [], []⟩
theorem F18_eq (n : Nat) (d) : jL c18 n Tryz.f18 (body Tryz.f18) p18.ps p18.rs d = F18 n d.1 d.2.1 d.2.2.1 := by kernel_rfl
theorem h18 : jA Tryz.prog 18 p18 := hQ (cfg := c18) (qH qI (qv) rfl (by kernel_rfl)) Tryz.func18 (by kernel_rfl) (qL (by kernel_rfl)) (by kernel_rfl) (F18_eq qi)
def B43_2 (_n : Nat) (L : ((List Int) × (Int → Option Bool) × Int × Int × Unit) × (Unit) × Unit → Option (uAw ⊕ uAo)) (s_0 : List Int) (f_1 : Int → Option Bool) (t_7 : Int) (t_8 : Int) : Option (uAw ⊕ uAo) :=
  cond (decide (t_8 < t_7)) (qc s_0 t_8 fun e1 => qa (f_1 e1) fun y2 => cond y2 (some (.inl ((t_8, ()), (), ()))) (L ((s_0, f_1, t_7, (IntKind.wrap .i64 (t_8 + 1)), ()), (), ()))) (some (.inr ((), (), ())))
def L43_2 : Nat → ((List Int) × (Int → Option Bool) × Int × Int × Unit) × (Unit) × Unit → Option (uAw ⊕ uAo)
  | 0, _ => none
  | n + 1, d => B43_2 n (L43_2 n) d.1.1 d.1.2.1 d.1.2.2.1 d.1.2.2.2.1
def l43_2 : j0 := ⟨⟨[(0, .v uAq), (1, .v (.fn zI .bool)), (7, .v zI), (8, .v zI)], [], none⟩, [(.ret, ⟨[(4, .v zI)], [], none⟩), (.exit 0, ⟨[], [], none⟩)], L43_2⟩
def F43 (n : Nat) (s_0 : (List Int)) (f_1 : (Int → Option Bool)) : Option uBa :=
  qa (L43_2 n ((s_0, f_1, (s_0.length : Int), 0, ()), (), ())) fun o3 => qeJ o3 (fun d4 => some ((d4.1.1, ()), ())) (fun _ => some (((-1), ()), ()))
def g43 (d : (List Int) × (Int → Option Bool) × Unit) : Option uBa := F43 qi d.1 d.2.1
def p43 : jH := ⟨[.v uAq, .v (.fn zI .bool)], [.v zI], g43⟩
def c43 : jM := ⟨19, tyT, [], [], [(2, l43_2)], [], [], [], [], [], [], [], [], [], none, [], []⟩
theorem F43_eq (n : Nat) (d) : jL c43 n Tryz.f43 (body Tryz.f43) p43.ps p43.rs d = F43 n d.1 d.2.1 := by kernel_rfl
theorem L43_2_eq (n : Nat) (d) : (l43_2).g (n + 1) d = run c43 n (nth 0 (qh (body Tryz.f43))) ((l43_2).ins.fill d) (jI (l43_2) n) := by kernel_rfl
theorem ls43 : qh (body Tryz.f43) = [nth 0 (qh (body Tryz.f43))] := by kernel_rfl
theorem h43 : jA Tryz.prog 43 p43 := hQ (cfg := c43) (qH qI (qv) rfl (by kernel_rfl)) Tryz.func43 (by kernel_rfl) (by rw [ls43]; simp only [List.forall_mem_cons]; exact ⟨qW (key := 2) (li := l43_2) (by kernel_rfl) rfl (fun _ => rfl) (L43_2_eq), fun _ h => by cases h⟩) (by kernel_rfl) (F43_eq qi)
def F24 (_n : Nat) (s_0 : (List Int)) (f_1 : (Int → Option Bool)) : Option uAd :=
  qa (g43 (s_0, f_1, ())) fun y1 => some (((decide (y1.1.1 ≥ 0)), ()), ())
def g24 (d : (List Int) × (Int → Option Bool) × Unit) : Option uAd := F24 qi d.1 d.2.1
def p24 : jH := ⟨[.v uAq, .v (.fn zI .bool)], [.v .bool], g24⟩
def c24 : jM := ⟨9, tyT, [], [(43, p43)], [], [], [], [], [], [], [], [], [], [], none, [], []⟩
theorem F24_eq (n : Nat) (d) : jL c24 n Tryz.f24 (body Tryz.f24) p24.ps p24.rs d = F24 n d.1 d.2.1 := by kernel_rfl
theorem h24 : jA Tryz.prog 24 p24 := hQ (cfg := c24) (qH qI (qm h43 qv) rfl (by kernel_rfl)) Tryz.func24 (by kernel_rfl) (qL (by kernel_rfl)) (by kernel_rfl) (F24_eq qi)
def F37 (_n : Nat) (n_0 : Int) (t_1 : Int) (t_2 : Int) : Option uAd :=
  qa (g18 (n_0, t_1, t_2, ())) fun y1 => some (((!y1.1.1), ()), ())
def g37 (d : Int × Int × Int × Unit) : Option uAd := F37 qi d.1 d.2.1 d.2.2.1
def p37 : jH := ⟨[.v zI, .r zI, .r zI], [.v .bool], g37⟩
def c37 : jM := ⟨10, tyT, [], [(18, p18)], [], [], [], [], [], [], [], [], [], [], none, [], []⟩
theorem F37_eq (n : Nat) (d) : jL c37 n Tryz.f37 (body Tryz.f37) p37.ps p37.rs d = F37 n d.1 d.2.1 d.2.2.1 := by kernel_rfl
theorem h37 : jA Tryz.prog 37 p37 := hQ (cfg := c37) (qH qI (qm h18 qv) rfl (by kernel_rfl)) Tryz.func37 (by kernel_rfl) (qL (by kernel_rfl)) (by kernel_rfl) (F37_eq qi)
def B62_2 (_n : Nat) (L : (uAb × ((Int × Int) → Option Bool) × Int × Int × Unit) × (Unit) × Unit → Option (uAw ⊕ uAo)) (s_0 : List (Int × Int)) (f_1 : (Int × Int) → Option Bool) (t_7 : Int) (t_8 : Int) : Option (uAw ⊕ uAo) :=
  cond (decide (t_8 < t_7)) (qc s_0 t_8 fun e1 => qa (f_1 e1) fun y2 => cond y2 (some (.inl ((t_8, ()), (), ()))) (L ((s_0, f_1, t_7, (IntKind.wrap .i64 (t_8 + 1)), ()), (), ()))) (some (.inr ((), (), ())))
def L62_2 : Nat → (uAb × ((Int × Int) → Option Bool) × Int × Int × Unit) × (Unit) × Unit → Option (uAw ⊕ uAo)
  | 0, _ => none
  | n + 1, d => B62_2 n (L62_2 n) d.1.1 d.1.2.1 d.1.2.2.1 d.1.2.2.2.1
def l62_2 : j0 := ⟨⟨[(0, .v uAh), (1, .v (.fn (.str zTg) .bool)), (7, .v zI), (8, .v zI)], [], none⟩, [(.ret, ⟨[(4, .v zI)], [], none⟩), (.exit 0, ⟨[], [], none⟩)], L62_2⟩
def F62 (n : Nat) (s_0 : uAb) (f_1 : ((Int × Int) → Option Bool)) : Option uBa :=
  qa (L62_2 n ((s_0, f_1, (s_0.length : Int), 0, ()), (), ())) fun o3 => qeJ o3 (fun d4 => some ((d4.1.1, ()), ())) (fun _ => some (((-1), ()), ()))
def g62 (d : uAb × ((Int × Int) → Option Bool) × Unit) : Option uBa := F62 qi d.1 d.2.1
def p62 : jH := ⟨[.v uAh, .v (.fn (.str zTg) .bool)], [.v zI], g62⟩
def c62 : jM := ⟨19, tyT, [], [], [(2, l62_2)], [], [], [], [], [], [], [], [], [], none, [], []⟩
theorem F62_eq (n : Nat) (d) : jL c62 n Tryz.f62 (body Tryz.f62) p62.ps p62.rs d = F62 n d.1 d.2.1 := by kernel_rfl
theorem L62_2_eq (n : Nat) (d) : (l62_2).g (n + 1) d = run c62 n (nth 0 (qh (body Tryz.f62))) ((l62_2).ins.fill d) (jI (l62_2) n) := by kernel_rfl
theorem ls62 : qh (body Tryz.f62) = [nth 0 (qh (body Tryz.f62))] := by kernel_rfl
theorem h62 : jA Tryz.prog 62 p62 := hQ (cfg := c62) (qH qI (qv) rfl (by kernel_rfl)) Tryz.func62 (by kernel_rfl) (by rw [ls62]; simp only [List.forall_mem_cons]; exact ⟨qW (key := 2) (li := l62_2) (by kernel_rfl) rfl (fun _ => rfl) (L62_2_eq), fun _ h => by cases h⟩) (by kernel_rfl) (F62_eq qi)
def F38 (_n : Nat) (s_0 : uAb) (f_1 : ((Int × Int) → Option Bool)) : Option uAd :=
  qa (g62 (s_0, f_1, ())) fun y1 => some (((decide (y1.1.1 ≥ 0)), ()), ())
def g38 (d : uAb × ((Int × Int) → Option Bool) × Unit) : Option uAd := F38 qi d.1 d.2.1
def p38 : jH := ⟨[.v uAh, .v (.fn (.str zTg) .bool)], [.v .bool], g38⟩
def c38 : jM := ⟨9, tyT, [], [(62, p62)], [], [], [], [], [], [], [], [], [], [], none, [], []⟩
theorem F38_eq (n : Nat) (d) : jL c38 n Tryz.f38 (body Tryz.f38) p38.ps p38.rs d = F38 n d.1 d.2.1 := by kernel_rfl
theorem h38 : jA Tryz.prog 38 p38 := hQ (cfg := c38) (qH qI (qm h62 qv) rfl (by kernel_rfl)) Tryz.func38 (by kernel_rfl) (qL (by kernel_rfl)) (by kernel_rfl) (F38_eq qi)
def F39 (_n : Nat) (b_0 : (Int × Int)) (t_1 : zTk) : Option uAd :=
  qa (g18 (b_0.1, 1, 1000, ())) fun y1 => cond (!y1.1.1) (some ((true, ()), ())) (qa (g18 (b_0.2, 1, 1000000, ())) fun y2 => cond (!y2.1.1) (some ((true, ()), ())) (some (((decide ((IntKind.wrap .i64 (t_1.2.2.2.2.2.1 * b_0.1)) > b_0.2)), ()), ())))
def g39 (d : (Int × Int) × zTk × Unit) : Option uAd := F39 qi d.1 d.2.1
def p39 : jH := ⟨[.v (.str zTg), .r (.str zTd)], [.v .bool], g39⟩
def c39 : jM := ⟨24, tyT, [], [(18, p18)], [], [], [], [], [], [], [], [], [], [], none, [], []⟩
theorem F39_eq (n : Nat) (d) : jL c39 n Tryz.f39 (body Tryz.f39) p39.ps p39.rs d = F39 n d.1 d.2.1 := by kernel_rfl
theorem h39 : jA Tryz.prog 39 p39 := hQ (cfg := c39) (qH qI (qm h18 qv) rfl (by kernel_rfl)) Tryz.func39 (by kernel_rfl) (qL (by kernel_rfl)) (by kernel_rfl) (F39_eq qi)
def F17 (_n : Nat) (f_0 : zTk) : Option uBa :=
  qa (g18 ((f_0.2.2.1.length : Int), 1, 8, ())) fun y1 => cond (!y1.1.1) (some ((10, ()), ())) (cond ((f_0.2.2.2.1.length : Int) != (f_0.2.2.1.length : Int)) (some ((10, ()), ())) (qa (g18 (f_0.1, 0, 20, ())) fun y2 => cond (!y2.1.1) (some ((10, ()), ())) (qa (g18 (f_0.2.1, 0, 12, ())) fun y3 => cond (!y3.1.1) (some ((10, ()), ())) (cond (decide ((f_0.2.2.2.2.1.length : Int) > 6)) (some ((10, ()), ())) (qa (Mk.m36.p.g (0, 100000, ())) fun y4 => qa (g24 (f_0.2.2.1, (fun v5 => qa y4.1.1 fun q7 => qa y4.1.2.1 fun q8 => qa (g37 (v5, q7, q8, ())) fun y6 => some y6.1.1), ())) fun y9 => cond y9.1.1 (some ((10, ()), ())) (qa (Mk.m36.p.g (0, 1000000, ())) fun y10 => qa (g24 (f_0.2.2.2.1, (fun v11 => qa y10.1.1 fun q13 => qa y10.1.2.1 fun q14 => qa (g37 (v11, q13, q14, ())) fun y12 => some y12.1.1), ())) fun y15 => cond y15.1.1 (some ((10, ()), ())) (qa (g18 (f_0.2.2.2.2.2.1, 0, 1000, ())) fun y16 => cond (!y16.1.1) (some ((10, ()), ())) (qa (g18 (f_0.2.2.2.2.2.2.1, 0, 1000000, ())) fun y17 => cond (!y17.1.1) (some ((10, ()), ())) (qa (g18 (f_0.2.2.2.2.2.2.2, 1, 1440, ())) fun y18 => cond (!y18.1.1) (some ((10, ()), ())) (qa (g38 (f_0.2.2.2.2.1, (fun v19 => qa (g39 (v19, f_0, ())) fun y20 => some y20.1.1), ())) fun y21 => cond y21.1.1 (some ((10, ()), ())) (some ((0, ()), ()))))))))))))
def g17 (d : zTk × Unit) : Option uBa := F17 qi d.1
def p17 : jH := ⟨[.v (.str zTd)], [.v zI], g17⟩
def c17 : jM := ⟨78, tyT, [(1, .str zTd)], [(18, p18), (24, p24), (37, p37), (38, p38), (39, p39)], [], [], [3], [], [], [(36, Mk.m36)], [], [], [], [], none, [], []⟩
theorem F17_eq (n : Nat) (d) : jL c17 n Tryz.f17 (body Tryz.f17) p17.ps p17.rs d = F17 n d.1 := by kernel_rfl
theorem h17 : jA Tryz.prog 17 p17 := hQ (cfg := c17) (qH qI (qm h18 (qm h24 (qm h37 (qm h38 (qm h39 qv))))) rfl (by kernel_rfl) (mk_ok (mkCons Mk.k36 mkNil))) Tryz.func17 (by kernel_rfl) (qL (by kernel_rfl)) (by kernel_rfl) (F17_eq qi)
def F102 (_n : Nat) (x_0 : Int) (y_1 : Int) : Option (uAt × (Unit)) :=
  qg1 32 (qg1 32 (qU (IntKind.wrap .u64 ((qc3 .and .u64 x_0 4294967295) * (qc3 .and .u64 y_1 4294967295))) fun z1 => qg1 32 (qU (IntKind.wrap .u64 ((IntKind.wrap .u64 ((qgb .u64 x_0 32) * (qc3 .and .u64 y_1 4294967295))) + (qgb .u64 z1 32))) fun z2 => qg1 32 (qU (IntKind.wrap .u64 ((qc3 .and .u64 z2 4294967295) + (IntKind.wrap .u64 ((qc3 .and .u64 x_0 4294967295) * (qgb .u64 y_1 32))))) fun z3 => qg1 32 (qU (IntKind.wrap .u64 ((IntKind.wrap .u64 ((IntKind.wrap .u64 ((qgb .u64 x_0 32) * (qgb .u64 y_1 32))) + (qgb .u64 z2 32))) + (qgb .u64 z3 32))) fun z4 => some ((z4, (IntKind.wrap .u64 (x_0 * y_1)), ()), ()))))))
def g102 (d : Int × Int × Unit) : Option (uAt × (Unit)) := F102 qi d.1 d.2.1
def p102 : jH := ⟨[.v (.int .u64), .v (.int .u64)], [.v (.int .u64), .v (.int .u64)], g102⟩
def c102 : jM := ⟨51, tyT, [], [], [], [], [], [], [], [], [], [], [], [], none, [], []⟩
theorem F102_eq (n : Nat) (d) : jL c102 n Tryz.f102 (body Tryz.f102) p102.ps p102.rs d = F102 n d.1 d.2.1 := by kernel_rfl
theorem h102 : jA Tryz.prog 102 p102 := hQ (cfg := c102) (qH qI (qv) rfl (by kernel_rfl)) Tryz.func102 (by kernel_rfl) (qL (by kernel_rfl)) (by kernel_rfl) (F102_eq qi)
def F78 (_n : Nat) (x_0 : Int) (y_1 : Int) : Option (uAt × (Unit)) :=
  qa (g102 (x_0, y_1, ())) fun y1 => some ((y1.1.1, y1.1.2.1, ()), ())
def g78 (d : Int × Int × Unit) : Option (uAt × (Unit)) := F78 qi d.1 d.2.1
def p78 : jH := ⟨[.v (.int .u64), .v (.int .u64)], [.v (.int .u64), .v (.int .u64)], g78⟩
def c78 : jM := ⟨30, tyT, [], [(102, p102)], [], [], [], [], [], [], [], [], [], [], none, [], []⟩
theorem F78_eq (n : Nat) (d) : jL c78 n Tryz.f78 (body Tryz.f78) p78.ps p78.rs d = F78 n d.1 d.2.1 := by kernel_rfl
theorem h78 : jA Tryz.prog 78 p78 := hQ (cfg := c78) (qH qI (qm h102 qv) rfl (by kernel_rfl)) Tryz.func78 (by kernel_rfl) (qL (by kernel_rfl)) (by kernel_rfl) (F78_eq qi)
def B63_8 (_n : Nat) (L : (Int × Unit) × uBc × Unit → Option (((Unit) × uBc × Unit))) (n_8 : Int) (o_30 : List Int) : Option (((Unit) × uBc × Unit)) :=
  cond (decide (n_8 < (o_30.length : Int))) (qa8 (L (((IntKind.wrap .i64 (n_8 + ((min (o_30.take n_8.toNat).length (o_30.length - n_8.toNat) : Nat) : Int))), ()), ((qbA o_30 (o_30.take n_8.toNat) n_8.toNat), ()), ())) fun E => qt [jG 0 n_8 (jG n_8 (o_30.length : Int) (jG 0 n_8 (jG n_8 (o_30.length : Int) (E)))), jG 0 n_8 (jG n_8 (o_30.length : Int) (jG 0 n_8 (jG n_8 (o_30.length : Int) (E))))]) (some ((), (o_30, ()), ()))
def L63_8 : Nat → (Int × Unit) × uBc × Unit → Option (((Unit) × uBc × Unit))
  | 0, _ => none
  | n + 1, d => B63_8 n (L63_8 n) d.1.1 d.2.1.1
def l63_8 : j0 := ⟨⟨[(7, .c (.view 30 [])), (8, .v zI)], [(30, true, .list true 3 zI)], none⟩, [(.exit 0, ⟨[(7, .c (.view 30 []))], [(30, true, .list true 3 zI)], none⟩)], L63_8⟩
def F63 (n : Nat) (x_0 : (List Int)) (count_1 : Int) : Option (uBc × (Unit)) :=
  cond (decide (count_1 < 0)) (none) (qa (g78 ((IntKind.wrap .u64 (x_0.length : Int)), (IntKind.wrap .u64 count_1), ())) fun y1 => cond (decide (y1.1.1 > 0)) (none) (cond (decide (y1.1.2.1 > 9223372036854775807)) (none) (jG 0 (IntKind.wrap .i64 y1.1.2.1) (jG (IntKind.wrap .i64 y1.1.2.1) (IntKind.wrap .i64 y1.1.2.1) (qB (IntKind.wrap .i64 y1.1.2.1) (qU ((min x_0.length ((List.replicate (IntKind.wrap .i64 y1.1.2.1).toNat (0 : Int)).length - (0 : Int).toNat) : Nat) : Int) fun z2 => qa (L63_8 n ((z2, ()), ((qbA (List.replicate (IntKind.wrap .i64 y1.1.2.1).toNat (0 : Int)) x_0 (0 : Int).toNat), ()), ())) fun o3 => some ((o3.2.1.1, ()), ())))))))
def g63 (d : (List Int) × Int × Unit) : Option (uBc × (Unit)) := F63 qi d.1 d.2.1
def p63 : jH := ⟨[.v uAq, .v zI], [.own 3 zI], g63⟩
def c63 : jM := ⟨48, tyT, [], [(78, p78)], [(8, l63_8)], [], [9], [], [], [], [], [], [], [], none, [], []⟩
theorem F63_eq (n : Nat) (d) : jL c63 n Tryz.f63 (body Tryz.f63) p63.ps p63.rs d = F63 n d.1 d.2.1 := by kernel_rfl
theorem L63_8_eq (n : Nat) (d) : (l63_8).g (n + 1) d = run c63 n (nth 0 (qh (body Tryz.f63))) ((l63_8).ins.fill d) (jI (l63_8) n) := by kernel_rfl
theorem ls63 : qh (body Tryz.f63) = [nth 0 (qh (body Tryz.f63))] := by kernel_rfl
theorem h63 : jA Tryz.prog 63 p63 := hQ (cfg := c63) (qH qI (qm h78 qv) rfl (by kernel_rfl)) Tryz.func63 (by kernel_rfl) (by rw [ls63]; simp only [List.forall_mem_cons]; exact ⟨qW (key := 8) (li := l63_8) (by kernel_rfl) rfl (fun _ => rfl) (L63_8_eq), fun _ h => by cases h⟩) (by kernel_rfl) (F63_eq qi)
def B40_4 (_n : Nat) (L : uCf × uAg × Unit → Option zTp) (l_0 : List (Int × Int)) (n_1 : Int) (most_6 : Int) (t_24 : Int) (t_25 : Int) (o_22 : List (List Int)) : Option zTp :=
  cond (decide (t_25 < t_24)) (qa (g63 ([1152921504606846976], (IntKind.wrap .i64 (most_6 + 1)), ())) fun y1 => jS t_25 o_22.length (qc o_22 t_25 fun _ => L ((l_0, n_1, most_6, t_24, (IntKind.wrap .i64 (t_25 + 1)), ()), ((o_22.set t_25.toNat y1.1.1), ()), ()))) (some ((l_0, n_1, most_6, ()), (o_22, ()), ()))
def L40_4 : Nat → uCf × uAg × Unit → Option zTp
  | 0, _ => none
  | n + 1, d => B40_4 n (L40_4 n) d.1.1 d.1.2.1 d.1.2.2.1 d.1.2.2.2.1 d.1.2.2.2.2.1 d.2.1.1
def l40_4 : j0 := ⟨⟨[(0, .v uAh), (1, .v zI), (6, .v zI), (7, .c (.view 22 [])), (24, .v zI), (25, .v zI)], [(22, true, .list true 34 uAk)], none⟩, [(.exit 0, ⟨[(0, .v uAh), (1, .v zI), (6, .v zI), (7, .c (.view 22 []))], [(22, true, .list true 34 uAk)], none⟩)], L40_4⟩
def B40_13 (_n : Nat) (L : uBz × uAg × Unit → Option uCi) (l_0 : List (Int × Int)) (n_1 : Int) (most_6 : Int) (i_9 : Int) (t_53 : Int) (t_54 : Int) (o_22 : List (List Int)) : Option uCi :=
  cond (decide (t_54 < t_53)) (jS i_9 o_22.length (jS (IntKind.wrap .i64 (i_9 + 1)) o_22.length (qc o_22 (IntKind.wrap .i64 (i_9 + 1)) fun e8 => jS t_54 e8.length (qc o_22 (IntKind.wrap .i64 (i_9 + 1)) fun e9 => qc e9 t_54 fun e10 => qc o_22 i_9 fun e11 => jS t_54 e11.length (qc o_22 i_9 fun e12 => qc e12 t_54 fun _ => qc l_0 i_9 fun e14 => cond (decide ((IntKind.wrap .i64 (t_54 - e14.1)) ≥ 0)) (jS i_9 (o_22.set i_9.toNat (e12.set t_54.toNat e10)).length (qc (o_22.set i_9.toNat (e12.set t_54.toNat e10)) i_9 fun e15 => jS (IntKind.wrap .i64 (t_54 - e14.1)) e15.length (qc (o_22.set i_9.toNat (e12.set t_54.toNat e10)) i_9 fun e16 => qc e16 (IntKind.wrap .i64 (t_54 - e14.1)) fun e17 => cond (decide (e17 < 1152921504606846976)) (jS i_9 (o_22.set i_9.toNat (e12.set t_54.toNat e10)).length (jS i_9 (o_22.set i_9.toNat (e12.set t_54.toNat e10)).length (qc (o_22.set i_9.toNat (e12.set t_54.toNat e10)) i_9 fun e18 => jS t_54 e18.length (qc (o_22.set i_9.toNat (e12.set t_54.toNat e10)) i_9 fun e19 => qc e19 t_54 fun e20 => jS i_9 (o_22.set i_9.toNat (e12.set t_54.toNat e10)).length (qc (o_22.set i_9.toNat (e12.set t_54.toNat e10)) i_9 fun e21 => jS (IntKind.wrap .i64 (t_54 - e14.1)) e21.length (qc (o_22.set i_9.toNat (e12.set t_54.toNat e10)) i_9 fun e22 => qc e22 (IntKind.wrap .i64 (t_54 - e14.1)) fun e23 => qc l_0 i_9 fun e24 => qc (o_22.set i_9.toNat (e12.set t_54.toNat e10)) i_9 fun e25 => jS t_54 e25.length (qc (o_22.set i_9.toNat (e12.set t_54.toNat e10)) i_9 fun e26 => qc e26 t_54 fun _ => qU ((o_22.set i_9.toNat (e12.set t_54.toNat e10)).set i_9.toNat (e26.set t_54.toNat (min e20 (IntKind.wrap .i64 (e23 + e24.2))))) fun z28 => L ((l_0, n_1, most_6, i_9, t_53, (IntKind.wrap .i64 (t_54 + 1)), ()), (z28, ()), ())))))))) (L ((l_0, n_1, most_6, i_9, t_53, (IntKind.wrap .i64 (t_54 + 1)), ()), ((o_22.set i_9.toNat (e12.set t_54.toNat e10)), ()), ()))))) (L ((l_0, n_1, most_6, i_9, t_53, (IntKind.wrap .i64 (t_54 + 1)), ()), ((o_22.set i_9.toNat (e12.set t_54.toNat e10)), ()), ()))))))) (some ((l_0, n_1, most_6, i_9, ()), (o_22, ()), ()))
def L40_13 : Nat → uBz × uAg × Unit → Option uCi
  | 0, _ => none
  | n + 1, d => B40_13 n (L40_13 n) d.1.1 d.1.2.1 d.1.2.2.1 d.1.2.2.2.1 d.1.2.2.2.2.1 d.1.2.2.2.2.2.1 d.2.1.1
def l40_13 : j0 := ⟨⟨[(0, .v uAh), (1, .v zI), (6, .v zI), (7, .c (.view 22 [])), (9, .v zI), (53, .v zI), (54, .v zI)], [(22, true, .list true 34 uAk)], none⟩, [(.exit 4, ⟨[(0, .v uAh), (1, .v zI), (6, .v zI), (7, .c (.view 22 [])), (9, .v zI)], [(22, true, .list true 34 uAk)], none⟩)], L40_13⟩
def B40_10 (n : Nat) (L : uAs × uAg × Unit → Option zTp) (l_0 : List (Int × Int)) (n_1 : Int) (most_6 : Int) (i_9 : Int) (o_22 : List (List Int)) : Option zTp :=
  cond (decide (i_9 ≥ 0)) (jS i_9 o_22.length (qc o_22 i_9 fun e7 => qa (L40_13 n ((l_0, n_1, most_6, i_9, (e7.length : Int), 0, ()), (o_22, ()), ())) fun o29 => L ((o29.1.1, o29.1.2.1, o29.1.2.2.1, (IntKind.wrap .i64 (o29.1.2.2.2.1 - 1)), ()), (o29.2.1.1, ()), ()))) (some ((l_0, n_1, most_6, ()), (o_22, ()), ()))
def L40_10 : Nat → uAs × uAg × Unit → Option zTp
  | 0, _ => none
  | n + 1, d => B40_10 n (L40_10 n) d.1.1 d.1.2.1 d.1.2.2.1 d.1.2.2.2.1 d.2.1.1
def l40_10 : j0 := ⟨⟨[(0, .v uAh), (1, .v zI), (6, .v zI), (7, .c (.view 22 [])), (9, .v zI)], [(22, true, .list true 34 uAk)], none⟩, [(.exit 2, ⟨[(0, .v uAh), (1, .v zI), (6, .v zI), (7, .c (.view 22 []))], [(22, true, .list true 34 uAk)], none⟩)], L40_10⟩
def B40_22 (_n : Nat) (L : uAs × uAg × Unit → Option uBm) (l_0 : List (Int × Int)) (most_6 : Int) (tokens_12 : Int) (t_13 : Int) (o_22 : List (List Int)) : Option uBm :=
  cond (decide (t_13 ≤ most_6)) (jS 0 o_22.length (qc o_22 0 fun e31 => jS t_13 e31.length (qc o_22 0 fun e32 => qc e32 t_13 fun e33 => jS 0 o_22.length (qc o_22 0 fun e34 => jS tokens_12 e34.length (qc o_22 0 fun e35 => qc e35 tokens_12 fun e36 => cond (decide (e33 < e36)) (L ((l_0, most_6, t_13, (IntKind.wrap .i64 (t_13 + 1)), ()), (o_22, ()), ())) (L ((l_0, most_6, tokens_12, (IntKind.wrap .i64 (t_13 + 1)), ()), (o_22, ()), ()))))))) (some ((l_0, tokens_12, ()), (o_22, ()), ()))
def L40_22 : Nat → uAs × uAg × Unit → Option uBm
  | 0, _ => none
  | n + 1, d => B40_22 n (L40_22 n) d.1.1 d.1.2.1 d.1.2.2.1 d.1.2.2.2.1 d.2.1.1
def l40_22 : j0 := ⟨⟨[(0, .v uAh), (6, .v zI), (7, .c (.view 22 [])), (12, .v zI), (13, .v zI)], [(22, true, .list true 34 uAk)], none⟩, [(.exit 6, ⟨[(0, .v uAh), (7, .c (.view 22 [])), (12, .v zI)], [(22, true, .list true 34 uAk)], none⟩)], L40_22⟩
def B40_34 (_n : Nat) (L : uBq × uBp × Unit → Option uAl) (price_5 : Int) (tokens_12 : Int) (i_14 : Int) (left_16 : Int) (t_150 : List (Int × Int)) (t_151 : Int) (t_152 : Int) (o_15 : Int × Int) (o_22 : List (List Int)) (o_4000149 : List Int) : Option uAl :=
  cond (decide (tokens_12 ≥ o_15.1)) (jS i_14 o_22.length (qc o_22 i_14 fun e45 => jS (IntKind.wrap .i64 (tokens_12 - o_15.1)) e45.length (qc o_22 i_14 fun e46 => qc e46 (IntKind.wrap .i64 (tokens_12 - o_15.1)) fun e47 => cond (decide (e47 < 1152921504606846976)) (jS i_14 o_22.length (qc o_22 i_14 fun e48 => jS (IntKind.wrap .i64 (tokens_12 - o_15.1)) e48.length (qc o_22 i_14 fun e49 => qc e49 (IntKind.wrap .i64 (tokens_12 - o_15.1)) fun e50 => cond ((IntKind.wrap .i64 (e50 + o_15.2)) == left_16) (jS i_14 o_4000149.length (qc o_4000149 i_14 fun e51 => jS i_14 o_4000149.length (qc o_4000149 i_14 fun _ => jS i_14 o_22.length (qc o_22 i_14 fun e53 => jS (IntKind.wrap .i64 (tokens_12 - o_15.1)) e53.length (qc o_22 i_14 fun e54 => qc e54 (IntKind.wrap .i64 (tokens_12 - o_15.1)) fun e55 => L ((price_5, (IntKind.wrap .i64 (tokens_12 - o_15.1)), i_14, e55, t_150, t_151, t_152, ()), (o_15, o_22, (o_4000149.set i_14.toNat (IntKind.wrap .i64 (e51 + 1))), ()), ())))))) (some ((price_5, tokens_12, t_150, t_151, t_152, ()), (o_22, o_4000149, ()), ()))))) (some ((price_5, tokens_12, t_150, t_151, t_152, ()), (o_22, o_4000149, ()), ()))))) (some ((price_5, tokens_12, t_150, t_151, t_152, ()), (o_22, o_4000149, ()), ()))
def L40_34 : Nat → uBq × uBp × Unit → Option uAl
  | 0, _ => none
  | n + 1, d => B40_34 n (L40_34 n) d.1.1 d.1.2.1 d.1.2.2.1 d.1.2.2.2.1 d.1.2.2.2.2.1 d.1.2.2.2.2.2.1 d.1.2.2.2.2.2.2.1 d.2.1.1 d.2.1.2.1 d.2.1.2.2.1
def l40_34 : j0 := ⟨⟨[(4, .c (.view 4000149 [])), (5, .v zI), (7, .c (.view 22 [])), (12, .v zI), (14, .v zI), (15, .c (.ptr 15 [])), (16, .v zI), (150, .v uAh), (151, .v zI), (152, .v zI)], [(15, false, .str zTg), (22, true, .list true 34 uAk), (4000149, true, .list true 3 zI)], none⟩, [(.exit 10, ⟨[(4, .c (.view 4000149 [])), (5, .v zI), (7, .c (.view 22 [])), (12, .v zI), (150, .v uAh), (151, .v zI), (152, .v zI)], [(22, true, .list true 34 uAk), (4000149, true, .list true 3 zI)], none⟩)], L40_34⟩
def B40_31 (n : Nat) (L : uBt × uBu × Unit → Option uBw) (price_5 : Int) (tokens_12 : Int) (t_150 : List (Int × Int)) (t_151 : Int) (t_152 : Int) (o_22 : List (List Int)) (o_4000149 : List Int) : Option uBw :=
  cond (decide (t_152 < t_151)) (qc t_150 t_152 fun e41 => jS t_152 o_22.length (qc o_22 t_152 fun e42 => jS tokens_12 e42.length (qc o_22 t_152 fun e43 => qc e43 tokens_12 fun e44 => qa (L40_34 n ((price_5, tokens_12, t_152, e44, t_150, t_151, t_152, ()), (e41, o_22, o_4000149, ()), ())) fun o56 => L ((o56.1.1, o56.1.2.1, o56.1.2.2.1, o56.1.2.2.2.1, (IntKind.wrap .i64 (o56.1.2.2.2.2.1 + 1)), ()), (o56.2.1.1, o56.2.1.2.1, ()), ())))) (some ((price_5, ()), (o_4000149, ()), ()))
def L40_31 : Nat → uBt × uBu × Unit → Option uBw
  | 0, _ => none
  | n + 1, d => B40_31 n (L40_31 n) d.1.1 d.1.2.1 d.1.2.2.1 d.1.2.2.2.1 d.1.2.2.2.2.1 d.2.1.1 d.2.1.2.1
def l40_31 : j0 := ⟨⟨[(4, .c (.view 4000149 [])), (5, .v zI), (7, .c (.view 22 [])), (12, .v zI), (150, .v uAh), (151, .v zI), (152, .v zI)], [(22, true, .list true 34 uAk), (4000149, true, .list true 3 zI)], none⟩, [(.exit 8, ⟨[(4, .c (.view 4000149 [])), (5, .v zI)], [(4000149, true, .list true 3 zI)], none⟩)], L40_31⟩
def F40 (n : Nat) (l_0 : uAb) (n_1 : Int) : Option (uCc × (Unit)) :=
  jG 0 (IntKind.wrap .i64 ((l_0.length : Int) + 1)) (jG (IntKind.wrap .i64 ((l_0.length : Int) + 1)) (IntKind.wrap .i64 ((l_0.length : Int) + 1)) (qB (IntKind.wrap .i64 ((l_0.length : Int) + 1)) (qa (L40_4 n ((l_0, n_1, (IntKind.wrap .i64 (n_1 + 1000)), ((List.replicate (IntKind.wrap .i64 ((l_0.length : Int) + 1)).toNat ([] : List Int)).length : Int), 0, ()), ((List.replicate (IntKind.wrap .i64 ((l_0.length : Int) + 1)).toNat ([] : List Int)), ()), ())) fun o3 => jS (o3.1.1.length : Int) o3.2.1.1.length (qc o3.2.1.1 (o3.1.1.length : Int) fun e4 => jS 0 e4.length (qc o3.2.1.1 (o3.1.1.length : Int) fun e5 => qc e5 0 fun _ => qa (L40_10 n ((o3.1.1, o3.1.2.1, o3.1.2.2.1, (IntKind.wrap .i64 ((o3.1.1.length : Int) - 1)), ()), ((o3.2.1.1.set (o3.1.1.length : Int).toNat (e5.set (0 : Int).toNat 0)), ()), ())) fun o30 => qa (L40_22 n ((o30.1.1, o30.1.2.2.1, o30.1.2.1, o30.1.2.1, ()), (o30.2.1.1, ()), ())) fun o37 => jS 0 o37.2.1.1.length (qc o37.2.1.1 0 fun e38 => jS o37.1.2.1 e38.length (qc o37.2.1.1 0 fun e39 => qc e39 o37.1.2.1 fun e40 => cond (e40 == 1152921504606846976) (none) (jG 0 (o37.1.1.length : Int) (jG (o37.1.1.length : Int) (o37.1.1.length : Int) (qB (o37.1.1.length : Int) (qa (L40_31 n ((e40, o37.1.2.1, o37.1.1, (o37.1.1.length : Int), 0, ()), (o37.2.1.1, (List.replicate (o37.1.1.length : Int).toNat (0 : Int)), ()), ())) fun o57 => some ((o57.2.1.1, o57.1.1, ()), ()))))))))))))
def g40 (d : uAb × Int × Unit) : Option (uCc × (Unit)) := F40 qi d.1 d.2.1
def p40 : jH := ⟨[.v uAh, .v zI], [.sure true 3 zI, .v zI], g40⟩
def c40 : jM := ⟨218, tyT, [(22, .list true 34 uAk), (4, .bool)], [(63, p63)], [(4, l40_4), (13, l40_13), (10, l40_10), (22, l40_22), (34, l40_34), (31, l40_31)], [], [1000149], [], [], [], [], [], [], [], none, [], []⟩
theorem F40_eq (n : Nat) (d) : jL c40 n Tryz.f40 (body Tryz.f40) p40.ps p40.rs d = F40 n d.1 d.2.1 := by kernel_rfl
theorem L40_4_eq (n : Nat) (d) : (l40_4).g (n + 1) d = run c40 n (nth 0 (qh (body Tryz.f40))) ((l40_4).ins.fill d) (jI (l40_4) n) := by kernel_rfl
theorem L40_10_eq (n : Nat) (d) : (l40_10).g (n + 1) d = run c40 n (nth 1 (qh (body Tryz.f40))) ((l40_10).ins.fill d) (jI (l40_10) n) := by kernel_rfl
theorem L40_13_eq (n : Nat) (d) : (l40_13).g (n + 1) d = run c40 n (nth 2 (qh (body Tryz.f40))) ((l40_13).ins.fill d) (jI (l40_13) n) := by kernel_rfl
theorem L40_22_eq (n : Nat) (d) : (l40_22).g (n + 1) d = run c40 n (nth 3 (qh (body Tryz.f40))) ((l40_22).ins.fill d) (jI (l40_22) n) := by kernel_rfl
theorem L40_31_eq (n : Nat) (d) : (l40_31).g (n + 1) d = run c40 n (nth 4 (qh (body Tryz.f40))) ((l40_31).ins.fill d) (jI (l40_31) n) := by kernel_rfl
theorem L40_34_eq (n : Nat) (d) : (l40_34).g (n + 1) d = run c40 n (nth 5 (qh (body Tryz.f40))) ((l40_34).ins.fill d) (jI (l40_34) n) := by kernel_rfl
theorem ls40 : qh (body Tryz.f40) = [nth 0 (qh (body Tryz.f40)), nth 1 (qh (body Tryz.f40)), nth 2 (qh (body Tryz.f40)), nth 3 (qh (body Tryz.f40)), nth 4 (qh (body Tryz.f40)), nth 5 (qh (body Tryz.f40))] := by kernel_rfl
theorem h40 : jA Tryz.prog 40 p40 := hQ (cfg := c40) (qH qI (qm h63 qv) rfl (by kernel_rfl)) Tryz.func40 (by kernel_rfl) (by rw [ls40]; simp only [List.forall_mem_cons]; exact ⟨qW (key := 4) (li := l40_4) (by kernel_rfl) rfl (fun _ => rfl) (L40_4_eq), qW (key := 10) (li := l40_10) (by kernel_rfl) rfl (fun _ => rfl) (L40_10_eq), qW (key := 13) (li := l40_13) (by kernel_rfl) rfl (fun _ => rfl) (L40_13_eq), qW (key := 22) (li := l40_22) (by kernel_rfl) rfl (fun _ => rfl) (L40_22_eq), qW (key := 31) (li := l40_31) (by kernel_rfl) rfl (fun _ => rfl) (L40_31_eq), qW (key := 34) (li := l40_34) (by kernel_rfl) rfl (fun _ => rfl) (L40_34_eq), fun _ h => by cases h⟩) (by kernel_rfl) (F40_eq qi)
def B10040_4 (_n : Nat) (L : uCf × uAg × Unit → Option zTp) (l_0 : List (Int × Int)) (n_1 : Int) (most_6 : Int) (t_24 : Int) (t_25 : Int) (o_22 : List (List Int)) : Option zTp :=
  cond (decide (t_25 < t_24)) (qa (g63 ([1152921504606846976], (IntKind.wrap .i64 (most_6 + 1)), ())) fun y1 => jS t_25 o_22.length (qc o_22 t_25 fun _ => L ((l_0, n_1, most_6, t_24, (IntKind.wrap .i64 (t_25 + 1)), ()), ((o_22.set t_25.toNat y1.1.1), ()), ()))) (some ((l_0, n_1, most_6, ()), (o_22, ()), ()))
def L10040_4 : Nat → uCf × uAg × Unit → Option zTp
  | 0, _ => none
  | n + 1, d => B10040_4 n (L10040_4 n) d.1.1 d.1.2.1 d.1.2.2.1 d.1.2.2.2.1 d.1.2.2.2.2.1 d.2.1.1
def l10040_4 : j0 := ⟨⟨[(0, .v uAh), (1, .v zI), (6, .v zI), (7, .c (.view 22 [])), (24, .v zI), (25, .v zI)], [(22, true, .list true 34 uAk)], none⟩, [(.exit 0, ⟨[(0, .v uAh), (1, .v zI), (6, .v zI), (7, .c (.view 22 []))], [(22, true, .list true 34 uAk)], none⟩)], L10040_4⟩
def B10040_13 (_n : Nat) (L : uBz × uAg × Unit → Option uCi) (l_0 : List (Int × Int)) (n_1 : Int) (most_6 : Int) (i_9 : Int) (t_53 : Int) (t_54 : Int) (o_22 : List (List Int)) : Option uCi :=
  cond (decide (t_54 < t_53)) (jS i_9 o_22.length (jS (IntKind.wrap .i64 (i_9 + 1)) o_22.length (qc o_22 (IntKind.wrap .i64 (i_9 + 1)) fun e8 => jS t_54 e8.length (qc o_22 (IntKind.wrap .i64 (i_9 + 1)) fun e9 => qc e9 t_54 fun e10 => qc o_22 i_9 fun e11 => jS t_54 e11.length (qc o_22 i_9 fun e12 => qc e12 t_54 fun _ => qc l_0 i_9 fun e14 => cond (decide ((IntKind.wrap .i64 (t_54 - e14.1)) ≥ 0)) (jS i_9 (o_22.set i_9.toNat (e12.set t_54.toNat e10)).length (qc (o_22.set i_9.toNat (e12.set t_54.toNat e10)) i_9 fun e15 => jS (IntKind.wrap .i64 (t_54 - e14.1)) e15.length (qc (o_22.set i_9.toNat (e12.set t_54.toNat e10)) i_9 fun e16 => qc e16 (IntKind.wrap .i64 (t_54 - e14.1)) fun e17 => cond (decide (e17 < 1152921504606846976)) (jS i_9 (o_22.set i_9.toNat (e12.set t_54.toNat e10)).length (jS i_9 (o_22.set i_9.toNat (e12.set t_54.toNat e10)).length (qc (o_22.set i_9.toNat (e12.set t_54.toNat e10)) i_9 fun e18 => jS t_54 e18.length (qc (o_22.set i_9.toNat (e12.set t_54.toNat e10)) i_9 fun e19 => qc e19 t_54 fun e20 => jS i_9 (o_22.set i_9.toNat (e12.set t_54.toNat e10)).length (qc (o_22.set i_9.toNat (e12.set t_54.toNat e10)) i_9 fun e21 => jS (IntKind.wrap .i64 (t_54 - e14.1)) e21.length (qc (o_22.set i_9.toNat (e12.set t_54.toNat e10)) i_9 fun e22 => qc e22 (IntKind.wrap .i64 (t_54 - e14.1)) fun e23 => qc l_0 i_9 fun e24 => qc (o_22.set i_9.toNat (e12.set t_54.toNat e10)) i_9 fun e25 => jS t_54 e25.length (qc (o_22.set i_9.toNat (e12.set t_54.toNat e10)) i_9 fun e26 => qc e26 t_54 fun _ => qU ((o_22.set i_9.toNat (e12.set t_54.toNat e10)).set i_9.toNat (e26.set t_54.toNat (min e20 (IntKind.wrap .i64 (e23 + e24.2))))) fun z28 => L ((l_0, n_1, most_6, i_9, t_53, (IntKind.wrap .i64 (t_54 + 1)), ()), (z28, ()), ())))))))) (L ((l_0, n_1, most_6, i_9, t_53, (IntKind.wrap .i64 (t_54 + 1)), ()), ((o_22.set i_9.toNat (e12.set t_54.toNat e10)), ()), ()))))) (L ((l_0, n_1, most_6, i_9, t_53, (IntKind.wrap .i64 (t_54 + 1)), ()), ((o_22.set i_9.toNat (e12.set t_54.toNat e10)), ()), ()))))))) (some ((l_0, n_1, most_6, i_9, ()), (o_22, ()), ()))
def L10040_13 : Nat → uBz × uAg × Unit → Option uCi
  | 0, _ => none
  | n + 1, d => B10040_13 n (L10040_13 n) d.1.1 d.1.2.1 d.1.2.2.1 d.1.2.2.2.1 d.1.2.2.2.2.1 d.1.2.2.2.2.2.1 d.2.1.1
def l10040_13 : j0 := ⟨⟨[(0, .v uAh), (1, .v zI), (6, .v zI), (7, .c (.view 22 [])), (9, .v zI), (53, .v zI), (54, .v zI)], [(22, true, .list true 34 uAk)], none⟩, [(.exit 4, ⟨[(0, .v uAh), (1, .v zI), (6, .v zI), (7, .c (.view 22 [])), (9, .v zI)], [(22, true, .list true 34 uAk)], none⟩)], L10040_13⟩
def B10040_10 (n : Nat) (L : uAs × uAg × Unit → Option zTp) (l_0 : List (Int × Int)) (n_1 : Int) (most_6 : Int) (i_9 : Int) (o_22 : List (List Int)) : Option zTp :=
  cond (decide (i_9 ≥ 0)) (jS i_9 o_22.length (qc o_22 i_9 fun e7 => qa (L10040_13 n ((l_0, n_1, most_6, i_9, (e7.length : Int), 0, ()), (o_22, ()), ())) fun o29 => L ((o29.1.1, o29.1.2.1, o29.1.2.2.1, (IntKind.wrap .i64 (o29.1.2.2.2.1 - 1)), ()), (o29.2.1.1, ()), ()))) (some ((l_0, n_1, most_6, ()), (o_22, ()), ()))
def L10040_10 : Nat → uAs × uAg × Unit → Option zTp
  | 0, _ => none
  | n + 1, d => B10040_10 n (L10040_10 n) d.1.1 d.1.2.1 d.1.2.2.1 d.1.2.2.2.1 d.2.1.1
def l10040_10 : j0 := ⟨⟨[(0, .v uAh), (1, .v zI), (6, .v zI), (7, .c (.view 22 [])), (9, .v zI)], [(22, true, .list true 34 uAk)], none⟩, [(.exit 2, ⟨[(0, .v uAh), (1, .v zI), (6, .v zI), (7, .c (.view 22 []))], [(22, true, .list true 34 uAk)], none⟩)], L10040_10⟩
def B10040_22 (_n : Nat) (L : uAs × uAg × Unit → Option uBm) (l_0 : List (Int × Int)) (most_6 : Int) (tokens_12 : Int) (t_13 : Int) (o_22 : List (List Int)) : Option uBm :=
  cond (decide (t_13 ≤ most_6)) (jS 0 o_22.length (qc o_22 0 fun e31 => jS t_13 e31.length (qc o_22 0 fun e32 => qc e32 t_13 fun e33 => jS 0 o_22.length (qc o_22 0 fun e34 => jS tokens_12 e34.length (qc o_22 0 fun e35 => qc e35 tokens_12 fun e36 => cond (decide (e33 < e36)) (L ((l_0, most_6, t_13, (IntKind.wrap .i64 (t_13 + 1)), ()), (o_22, ()), ())) (L ((l_0, most_6, tokens_12, (IntKind.wrap .i64 (t_13 + 1)), ()), (o_22, ()), ()))))))) (some ((l_0, tokens_12, ()), (o_22, ()), ()))
def L10040_22 : Nat → uAs × uAg × Unit → Option uBm
  | 0, _ => none
  | n + 1, d => B10040_22 n (L10040_22 n) d.1.1 d.1.2.1 d.1.2.2.1 d.1.2.2.2.1 d.2.1.1
def l10040_22 : j0 := ⟨⟨[(0, .v uAh), (6, .v zI), (7, .c (.view 22 [])), (12, .v zI), (13, .v zI)], [(22, true, .list true 34 uAk)], none⟩, [(.exit 6, ⟨[(0, .v uAh), (7, .c (.view 22 [])), (12, .v zI)], [(22, true, .list true 34 uAk)], none⟩)], L10040_22⟩
def B10040_34 (_n : Nat) (L : uBq × uBp × Unit → Option uAl) (price_5 : Int) (tokens_12 : Int) (i_14 : Int) (left_16 : Int) (t_150 : List (Int × Int)) (t_151 : Int) (t_152 : Int) (o_15 : Int × Int) (o_22 : List (List Int)) (o_4000149 : List Int) : Option uAl :=
  cond (decide (tokens_12 ≥ o_15.1)) (jS i_14 o_22.length (qc o_22 i_14 fun e45 => jS (IntKind.wrap .i64 (tokens_12 - o_15.1)) e45.length (qc o_22 i_14 fun e46 => qc e46 (IntKind.wrap .i64 (tokens_12 - o_15.1)) fun e47 => cond (decide (e47 < 1152921504606846976)) (jS i_14 o_22.length (qc o_22 i_14 fun e48 => jS (IntKind.wrap .i64 (tokens_12 - o_15.1)) e48.length (qc o_22 i_14 fun e49 => qc e49 (IntKind.wrap .i64 (tokens_12 - o_15.1)) fun e50 => cond ((IntKind.wrap .i64 (e50 + o_15.2)) == left_16) (jS i_14 o_4000149.length (qc o_4000149 i_14 fun e51 => jS i_14 o_4000149.length (qc o_4000149 i_14 fun _ => jS i_14 o_22.length (qc o_22 i_14 fun e53 => jS (IntKind.wrap .i64 (tokens_12 - o_15.1)) e53.length (qc o_22 i_14 fun e54 => qc e54 (IntKind.wrap .i64 (tokens_12 - o_15.1)) fun e55 => L ((price_5, (IntKind.wrap .i64 (tokens_12 - o_15.1)), i_14, e55, t_150, t_151, t_152, ()), (o_15, o_22, (o_4000149.set i_14.toNat (IntKind.wrap .i64 (e51 + 1))), ()), ())))))) (some ((price_5, tokens_12, t_150, t_151, t_152, ()), (o_22, o_4000149, ()), ()))))) (some ((price_5, tokens_12, t_150, t_151, t_152, ()), (o_22, o_4000149, ()), ()))))) (some ((price_5, tokens_12, t_150, t_151, t_152, ()), (o_22, o_4000149, ()), ()))
def L10040_34 : Nat → uBq × uBp × Unit → Option uAl
  | 0, _ => none
  | n + 1, d => B10040_34 n (L10040_34 n) d.1.1 d.1.2.1 d.1.2.2.1 d.1.2.2.2.1 d.1.2.2.2.2.1 d.1.2.2.2.2.2.1 d.1.2.2.2.2.2.2.1 d.2.1.1 d.2.1.2.1 d.2.1.2.2.1
def l10040_34 : j0 := ⟨⟨[(4, .c (.view 4000149 [])), (5, .v zI), (7, .c (.view 22 [])), (12, .v zI), (14, .v zI), (15, .c (.ptr 15 [])), (16, .v zI), (150, .v uAh), (151, .v zI), (152, .v zI)], [(15, false, .str zTg), (22, true, .list true 34 uAk), (4000149, true, .list true 3 zI)], none⟩, [(.exit 10, ⟨[(4, .c (.view 4000149 [])), (5, .v zI), (7, .c (.view 22 [])), (12, .v zI), (150, .v uAh), (151, .v zI), (152, .v zI)], [(22, true, .list true 34 uAk), (4000149, true, .list true 3 zI)], none⟩)], L10040_34⟩
def B10040_31 (n : Nat) (L : uBt × uBu × Unit → Option uBw) (price_5 : Int) (tokens_12 : Int) (t_150 : List (Int × Int)) (t_151 : Int) (t_152 : Int) (o_22 : List (List Int)) (o_4000149 : List Int) : Option uBw :=
  cond (decide (t_152 < t_151)) (qc t_150 t_152 fun e41 => jS t_152 o_22.length (qc o_22 t_152 fun e42 => jS tokens_12 e42.length (qc o_22 t_152 fun e43 => qc e43 tokens_12 fun e44 => qa (L10040_34 n ((price_5, tokens_12, t_152, e44, t_150, t_151, t_152, ()), (e41, o_22, o_4000149, ()), ())) fun o56 => L ((o56.1.1, o56.1.2.1, o56.1.2.2.1, o56.1.2.2.2.1, (IntKind.wrap .i64 (o56.1.2.2.2.2.1 + 1)), ()), (o56.2.1.1, o56.2.1.2.1, ()), ())))) (some ((price_5, ()), (o_4000149, ()), ()))
def L10040_31 : Nat → uBt × uBu × Unit → Option uBw
  | 0, _ => none
  | n + 1, d => B10040_31 n (L10040_31 n) d.1.1 d.1.2.1 d.1.2.2.1 d.1.2.2.2.1 d.1.2.2.2.2.1 d.2.1.1 d.2.1.2.1
def l10040_31 : j0 := ⟨⟨[(4, .c (.view 4000149 [])), (5, .v zI), (7, .c (.view 22 [])), (12, .v zI), (150, .v uAh), (151, .v zI), (152, .v zI)], [(22, true, .list true 34 uAk), (4000149, true, .list true 3 zI)], none⟩, [(.exit 8, ⟨[(4, .c (.view 4000149 [])), (5, .v zI)], [(4000149, true, .list true 3 zI)], none⟩)], L10040_31⟩
def F10040 (n : Nat) (l_0 : uAb) (n_1 : Int) : Option (uCc × (Unit)) :=
  jG 0 (IntKind.wrap .i64 ((l_0.length : Int) + 1)) (jG (IntKind.wrap .i64 ((l_0.length : Int) + 1)) (IntKind.wrap .i64 ((l_0.length : Int) + 1)) (qB (IntKind.wrap .i64 ((l_0.length : Int) + 1)) (qa (L10040_4 n ((l_0, n_1, (IntKind.wrap .i64 (n_1 + 1000)), ((List.replicate (IntKind.wrap .i64 ((l_0.length : Int) + 1)).toNat ([] : List Int)).length : Int), 0, ()), ((List.replicate (IntKind.wrap .i64 ((l_0.length : Int) + 1)).toNat ([] : List Int)), ()), ())) fun o3 => jS (o3.1.1.length : Int) o3.2.1.1.length (qc o3.2.1.1 (o3.1.1.length : Int) fun e4 => jS 0 e4.length (qc o3.2.1.1 (o3.1.1.length : Int) fun e5 => qc e5 0 fun _ => qa (L10040_10 n ((o3.1.1, o3.1.2.1, o3.1.2.2.1, (IntKind.wrap .i64 ((o3.1.1.length : Int) - 1)), ()), ((o3.2.1.1.set (o3.1.1.length : Int).toNat (e5.set (0 : Int).toNat 0)), ()), ())) fun o30 => qa (L10040_22 n ((o30.1.1, o30.1.2.2.1, o30.1.2.1, o30.1.2.1, ()), (o30.2.1.1, ()), ())) fun o37 => jS 0 o37.2.1.1.length (qc o37.2.1.1 0 fun e38 => jS o37.1.2.1 e38.length (qc o37.2.1.1 0 fun e39 => qc e39 o37.1.2.1 fun e40 => cond (e40 == 1152921504606846976) (some ((([] : List Int), 0, ()), ())) (jG 0 (o37.1.1.length : Int) (jG (o37.1.1.length : Int) (o37.1.1.length : Int) (qB (o37.1.1.length : Int) (qa (L10040_31 n ((e40, o37.1.2.1, o37.1.1, (o37.1.1.length : Int), 0, ()), (o37.2.1.1, (List.replicate (o37.1.1.length : Int).toNat (0 : Int)), ()), ())) fun _ => none)))))))))))
def g10040 (d : uAb × Int × Unit) : Option (uCc × (Unit)) := F10040 qi d.1 d.2.1
def p10040 : jH := ⟨[.v uAh, .v zI], [.sure false 3 zI, .v zI], g10040⟩
def c10040 : jM := ⟨218, tyT, [(22, .list true 34 uAk), (4, .bool)], [(63, p63)], [(4, l10040_4), (13, l10040_13), (10, l10040_10), (22, l10040_22), (34, l10040_34), (31, l10040_31)], [], [1000149], [], [], [], [], [], [], [], none, [], []⟩
theorem F10040_eq (n : Nat) (d) : jL c10040 n Tryz.f40 (body Tryz.f40) p10040.ps p10040.rs d = F10040 n d.1 d.2.1 := by kernel_rfl
theorem L10040_4_eq (n : Nat) (d) : (l10040_4).g (n + 1) d = run c10040 n (nth 0 (qh (body Tryz.f40))) ((l10040_4).ins.fill d) (jI (l10040_4) n) := by kernel_rfl
theorem L10040_10_eq (n : Nat) (d) : (l10040_10).g (n + 1) d = run c10040 n (nth 1 (qh (body Tryz.f40))) ((l10040_10).ins.fill d) (jI (l10040_10) n) := by kernel_rfl
theorem L10040_13_eq (n : Nat) (d) : (l10040_13).g (n + 1) d = run c10040 n (nth 2 (qh (body Tryz.f40))) ((l10040_13).ins.fill d) (jI (l10040_13) n) := by kernel_rfl
theorem L10040_22_eq (n : Nat) (d) : (l10040_22).g (n + 1) d = run c10040 n (nth 3 (qh (body Tryz.f40))) ((l10040_22).ins.fill d) (jI (l10040_22) n) := by kernel_rfl
theorem L10040_31_eq (n : Nat) (d) : (l10040_31).g (n + 1) d = run c10040 n (nth 4 (qh (body Tryz.f40))) ((l10040_31).ins.fill d) (jI (l10040_31) n) := by kernel_rfl
theorem L10040_34_eq (n : Nat) (d) : (l10040_34).g (n + 1) d = run c10040 n (nth 5 (qh (body Tryz.f40))) ((l10040_34).ins.fill d) (jI (l10040_34) n) := by kernel_rfl
theorem ls10040 : qh (body Tryz.f40) = [nth 0 (qh (body Tryz.f40)), nth 1 (qh (body Tryz.f40)), nth 2 (qh (body Tryz.f40)), nth 3 (qh (body Tryz.f40)), nth 4 (qh (body Tryz.f40)), nth 5 (qh (body Tryz.f40))] := by kernel_rfl
theorem h10040 : jA Tryz.prog 40 p10040 := hQ (cfg := c10040) (qH qI (qm h63 qv) rfl (by kernel_rfl)) Tryz.func40 (by kernel_rfl) (by rw [ls10040]; simp only [List.forall_mem_cons]; exact ⟨qW (key := 4) (li := l10040_4) (by kernel_rfl) rfl (fun _ => rfl) (L10040_4_eq), qW (key := 10) (li := l10040_10) (by kernel_rfl) rfl (fun _ => rfl) (L10040_10_eq), qW (key := 13) (li := l10040_13) (by kernel_rfl) rfl (fun _ => rfl) (L10040_13_eq), qW (key := 22) (li := l10040_22) (by kernel_rfl) rfl (fun _ => rfl) (L10040_22_eq), qW (key := 31) (li := l10040_31) (by kernel_rfl) rfl (fun _ => rfl) (L10040_31_eq), qW (key := 34) (li := l10040_34) (by kernel_rfl) rfl (fun _ => rfl) (L10040_34_eq), fun _ h => by cases h⟩) (by kernel_rfl) (F10040_eq qi)
def F19 (_n : Nat) (f_0 : zTk) (n_1 : Int) : Option uCb :=
  altK (g10040 (f_0.2.2.2.2.1, n_1, ())) (fun _ => some ((([] : List Int), 0, 3, ()), ())) (qa (g40 (f_0.2.2.2.2.1, n_1, ())) fun y2 => some ((y2.1.1, y2.1.2.1, 0, ()), ()))
def g19 (d : zTk × Int × Unit) : Option uCb := F19 qi d.1 d.2.1
def p19 : jH := ⟨[.v (.str zTd), .v zI], [.own 3 zI, .v zI, .v zI], g19⟩
def c19 : jM := ⟨20, tyT, [], [(40, p40)], [], [], [], [], [], [], [(40, p10040)], [], [], [], none, [], []⟩
theorem F19_eq (n : Nat) (d) : jL c19 n Tryz.f19 (body Tryz.f19) p19.ps p19.rs d = F19 n d.1 d.2.1 := by kernel_rfl
theorem h19 : jA Tryz.prog 19 p19 := hQ (cfg := c19) (qH qI (qm h40 qv) rfl (by kernel_rfl) (hal := qm h10040 qv)) Tryz.func19 (by kernel_rfl) (qL (by kernel_rfl)) (by kernel_rfl) (F19_eq qi)
def F12 (_n : Nat) (f_0 : zTk) (n_1 : Int) : Option uCb :=
  qa (g17 (f_0, ())) fun y1 => cond (y1.1.1 != 0) (some ((([] : List Int), 0, y1.1.1, ()), ())) (qa (g18 (n_1, 0, 1000, ())) fun y2 => cond (!y2.1.1) (some ((([] : List Int), 0, 1, ()), ())) (qa (g19 (f_0, n_1, ())) fun y3 => some ((y3.1.1, y3.1.2.1, y3.1.2.2.1, ()), ())))
def g12 (d : zTk × Int × Unit) : Option uCb := F12 qi d.1 d.2.1
def p12 : jH := ⟨[.v (.str zTd), .v zI], [.own 3 zI, .v zI, .v zI], g12⟩
def c12 : jM := ⟨22, tyT, [], [(17, p17), (18, p18), (19, p19)], [], [], [], [], [], [], [], [], [], [], none, [], []⟩
theorem F12_eq (n : Nat) (d) : jL c12 n Tryz.f12 (body Tryz.f12) p12.ps p12.rs d = F12 n d.1 d.2.1 := by kernel_rfl
theorem h12 : jA Tryz.prog 12 p12 := hQ (cfg := c12) (qH qI (qm h17 (qm h18 (qm h19 qv))) rfl (by kernel_rfl)) Tryz.func12 (by kernel_rfl) (qL (by kernel_rfl)) (by kernel_rfl) (F12_eq qi)
def F5 (_n : Nat)  : Option uAd :=
  qU ((0 : Int), (0 : Int), [5], [0], [(1, 200), (6, 1000)], (0 : Int), (0 : Int), 1) fun z1 => qa (g12 (z1, 7, ())) fun y2 => cond (y2.1.2.2.1 == 0) (cond (y2.1.2.1 == 1200) (qa (g11 (y2.1.1, [1, 1], ())) fun y3 => some ((y3.1.1, ()), ())) (some ((false, ()), ()))) (some ((false, ()), ()))
def g5 (_d : Unit) : Option uAd := F5 qi 
def p5 : jH := ⟨[], [.v .bool], g5⟩
def c5 : jM := ⟨28, tyT, [], [(11, p11), (12, p12)], [], [], [], [], [], [], [], [], [], [], none, [], []⟩
theorem F5_eq (n : Nat) (d) : jL c5 n Tryz.f5 (body Tryz.f5) p5.ps p5.rs d = F5 n  := by kernel_rfl
theorem h5 : jA Tryz.prog 5 p5 := hQ (cfg := c5) (qH qI (qm h11 (qm h12 qv)) rfl (by kernel_rfl)) Tryz.func5 (by kernel_rfl) (qL (by kernel_rfl)) (by kernel_rfl) (F5_eq qi)
def F23 (_n : Nat) (n_0 : Int) (low_1 : Int) (high_2 : Int) : Option uAd :=
  cond (decide (n_0 ≥ low_1)) (some (((decide (n_0 ≤ high_2)), ()), ())) (some ((false, ()), ()))
def g23 (d : Int × Int × Int × Unit) : Option uAd := F23 qi d.1 d.2.1 d.2.2.1
def p23 : jH := ⟨[.v zI, .v zI, .v zI], [.v .bool], g23⟩
def c23 : jM := ⟨15, tyT, [], [], [], [], [], [], [], [], [], [], [], [], none, [], []⟩
theorem F23_eq (n : Nat) (d) : jL c23 n Tryz.f23 (body Tryz.f23) p23.ps p23.rs d = F23 n d.1 d.2.1 d.2.2.1 := by kernel_rfl
theorem h23 : jA Tryz.prog 23 p23 := hQ (cfg := c23) (qH qI (qv) rfl (by kernel_rfl)) Tryz.func23 (by kernel_rfl) (qL (by kernel_rfl)) (by kernel_rfl) (F23_eq qi)
def F41 (_n : Nat) (b_0 : zTl) : Option uAd :=
  qa (g23 (b_0.1, 1, 40, ())) fun y1 => cond (!y1.1.1) (some ((true, ()), ())) (qa (g23 (b_0.2.1, 0, 100, ())) fun y2 => cond (!y2.1.1) (some ((true, ()), ())) (qa (g23 (b_0.2.2.1, 1, 100, ())) fun y3 => cond (!y3.1.1) (some ((true, ()), ())) (qa (g23 (b_0.2.2.2.1, 0, 100, ())) fun y4 => some (((!y4.1.1), ()), ()))))
def g41 (d : zTl × Unit) : Option uAd := F41 qi d.1
def p41 : jH := ⟨[.v zTi], [.v .bool], g41⟩
def c41 : jM := ⟨25, tyT, [], [(23, p23)], [], [], [], [], [], [], [], [], [], [], none, [], []⟩
theorem F41_eq (n : Nat) (d) : jL c41 n Tryz.f41 (body Tryz.f41) p41.ps p41.rs d = F41 n d.1 := by kernel_rfl
theorem h41 : jA Tryz.prog 41 p41 := hQ (cfg := c41) (qH qI (qm h23 qv) rfl (by kernel_rfl)) Tryz.func41 (by kernel_rfl) (qL (by kernel_rfl)) (by kernel_rfl) (F41_eq qi)
def B64_2 (_n : Nat) (L : ((List zTl) × (zTl → Option Bool) × Int × Int × Unit) × (Unit) × Unit → Option (uAw ⊕ uAo)) (s_0 : List zTl) (f_1 : zTl → Option Bool) (t_7 : Int) (t_8 : Int) : Option (uAw ⊕ uAo) :=
  cond (decide (t_8 < t_7)) (qc s_0 t_8 fun e1 => qa (f_1 e1) fun y2 => cond y2 (some (.inl ((t_8, ()), (), ()))) (L ((s_0, f_1, t_7, (IntKind.wrap .i64 (t_8 + 1)), ()), (), ()))) (some (.inr ((), (), ())))
def L64_2 : Nat → ((List zTl) × (zTl → Option Bool) × Int × Int × Unit) × (Unit) × Unit → Option (uAw ⊕ uAo)
  | 0, _ => none
  | n + 1, d => B64_2 n (L64_2 n) d.1.1 d.1.2.1 d.1.2.2.1 d.1.2.2.2.1
def l64_2 : j0 := ⟨⟨[(0, .v uCd), (1, .v (.fn zTi .bool)), (7, .v zI), (8, .v zI)], [], none⟩, [(.ret, ⟨[(4, .v zI)], [], none⟩), (.exit 0, ⟨[], [], none⟩)], L64_2⟩
def F64 (n : Nat) (s_0 : (List zTl)) (f_1 : (zTl → Option Bool)) : Option uBa :=
  qa (L64_2 n ((s_0, f_1, (s_0.length : Int), 0, ()), (), ())) fun o3 => qeJ o3 (fun d4 => some ((d4.1.1, ()), ())) (fun _ => some (((-1), ()), ()))
def g64 (d : (List zTl) × (zTl → Option Bool) × Unit) : Option uBa := F64 qi d.1 d.2.1
def p64 : jH := ⟨[.v uCd, .v (.fn zTi .bool)], [.v zI], g64⟩
def c64 : jM := ⟨19, tyT, [], [], [(2, l64_2)], [], [], [], [], [], [], [], [], [], none, [], []⟩
theorem F64_eq (n : Nat) (d) : jL c64 n Tryz.f64 (body Tryz.f64) p64.ps p64.rs d = F64 n d.1 d.2.1 := by kernel_rfl
theorem L64_2_eq (n : Nat) (d) : (l64_2).g (n + 1) d = run c64 n (nth 0 (qh (body Tryz.f64))) ((l64_2).ins.fill d) (jI (l64_2) n) := by kernel_rfl
theorem ls64 : qh (body Tryz.f64) = [nth 0 (qh (body Tryz.f64))] := by kernel_rfl
theorem h64 : jA Tryz.prog 64 p64 := hQ (cfg := c64) (qH qI (qv) rfl (by kernel_rfl)) Tryz.func64 (by kernel_rfl) (by rw [ls64]; simp only [List.forall_mem_cons]; exact ⟨qW (key := 2) (li := l64_2) (by kernel_rfl) rfl (fun _ => rfl) (L64_2_eq), fun _ h => by cases h⟩) (by kernel_rfl) (F64_eq qi)
def F42 (_n : Nat) (s_0 : (List zTl)) (f_1 : (zTl → Option Bool)) : Option uAd :=
  qa (g64 (s_0, f_1, ())) fun y1 => some (((decide (y1.1.1 ≥ 0)), ()), ())
def g42 (d : (List zTl) × (zTl → Option Bool) × Unit) : Option uAd := F42 qi d.1 d.2.1
def p42 : jH := ⟨[.v uCd, .v (.fn zTi .bool)], [.v .bool], g42⟩
def c42 : jM := ⟨9, tyT, [], [(64, p64)], [], [], [], [], [], [], [], [], [], [], none, [], []⟩
theorem F42_eq (n : Nat) (d) : jL c42 n Tryz.f42 (body Tryz.f42) p42.ps p42.rs d = F42 n d.1 d.2.1 := by kernel_rfl
theorem h42 : jA Tryz.prog 42 p42 := hQ (cfg := c42) (qH qI (qm h64 qv) rfl (by kernel_rfl)) Tryz.func42 (by kernel_rfl) (qL (by kernel_rfl)) (by kernel_rfl) (F42_eq qi)
def F20 (_n : Nat) (f_0 : uAm) : Option uBa :=
  cond (decide ((f_0.1.length : Int) > 8)) (some ((70, ()), ())) (qa (g23 (f_0.2, 0, 100, ())) fun y1 => cond (!y1.1.1) (some ((70, ()), ())) (qa (g42 (f_0.1, (fun v2 => qa (g41 (v2, ())) fun y3 => some y3.1.1), ())) fun y4 => cond y4.1.1 (some ((70, ()), ())) (some ((0, ()), ()))))
def g20 (d : uAm × Unit) : Option uBa := F20 qi d.1
def p20 : jH := ⟨[.v uAp], [.v zI], g20⟩
def c20 : jM := ⟨20, tyT, [], [(23, p23), (41, p41), (42, p42)], [], [], [], [], [], [], [], [], [], [], none, [], []⟩
theorem F20_eq (n : Nat) (d) : jL c20 n Tryz.f20 (body Tryz.f20) p20.ps p20.rs d = F20 n d.1 := by kernel_rfl
theorem h20 : jA Tryz.prog 20 p20 := hQ (cfg := c20) (qH qI (qm h23 (qm h41 (qm h42 qv))) rfl (by kernel_rfl)) Tryz.func20 (by kernel_rfl) (qL (by kernel_rfl)) (by kernel_rfl) (F20_eq qi)
def F22 (_n : Nat) (n_0 : Int) (t_1 : uAm) : Option uAd :=
  qa (g23 (n_0, 0, (IntKind.wrap .i64 ((t_1.1.length : Int) - 1)), ())) fun y1 => some (((!y1.1.1), ()), ())
def g22 (d : Int × uAm × Unit) : Option uAd := F22 qi d.1 d.2.1
def p22 : jH := ⟨[.v zI, .r uAp], [.v .bool], g22⟩
def c22 : jM := ⟨11, tyT, [], [(23, p23)], [], [], [], [], [], [], [], [], [], [], none, [], []⟩
theorem F22_eq (n : Nat) (d) : jL c22 n Tryz.f22 (body Tryz.f22) p22.ps p22.rs d = F22 n d.1 d.2.1 := by kernel_rfl
theorem h22 : jA Tryz.prog 22 p22 := hQ (cfg := c22) (qH qI (qm h23 qv) rfl (by kernel_rfl)) Tryz.func22 (by kernel_rfl) (qL (by kernel_rfl)) (by kernel_rfl) (F22_eq qi)
def F21 (_n : Nat) (g_0 : zTj) (t_1 : uAm) : Option uAd :=
  qa (g23 (g_0.1, 0, 2000, ())) fun y1 => cond (!y1.1.1) (some ((true, ()), ())) (qa (g23 (g_0.2.1, 1, 40, ())) fun y2 => cond (!y2.1.1) (some ((true, ()), ())) (qa (g23 (g_0.2.2.1, 0, 10000, ())) fun y3 => cond (!y3.1.1) (some ((true, ()), ())) (qa (g23 (g_0.2.2.2.2, 0, 2000, ())) fun y4 => cond (!y4.1.1) (some ((true, ()), ())) (cond (decide ((g_0.2.2.2.1.length : Int) > 10)) (some ((true, ()), ())) (qa (g24 (g_0.2.2.2.1, (fun v5 => qa (g22 (v5, t_1, ())) fun y6 => some y6.1.1), ())) fun y7 => some ((y7.1.1, ()), ()))))))
def g21 (d : zTj × uAm × Unit) : Option uAd := F21 qi d.1 d.2.1
def p21 : jH := ⟨[.v zTh, .r uAp], [.v .bool], g21⟩
def c21 : jM := ⟨40, tyT, [], [(22, p22), (23, p23), (24, p24)], [], [], [], [], [], [], [], [], [], [], none, [], []⟩
theorem F21_eq (n : Nat) (d) : jL c21 n Tryz.f21 (body Tryz.f21) p21.ps p21.rs d = F21 n d.1 d.2.1 := by kernel_rfl
theorem h21 : jA Tryz.prog 21 p21 := hQ (cfg := c21) (qH qI (qm h22 (qm h23 (qm h24 qv))) rfl (by kernel_rfl)) Tryz.func21 (by kernel_rfl) (qL (by kernel_rfl)) (by kernel_rfl) (F21_eq qi)
def B44_2 (_n : Nat) (L : ((List zTj) × (zTj → Option Bool) × Int × Int × Unit) × (Unit) × Unit → Option (uAw ⊕ uAo)) (s_0 : List zTj) (f_1 : zTj → Option Bool) (t_7 : Int) (t_8 : Int) : Option (uAw ⊕ uAo) :=
  cond (decide (t_8 < t_7)) (qc s_0 t_8 fun e1 => qa (f_1 e1) fun y2 => cond y2 (some (.inl ((t_8, ()), (), ()))) (L ((s_0, f_1, t_7, (IntKind.wrap .i64 (t_8 + 1)), ()), (), ()))) (some (.inr ((), (), ())))
def L44_2 : Nat → ((List zTj) × (zTj → Option Bool) × Int × Int × Unit) × (Unit) × Unit → Option (uAw ⊕ uAo)
  | 0, _ => none
  | n + 1, d => B44_2 n (L44_2 n) d.1.1 d.1.2.1 d.1.2.2.1 d.1.2.2.2.1
def l44_2 : j0 := ⟨⟨[(0, .v uAz), (1, .v (.fn zTh .bool)), (7, .v zI), (8, .v zI)], [], none⟩, [(.ret, ⟨[(4, .v zI)], [], none⟩), (.exit 0, ⟨[], [], none⟩)], L44_2⟩
def F44 (n : Nat) (s_0 : (List zTj)) (f_1 : (zTj → Option Bool)) : Option uBa :=
  qa (L44_2 n ((s_0, f_1, (s_0.length : Int), 0, ()), (), ())) fun o3 => qeJ o3 (fun d4 => some ((d4.1.1, ()), ())) (fun _ => some (((-1), ()), ()))
def g44 (d : (List zTj) × (zTj → Option Bool) × Unit) : Option uBa := F44 qi d.1 d.2.1
def p44 : jH := ⟨[.v uAz, .v (.fn zTh .bool)], [.v zI], g44⟩
def c44 : jM := ⟨19, tyT, [], [], [(2, l44_2)], [], [], [], [], [], [], [], [], [], none, [], []⟩
theorem F44_eq (n : Nat) (d) : jL c44 n Tryz.f44 (body Tryz.f44) p44.ps p44.rs d = F44 n d.1 d.2.1 := by kernel_rfl
theorem L44_2_eq (n : Nat) (d) : (l44_2).g (n + 1) d = run c44 n (nth 0 (qh (body Tryz.f44))) ((l44_2).ins.fill d) (jI (l44_2) n) := by kernel_rfl
theorem ls44 : qh (body Tryz.f44) = [nth 0 (qh (body Tryz.f44))] := by kernel_rfl
theorem h44 : jA Tryz.prog 44 p44 := hQ (cfg := c44) (qH qI (qv) rfl (by kernel_rfl)) Tryz.func44 (by kernel_rfl) (by rw [ls44]; simp only [List.forall_mem_cons]; exact ⟨qW (key := 2) (li := l44_2) (by kernel_rfl) rfl (fun _ => rfl) (L44_2_eq), fun _ h => by cases h⟩) (by kernel_rfl) (F44_eq qi)
def F25 (_n : Nat) (s_0 : (List zTj)) (f_1 : (zTj → Option Bool)) : Option uAd :=
  qa (g44 (s_0, f_1, ())) fun y1 => some (((decide (y1.1.1 ≥ 0)), ()), ())
def g25 (d : (List zTj) × (zTj → Option Bool) × Unit) : Option uAd := F25 qi d.1 d.2.1
def p25 : jH := ⟨[.v uAz, .v (.fn zTh .bool)], [.v .bool], g25⟩
def c25 : jM := ⟨9, tyT, [], [(44, p44)], [], [], [], [], [], [], [], [], [], [], none, [], []⟩
theorem F25_eq (n : Nat) (d) : jL c25 n Tryz.f25 (body Tryz.f25) p25.ps p25.rs d = F25 n d.1 d.2.1 := by kernel_rfl
theorem h25 : jA Tryz.prog 25 p25 := hQ (cfg := c25) (qH qI (qm h44 qv) rfl (by kernel_rfl)) Tryz.func25 (by kernel_rfl) (qL (by kernel_rfl)) (by kernel_rfl) (F25_eq qi)
def F13 (_n : Nat) (f_0 : uAm) (l_1 : (List zTj)) : Option uBa :=
  qa (g20 (f_0, ())) fun y1 => cond (y1.1.1 != 0) (some ((y1.1.1, ()), ())) (cond (decide ((l_1.length : Int) > 60)) (some ((71, ()), ())) (qa (g25 (l_1, (fun v2 => qa (g21 (v2, f_0, ())) fun y3 => some y3.1.1), ())) fun y4 => cond y4.1.1 (some ((71, ()), ())) (some ((0, ()), ()))))
def g13 (d : uAm × (List zTj) × Unit) : Option uBa := F13 qi d.1 d.2.1
def p13 : jH := ⟨[.v uAp, .v uAz], [.v zI], g13⟩
def c13 : jM := ⟨21, tyT, [], [(20, p20), (21, p21), (25, p25)], [], [], [], [], [], [], [], [], [], [], none, [], []⟩
theorem F13_eq (n : Nat) (d) : jL c13 n Tryz.f13 (body Tryz.f13) p13.ps p13.rs d = F13 n d.1 d.2.1 := by kernel_rfl
theorem h13 : jA Tryz.prog 13 p13 := hQ (cfg := c13) (qH qI (qm h20 (qm h21 (qm h25 qv))) rfl (by kernel_rfl)) Tryz.func13 (by kernel_rfl) (qL (by kernel_rfl)) (by kernel_rfl) (F13_eq qi)
def g45 : (List Int) × Unit → Option (Unit × (List Int) × Unit) := Q.g45
def p45 : jH := ⟨[.mr 3 zI], [], g45⟩
theorem h45 : jA Tryz.prog 45 p45 := Q.h45
def F46051 (_n : Nat) (t_50 : Int) (o_0p : Int × zTa) : Option zTo :=
  jS t_50 o_0p.2.2.1.length (qc o_0p.2.2.1 t_50 fun e1 => qa e1 fun _ => qc o_0p.2.2.1 t_50 fun e3 => qa e3 fun e4 => qU (o_0p.1, (o_0p.2.1, ((o_0p.2.2.1.set t_50.toNat (some (e4.1, (e4.2.1, (e4.2.2.1, ((-1), e4.2.2.2.2)))))), o_0p.2.2.2))) fun z5 => qc z5.2.2.1 t_50 fun e6 => qa e6 fun _ => qc z5.2.2.1 t_50 fun e8 => qa e8 fun e9 => qc z5.2.2.1 t_50 fun e10 => qa e10 fun _ => qc z5.2.2.1 t_50 fun e12 => qa e12 fun e13 => qc e9.1.2.2.2.1 e13.2.1 fun e14 => jS e14 z5.2.1.length (qa8 (fun (e22 : zTl × zTq) (e18 : zTl × zTq) => some ((), ((z5.1, ((z5.2.1.set e14.toNat (some (e22.1, (e22.2.1, (e22.2.2.1, (e22.2.2.2.1, ((e18.2.2.2.2.1 ++ [(t_50, z5.2.2.2.1)]), e22.2.2.2.2.2))))))), z5.2.2)), ()), ())) fun E => qc z5.2.1 e14 fun e15 => qa e15 fun _ => qt [qc z5.2.1 e14 fun e17 => qa e17 fun e18 => qB ((e18.2.2.2.2.1.length : Int) + [(t_50, z5.2.2.2.1)].length) (qc z5.2.1 e14 fun e19 => qa e19 fun _ => eqK e14 e14 (eqK 0 0 (qc z5.2.1 e14 fun e21 => qa e21 fun e22 => E e22 e18))), qt [qc z5.2.1 e14 fun e23 => qa e23 fun e24 => qB ((e24.2.2.2.2.1.length : Int) + [(t_50, z5.2.2.2.1)].length) (qc z5.2.1 e14 fun e25 => qa e25 fun _ => eqK e14 e14 (eqK 0 0 (qc z5.2.1 e14 fun e27 => qa e27 fun e28 => E e28 e24))), qc z5.2.1 e14 fun e29 => qa e29 fun e30 => qB ((e30.2.2.2.2.1.length : Int) + [(t_50, z5.2.2.2.1)].length) (qc z5.2.1 e14 fun e31 => qa e31 fun _ => eqK e14 e14 (eqK 0 0 (qc z5.2.1 e14 fun e33 => qa e33 fun e34 => E e34 e30)))]]))
def g46051 (d : (Int × Unit) × uAe × Unit) : Option zTo := F46051 qi d.1.1 d.2.1.1
def qkv : Inl := ⟨.func 47, [.tmp 49, .tmp 50], ⟨[(49, .c (.ptr 10000000 [])), (50, .v zI)], [(10000000, false, .str uAa)], none⟩, ⟨[], [(10000000, false, .str uAa)], none⟩, g46051⟩
def c46051 : jM := ⟨48, tyT, [], [], [], [], [3], [], [], [], [], [], [], [], none, [], []⟩
theorem F46051_eq (n : Nat) (d) : qbp c46051 n Tryz.f47 (body Tryz.f47) qkv 47 51 d = F46051 n d.1.1 d.2.1.1 := by kernel_rfl
theorem h46051 : qaU Tryz.prog 51 qkv := qa7 qb4 (cfg := c46051) (qH qI (qv) rfl (by kernel_rfl)) Tryz.func47 rfl rfl (by kernel_rfl) (qL (by kernel_rfl)) (by kernel_rfl) (fun d y h => ⟨qi, (F46051_eq qi d).trans h⟩)
def F46 (_n : Nat) (n_0 : (Int × zTa)) (group_1 : Int) : Option uCa :=
  jS group_1 n_0.2.2.1.length (qc n_0.2.2.1 group_1 fun e1 => qa e1 fun _ => qc n_0.2.2.1 group_1 fun e3 => qa e3 fun e4 => qc n_0.2.2.1 group_1 fun e5 => qa e5 fun _ => qc n_0.2.2.1 group_1 fun e7 => qa e7 fun e8 => cond (e4.2.1 == (e8.1.2.2.2.1.length : Int)) (qc n_0.2.2.1 group_1 fun e9 => qa e9 fun _ => qc n_0.2.2.1 group_1 fun e11 => qa e11 fun e12 => qU (n_0.1, (n_0.2.1, ((n_0.2.2.1.set group_1.toNat (some (e12.1, (e12.2.1, (e12.2.2.1, (e12.2.2.2.1, n_0.2.2.2.1)))))), n_0.2.2.2))) fun z13 => some ((), (z13, ()))) (cond (n_0.1 == 0) (qa (g46051 ((group_1, ()), (n_0, ()), ())) fun y14 => some ((), (y14.2.1.1, ()))) (qc n_0.2.2.1 group_1 fun e15 => qa e15 fun _ => qc n_0.2.2.1 group_1 fun e17 => qa e17 fun e18 => qU (n_0.1, (n_0.2.1, ((n_0.2.2.1.set group_1.toNat (some (e18.1, (e18.2.1, (e18.2.2.1, ((IntKind.wrap .i64 (n_0.2.2.2.1 + n_0.1)), e18.2.2.2.2)))))), n_0.2.2.2))) fun z19 => some ((), (z19, ())))))
def g46 (d : (Int × zTa) × Int × Unit) : Option uCa := F46 qi d.1 d.2.1
def p46 : jH := ⟨[.m (.str uAa), .v zI], [], g46⟩
def c46 : jM := ⟨52, tyT, [], [], [], [], [], [], [], [], [], [], [], [], none, [], [(51, qkv)]⟩
theorem F46_eq (n : Nat) (d) : jL c46 n Tryz.f46 (body Tryz.f46) p46.ps p46.rs d = F46 n d.1 d.2.1 := by kernel_rfl
theorem h46 : jA Tryz.prog 46 p46 := hQ (cfg := c46) (qH qI (qv) rfl (by kernel_rfl) (hin := qbl h46051 qdF)) Tryz.func46 (by kernel_rfl) (qL (by kernel_rfl)) (by kernel_rfl) (F46_eq qi)
end
end Go.Proofs.Tryz.V
