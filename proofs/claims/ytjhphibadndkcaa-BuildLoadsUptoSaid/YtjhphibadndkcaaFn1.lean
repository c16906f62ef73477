/- The contracts of functions of the program, printed by program from the interpreter: each says what a call returns. No condition beyond those typed in each theorem. -/
import Derived.Test.YtjhphibadndkcaaViC
import Derived.Test.YtjhphibadndkcaaVi41
import Derived.Test.YtjhphibadndkcaaProg
namespace Go.Proofs.Try.V
open Go.Vi
set_option maxRecDepth 100000
abbrev zTc : Ty := .list false 26 (.list false 3 (.int .i64))
abbrev zTd : Type := List (Int × (Int × (Int × (List Int))))
abbrev zTb : Type := zTd × (Int × (List (List Int)))
abbrev zTe : Type := zTb × ((List (List Int)) × (List (List Int)))
abbrev zTf : Ty := .str (.pair (.int .i64) (.pair (.int .i64) (.pair (.int .i64) (.list false 3 (.int .i64)))))
abbrev zTa : Ty := .pair (.list false 38 zTf) (.pair (.int .i64) zTc)
abbrev zTg : Type := (Bool × Unit) × (Unit) × Unit
abbrev zTh : Ty := .list false 55 (.str (.pair (.int .i64) (.int .i64)))
abbrev zTi : Type := zTd × (Int × ((List Int) × (List Int)))
abbrev zTj : Type := (Int × Unit) × (Unit) × Unit
abbrev zTk : Type := zTb × (List Int) × (List Int) × Unit
abbrev zTl : Type := (List Int) × (List Bool) × Unit
abbrev zTm : Ty := .pair (.int .i64) (.pair (.list true 3 (.int .i64)) (.list true 3 (.int .i64)))
def tyT : List (Nat × Ty) := [(2, .int .i64), (3, .int .i64), (4, .bool), (5, .int .u8), (6, .int .u8), (7, .str (.pair (.int .i64) (.pair (.int .i64) (.pair .bool (.int .u8))))), (8, .str (.pair (.int .i64) (.pair (.int .i64) (.pair .bool (.int .u8))))), (12, .int .u64), (21, .int .i32), (22, .list false 38 zTf), (23, .list false 26 (.list false 3 (.int .i64))), (24, .str zTa), (25, .str zTa), (26, .list false 3 (.int .i64)), (27, .int .i64), (30, .fn2 (.list false 3 (.int .i64)) (.list false 3 (.int .i64)) .bool), (32, .fn (.str zTa) .bool), (36, .fn2 (.str zTa) (.int .i64) .bool), (37, .str (.pair (.int .i64) (.pair (.int .i64) (.pair (.int .i64) (.list false 3 (.int .i64)))))), (38, .str (.pair (.int .i64) (.pair (.int .i64) (.pair (.int .i64) (.list false 3 (.int .i64)))))), (40, .fn2 (.list false 3 (.int .i64)) (.int .i64) .bool), (41, .fn2 (.str zTa) (.list false 3 (.int .i64)) .bool), (42, .list false 55 (.str (.pair (.int .i64) (.int .i64)))), (46, .fn2 (.str zTa) zTh .bool), (47, .list false 4 .bool), (48, .fn (.str zTa) (.int .i64)), (50, .fn2 (.str zTa) (.list false 4 .bool) .bool), (53, .fn2 (.str zTa) zTc .bool), (54, .str (.pair (.int .i64) (.int .i64))), (55, .str (.pair (.int .i64) (.int .i64))), (58, .fn2 zTc zTc .bool), (62, .ptr (.str (.pair (.str zTa) (.pair zTc zTc)))), (65, .list false 4 .bool), (71, .fn (.int .i64) .bool), (75, .fn2 (.list false 4 .bool) .bool .bool), (77, .fn2 (.list false 4 .bool) (.int .i64) .bool), (79, .str (.pair (.str zTa) (.pair zTc zTc))), (80, .str (.pair (.str zTa) (.pair zTc zTc))), (87, .fn2 (.list false 3 (.int .i64)) (.fn (.int .i64) .bool) .bool), (90, .fn2 (.str zTa) (.list false 4 .bool) (.int .i64)), (91, .fn (.list false 3 (.int .i64)) .bool), (92, .fn2 zTc (.fn (.list false 3 (.int .i64)) .bool) .bool), (94, .fn2 (.list false 38 zTf) (.fn zTf .bool) .bool), (95, .fn zTf .bool), (96, .ptr (.str (.pair (.list false 38 zTf) (.pair (.int .i64) (.pair (.list false 3 (.int .i64)) (.list false 3 (.int .i64))))))), (97, .str (.pair (.list false 38 zTf) (.pair (.int .i64) (.pair (.list false 3 (.int .i64)) (.list false 3 (.int .i64)))))), (98, .str (.pair (.list false 38 zTf) (.pair (.int .i64) (.pair (.list false 3 (.int .i64)) (.list false 3 (.int .i64)))))), (102, .fn2 (.list false 4 .bool) .bool (.int .i64)), (103, .fn2 (.list false 3 (.int .i64)) (.fn (.int .i64) .bool) (.int .i64)), (104, .fn2 zTc (.fn (.list false 3 (.int .i64)) .bool) (.int .i64)), (105, .fn2 (.list false 3 (.int .i64)) (.int .i64) (.int .i64)), (107, .fn2 (.list false 38 zTf) (.fn zTf .bool) (.int .i64)), (108, .int .u64), (111, .int .u32), (114, .int .u64), (124, .int .u8), (125, .int .u8), (127, .ptr (.int .u8)), (128, .int .i32), (129, .int .i32)]
theorem tyT_ok : tysB Try.prog tyT = true := by kernel_rfl
theorem mixed : Try.prog.follows .mixedOrders = true := by kernel_rfl
-- function 54
noncomputable def F54 (_n : Nat) (n_0 : Int) (low_1 : Int) (high_2 : Int) : Option ((Bool × Unit) × (Unit)) :=
  cond (decide (n_0 ≥ low_1)) (some (((decide (n_0 ≤ high_2)), ()), ())) (some ((false, ()), ()))
noncomputable def g54 (d : Int × Int × Int × Unit) : Option ((Bool × Unit) × (Unit)) := F54 fuel d.1 d.2.1 d.2.2.1
noncomputable def p54 : Prim := ⟨[.v (.int .i64), .v (.int .i64), .v (.int .i64)], [.v .bool], g54⟩
noncomputable def c54 : Cfg := ⟨15, tyT, [], [], [], [], [], [], [], [], [], [], [], []⟩
theorem F54_eq (n : Nat) (d) : absFn c54 n Try.f54 (body Try.f54) [.v (.int .i64), .v (.int .i64), .v (.int .i64)] [.v .bool] d = F54 n d.1 d.2.1 d.2.2.1 := by kernel_rfl
theorem d54 : drawOK c54 (body Try.f54) = true := by kernel_rfl
theorem h54 : GoodF Try.prog 54 p54 := fn_done mixed (cfg := c54) (cfg_ok tyT_ok (goodNil) rfl (by kernel_rfl)) Try.func54 rfl rfl (by kernel_rfl) rfl (noLoops (by kernel_rfl)) d54 (fun d y h => ⟨fuel, (F54_eq fuel d).trans h⟩)
-- function 93
noncomputable def F93 (_n : Nat) (s_0 : (List Int)) : Option (((List Int) × Unit) × (Unit)) :=
  nilK s_0.length fun b1 => cond b1 (some ((([] : List Int), ()), ())) (lenK ((([] : List Int).length : Int) + s_0.length) (some (((([] : List Int) ++ s_0), ()), ())))
def g93 (d : (List Int) × Unit) : Option (((List Int) × Unit) × Unit) := lenK (d.1.length : Int) (some ((d.1, ()), ()))
noncomputable def p93 : Prim := ⟨[.v (.list false 3 (.int .i64))], [.own 3 (.int .i64)], g93⟩
noncomputable def c93 : Cfg := ⟨8, tyT, [], [], [], [], [], [], [], [], [], [], [], []⟩
theorem F93_eq (n : Nat) (d) : absFn c93 n Try.f93 (body Try.f93) [.v (.list false 3 (.int .i64))] [.own 3 (.int .i64)] d = F93 n d.1 := by kernel_rfl
theorem d93 : drawOK c93 (body Try.f93) = true := by kernel_rfl
theorem h93 : GoodF Try.prog 93 p93 := fn_done mixed (cfg := c93) (cfg_ok tyT_ok (goodNil) rfl (by kernel_rfl)) Try.func93 rfl rfl (by kernel_rfl) rfl (noLoops (by kernel_rfl)) d93 (fun d y h => ⟨fuel, (F93_eq fuel d).trans (by
  change g93 d = some y at h
  unfold g93 at h
  rw [lenK_eq] at h
  split at h
  · rename_i hl
    cases h
    unfold F93
    refine nilK_of (fun h0 => ?_) ?_
    · rw [List.eq_nil_of_length_eq_zero h0]; rfl
    · rw [cond_false, lenK_eq, if_pos (by simpa using hl)]; rfl
  · cases h)⟩)
-- function 94
def rev_ren : Go.Shelf.Ren := ⟨fun | 112 => 94 | n => n, fun | 28 => 26 | n => n, fun n => n⟩
theorem rev_lays : Go.Proofs.Lays.n112 Try.prog rev_ren := { mixed := by kernel_rfl, f112 := by kernel_rfl, t0 := by kernel_rfl, a0 := fun w => by kernel_rfl, z0 := fun w => by kernel_rfl, v0 := fun w => by kernel_rfl, t3 := by kernel_rfl, a3 := fun w => by kernel_rfl, z3 := fun w => by kernel_rfl, v3 := fun w => by kernel_rfl, t4 := by kernel_rfl, a4 := fun w => by kernel_rfl, z4 := fun w => by kernel_rfl, v4 := fun w => by kernel_rfl, t28 := by kernel_rfl, a28 := fun w => by kernel_rfl, z28 := fun w => by kernel_rfl, v28 := fun w => by kernel_rfl }
def g94 (d : (List Int) × Unit) : Option (Unit × (List Int) × Unit) := some ((), (d.1.reverse, ()))
def p94 : Prim := ⟨[.mr 3 (.int .i64)], [], g94⟩
theorem h94 : GoodF Try.prog 94 p94 := reverse_good rev_lays (callable_of Try.func94 rfl (by kernel_rfl)) 3
-- function 78
noncomputable def B78_10 (_n : Nat) (L : (Int × Int × (List Int) × (List (List Int)) × Int × Int × (List Int) × Int × Int × Unit) × (zTe × (List Int) × Unit) × Unit → Option ((((Option zTe) × Bool × Unit) × (Unit) × Unit) ⊕ ((Int × Int × (List (List Int)) × Int × Int × Unit) × (zTe × (List Int) × Unit) × Unit))) (n_6 : Int) (many_8 : Int) (van_11 : List Int) (t_31 : List (List Int)) (t_32 : Int) (t_33 : Int) (t_37 : List Int) (t_38 : Int) (t_39 : Int) (o_23 : zTb × ((List (List Int)) × (List (List Int)))) (o_30 : List Int) : Option ((((Option zTe) × Bool × Unit) × (Unit) × Unit) ⊕ ((Int × Int × (List (List Int)) × Int × Int × Unit) × (zTe × (List Int) × Unit) × Unit)) :=
  cond (decide (t_39 < t_38)) (getI t_37 t_39 fun e3 => derefK (g54 (e3, 0, (IntKind.wrap .i64 (n_6 - 1)), ())) fun y4 => cond (!y4.1.1) (some (.inl ((none, false, ()), (), ()))) (inR e3 o_30.length (getI o_30 e3 fun e5 => cond (decide (e5 > 0)) (some (.inl ((none, false, ()), (), ()))) (inR e3 o_30.length (getI o_30 e3 fun _ => leK 0 (IntKind.wrap .i64 (t_39 + 1)) (leK (IntKind.wrap .i64 (t_39 + 1)) (van_11.length : Int) (inR e3 o_23.2.1.length (getI o_23.2.1 e3 fun _ => bindV (o_23.1, ((o_23.2.1.set e3.toNat (van_11.drop (IntKind.wrap .i64 (t_39 + 1)).toNat)), o_23.2.2)) fun z8 => enumK (fun (y9 : ((List Int) × Unit) × (Unit)) => inR e3 (((z8.1, (z8.2.1, (z8.2.2.set e3.toNat y9.1.1))).2).2).length (getI (((z8.1, (z8.2.1, (z8.2.2.set e3.toNat y9.1.1))).2).2) e3 fun e11 => derefK (g94 (e11, ())) fun y12 => getI (((z8.1, (z8.2.1, (z8.2.2.set e3.toNat y9.1.1))).2).2) e3 fun _ => bindV ((z8.1, (z8.2.1, (z8.2.2.set e3.toNat y9.1.1))).1, (((z8.1, (z8.2.1, (z8.2.2.set e3.toNat y9.1.1))).2).1, ((((z8.1, (z8.2.1, (z8.2.2.set e3.toNat y9.1.1))).2).2).set e3.toNat y12.2.1))) fun z14 => L ((n_6, (IntKind.wrap .i64 (many_8 + 1)), van_11, t_31, t_32, t_33, t_37, t_38, (IntKind.wrap .i64 (t_39 + 1)), ()), (z14, (o_30.set e3.toNat 1), ()), ()))) fun E => leK 0 t_39 (leK t_39 (van_11.length : Int) (agreeK [agreeK [agreeK [derefK (g93 ((van_11.take t_39.toNat), ())) fun y9 => inR e3 z8.2.2.length (getI z8.2.2 e3 fun _ => E y9), derefK (g93 ((van_11.take t_39.toNat), ())) fun y15 => inR e3 z8.2.2.length (getI z8.2.2 e3 fun _ => E y15)], derefK (g93 ((van_11.take t_39.toNat), ())) fun y17 => inR e3 z8.2.2.length (getI z8.2.2 e3 fun _ => E y17)], derefK (g93 ((van_11.take t_39.toNat), ())) fun y19 => inR e3 z8.2.2.length (getI z8.2.2 e3 fun _ => E y19)])))))))))) (some (.inr ((n_6, many_8, t_31, t_32, t_33, ()), (o_23, o_30, ()), ())))
noncomputable def L78_10 : Nat → (Int × Int × (List Int) × (List (List Int)) × Int × Int × (List Int) × Int × Int × Unit) × (zTe × (List Int) × Unit) × Unit → Option ((((Option zTe) × Bool × Unit) × (Unit) × Unit) ⊕ ((Int × Int × (List (List Int)) × Int × Int × Unit) × (zTe × (List Int) × Unit) × Unit))
  | 0, _ => none
  | n + 1, d => B78_10 n (L78_10 n) d.1.1 d.1.2.1 d.1.2.2.1 d.1.2.2.2.1 d.1.2.2.2.2.1 d.1.2.2.2.2.2.1 d.1.2.2.2.2.2.2.1 d.1.2.2.2.2.2.2.2.1 d.1.2.2.2.2.2.2.2.2.1 d.2.1.1 d.2.1.2.1
noncomputable def l78_10 : LoopI := ⟨⟨[(6, .v (.int .i64)), (7, .c (.ptr 23 [])), (8, .v (.int .i64)), (9, .c (.view 30 [])), (11, .v (.list false 3 (.int .i64))), (31, .v zTc), (32, .v (.int .i64)), (33, .v (.int .i64)), (37, .v (.list false 3 (.int .i64))), (38, .v (.int .i64)), (39, .v (.int .i64))], [(23, false, .str (.pair (.str zTa) (.pair (.list true 26 (.list false 3 (.int .i64))) (.list true 26 (.list true 3 (.int .i64)))))), (30, true, .list true 3 (.int .i64))], none⟩, [(.ret, ⟨[(4, .v (.ptr (.str (.pair (.str zTa) (.pair zTc zTc))))), (5, .v .bool)], [], none⟩), (.exit 2, ⟨[(6, .v (.int .i64)), (7, .c (.ptr 23 [])), (8, .v (.int .i64)), (9, .c (.view 30 [])), (31, .v zTc), (32, .v (.int .i64)), (33, .v (.int .i64))], [(23, false, .str (.pair (.str zTa) (.pair (.list true 26 (.list false 3 (.int .i64))) (.list true 26 (.list true 3 (.int .i64)))))), (30, true, .list true 3 (.int .i64))], none⟩)], L78_10⟩
noncomputable def B78_7 (n : Nat) (L : (Int × Int × (List (List Int)) × Int × Int × Unit) × (zTe × (List Int) × Unit) × Unit → Option ((((Option zTe) × Bool × Unit) × (Unit) × Unit) ⊕ ((Int × Int × Unit) × (zTe × Unit) × Unit))) (n_6 : Int) (many_8 : Int) (t_31 : List (List Int)) (t_32 : Int) (t_33 : Int) (o_23 : zTb × ((List (List Int)) × (List (List Int)))) (o_30 : List Int) : Option ((((Option zTe) × Bool × Unit) × (Unit) × Unit) ⊕ ((Int × Int × Unit) × (zTe × Unit) × Unit)) :=
  cond (decide (t_33 < t_32)) (getI t_31 t_33 fun e2 => derefK (L78_10 n ((n_6, many_8, e2, t_31, t_32, t_33, e2, (e2.length : Int), 0, ()), (o_23, o_30, ()), ())) fun o21 => sumK o21 (fun d22 => some (.inl ((d22.1.1, d22.1.2.1, ()), (), ()))) (fun d23 => L ((d23.1.1, d23.1.2.1, d23.1.2.2.1, d23.1.2.2.2.1, (IntKind.wrap .i64 (d23.1.2.2.2.2.1 + 1)), ()), (d23.2.1.1, d23.2.1.2.1, ()), ()))) (some (.inr ((n_6, many_8, ()), (o_23, ()), ())))
noncomputable def L78_7 : Nat → (Int × Int × (List (List Int)) × Int × Int × Unit) × (zTe × (List Int) × Unit) × Unit → Option ((((Option zTe) × Bool × Unit) × (Unit) × Unit) ⊕ ((Int × Int × Unit) × (zTe × Unit) × Unit))
  | 0, _ => none
  | n + 1, d => B78_7 n (L78_7 n) d.1.1 d.1.2.1 d.1.2.2.1 d.1.2.2.2.1 d.1.2.2.2.2.1 d.2.1.1 d.2.1.2.1
noncomputable def l78_7 : LoopI := ⟨⟨[(6, .v (.int .i64)), (7, .c (.ptr 23 [])), (8, .v (.int .i64)), (9, .c (.view 30 [])), (31, .v zTc), (32, .v (.int .i64)), (33, .v (.int .i64))], [(23, false, .str (.pair (.str zTa) (.pair (.list true 26 (.list false 3 (.int .i64))) (.list true 26 (.list true 3 (.int .i64)))))), (30, true, .list true 3 (.int .i64))], none⟩, [(.ret, ⟨[(4, .v (.ptr (.str (.pair (.str zTa) (.pair zTc zTc))))), (5, .v .bool)], [], none⟩), (.exit 0, ⟨[(6, .v (.int .i64)), (7, .c (.ptr 23 [])), (8, .v (.int .i64))], [(23, false, .str (.pair (.str zTa) (.pair (.list true 26 (.list false 3 (.int .i64))) (.list true 26 (.list true 3 (.int .i64))))))], none⟩)], L78_7⟩
noncomputable def F78 (n : Nat) (k_0 : zTb) (vans_1 : (List (List Int))) : Option (((Option zTe) × Bool × Unit) × (Unit)) :=
  enumK (bindV ((((k_0, (List.replicate (k_0.1.length : Int).toNat ([] : List Int)), (List.replicate (k_0.1.length : Int).toNat ([] : List Int))).1).1, ((((k_0, (List.replicate (k_0.1.length : Int).toNat ([] : List Int)), (List.replicate (k_0.1.length : Int).toNat ([] : List Int))).1).2).1, vans_1)), (k_0, (List.replicate (k_0.1.length : Int).toNat ([] : List Int)), (List.replicate (k_0.1.length : Int).toNat ([] : List Int))).2) fun z1 => leK 0 (k_0.1.length : Int) (leK (k_0.1.length : Int) (k_0.1.length : Int) (lenK (k_0.1.length : Int) (derefK (L78_7 n (((k_0.1.length : Int), 0, vans_1, (vans_1.length : Int), 0, ()), (z1, (List.replicate (k_0.1.length : Int).toNat (0 : Int)), ()), ())) fun o24 => sumK o24 (fun d25 => some ((d25.1.1, d25.1.2.1, ()), ())) (fun d26 => some (((some d26.2.1.1), (d26.1.2.1 == d26.1.1), ()), ())))))) fun E => agreeK [agreeK [leK 0 (k_0.1.length : Int) (leK (k_0.1.length : Int) (k_0.1.length : Int) (lenK (k_0.1.length : Int) (leK 0 (k_0.1.length : Int) (leK (k_0.1.length : Int) (k_0.1.length : Int) (lenK (k_0.1.length : Int) (E)))))), leK 0 (k_0.1.length : Int) (leK (k_0.1.length : Int) (k_0.1.length : Int) (lenK (k_0.1.length : Int) (leK 0 (k_0.1.length : Int) (leK (k_0.1.length : Int) (k_0.1.length : Int) (lenK (k_0.1.length : Int) (E))))))], leK 0 (k_0.1.length : Int) (leK (k_0.1.length : Int) (k_0.1.length : Int) (lenK (k_0.1.length : Int) (agreeK [leK 0 (k_0.1.length : Int) (leK (k_0.1.length : Int) (k_0.1.length : Int) (lenK (k_0.1.length : Int) (E))), leK 0 (k_0.1.length : Int) (leK (k_0.1.length : Int) (k_0.1.length : Int) (lenK (k_0.1.length : Int) (E)))]))), leK 0 (k_0.1.length : Int) (leK (k_0.1.length : Int) (k_0.1.length : Int) (lenK (k_0.1.length : Int) (agreeK [leK 0 (k_0.1.length : Int) (leK (k_0.1.length : Int) (k_0.1.length : Int) (lenK (k_0.1.length : Int) (E))), leK 0 (k_0.1.length : Int) (leK (k_0.1.length : Int) (k_0.1.length : Int) (lenK (k_0.1.length : Int) (E)))])))]
noncomputable def g78 (d : zTb × (List (List Int)) × Unit) : Option (((Option zTe) × Bool × Unit) × (Unit)) := F78 fuel d.1 d.2.1
noncomputable def p78 : Prim := ⟨[.v (.str zTa), .v zTc], [.v (.ptr (.str (.pair (.str zTa) (.pair zTc zTc)))), .v .bool], g78⟩
noncomputable def c78 : Cfg := ⟨95, tyT, [(21, .list true 26 (.list true 3 (.int .i64))), (22, .str (.pair (.str zTa) (.pair (.list true 26 (.list false 3 (.int .i64))) (.list true 26 (.list true 3 (.int .i64))))))], [(54, p54), (93, p93), (94, p94)], [(10, l78_10), (7, l78_7)], [], [2, 17], [], [], [], [], [], [], []⟩
theorem F78_eq (n : Nat) (d) : absFn c78 n Try.f78 (body Try.f78) [.v (.str zTa), .v zTc] [.v (.ptr (.str (.pair (.str zTa) (.pair zTc zTc)))), .v .bool] d = F78 n d.1 d.2.1 := by kernel_rfl
theorem L78_7_eq (n : Nat) (d) : (l78_7).g (n + 1) d = run c78 n (nth 0 (loopsOf (body Try.f78))) ((l78_7).ins.fill d) (roundK (l78_7) n) := by kernel_rfl
theorem L78_10_eq (n : Nat) (d) : (l78_10).g (n + 1) d = run c78 n (nth 1 (loopsOf (body Try.f78))) ((l78_10).ins.fill d) (roundK (l78_10) n) := by kernel_rfl
theorem ls78 : loopsOf (body Try.f78) = [nth 0 (loopsOf (body Try.f78)), nth 1 (loopsOf (body Try.f78))] := by kernel_rfl
theorem d78 : drawOK c78 (body Try.f78) = true := by kernel_rfl
theorem h78 : GoodF Try.prog 78 p78 := fn_done mixed (cfg := c78) (cfg_ok tyT_ok (goodCons h54 (goodCons h93 (goodCons h94 goodNil))) rfl (by kernel_rfl)) Try.func78 rfl rfl (by kernel_rfl) rfl (by rw [ls78]; simp only [List.forall_mem_cons]; exact ⟨loopHas (key := 7) (li := l78_7) (by kernel_rfl) rfl (fun _ => rfl) (L78_7_eq), loopHas (key := 10) (li := l78_10) (by kernel_rfl) rfl (fun _ => rfl) (L78_10_eq), fun _ h => by cases h⟩) d78 (fun d y h => ⟨fuel, (F78_eq fuel d).trans h⟩)
-- function 48
noncomputable def B48_11 (_n : Nat) (L : (Int × Int × Int × zTd × Int × Int × (List Int) × Int × Int × Unit) × (zTb × Unit) × Unit → Option ((((Option zTe) × Bool × Unit) × (Unit) × Unit) ⊕ ((Int × zTd × Int × Int × Unit) × (zTb × Unit) × Unit))) (n_4 : Int) (i_5 : Int) (last_7 : Int) (t_28 : List (Int × (Int × (Int × (List Int))))) (t_29 : Int) (t_30 : Int) (t_52 : List Int) (t_53 : Int) (t_54 : Int) (o_1 : zTd × (Int × (List (List Int)))) : Option ((((Option zTe) × Bool × Unit) × (Unit) × Unit) ⊕ ((Int × zTd × Int × Int × Unit) × (zTb × Unit) × Unit)) :=
  cond (decide (t_54 < t_53)) (getI t_52 t_54 fun e6 => cond (decide (e6 ≤ last_7)) (some (.inl ((none, false, ()), (), ()))) (cond (decide (e6 ≥ n_4)) (some (.inl ((none, false, ()), (), ()))) (cond (e6 == i_5) (some (.inl ((none, false, ()), (), ()))) (L ((n_4, i_5, e6, t_28, t_29, t_30, t_52, t_53, (IntKind.wrap .i64 (t_54 + 1)), ()), (o_1, ()), ()))))) (some (.inr ((n_4, t_28, t_29, t_30, ()), (o_1, ()), ())))
noncomputable def L48_11 : Nat → (Int × Int × Int × zTd × Int × Int × (List Int) × Int × Int × Unit) × (zTb × Unit) × Unit → Option ((((Option zTe) × Bool × Unit) × (Unit) × Unit) ⊕ ((Int × zTd × Int × Int × Unit) × (zTb × Unit) × Unit))
  | 0, _ => none
  | n + 1, d => B48_11 n (L48_11 n) d.1.1 d.1.2.1 d.1.2.2.1 d.1.2.2.2.1 d.1.2.2.2.2.1 d.1.2.2.2.2.2.1 d.1.2.2.2.2.2.2.1 d.1.2.2.2.2.2.2.2.1 d.1.2.2.2.2.2.2.2.2.1 d.2.1.1
noncomputable def l48_11 : LoopI := ⟨⟨[(1, .c (.ptr 1 [])), (4, .v (.int .i64)), (5, .v (.int .i64)), (7, .v (.int .i64)), (28, .v (.list false 38 zTf)), (29, .v (.int .i64)), (30, .v (.int .i64)), (52, .v (.list false 3 (.int .i64))), (53, .v (.int .i64)), (54, .v (.int .i64))], [(1, false, .str zTa)], none⟩, [(.ret, ⟨[(2, .v (.ptr (.str (.pair (.str zTa) (.pair zTc zTc))))), (3, .v .bool)], [], none⟩), (.exit 2, ⟨[(1, .c (.ptr 1 [])), (4, .v (.int .i64)), (28, .v (.list false 38 zTf)), (29, .v (.int .i64)), (30, .v (.int .i64))], [(1, false, .str zTa)], none⟩)], L48_11⟩
noncomputable def B48_5 (n : Nat) (L : (Int × zTd × Int × Int × Unit) × (zTb × Unit) × Unit → Option ((((Option zTe) × Bool × Unit) × (Unit) × Unit) ⊕ ((Unit) × (zTb × Unit) × Unit))) (n_4 : Int) (t_28 : List (Int × (Int × (Int × (List Int))))) (t_29 : Int) (t_30 : Int) (o_1 : zTd × (Int × (List (List Int)))) : Option ((((Option zTe) × Bool × Unit) × (Unit) × Unit) ⊕ ((Unit) × (zTb × Unit) × Unit)) :=
  cond (decide (t_30 < t_29)) (getI t_28 t_30 fun e2 => derefK (g54 (e2.1, 1, 1000000, ())) fun y3 => cond (!y3.1.1) (some (.inl ((none, false, ()), (), ()))) (derefK (g54 (e2.2.1, 1, 100, ())) fun y4 => cond (!y4.1.1) (some (.inl ((none, false, ()), (), ()))) (derefK (g54 (e2.2.2.1, 0, 9, ())) fun y5 => cond (!y5.1.1) (some (.inl ((none, false, ()), (), ()))) (derefK (L48_11 n ((n_4, t_30, (-1), t_28, t_29, t_30, e2.2.2.2, (e2.2.2.2.length : Int), 0, ()), (o_1, ()), ())) fun o7 => sumK o7 (fun d8 => some (.inl ((d8.1.1, d8.1.2.1, ()), (), ()))) (fun d9 => L ((d9.1.1, d9.1.2.1, d9.1.2.2.1, (IntKind.wrap .i64 (d9.1.2.2.2.1 + 1)), ()), (d9.2.1.1, ()), ())))))) (some (.inr ((), (o_1, ()), ())))
noncomputable def L48_5 : Nat → (Int × zTd × Int × Int × Unit) × (zTb × Unit) × Unit → Option ((((Option zTe) × Bool × Unit) × (Unit) × Unit) ⊕ ((Unit) × (zTb × Unit) × Unit))
  | 0, _ => none
  | n + 1, d => B48_5 n (L48_5 n) d.1.1 d.1.2.1 d.1.2.2.1 d.1.2.2.2.1 d.2.1.1
noncomputable def l48_5 : LoopI := ⟨⟨[(1, .c (.ptr 1 [])), (4, .v (.int .i64)), (28, .v (.list false 38 zTf)), (29, .v (.int .i64)), (30, .v (.int .i64))], [(1, false, .str zTa)], none⟩, [(.ret, ⟨[(2, .v (.ptr (.str (.pair (.str zTa) (.pair zTc zTc))))), (3, .v .bool)], [], none⟩), (.exit 0, ⟨[(1, .c (.ptr 1 []))], [(1, false, .str zTa)], none⟩)], L48_5⟩
noncomputable def F48 (n : Nat) (k_0 : zTb) : Option (((Option zTe) × Bool × Unit) × (Unit)) :=
  cond (decide ((k_0.1.length : Int) > 16)) (some ((none, false, ()), ())) (cond (decide ((k_0.2.2.length : Int) > 6)) (some ((none, false, ()), ())) (derefK (g54 (k_0.2.1, 1, 1000000, ())) fun y1 => cond (!y1.1.1) (some ((none, false, ()), ())) (derefK (L48_5 n (((k_0.1.length : Int), k_0.1, (k_0.1.length : Int), 0, ()), (k_0, ()), ())) fun o10 => sumK o10 (fun d11 => some ((d11.1.1, d11.1.2.1, ()), ())) (fun d12 => derefK (g78 (d12.2.1.1, d12.2.1.1.2.2, ())) fun y13 => some ((y13.1.1, y13.1.2.1, ()), ())))))
noncomputable def g48 (d : zTb × Unit) : Option (((Option zTe) × Bool × Unit) × (Unit)) := F48 fuel d.1
noncomputable def p48 : Prim := ⟨[.v (.str zTa)], [.v (.ptr (.str (.pair (.str zTa) (.pair zTc zTc)))), .v .bool], g48⟩
noncomputable def c48 : Cfg := ⟨80, tyT, [], [(54, p54), (78, p78)], [(11, l48_11), (5, l48_5)], [], [], [], [], [], [], [], [], []⟩
theorem F48_eq (n : Nat) (d) : absFn c48 n Try.f48 (body Try.f48) [.v (.str zTa)] [.v (.ptr (.str (.pair (.str zTa) (.pair zTc zTc)))), .v .bool] d = F48 n d.1 := by kernel_rfl
theorem L48_5_eq (n : Nat) (d) : (l48_5).g (n + 1) d = run c48 n (nth 0 (loopsOf (body Try.f48))) ((l48_5).ins.fill d) (roundK (l48_5) n) := by kernel_rfl
theorem L48_11_eq (n : Nat) (d) : (l48_11).g (n + 1) d = run c48 n (nth 1 (loopsOf (body Try.f48))) ((l48_11).ins.fill d) (roundK (l48_11) n) := by kernel_rfl
theorem ls48 : loopsOf (body Try.f48) = [nth 0 (loopsOf (body Try.f48)), nth 1 (loopsOf (body Try.f48))] := by kernel_rfl
theorem d48 : drawOK c48 (body Try.f48) = true := by kernel_rfl
theorem h48 : GoodF Try.prog 48 p48 := fn_done mixed (cfg := c48) (cfg_ok tyT_ok (goodCons h54 (goodCons h78 goodNil)) rfl (by kernel_rfl)) Try.func48 rfl rfl (by kernel_rfl) rfl (by rw [ls48]; simp only [List.forall_mem_cons]; exact ⟨loopHas (key := 5) (li := l48_5) (by kernel_rfl) rfl (fun _ => rfl) (L48_5_eq), loopHas (key := 11) (li := l48_11) (by kernel_rfl) rfl (fun _ => rfl) (L48_11_eq), fun _ h => by cases h⟩) d48 (fun d y h => ⟨fuel, (F48_eq fuel d).trans h⟩)
-- function 89
noncomputable def B89_2 (_n : Nat) (L : ((List Int) × (Int → Option Bool) × Int × Int × Unit) × (Unit) × Unit → Option (zTj ⊕ ((Unit) × (Unit) × Unit))) (s_0 : List Int) (f_1 : Int → Option Bool) (t_7 : Int) (t_8 : Int) : Option (zTj ⊕ ((Unit) × (Unit) × Unit)) :=
  cond (decide (t_8 < t_7)) (getI s_0 t_8 fun e1 => derefK (f_1 e1) fun y2 => cond y2 (some (.inl ((t_8, ()), (), ()))) (L ((s_0, f_1, t_7, (IntKind.wrap .i64 (t_8 + 1)), ()), (), ()))) (some (.inr ((), (), ())))
noncomputable def L89_2 : Nat → ((List Int) × (Int → Option Bool) × Int × Int × Unit) × (Unit) × Unit → Option (zTj ⊕ ((Unit) × (Unit) × Unit))
  | 0, _ => none
  | n + 1, d => B89_2 n (L89_2 n) d.1.1 d.1.2.1 d.1.2.2.1 d.1.2.2.2.1
noncomputable def l89_2 : LoopI := ⟨⟨[(0, .v (.list false 3 (.int .i64))), (1, .v (.fn (.int .i64) .bool)), (7, .v (.int .i64)), (8, .v (.int .i64))], [], none⟩, [(.ret, ⟨[(4, .v (.int .i64))], [], none⟩), (.exit 0, ⟨[], [], none⟩)], L89_2⟩
noncomputable def F89 (n : Nat) (s_0 : (List Int)) (f_1 : (Int → Option Bool)) : Option ((Int × Unit) × (Unit)) :=
  derefK (L89_2 n ((s_0, f_1, (s_0.length : Int), 0, ()), (), ())) fun o3 => sumK o3 (fun d4 => some ((d4.1.1, ()), ())) (fun _ => some (((-1), ()), ()))
noncomputable def g89 (d : (List Int) × (Int → Option Bool) × Unit) : Option ((Int × Unit) × (Unit)) := F89 fuel d.1 d.2.1
noncomputable def p89 : Prim := ⟨[.v (.list false 3 (.int .i64)), .v (.fn (.int .i64) .bool)], [.v (.int .i64)], g89⟩
noncomputable def c89 : Cfg := ⟨19, tyT, [], [], [(2, l89_2)], [], [], [], [], [], [], [], [], []⟩
theorem F89_eq (n : Nat) (d) : absFn c89 n Try.f89 (body Try.f89) [.v (.list false 3 (.int .i64)), .v (.fn (.int .i64) .bool)] [.v (.int .i64)] d = F89 n d.1 d.2.1 := by kernel_rfl
theorem L89_2_eq (n : Nat) (d) : (l89_2).g (n + 1) d = run c89 n (nth 0 (loopsOf (body Try.f89))) ((l89_2).ins.fill d) (roundK (l89_2) n) := by kernel_rfl
theorem ls89 : loopsOf (body Try.f89) = [nth 0 (loopsOf (body Try.f89))] := by kernel_rfl
theorem d89 : drawOK c89 (body Try.f89) = true := by kernel_rfl
theorem h89 : GoodF Try.prog 89 p89 := fn_done mixed (cfg := c89) (cfg_ok tyT_ok (goodNil) rfl (by kernel_rfl)) Try.func89 rfl rfl (by kernel_rfl) rfl (by rw [ls89]; simp only [List.forall_mem_cons]; exact ⟨loopHas (key := 2) (li := l89_2) (by kernel_rfl) rfl (fun _ => rfl) (L89_2_eq), fun _ h => by cases h⟩) d89 (fun d y h => ⟨fuel, (F89_eq fuel d).trans h⟩)
-- function 63
noncomputable def F63 (_n : Nat) (s_0 : (List Int)) (f_1 : (Int → Option Bool)) : Option ((Bool × Unit) × (Unit)) :=
  derefK (g89 (s_0, f_1, ())) fun y1 => some (((decide (y1.1.1 ≥ 0)), ()), ())
noncomputable def g63 (d : (List Int) × (Int → Option Bool) × Unit) : Option ((Bool × Unit) × (Unit)) := F63 fuel d.1 d.2.1
noncomputable def p63 : Prim := ⟨[.v (.list false 3 (.int .i64)), .v (.fn (.int .i64) .bool)], [.v .bool], g63⟩
noncomputable def c63 : Cfg := ⟨9, tyT, [], [(89, p89)], [], [], [], [], [], [], [], [], [], []⟩
theorem F63_eq (n : Nat) (d) : absFn c63 n Try.f63 (body Try.f63) [.v (.list false 3 (.int .i64)), .v (.fn (.int .i64) .bool)] [.v .bool] d = F63 n d.1 d.2.1 := by kernel_rfl
theorem d63 : drawOK c63 (body Try.f63) = true := by kernel_rfl
theorem h63 : GoodF Try.prog 63 p63 := fn_done mixed (cfg := c63) (cfg_ok tyT_ok (goodCons h89 goodNil) rfl (by kernel_rfl)) Try.func63 rfl rfl (by kernel_rfl) rfl (noLoops (by kernel_rfl)) d63 (fun d y h => ⟨fuel, (F63_eq fuel d).trans h⟩)
-- function 90
noncomputable def F90 (_n : Nat) (p_0 : Int) (t_1 : (List Bool)) : Option ((Bool × Unit) × (Unit)) :=
  getI t_1 p_0 fun e1 => some (((!e1), ()), ())
noncomputable def g90 (d : Int × (List Bool) × Unit) : Option ((Bool × Unit) × (Unit)) := F90 fuel d.1 d.2.1
noncomputable def p90 : Prim := ⟨[.v (.int .i64), .r (.list false 4 .bool)], [.v .bool], g90⟩
noncomputable def c90 : Cfg := ⟨9, tyT, [], [], [], [], [], [], [], [], [], [], [], []⟩
theorem F90_eq (n : Nat) (d) : absFn c90 n Try.f90 (body Try.f90) [.v (.int .i64), .r (.list false 4 .bool)] [.v .bool] d = F90 n d.1 d.2.1 := by kernel_rfl
theorem d90 : drawOK c90 (body Try.f90) = true := by kernel_rfl
theorem h90 : GoodF Try.prog 90 p90 := fn_done mixed (cfg := c90) (cfg_ok tyT_ok (goodNil) rfl (by kernel_rfl)) Try.func90 rfl rfl (by kernel_rfl) rfl (noLoops (by kernel_rfl)) d90 (fun d y h => ⟨fuel, (F90_eq fuel d).trans h⟩)
-- function 69
noncomputable def F69 (_n : Nat) (s_0 : (List Bool)) (l_1 : (List Int)) : Option ((Bool × Unit) × (Unit)) :=
  derefK (g63 (l_1, (fun v1 => derefK (g90 (v1, s_0, ())) fun y2 => some y2.1.1), ())) fun y3 => some (((!y3.1.1), ()), ())
noncomputable def g69 (d : (List Bool) × (List Int) × Unit) : Option ((Bool × Unit) × (Unit)) := F69 fuel d.1 d.2.1
noncomputable def p69 : Prim := ⟨[.v (.list false 4 .bool), .v (.list false 3 (.int .i64))], [.v .bool], g69⟩
noncomputable def c69 : Cfg := ⟨9, tyT, [], [(63, p63), (90, p90)], [], [], [], [], [], [], [], [], [], []⟩
theorem F69_eq (n : Nat) (d) : absFn c69 n Try.f69 (body Try.f69) [.v (.list false 4 .bool), .v (.list false 3 (.int .i64))] [.v .bool] d = F69 n d.1 d.2.1 := by kernel_rfl
theorem d69 : drawOK c69 (body Try.f69) = true := by kernel_rfl
theorem h69 : GoodF Try.prog 69 p69 := fn_done mixed (cfg := c69) (cfg_ok tyT_ok (goodCons h63 (goodCons h90 goodNil)) rfl (by kernel_rfl)) Try.func69 rfl rfl (by kernel_rfl) rfl (noLoops (by kernel_rfl)) d69 (fun d y h => ⟨fuel, (F69_eq fuel d).trans h⟩)
-- function 56
noncomputable def F56 (_n : Nat) (y_0 : zTe) (s_1 : (List Bool)) (p_2 : Int) : Option ((Bool × Unit) × (Unit)) :=
  getI s_1 p_2 fun e1 => cond (!e1) (getI y_0.1.1 p_2 fun e2 => derefK (g69 (s_1, e2.2.2.2, ())) fun y3 => cond y3.1.1 (getI y_0.1.1 p_2 fun e4 => cond (decide (e4.1 ≤ y_0.1.2.1)) (getI y_0.2.1 p_2 fun e5 => derefK (g69 (s_1, e5, ())) fun y6 => some ((y6.1.1, ()), ())) (some ((false, ()), ()))) (some ((false, ()), ()))) (some ((false, ()), ()))
noncomputable def g56 (d : zTe × (List Bool) × Int × Unit) : Option ((Bool × Unit) × (Unit)) := F56 fuel d.1 d.2.1 d.2.2.1
noncomputable def p56 : Prim := ⟨[.r (.str (.pair (.str zTa) (.pair zTc zTc))), .v (.list false 4 .bool), .v (.int .i64)], [.v .bool], g56⟩
noncomputable def c56 : Cfg := ⟨53, tyT, [], [(69, p69)], [], [], [], [], [], [], [], [], [], []⟩
theorem F56_eq (n : Nat) (d) : absFn c56 n Try.f56 (body Try.f56) [.r (.str (.pair (.str zTa) (.pair zTc zTc))), .v (.list false 4 .bool), .v (.int .i64)] [.v .bool] d = F56 n d.1 d.2.1 d.2.2.1 := by kernel_rfl
theorem d56 : drawOK c56 (body Try.f56) = true := by kernel_rfl
theorem h56 : GoodF Try.prog 56 p56 := fn_done mixed (cfg := c56) (cfg_ok tyT_ok (goodCons h69 goodNil) rfl (by kernel_rfl)) Try.func56 rfl rfl (by kernel_rfl) rfl (noLoops (by kernel_rfl)) d56 (fun d y h => ⟨fuel, (F56_eq fuel d).trans h⟩)
-- function 49
noncomputable def B49_3 (_n : Nat) (L : (zTe × Int × Unit) × zTl × Unit → Option (((Unit) × zTl × Unit))) (y_0 : zTb × ((List (List Int)) × (List (List Int)))) (p_4 : Int) (o_2 : List Int) (o_11 : List Bool) : Option (((Unit) × zTl × Unit)) :=
  cond (decide (p_4 < (o_11.length : Int))) (derefK (g56 (y_0, o_11, p_4, ())) fun y1 => cond y1.1.1 (inR p_4 o_11.length (getI o_11 p_4 fun _ => lenK ((o_2.length : Int) + [p_4].length) (L ((y_0, (IntKind.wrap .i64 ((-1) + 1)), ()), ((o_2 ++ [p_4]), (o_11.set p_4.toNat true), ()), ())))) (L ((y_0, (IntKind.wrap .i64 (p_4 + 1)), ()), (o_2, o_11, ()), ()))) (some ((), (o_2, o_11, ()), ()))
noncomputable def L49_3 : Nat → (zTe × Int × Unit) × zTl × Unit → Option (((Unit) × zTl × Unit))
  | 0, _ => none
  | n + 1, d => B49_3 n (L49_3 n) d.1.1 d.1.2.1 d.2.1.1 d.2.1.2.1
noncomputable def l49_3 : LoopI := ⟨⟨[(0, .r (.str (.pair (.str zTa) (.pair zTc zTc)))), (2, .c (.view 2 [])), (3, .c (.view 11 [])), (4, .v (.int .i64))], [(2, true, .list true 3 (.int .i64)), (11, true, .list true 4 .bool)], none⟩, [(.exit 0, ⟨[(2, .c (.view 2 [])), (3, .c (.view 11 []))], [(2, true, .list true 3 (.int .i64)), (11, true, .list true 4 .bool)], none⟩)], L49_3⟩
noncomputable def F49 (n : Nat) (y_0 : zTe) : Option (zTl × (Unit)) :=
  leK 0 (y_0.1.1.length : Int) (leK (y_0.1.1.length : Int) (y_0.1.1.length : Int) (lenK (y_0.1.1.length : Int) (derefK (L49_3 n ((y_0, 0, ()), (([] : List Int), (List.replicate (y_0.1.1.length : Int).toNat false), ()), ())) fun o3 => some ((o3.2.1.1, o3.2.1.2.1, ()), ()))))
noncomputable def g49 (d : zTe × Unit) : Option (zTl × (Unit)) := F49 fuel d.1
noncomputable def p49 : Prim := ⟨[.r (.str (.pair (.str zTa) (.pair zTc zTc)))], [.own 3 (.int .i64), .own 4 .bool], g49⟩
noncomputable def c49 : Cfg := ⟨31, tyT, [], [(56, p56)], [(3, l49_3)], [], [], [], [], [], [], [], [], []⟩
theorem F49_eq (n : Nat) (d) : absFn c49 n Try.f49 (body Try.f49) [.r (.str (.pair (.str zTa) (.pair zTc zTc)))] [.own 3 (.int .i64), .own 4 .bool] d = F49 n d.1 := by kernel_rfl
theorem L49_3_eq (n : Nat) (d) : (l49_3).g (n + 1) d = run c49 n (nth 0 (loopsOf (body Try.f49))) ((l49_3).ins.fill d) (roundK (l49_3) n) := by kernel_rfl
theorem ls49 : loopsOf (body Try.f49) = [nth 0 (loopsOf (body Try.f49))] := by kernel_rfl
theorem d49 : drawOK c49 (body Try.f49) = true := by kernel_rfl
theorem h49 : GoodF Try.prog 49 p49 := fn_done mixed (cfg := c49) (cfg_ok tyT_ok (goodCons h56 goodNil) rfl (by kernel_rfl)) Try.func49 rfl rfl (by kernel_rfl) rfl (by rw [ls49]; simp only [List.forall_mem_cons]; exact ⟨loopHas (key := 3) (li := l49_3) (by kernel_rfl) rfl (fun _ => rfl) (L49_3_eq), fun _ h => by cases h⟩) d49 (fun d y h => ⟨fuel, (F49_eq fuel d).trans h⟩)
-- function 16
noncomputable def F16 (_n : Nat) (k_0 : zTb) : Option (((List Int) × Int × Unit) × (Unit)) :=
  derefK (g48 (k_0, ())) fun y1 => cond (!y1.1.2.1) (some ((([] : List Int), 80, ()), ())) (derefK y1.1.1 fun q2 => derefK (g49 (q2, ())) fun y3 => cond (decide ((y3.1.1.length : Int) < (k_0.1.length : Int))) (some ((([] : List Int), 3, ()), ())) (some ((y3.1.1, 0, ()), ())))
noncomputable def g16 (d : zTb × Unit) : Option (((List Int) × Int × Unit) × (Unit)) := F16 fuel d.1
noncomputable def p16 : Prim := ⟨[.v (.str zTa)], [.own 3 (.int .i64), .v (.int .i64)], g16⟩
noncomputable def c16 : Cfg := ⟨27, tyT, [], [(48, p48), (49, p49)], [], [], [], [], [], [], [], [], [], []⟩
theorem F16_eq (n : Nat) (d) : absFn c16 n Try.f16 (body Try.f16) [.v (.str zTa)] [.own 3 (.int .i64), .v (.int .i64)] d = F16 n d.1 := by kernel_rfl
theorem d16 : drawOK c16 (body Try.f16) = true := by kernel_rfl
theorem h16 : GoodF Try.prog 16 p16 := fn_done mixed (cfg := c16) (cfg_ok tyT_ok (goodCons h48 (goodCons h49 goodNil)) rfl (by kernel_rfl)) Try.func16 rfl rfl (by kernel_rfl) rfl (noLoops (by kernel_rfl)) d16 (fun d y h => ⟨fuel, (F16_eq fuel d).trans h⟩)
-- function 57
noncomputable def F57 (_n : Nat) (n_0 : Int) (low_1 : Int) (high_2 : Int) : Option ((Bool × Unit) × (Unit)) :=
  cond (decide (n_0 ≥ low_1)) (some (((decide (n_0 ≤ high_2)), ()), ())) (some ((false, ()), ()))
noncomputable def g57 (d : Int × Int × Int × Unit) : Option ((Bool × Unit) × (Unit)) := F57 fuel d.1 d.2.1 d.2.2.1
noncomputable def p57 : Prim := ⟨[.v (.int .i64), .v (.int .i64), .v (.int .i64)], [.v .bool], g57⟩
noncomputable def c57 : Cfg := ⟨15, tyT, [], [], [], [], [], [], [], [], [], [], [], []⟩
theorem F57_eq (n : Nat) (d) : absFn c57 n Try.f57 (body Try.f57) [.v (.int .i64), .v (.int .i64), .v (.int .i64)] [.v .bool] d = F57 n d.1 d.2.1 d.2.2.1 := by kernel_rfl
theorem d57 : drawOK c57 (body Try.f57) = true := by kernel_rfl
theorem h57 : GoodF Try.prog 57 p57 := fn_done mixed (cfg := c57) (cfg_ok tyT_ok (goodNil) rfl (by kernel_rfl)) Try.func57 rfl rfl (by kernel_rfl) rfl (noLoops (by kernel_rfl)) d57 (fun d y h => ⟨fuel, (F57_eq fuel d).trans h⟩)
-- function 33
noncomputable def B33_10 (_n : Nat) (L : (Int × Int × Unit) × (zTb × (Int × (Int × (Int × (List Int)))) × Unit) × Unit → Option (zTj ⊕ ((Int × Unit) × (zTb × Unit) × Unit))) (i_3 : Int) (n_5 : Int) (o_1 : zTd × (Int × (List (List Int)))) (o_4 : Int × (Int × (Int × (List Int)))) : Option (zTj ⊕ ((Int × Unit) × (zTb × Unit) × Unit)) :=
  cond (decide (n_5 < (o_4.2.2.2.length : Int))) (getI o_4.2.2.2 n_5 fun e6 => derefK (g57 (e6, 0, (IntKind.wrap .i64 ((o_1.1.length : Int) - 1)), ())) fun y7 => cond (!y7.1.1) (some (.inl ((80, ()), (), ()))) (getI o_4.2.2.2 n_5 fun e8 => cond (e8 == i_3) (some (.inl ((80, ()), (), ()))) (cond (decide (n_5 > 0)) (getI o_4.2.2.2 n_5 fun e9 => getI o_4.2.2.2 (IntKind.wrap .i64 (n_5 - 1)) fun e10 => cond (decide (e9 ≤ e10)) (some (.inl ((80, ()), (), ()))) (L ((i_3, (IntKind.wrap .i64 (n_5 + 1)), ()), (o_1, o_4, ()), ()))) (L ((i_3, (IntKind.wrap .i64 (n_5 + 1)), ()), (o_1, o_4, ()), ()))))) (some (.inr ((i_3, ()), (o_1, ()), ())))
noncomputable def L33_10 : Nat → (Int × Int × Unit) × (zTb × (Int × (Int × (Int × (List Int)))) × Unit) × Unit → Option (zTj ⊕ ((Int × Unit) × (zTb × Unit) × Unit))
  | 0, _ => none
  | n + 1, d => B33_10 n (L33_10 n) d.1.1 d.1.2.1 d.2.1.1 d.2.1.2.1
noncomputable def l33_10 : LoopI := ⟨⟨[(1, .c (.ptr 1 [])), (3, .v (.int .i64)), (4, .c (.ptr 4 [])), (5, .v (.int .i64))], [(1, false, .str zTa), (4, false, .str (.pair (.int .i64) (.pair (.int .i64) (.pair (.int .i64) (.list false 3 (.int .i64))))))], none⟩, [(.ret, ⟨[(2, .v (.int .i64))], [], none⟩), (.exit 2, ⟨[(1, .c (.ptr 1 [])), (3, .v (.int .i64))], [(1, false, .str zTa)], none⟩)], L33_10⟩
noncomputable def B33_4 (n : Nat) (L : (Int × Unit) × (zTb × Unit) × Unit → Option (zTj ⊕ ((Unit) × (zTb × Unit) × Unit))) (i_3 : Int) (o_1 : zTd × (Int × (List (List Int)))) : Option (zTj ⊕ ((Unit) × (zTb × Unit) × Unit)) :=
  cond (decide (i_3 < (o_1.1.length : Int))) (getI o_1.1 i_3 fun e2 => derefK (g57 (e2.1, 1, 1000000, ())) fun y3 => cond (!y3.1.1) (some (.inl ((80, ()), (), ()))) (derefK (g57 (e2.2.1, 1, 100, ())) fun y4 => cond (!y4.1.1) (some (.inl ((80, ()), (), ()))) (derefK (g57 (e2.2.2.1, 0, 9, ())) fun y5 => cond (!y5.1.1) (some (.inl ((80, ()), (), ()))) (derefK (L33_10 n ((i_3, 0, ()), (o_1, e2, ()), ())) fun o11 => sumK o11 (fun d12 => some (.inl ((d12.1.1, ()), (), ()))) (fun d13 => L (((IntKind.wrap .i64 (d13.1.1 + 1)), ()), (d13.2.1.1, ()), ())))))) (some (.inr ((), (o_1, ()), ())))
noncomputable def L33_4 : Nat → (Int × Unit) × (zTb × Unit) × Unit → Option (zTj ⊕ ((Unit) × (zTb × Unit) × Unit))
  | 0, _ => none
  | n + 1, d => B33_4 n (L33_4 n) d.1.1 d.2.1.1
noncomputable def l33_4 : LoopI := ⟨⟨[(1, .c (.ptr 1 [])), (3, .v (.int .i64))], [(1, false, .str zTa)], none⟩, [(.ret, ⟨[(2, .v (.int .i64))], [], none⟩), (.exit 0, ⟨[(1, .c (.ptr 1 []))], [(1, false, .str zTa)], none⟩)], L33_4⟩
noncomputable def B33_19 (_n : Nat) (L : (Int × Int × Unit) × (zTb × (List Int) × Unit) × Unit → Option (zTj ⊕ ((Int × Unit) × (zTb × (List Int) × Unit) × Unit))) (v_7 : Int) (i_8 : Int) (o_1 : zTd × (Int × (List (List Int)))) (o_102 : List Int) : Option (zTj ⊕ ((Int × Unit) × (zTb × (List Int) × Unit) × Unit)) :=
  getI o_1.2.2 v_7 fun e17 => cond (decide (i_8 < (e17.length : Int))) (getI o_1.2.2 v_7 fun e18 => getI e18 i_8 fun e19 => derefK (g57 (e19, 0, (IntKind.wrap .i64 ((o_1.1.length : Int) - 1)), ())) fun y20 => cond (!y20.1.1) (some (.inl ((80, ()), (), ()))) (getI o_1.2.2 v_7 fun e21 => getI e21 i_8 fun e22 => inR e22 o_102.length (getI o_102 e22 fun e23 => inR e22 o_102.length (getI o_102 e22 fun _ => L ((v_7, (IntKind.wrap .i64 (i_8 + 1)), ()), (o_1, (o_102.set e22.toNat (IntKind.wrap .i64 (e23 + 1))), ()), ()))))) (some (.inr ((v_7, ()), (o_1, o_102, ()), ())))
noncomputable def L33_19 : Nat → (Int × Int × Unit) × (zTb × (List Int) × Unit) × Unit → Option (zTj ⊕ ((Int × Unit) × (zTb × (List Int) × Unit) × Unit))
  | 0, _ => none
  | n + 1, d => B33_19 n (L33_19 n) d.1.1 d.1.2.1 d.2.1.1 d.2.1.2.1
noncomputable def l33_19 : LoopI := ⟨⟨[(1, .c (.ptr 1 [])), (6, .c (.view 102 [])), (7, .v (.int .i64)), (8, .v (.int .i64))], [(1, false, .str zTa), (102, true, .list true 3 (.int .i64))], none⟩, [(.ret, ⟨[(2, .v (.int .i64))], [], none⟩), (.exit 6, ⟨[(1, .c (.ptr 1 [])), (6, .c (.view 102 [])), (7, .v (.int .i64))], [(1, false, .str zTa), (102, true, .list true 3 (.int .i64))], none⟩)], L33_19⟩
noncomputable def B33_16 (n : Nat) (L : (Int × Unit) × (zTb × (List Int) × Unit) × Unit → Option (zTj ⊕ ((Unit) × ((List Int) × Unit) × Unit))) (v_7 : Int) (o_1 : zTd × (Int × (List (List Int)))) (o_102 : List Int) : Option (zTj ⊕ ((Unit) × ((List Int) × Unit) × Unit)) :=
  cond (decide (v_7 < (o_1.2.2.length : Int))) (derefK (L33_19 n ((v_7, 0, ()), (o_1, o_102, ()), ())) fun o25 => sumK o25 (fun d26 => some (.inl ((d26.1.1, ()), (), ()))) (fun d27 => L (((IntKind.wrap .i64 (d27.1.1 + 1)), ()), (d27.2.1.1, d27.2.1.2.1, ()), ()))) (some (.inr ((), (o_102, ()), ())))
noncomputable def L33_16 : Nat → (Int × Unit) × (zTb × (List Int) × Unit) × Unit → Option (zTj ⊕ ((Unit) × ((List Int) × Unit) × Unit))
  | 0, _ => none
  | n + 1, d => B33_16 n (L33_16 n) d.1.1 d.2.1.1 d.2.1.2.1
noncomputable def l33_16 : LoopI := ⟨⟨[(1, .c (.ptr 1 [])), (6, .c (.view 102 [])), (7, .v (.int .i64))], [(1, false, .str zTa), (102, true, .list true 3 (.int .i64))], none⟩, [(.ret, ⟨[(2, .v (.int .i64))], [], none⟩), (.exit 4, ⟨[(6, .c (.view 102 []))], [(102, true, .list true 3 (.int .i64))], none⟩)], L33_16⟩
noncomputable def B33_25 (_n : Nat) (L : (Int × Unit) × ((List Int) × Unit) × Unit → Option (zTj ⊕ ((Unit) × (Unit) × Unit))) (i_9 : Int) (o_102 : List Int) : Option (zTj ⊕ ((Unit) × (Unit) × Unit)) :=
  cond (decide (i_9 < (o_102.length : Int))) (inR i_9 o_102.length (getI o_102 i_9 fun e31 => cond (e31 != 1) (some (.inl ((80, ()), (), ()))) (L (((IntKind.wrap .i64 (i_9 + 1)), ()), (o_102, ()), ())))) (some (.inr ((), (), ())))
noncomputable def L33_25 : Nat → (Int × Unit) × ((List Int) × Unit) × Unit → Option (zTj ⊕ ((Unit) × (Unit) × Unit))
  | 0, _ => none
  | n + 1, d => B33_25 n (L33_25 n) d.1.1 d.2.1.1
noncomputable def l33_25 : LoopI := ⟨⟨[(6, .c (.view 102 [])), (9, .v (.int .i64))], [(102, true, .list true 3 (.int .i64))], none⟩, [(.ret, ⟨[(2, .v (.int .i64))], [], none⟩), (.exit 8, ⟨[], [], none⟩)], L33_25⟩
noncomputable def F33 (n : Nat) (k_0 : zTb) : Option ((Int × Unit) × (Unit)) :=
  cond (decide ((k_0.1.length : Int) > 16)) (some ((80, ()), ())) (cond (decide ((k_0.2.2.length : Int) > 6)) (some ((80, ()), ())) (derefK (g57 (k_0.2.1, 1, 1000000, ())) fun y1 => cond (!y1.1.1) (some ((80, ()), ())) (derefK (L33_4 n ((0, ()), (k_0, ()), ())) fun o14 => sumK o14 (fun d15 => some ((d15.1.1, ()), ())) (fun d16 => leK 0 (d16.2.1.1.1.length : Int) (leK (d16.2.1.1.1.length : Int) (d16.2.1.1.1.length : Int) (lenK (d16.2.1.1.1.length : Int) (derefK (L33_16 n ((0, ()), (d16.2.1.1, (List.replicate (d16.2.1.1.1.length : Int).toNat (0 : Int)), ()), ())) fun o28 => sumK o28 (fun d29 => some ((d29.1.1, ()), ())) (fun d30 => derefK (L33_25 n ((0, ()), (d30.2.1.1, ()), ())) fun o32 => sumK o32 (fun d33 => some ((d33.1.1, ()), ())) (fun _ => some ((0, ()), ()))))))))))
noncomputable def g33 (d : zTb × Unit) : Option ((Int × Unit) × (Unit)) := F33 fuel d.1
noncomputable def p33 : Prim := ⟨[.v (.str zTa)], [.v (.int .i64)], g33⟩
noncomputable def c33 : Cfg := ⟨158, tyT, [], [(57, p57)], [(10, l33_10), (4, l33_4), (19, l33_19), (16, l33_16), (25, l33_25)], [], [], [], [], [], [], [], [], []⟩
theorem F33_eq (n : Nat) (d) : absFn c33 n Try.f33 (body Try.f33) [.v (.str zTa)] [.v (.int .i64)] d = F33 n d.1 := by kernel_rfl
theorem L33_4_eq (n : Nat) (d) : (l33_4).g (n + 1) d = run c33 n (nth 0 (loopsOf (body Try.f33))) ((l33_4).ins.fill d) (roundK (l33_4) n) := by kernel_rfl
theorem L33_10_eq (n : Nat) (d) : (l33_10).g (n + 1) d = run c33 n (nth 1 (loopsOf (body Try.f33))) ((l33_10).ins.fill d) (roundK (l33_10) n) := by kernel_rfl
theorem L33_16_eq (n : Nat) (d) : (l33_16).g (n + 1) d = run c33 n (nth 2 (loopsOf (body Try.f33))) ((l33_16).ins.fill d) (roundK (l33_16) n) := by kernel_rfl
theorem L33_19_eq (n : Nat) (d) : (l33_19).g (n + 1) d = run c33 n (nth 3 (loopsOf (body Try.f33))) ((l33_19).ins.fill d) (roundK (l33_19) n) := by kernel_rfl
theorem L33_25_eq (n : Nat) (d) : (l33_25).g (n + 1) d = run c33 n (nth 4 (loopsOf (body Try.f33))) ((l33_25).ins.fill d) (roundK (l33_25) n) := by kernel_rfl
theorem ls33 : loopsOf (body Try.f33) = [nth 0 (loopsOf (body Try.f33)), nth 1 (loopsOf (body Try.f33)), nth 2 (loopsOf (body Try.f33)), nth 3 (loopsOf (body Try.f33)), nth 4 (loopsOf (body Try.f33))] := by kernel_rfl
theorem d33 : drawOK c33 (body Try.f33) = true := by kernel_rfl
theorem h33 : GoodF Try.prog 33 p33 := fn_done mixed (cfg := c33) (cfg_ok tyT_ok (goodCons h57 goodNil) rfl (by kernel_rfl)) Try.func33 rfl rfl (by kernel_rfl) rfl (by rw [ls33]; simp only [List.forall_mem_cons]; exact ⟨loopHas (key := 4) (li := l33_4) (by kernel_rfl) rfl (fun _ => rfl) (L33_4_eq), loopHas (key := 10) (li := l33_10) (by kernel_rfl) rfl (fun _ => rfl) (L33_10_eq), loopHas (key := 16) (li := l33_16) (by kernel_rfl) rfl (fun _ => rfl) (L33_16_eq), loopHas (key := 19) (li := l33_19) (by kernel_rfl) rfl (fun _ => rfl) (L33_19_eq), loopHas (key := 25) (li := l33_25) (by kernel_rfl) rfl (fun _ => rfl) (L33_25_eq), fun _ h => by cases h⟩) d33 (fun d y h => ⟨fuel, (F33_eq fuel d).trans h⟩)
-- function 70
noncomputable def B70_3 (_n : Nat) (L : ((List Bool) × (List Int) × Int × Unit) × (Unit) × Unit → Option (zTg ⊕ ((Unit) × (Unit) × Unit))) (stands_1 : List Bool) (n_7 : List Int) (i_8 : Int) : Option (zTg ⊕ ((Unit) × (Unit) × Unit)) :=
  cond (decide (i_8 < (n_7.length : Int))) (getI n_7 i_8 fun e2 => getI stands_1 e2 fun e3 => cond (!e3) (some (.inl ((false, ()), (), ()))) (L ((stands_1, n_7, (IntKind.wrap .i64 (i_8 + 1)), ()), (), ()))) (some (.inr ((), (), ())))
noncomputable def L70_3 : Nat → ((List Bool) × (List Int) × Int × Unit) × (Unit) × Unit → Option (zTg ⊕ ((Unit) × (Unit) × Unit))
  | 0, _ => none
  | n + 1, d => B70_3 n (L70_3 n) d.1.1 d.1.2.1 d.1.2.2.1
noncomputable def l70_3 : LoopI := ⟨⟨[(1, .v (.list false 4 .bool)), (7, .v (.list false 3 (.int .i64))), (8, .v (.int .i64))], [], none⟩, [(.ret, ⟨[(6, .v .bool)], [], none⟩), (.exit 0, ⟨[], [], none⟩)], L70_3⟩
noncomputable def F70 (n : Nat) (k_0 : zTb) (stands_1 : (List Bool)) (p_2 : Int) : Option ((Bool × Unit) × (Unit)) :=
  getI k_0.1 p_2 fun e1 => derefK (L70_3 n ((stands_1, e1.2.2.2, 0, ()), (), ())) fun o4 => sumK o4 (fun d5 => some ((d5.1.1, ()), ())) (fun _ => some ((true, ()), ()))
noncomputable def g70 (d : zTb × (List Bool) × Int × Unit) : Option ((Bool × Unit) × (Unit)) := F70 fuel d.1 d.2.1 d.2.2.1
noncomputable def p70 : Prim := ⟨[.v (.str zTa), .v (.list false 4 .bool), .v (.int .i64)], [.v .bool], g70⟩
noncomputable def c70 : Cfg := ⟨29, tyT, [], [], [(3, l70_3)], [], [], [], [], [], [], [], [], []⟩
theorem F70_eq (n : Nat) (d) : absFn c70 n Try.f70 (body Try.f70) [.v (.str zTa), .v (.list false 4 .bool), .v (.int .i64)] [.v .bool] d = F70 n d.1 d.2.1 d.2.2.1 := by kernel_rfl
theorem L70_3_eq (n : Nat) (d) : (l70_3).g (n + 1) d = run c70 n (nth 0 (loopsOf (body Try.f70))) ((l70_3).ins.fill d) (roundK (l70_3) n) := by kernel_rfl
theorem ls70 : loopsOf (body Try.f70) = [nth 0 (loopsOf (body Try.f70))] := by kernel_rfl
theorem d70 : drawOK c70 (body Try.f70) = true := by kernel_rfl
theorem h70 : GoodF Try.prog 70 p70 := fn_done mixed (cfg := c70) (cfg_ok tyT_ok (goodNil) rfl (by kernel_rfl)) Try.func70 rfl rfl (by kernel_rfl) rfl (by rw [ls70]; simp only [List.forall_mem_cons]; exact ⟨loopHas (key := 3) (li := l70_3) (by kernel_rfl) rfl (fun _ => rfl) (L70_3_eq), fun _ h => by cases h⟩) d70 (fun d y h => ⟨fuel, (F70_eq fuel d).trans h⟩)
-- function 87
noncomputable def B87_6 (_n : Nat) (L : (Int × Int × Int × Bool × Int × Unit) × (zTb × Unit) × Unit → Option (zTg ⊕ ((Int × Int × Int × Unit) × (zTb × Unit) × Unit))) (high_1 : Int) (low_2 : Int) (v_7 : Int) (seen_8 : Bool) (i_9 : Int) (o_3 : zTd × (Int × (List (List Int)))) : Option (zTg ⊕ ((Int × Int × Int × Unit) × (zTb × Unit) × Unit)) :=
  getI o_3.2.2 v_7 fun e1 => cond (decide (i_9 < (e1.length : Int))) (cond seen_8 (getI o_3.2.2 v_7 fun e2 => getI e2 i_9 fun e3 => cond (e3 == high_1) (some (.inl ((true, ()), (), ()))) (cond seen_8 (L ((high_1, low_2, v_7, true, (IntKind.wrap .i64 (i_9 + 1)), ()), (o_3, ()), ())) (getI o_3.2.2 v_7 fun e4 => getI e4 i_9 fun e5 => L ((high_1, low_2, v_7, (e5 == low_2), (IntKind.wrap .i64 (i_9 + 1)), ()), (o_3, ()), ())))) (cond seen_8 (L ((high_1, low_2, v_7, true, (IntKind.wrap .i64 (i_9 + 1)), ()), (o_3, ()), ())) (getI o_3.2.2 v_7 fun e6 => getI e6 i_9 fun e7 => L ((high_1, low_2, v_7, (e7 == low_2), (IntKind.wrap .i64 (i_9 + 1)), ()), (o_3, ()), ())))) (some (.inr ((high_1, low_2, v_7, ()), (o_3, ()), ())))
noncomputable def L87_6 : Nat → (Int × Int × Int × Bool × Int × Unit) × (zTb × Unit) × Unit → Option (zTg ⊕ ((Int × Int × Int × Unit) × (zTb × Unit) × Unit))
  | 0, _ => none
  | n + 1, d => B87_6 n (L87_6 n) d.1.1 d.1.2.1 d.1.2.2.1 d.1.2.2.2.1 d.1.2.2.2.2.1 d.2.1.1
noncomputable def l87_6 : LoopI := ⟨⟨[(1, .v (.int .i64)), (2, .v (.int .i64)), (3, .c (.ptr 3 [])), (7, .v (.int .i64)), (8, .v .bool), (9, .v (.int .i64))], [(3, false, .str zTa)], none⟩, [(.ret, ⟨[(6, .v .bool)], [], none⟩), (.exit 2, ⟨[(1, .v (.int .i64)), (2, .v (.int .i64)), (3, .c (.ptr 3 [])), (7, .v (.int .i64))], [(3, false, .str zTa)], none⟩)], L87_6⟩
noncomputable def B87_2 (n : Nat) (L : (Int × Int × Int × Unit) × (zTb × Unit) × Unit → Option (zTg ⊕ ((Unit) × (Unit) × Unit))) (high_1 : Int) (low_2 : Int) (v_7 : Int) (o_3 : zTd × (Int × (List (List Int)))) : Option (zTg ⊕ ((Unit) × (Unit) × Unit)) :=
  cond (decide (v_7 < (o_3.2.2.length : Int))) (derefK (L87_6 n ((high_1, low_2, v_7, false, 0, ()), (o_3, ()), ())) fun o8 => sumK o8 (fun d9 => some (.inl ((d9.1.1, ()), (), ()))) (fun d10 => L ((d10.1.1, d10.1.2.1, (IntKind.wrap .i64 (d10.1.2.2.1 + 1)), ()), (d10.2.1.1, ()), ()))) (some (.inr ((), (), ())))
noncomputable def L87_2 : Nat → (Int × Int × Int × Unit) × (zTb × Unit) × Unit → Option (zTg ⊕ ((Unit) × (Unit) × Unit))
  | 0, _ => none
  | n + 1, d => B87_2 n (L87_2 n) d.1.1 d.1.2.1 d.1.2.2.1 d.2.1.1
noncomputable def l87_2 : LoopI := ⟨⟨[(1, .v (.int .i64)), (2, .v (.int .i64)), (3, .c (.ptr 3 [])), (7, .v (.int .i64))], [(3, false, .str zTa)], none⟩, [(.ret, ⟨[(6, .v .bool)], [], none⟩), (.exit 0, ⟨[], [], none⟩)], L87_2⟩
noncomputable def F87 (n : Nat) (k_0 : zTb) (high_1 : Int) (low_2 : Int) : Option ((Bool × Unit) × (Unit)) :=
  derefK (L87_2 n ((high_1, low_2, 0, ()), (k_0, ()), ())) fun o11 => sumK o11 (fun d12 => some ((d12.1.1, ()), ())) (fun _ => some ((false, ()), ()))
noncomputable def g87 (d : zTb × Int × Int × Unit) : Option ((Bool × Unit) × (Unit)) := F87 fuel d.1 d.2.1 d.2.2.1
noncomputable def p87 : Prim := ⟨[.v (.str zTa), .v (.int .i64), .v (.int .i64)], [.v .bool], g87⟩
noncomputable def c87 : Cfg := ⟨53, tyT, [], [], [(6, l87_6), (2, l87_2)], [], [], [], [], [], [], [], [], []⟩
theorem F87_eq (n : Nat) (d) : absFn c87 n Try.f87 (body Try.f87) [.v (.str zTa), .v (.int .i64), .v (.int .i64)] [.v .bool] d = F87 n d.1 d.2.1 d.2.2.1 := by kernel_rfl
theorem L87_2_eq (n : Nat) (d) : (l87_2).g (n + 1) d = run c87 n (nth 0 (loopsOf (body Try.f87))) ((l87_2).ins.fill d) (roundK (l87_2) n) := by kernel_rfl
theorem L87_6_eq (n : Nat) (d) : (l87_6).g (n + 1) d = run c87 n (nth 1 (loopsOf (body Try.f87))) ((l87_6).ins.fill d) (roundK (l87_6) n) := by kernel_rfl
theorem ls87 : loopsOf (body Try.f87) = [nth 0 (loopsOf (body Try.f87)), nth 1 (loopsOf (body Try.f87))] := by kernel_rfl
theorem d87 : drawOK c87 (body Try.f87) = true := by kernel_rfl
theorem h87 : GoodF Try.prog 87 p87 := fn_done mixed (cfg := c87) (cfg_ok tyT_ok (goodNil) rfl (by kernel_rfl)) Try.func87 rfl rfl (by kernel_rfl) rfl (by rw [ls87]; simp only [List.forall_mem_cons]; exact ⟨loopHas (key := 2) (li := l87_2) (by kernel_rfl) rfl (fun _ => rfl) (L87_2_eq), loopHas (key := 6) (li := l87_6) (by kernel_rfl) rfl (fun _ => rfl) (L87_6_eq), fun _ h => by cases h⟩) d87 (fun d y h => ⟨fuel, (F87_eq fuel d).trans h⟩)
-- function 58
noncomputable def B58_4 (_n : Nat) (L : ((List Bool) × Int × Int × Unit) × (zTb × Unit) × Unit → Option (zTg ⊕ ((Unit) × (Unit) × Unit))) (stands_1 : List Bool) (p_2 : Int) (i_7 : Int) (o_3 : zTd × (Int × (List (List Int)))) : Option (zTg ⊕ ((Unit) × (Unit) × Unit)) :=
  cond (decide (i_7 < (stands_1.length : Int))) (derefK (g87 (o_3, i_7, p_2, ())) fun y4 => cond y4.1.1 (getI stands_1 i_7 fun e5 => cond (!e5) (some (.inl ((false, ()), (), ()))) (L ((stands_1, p_2, (IntKind.wrap .i64 (i_7 + 1)), ()), (o_3, ()), ()))) (L ((stands_1, p_2, (IntKind.wrap .i64 (i_7 + 1)), ()), (o_3, ()), ()))) (some (.inr ((), (), ())))
noncomputable def L58_4 : Nat → ((List Bool) × Int × Int × Unit) × (zTb × Unit) × Unit → Option (zTg ⊕ ((Unit) × (Unit) × Unit))
  | 0, _ => none
  | n + 1, d => B58_4 n (L58_4 n) d.1.1 d.1.2.1 d.1.2.2.1 d.2.1.1
noncomputable def l58_4 : LoopI := ⟨⟨[(1, .v (.list false 4 .bool)), (2, .v (.int .i64)), (3, .c (.ptr 3 [])), (7, .v (.int .i64))], [(3, false, .str zTa)], none⟩, [(.ret, ⟨[(6, .v .bool)], [], none⟩), (.exit 0, ⟨[], [], none⟩)], L58_4⟩
noncomputable def F58 (n : Nat) (k_0 : zTb) (stands_1 : (List Bool)) (p_2 : Int) : Option ((Bool × Unit) × (Unit)) :=
  getI stands_1 p_2 fun e1 => cond e1 (some ((false, ()), ())) (derefK (g70 (k_0, stands_1, p_2, ())) fun y2 => cond (!y2.1.1) (some ((false, ()), ())) (getI k_0.1 p_2 fun e3 => cond (decide (e3.1 > k_0.2.1)) (some ((false, ()), ())) (derefK (L58_4 n ((stands_1, p_2, 0, ()), (k_0, ()), ())) fun o6 => sumK o6 (fun d7 => some ((d7.1.1, ()), ())) (fun _ => some ((true, ()), ())))))
noncomputable def g58 (d : zTb × (List Bool) × Int × Unit) : Option ((Bool × Unit) × (Unit)) := F58 fuel d.1 d.2.1 d.2.2.1
noncomputable def p58 : Prim := ⟨[.v (.str zTa), .v (.list false 4 .bool), .v (.int .i64)], [.v .bool], g58⟩
noncomputable def c58 : Cfg := ⟨47, tyT, [], [(70, p70), (87, p87)], [(4, l58_4)], [], [], [], [], [], [], [], [], []⟩
theorem F58_eq (n : Nat) (d) : absFn c58 n Try.f58 (body Try.f58) [.v (.str zTa), .v (.list false 4 .bool), .v (.int .i64)] [.v .bool] d = F58 n d.1 d.2.1 d.2.2.1 := by kernel_rfl
theorem L58_4_eq (n : Nat) (d) : (l58_4).g (n + 1) d = run c58 n (nth 0 (loopsOf (body Try.f58))) ((l58_4).ins.fill d) (roundK (l58_4) n) := by kernel_rfl
theorem ls58 : loopsOf (body Try.f58) = [nth 0 (loopsOf (body Try.f58))] := by kernel_rfl
theorem d58 : drawOK c58 (body Try.f58) = true := by kernel_rfl
theorem h58 : GoodF Try.prog 58 p58 := fn_done mixed (cfg := c58) (cfg_ok tyT_ok (goodCons h70 (goodCons h87 goodNil)) rfl (by kernel_rfl)) Try.func58 rfl rfl (by kernel_rfl) rfl (by rw [ls58]; simp only [List.forall_mem_cons]; exact ⟨loopHas (key := 4) (li := l58_4) (by kernel_rfl) rfl (fun _ => rfl) (L58_4_eq), fun _ h => by cases h⟩) d58 (fun d y h => ⟨fuel, (F58_eq fuel d).trans h⟩)
-- function 50
noncomputable def B50_6 (_n : Nat) (L : (Int × Int × Int × Unit) × (zTb × (List Int) × (List Bool) × Unit) × Unit → Option (((Int × Int × Unit) × (zTb × (List Int) × (List Bool) × Unit) × Unit))) (p_6 : Int) (t_13 : Int) (t_14 : Int) (o_1 : zTd × (Int × (List (List Int)))) (o_5 : List Int) (o_10 : List Bool) : Option (((Int × Int × Unit) × (zTb × (List Int) × (List Bool) × Unit) × Unit)) :=
  cond (decide (p_6 < (o_10.length : Int))) (derefK (g58 (o_1, o_10, p_6, ())) fun y1 => cond y1.1.1 (inR p_6 o_10.length (getI o_10 p_6 fun _ => lenK ((o_5.length : Int) + [p_6].length) (some ((t_13, t_14, ()), (o_1, (o_5 ++ [p_6]), (o_10.set p_6.toNat true), ()), ())))) (L (((IntKind.wrap .i64 (p_6 + 1)), t_13, t_14, ()), (o_1, o_5, o_10, ()), ()))) (some ((t_13, t_14, ()), (o_1, o_5, o_10, ()), ()))
noncomputable def L50_6 : Nat → (Int × Int × Int × Unit) × (zTb × (List Int) × (List Bool) × Unit) × Unit → Option (((Int × Int × Unit) × (zTb × (List Int) × (List Bool) × Unit) × Unit))
  | 0, _ => none
  | n + 1, d => B50_6 n (L50_6 n) d.1.1 d.1.2.1 d.1.2.2.1 d.2.1.1 d.2.1.2.1 d.2.1.2.2.1
noncomputable def l50_6 : LoopI := ⟨⟨[(1, .c (.ptr 1 [])), (4, .c (.view 10 [])), (5, .c (.view 5 [])), (6, .v (.int .i64)), (13, .v (.int .i64)), (14, .v (.int .i64))], [(1, false, .str zTa), (5, true, .list true 3 (.int .i64)), (10, true, .list true 4 .bool)], none⟩, [(.exit 2, ⟨[(1, .c (.ptr 1 [])), (4, .c (.view 10 [])), (5, .c (.view 5 [])), (13, .v (.int .i64)), (14, .v (.int .i64))], [(1, false, .str zTa), (5, true, .list true 3 (.int .i64)), (10, true, .list true 4 .bool)], none⟩)], L50_6⟩
noncomputable def B50_4 (n : Nat) (L : (Int × Int × Unit) × (zTb × (List Int) × (List Bool) × Unit) × Unit → Option (((Unit) × zTl × Unit))) (t_13 : Int) (t_14 : Int) (o_1 : zTd × (Int × (List (List Int)))) (o_5 : List Int) (o_10 : List Bool) : Option (((Unit) × zTl × Unit)) :=
  cond (decide (t_14 < t_13)) (derefK (L50_6 n ((0, t_13, t_14, ()), (o_1, o_5, o_10, ()), ())) fun o3 => L ((o3.1.1, (IntKind.wrap .i64 (o3.1.2.1 + 1)), ()), (o3.2.1.1, o3.2.1.2.1, o3.2.1.2.2.1, ()), ())) (some ((), (o_5, o_10, ()), ()))
noncomputable def L50_4 : Nat → (Int × Int × Unit) × (zTb × (List Int) × (List Bool) × Unit) × Unit → Option (((Unit) × zTl × Unit))
  | 0, _ => none
  | n + 1, d => B50_4 n (L50_4 n) d.1.1 d.1.2.1 d.2.1.1 d.2.1.2.1 d.2.1.2.2.1
noncomputable def l50_4 : LoopI := ⟨⟨[(1, .c (.ptr 1 [])), (4, .c (.view 10 [])), (5, .c (.view 5 [])), (13, .v (.int .i64)), (14, .v (.int .i64))], [(1, false, .str zTa), (5, true, .list true 3 (.int .i64)), (10, true, .list true 4 .bool)], none⟩, [(.exit 0, ⟨[(4, .c (.view 10 [])), (5, .c (.view 5 []))], [(5, true, .list true 3 (.int .i64)), (10, true, .list true 4 .bool)], none⟩)], L50_4⟩
noncomputable def F50 (n : Nat) (k_0 : zTb) : Option (zTl × (Unit)) :=
  leK 0 (k_0.1.length : Int) (leK (k_0.1.length : Int) (k_0.1.length : Int) (lenK (k_0.1.length : Int) (derefK (L50_4 n (((k_0.1.length : Int), 0, ()), (k_0, ([] : List Int), (List.replicate (k_0.1.length : Int).toNat false), ()), ())) fun o4 => some ((o4.2.1.1, o4.2.1.2.1, ()), ()))))
noncomputable def g50 (d : zTb × Unit) : Option (zTl × (Unit)) := F50 fuel d.1
noncomputable def p50 : Prim := ⟨[.v (.str zTa)], [.own 3 (.int .i64), .own 4 .bool], g50⟩
noncomputable def c50 : Cfg := ⟨36, tyT, [], [(58, p58)], [(6, l50_6), (4, l50_4)], [], [], [], [], [], [], [], [], []⟩
theorem F50_eq (n : Nat) (d) : absFn c50 n Try.f50 (body Try.f50) [.v (.str zTa)] [.own 3 (.int .i64), .own 4 .bool] d = F50 n d.1 := by kernel_rfl
theorem L50_4_eq (n : Nat) (d) : (l50_4).g (n + 1) d = run c50 n (nth 0 (loopsOf (body Try.f50))) ((l50_4).ins.fill d) (roundK (l50_4) n) := by kernel_rfl
theorem L50_6_eq (n : Nat) (d) : (l50_6).g (n + 1) d = run c50 n (nth 1 (loopsOf (body Try.f50))) ((l50_6).ins.fill d) (roundK (l50_6) n) := by kernel_rfl
theorem ls50 : loopsOf (body Try.f50) = [nth 0 (loopsOf (body Try.f50)), nth 1 (loopsOf (body Try.f50))] := by kernel_rfl
theorem d50 : drawOK c50 (body Try.f50) = true := by kernel_rfl
theorem h50 : GoodF Try.prog 50 p50 := fn_done mixed (cfg := c50) (cfg_ok tyT_ok (goodCons h58 goodNil) rfl (by kernel_rfl)) Try.func50 rfl rfl (by kernel_rfl) rfl (by rw [ls50]; simp only [List.forall_mem_cons]; exact ⟨loopHas (key := 4) (li := l50_4) (by kernel_rfl) rfl (fun _ => rfl) (L50_4_eq), loopHas (key := 6) (li := l50_6) (by kernel_rfl) rfl (fun _ => rfl) (L50_6_eq), fun _ h => by cases h⟩) d50 (fun d y h => ⟨fuel, (F50_eq fuel d).trans h⟩)
-- function 17
noncomputable def F17 (_n : Nat) (k_0 : zTb) : Option (((List Int) × Int × Unit) × (Unit)) :=
  derefK (g33 (k_0, ())) fun y1 => cond (y1.1.1 != 0) (some ((([] : List Int), y1.1.1, ()), ())) (derefK (g50 (k_0, ())) fun y2 => cond (decide ((y2.1.1.length : Int) < (k_0.1.length : Int))) (some ((([] : List Int), 3, ()), ())) (some ((y2.1.1, 0, ()), ())))
noncomputable def g17 (d : zTb × Unit) : Option (((List Int) × Int × Unit) × (Unit)) := F17 fuel d.1
noncomputable def p17 : Prim := ⟨[.v (.str zTa)], [.own 3 (.int .i64), .v (.int .i64)], g17⟩
noncomputable def c17 : Cfg := ⟨24, tyT, [], [(33, p33), (50, p50)], [], [], [], [], [], [], [], [], [], []⟩
theorem F17_eq (n : Nat) (d) : absFn c17 n Try.f17 (body Try.f17) [.v (.str zTa)] [.own 3 (.int .i64), .v (.int .i64)] d = F17 n d.1 := by kernel_rfl
theorem d17 : drawOK c17 (body Try.f17) = true := by kernel_rfl
theorem h17 : GoodF Try.prog 17 p17 := fn_done mixed (cfg := c17) (cfg_ok tyT_ok (goodCons h33 (goodCons h50 goodNil)) rfl (by kernel_rfl)) Try.func17 rfl rfl (by kernel_rfl) rfl (noLoops (by kernel_rfl)) d17 (fun d y h => ⟨fuel, (F17_eq fuel d).trans h⟩)
-- function 18
noncomputable def B18_4 (_n : Nat) (L : ((List Int) × (List Int) × Int × Unit) × (Unit) × Unit → Option (zTg ⊕ ((Unit) × (Unit) × Unit))) (a_0 : List Int) (b_1 : List Int) (i_5 : Int) : Option (zTg ⊕ ((Unit) × (Unit) × Unit)) :=
  cond (decide (i_5 < (a_0.length : Int))) (getI a_0 i_5 fun e1 => getI b_1 i_5 fun e2 => cond (e1 != e2) (some (.inl ((false, ()), (), ()))) (L ((a_0, b_1, (IntKind.wrap .i64 (i_5 + 1)), ()), (), ()))) (some (.inr ((), (), ())))
noncomputable def L18_4 : Nat → ((List Int) × (List Int) × Int × Unit) × (Unit) × Unit → Option (zTg ⊕ ((Unit) × (Unit) × Unit))
  | 0, _ => none
  | n + 1, d => B18_4 n (L18_4 n) d.1.1 d.1.2.1 d.1.2.2.1
noncomputable def l18_4 : LoopI := ⟨⟨[(0, .v (.list false 3 (.int .i64))), (1, .v (.list false 3 (.int .i64))), (5, .v (.int .i64))], [], none⟩, [(.ret, ⟨[(4, .v .bool)], [], none⟩), (.exit 0, ⟨[], [], none⟩)], L18_4⟩
noncomputable def F18 (n : Nat) (a_0 : (List Int)) (b_1 : (List Int)) : Option ((Bool × Unit) × (Unit)) :=
  cond ((a_0.length : Int) != (b_1.length : Int)) (some ((false, ()), ())) (derefK (L18_4 n ((a_0, b_1, 0, ()), (), ())) fun o3 => sumK o3 (fun d4 => some ((d4.1.1, ()), ())) (fun _ => some ((true, ()), ())))
noncomputable def g18 (d : (List Int) × (List Int) × Unit) : Option ((Bool × Unit) × (Unit)) := F18 fuel d.1 d.2.1
noncomputable def p18 : Prim := ⟨[.v (.list false 3 (.int .i64)), .v (.list false 3 (.int .i64))], [.v .bool], g18⟩
noncomputable def c18 : Cfg := ⟨26, tyT, [], [], [(4, l18_4)], [], [], [], [], [], [], [], [], []⟩
theorem F18_eq (n : Nat) (d) : absFn c18 n Try.f18 (body Try.f18) [.v (.list false 3 (.int .i64)), .v (.list false 3 (.int .i64))] [.v .bool] d = F18 n d.1 d.2.1 := by kernel_rfl
theorem L18_4_eq (n : Nat) (d) : (l18_4).g (n + 1) d = run c18 n (nth 0 (loopsOf (body Try.f18))) ((l18_4).ins.fill d) (roundK (l18_4) n) := by kernel_rfl
theorem ls18 : loopsOf (body Try.f18) = [nth 0 (loopsOf (body Try.f18))] := by kernel_rfl
theorem d18 : drawOK c18 (body Try.f18) = true := by kernel_rfl
theorem h18 : GoodF Try.prog 18 p18 := fn_done mixed (cfg := c18) (cfg_ok tyT_ok (goodNil) rfl (by kernel_rfl)) Try.func18 rfl rfl (by kernel_rfl) rfl (by rw [ls18]; simp only [List.forall_mem_cons]; exact ⟨loopHas (key := 4) (li := l18_4) (by kernel_rfl) rfl (fun _ => rfl) (L18_4_eq), fun _ h => by cases h⟩) d18 (fun d y h => ⟨fuel, (F18_eq fuel d).trans h⟩)
-- function 51
noncomputable def B51_2 (_n : Nat) (L : ((Int → Option Bool) × Int × Int × Unit) × ((List Int) × Unit) × Unit → Option (((Unit) × ((List Int) × Unit) × Unit))) (is_1 : Int → Option Bool) (t_11 : Int) (t_12 : Int) (o_4 : List Int) : Option (((Unit) × ((List Int) × Unit) × Unit)) :=
  cond (decide (t_12 < t_11)) (derefK (is_1 t_12) fun y1 => cond y1 (lenK ((o_4.length : Int) + [t_12].length) (L ((is_1, t_11, (IntKind.wrap .i64 (t_12 + 1)), ()), ((o_4 ++ [t_12]), ()), ()))) (L ((is_1, t_11, (IntKind.wrap .i64 (t_12 + 1)), ()), (o_4, ()), ()))) (some ((), (o_4, ()), ()))
noncomputable def L51_2 : Nat → ((Int → Option Bool) × Int × Int × Unit) × ((List Int) × Unit) × Unit → Option (((Unit) × ((List Int) × Unit) × Unit))
  | 0, _ => none
  | n + 1, d => B51_2 n (L51_2 n) d.1.1 d.1.2.1 d.1.2.2.1 d.2.1.1
noncomputable def l51_2 : LoopI := ⟨⟨[(1, .v (.fn (.int .i64) .bool)), (4, .c (.view 4 [])), (11, .v (.int .i64)), (12, .v (.int .i64))], [(4, true, .list true 3 (.int .i64))], none⟩, [(.exit 0, ⟨[(4, .c (.view 4 []))], [(4, true, .list true 3 (.int .i64))], none⟩)], L51_2⟩
noncomputable def F51 (n : Nat) (y_0 : zTe) (is_1 : (Int → Option Bool)) : Option (((List Int) × Unit) × (Unit)) :=
  derefK (L51_2 n ((is_1, (y_0.1.1.length : Int), 0, ()), (([] : List Int), ()), ())) fun o2 => some ((o2.2.1.1, ()), ())
noncomputable def g51 (d : zTe × (Int → Option Bool) × Unit) : Option (((List Int) × Unit) × (Unit)) := F51 fuel d.1 d.2.1
noncomputable def p51 : Prim := ⟨[.r (.str (.pair (.str zTa) (.pair zTc zTc))), .v (.fn (.int .i64) .bool)], [.own 3 (.int .i64)], g51⟩
noncomputable def c51 : Cfg := ⟨24, tyT, [], [], [(2, l51_2)], [], [], [], [], [], [], [], [], []⟩
theorem F51_eq (n : Nat) (d) : absFn c51 n Try.f51 (body Try.f51) [.r (.str (.pair (.str zTa) (.pair zTc zTc))), .v (.fn (.int .i64) .bool)] [.own 3 (.int .i64)] d = F51 n d.1 d.2.1 := by kernel_rfl
theorem L51_2_eq (n : Nat) (d) : (l51_2).g (n + 1) d = run c51 n (nth 0 (loopsOf (body Try.f51))) ((l51_2).ins.fill d) (roundK (l51_2) n) := by kernel_rfl
theorem ls51 : loopsOf (body Try.f51) = [nth 0 (loopsOf (body Try.f51))] := by kernel_rfl
theorem d51 : drawOK c51 (body Try.f51) = true := by kernel_rfl
theorem h51 : GoodF Try.prog 51 p51 := fn_done mixed (cfg := c51) (cfg_ok tyT_ok (goodNil) rfl (by kernel_rfl)) Try.func51 rfl rfl (by kernel_rfl) rfl (by rw [ls51]; simp only [List.forall_mem_cons]; exact ⟨loopHas (key := 2) (li := l51_2) (by kernel_rfl) rfl (fun _ => rfl) (L51_2_eq), fun _ h => by cases h⟩) d51 (fun d y h => ⟨fuel, (F51_eq fuel d).trans h⟩)
-- function 52
noncomputable def F52 (_n : Nat) (p_0 : Int) (t_1 : (List Bool)) : Option ((Bool × Unit) × (Unit)) :=
  getI t_1 p_0 fun e1 => some (((!e1), ()), ())
noncomputable def g52 (d : Int × (List Bool) × Unit) : Option ((Bool × Unit) × (Unit)) := F52 fuel d.1 d.2.1
noncomputable def p52 : Prim := ⟨[.v (.int .i64), .r (.list false 4 .bool)], [.v .bool], g52⟩
noncomputable def c52 : Cfg := ⟨9, tyT, [], [], [], [], [], [], [], [], [], [], [], []⟩
theorem F52_eq (n : Nat) (d) : absFn c52 n Try.f52 (body Try.f52) [.v (.int .i64), .r (.list false 4 .bool)] [.v .bool] d = F52 n d.1 d.2.1 := by kernel_rfl
theorem d52 : drawOK c52 (body Try.f52) = true := by kernel_rfl
theorem h52 : GoodF Try.prog 52 p52 := fn_done mixed (cfg := c52) (cfg_ok tyT_ok (goodNil) rfl (by kernel_rfl)) Try.func52 rfl rfl (by kernel_rfl) rfl (noLoops (by kernel_rfl)) d52 (fun d y h => ⟨fuel, (F52_eq fuel d).trans h⟩)
-- function 19
noncomputable def F19 (_n : Nat) (k_0 : zTb) : Option (((List Int) × Int × Unit) × (Unit)) :=
  derefK (g48 (k_0, ())) fun y1 => cond (!y1.1.2.1) (some ((([] : List Int), 80, ()), ())) (derefK y1.1.1 fun q2 => derefK (g49 (q2, ())) fun y3 => derefK y1.1.1 fun q4 => derefK (g51 (q4, (fun v5 => derefK (g52 (v5, y3.1.2.1, ())) fun y6 => some y6.1.1), ())) fun y7 => some ((y7.1.1, 0, ()), ()))
noncomputable def g19 (d : zTb × Unit) : Option (((List Int) × Int × Unit) × (Unit)) := F19 fuel d.1
noncomputable def p19 : Prim := ⟨[.v (.str zTa)], [.own 3 (.int .i64), .v (.int .i64)], g19⟩
noncomputable def c19 : Cfg := ⟨23, tyT, [], [(48, p48), (49, p49), (51, p51), (52, p52)], [], [], [], [], [], [], [], [], [], []⟩
theorem F19_eq (n : Nat) (d) : absFn c19 n Try.f19 (body Try.f19) [.v (.str zTa)] [.own 3 (.int .i64), .v (.int .i64)] d = F19 n d.1 := by kernel_rfl
theorem d19 : drawOK c19 (body Try.f19) = true := by kernel_rfl
theorem h19 : GoodF Try.prog 19 p19 := fn_done mixed (cfg := c19) (cfg_ok tyT_ok (goodCons h48 (goodCons h49 (goodCons h51 (goodCons h52 goodNil)))) rfl (by kernel_rfl)) Try.func19 rfl rfl (by kernel_rfl) rfl (noLoops (by kernel_rfl)) d19 (fun d y h => ⟨fuel, (F19_eq fuel d).trans h⟩)
-- function 20
noncomputable def B20_7 (_n : Nat) (L : (Int × Unit) × zTl × Unit → Option (((Unit) × ((List Int) × Unit) × Unit))) (p_8 : Int) (o_7 : List Int) (o_17001 : List Bool) : Option (((Unit) × ((List Int) × Unit) × Unit)) :=
  cond (decide (p_8 < (o_17001.length : Int))) (inR p_8 o_17001.length (getI o_17001 p_8 fun e3 => cond (!e3) (lenK ((o_7.length : Int) + [p_8].length) (L (((IntKind.wrap .i64 (p_8 + 1)), ()), ((o_7 ++ [p_8]), o_17001, ()), ()))) (L (((IntKind.wrap .i64 (p_8 + 1)), ()), (o_7, o_17001, ()), ())))) (some ((), (o_7, ()), ()))
noncomputable def L20_7 : Nat → (Int × Unit) × zTl × Unit → Option (((Unit) × ((List Int) × Unit) × Unit))
  | 0, _ => none
  | n + 1, d => B20_7 n (L20_7 n) d.1.1 d.2.1.1 d.2.1.2.1
noncomputable def l20_7 : LoopI := ⟨⟨[(6, .c (.view 17001 [])), (7, .c (.view 7 [])), (8, .v (.int .i64))], [(7, true, .list true 3 (.int .i64)), (17001, true, .list true 4 .bool)], none⟩, [(.exit 0, ⟨[(7, .c (.view 7 []))], [(7, true, .list true 3 (.int .i64))], none⟩)], L20_7⟩
noncomputable def F20 (n : Nat) (k_0 : zTb) : Option (((List Int) × Int × Unit) × (Unit)) :=
  derefK (g33 (k_0, ())) fun y1 => cond (y1.1.1 != 0) (some ((([] : List Int), y1.1.1, ()), ())) (derefK (g50 (k_0, ())) fun y2 => derefK (L20_7 n ((0, ()), (([] : List Int), y2.1.2.1, ()), ())) fun o4 => some ((o4.2.1.1, 0, ()), ()))
noncomputable def g20 (d : zTb × Unit) : Option (((List Int) × Int × Unit) × (Unit)) := F20 fuel d.1
noncomputable def p20 : Prim := ⟨[.v (.str zTa)], [.own 3 (.int .i64), .v (.int .i64)], g20⟩
noncomputable def c20 : Cfg := ⟨35, tyT, [], [(33, p33), (50, p50)], [(7, l20_7)], [], [], [], [], [], [], [], [], []⟩
theorem F20_eq (n : Nat) (d) : absFn c20 n Try.f20 (body Try.f20) [.v (.str zTa)] [.own 3 (.int .i64), .v (.int .i64)] d = F20 n d.1 := by kernel_rfl
theorem L20_7_eq (n : Nat) (d) : (l20_7).g (n + 1) d = run c20 n (nth 0 (loopsOf (body Try.f20))) ((l20_7).ins.fill d) (roundK (l20_7) n) := by kernel_rfl
theorem ls20 : loopsOf (body Try.f20) = [nth 0 (loopsOf (body Try.f20))] := by kernel_rfl
theorem d20 : drawOK c20 (body Try.f20) = true := by kernel_rfl
theorem h20 : GoodF Try.prog 20 p20 := fn_done mixed (cfg := c20) (cfg_ok tyT_ok (goodCons h33 (goodCons h50 goodNil)) rfl (by kernel_rfl)) Try.func20 rfl rfl (by kernel_rfl) rfl (by rw [ls20]; simp only [List.forall_mem_cons]; exact ⟨loopHas (key := 7) (li := l20_7) (by kernel_rfl) rfl (fun _ => rfl) (L20_7_eq), fun _ h => by cases h⟩) d20 (fun d y h => ⟨fuel, (F20_eq fuel d).trans h⟩)
-- function 86
noncomputable def B86_2 (_n : Nat) (L : ((List Bool) × Bool × Int × Int × Unit) × (Unit) × Unit → Option (zTj ⊕ ((Unit) × (Unit) × Unit))) (s_0 : List Bool) (v_1 : Bool) (t_7 : Int) (t_8 : Int) : Option (zTj ⊕ ((Unit) × (Unit) × Unit)) :=
  cond (decide (t_8 < t_7)) (getI s_0 t_8 fun e1 => cond (v_1 == e1) (some (.inl ((t_8, ()), (), ()))) (L ((s_0, v_1, t_7, (IntKind.wrap .i64 (t_8 + 1)), ()), (), ()))) (some (.inr ((), (), ())))
noncomputable def L86_2 : Nat → ((List Bool) × Bool × Int × Int × Unit) × (Unit) × Unit → Option (zTj ⊕ ((Unit) × (Unit) × Unit))
  | 0, _ => none
  | n + 1, d => B86_2 n (L86_2 n) d.1.1 d.1.2.1 d.1.2.2.1 d.1.2.2.2.1
noncomputable def l86_2 : LoopI := ⟨⟨[(0, .v (.list false 4 .bool)), (1, .v .bool), (7, .v (.int .i64)), (8, .v (.int .i64))], [], none⟩, [(.ret, ⟨[(4, .v (.int .i64))], [], none⟩), (.exit 0, ⟨[], [], none⟩)], L86_2⟩
noncomputable def F86 (n : Nat) (s_0 : (List Bool)) (v_1 : Bool) : Option ((Int × Unit) × (Unit)) :=
  derefK (L86_2 n ((s_0, v_1, (s_0.length : Int), 0, ()), (), ())) fun o2 => sumK o2 (fun d3 => some ((d3.1.1, ()), ())) (fun _ => some (((-1), ()), ()))
noncomputable def g86 (d : (List Bool) × Bool × Unit) : Option ((Int × Unit) × (Unit)) := F86 fuel d.1 d.2.1
noncomputable def p86 : Prim := ⟨[.v (.list false 4 .bool), .v .bool], [.v (.int .i64)], g86⟩
noncomputable def c86 : Cfg := ⟨19, tyT, [], [], [(2, l86_2)], [], [], [], [], [], [], [], [], []⟩
theorem F86_eq (n : Nat) (d) : absFn c86 n Try.f86 (body Try.f86) [.v (.list false 4 .bool), .v .bool] [.v (.int .i64)] d = F86 n d.1 d.2.1 := by kernel_rfl
theorem L86_2_eq (n : Nat) (d) : (l86_2).g (n + 1) d = run c86 n (nth 0 (loopsOf (body Try.f86))) ((l86_2).ins.fill d) (roundK (l86_2) n) := by kernel_rfl
theorem ls86 : loopsOf (body Try.f86) = [nth 0 (loopsOf (body Try.f86))] := by kernel_rfl
theorem d86 : drawOK c86 (body Try.f86) = true := by kernel_rfl
theorem h86 : GoodF Try.prog 86 p86 := fn_done mixed (cfg := c86) (cfg_ok tyT_ok (goodNil) rfl (by kernel_rfl)) Try.func86 rfl rfl (by kernel_rfl) rfl (by rw [ls86]; simp only [List.forall_mem_cons]; exact ⟨loopHas (key := 2) (li := l86_2) (by kernel_rfl) rfl (fun _ => rfl) (L86_2_eq), fun _ h => by cases h⟩) d86 (fun d y h => ⟨fuel, (F86_eq fuel d).trans h⟩)
-- function 55
noncomputable def F55 (_n : Nat) (s_0 : (List Bool)) (v_1 : Bool) : Option ((Bool × Unit) × (Unit)) :=
  derefK (g86 (s_0, v_1, ())) fun y1 => some (((decide (y1.1.1 ≥ 0)), ()), ())
noncomputable def g55 (d : (List Bool) × Bool × Unit) : Option ((Bool × Unit) × (Unit)) := F55 fuel d.1 d.2.1
noncomputable def p55 : Prim := ⟨[.v (.list false 4 .bool), .v .bool], [.v .bool], g55⟩
noncomputable def c55 : Cfg := ⟨9, tyT, [], [(86, p86)], [], [], [], [], [], [], [], [], [], []⟩
theorem F55_eq (n : Nat) (d) : absFn c55 n Try.f55 (body Try.f55) [.v (.list false 4 .bool), .v .bool] [.v .bool] d = F55 n d.1 d.2.1 := by kernel_rfl
theorem d55 : drawOK c55 (body Try.f55) = true := by kernel_rfl
theorem h55 : GoodF Try.prog 55 p55 := fn_done mixed (cfg := c55) (cfg_ok tyT_ok (goodCons h86 goodNil) rfl (by kernel_rfl)) Try.func55 rfl rfl (by kernel_rfl) rfl (noLoops (by kernel_rfl)) d55 (fun d y h => ⟨fuel, (F55_eq fuel d).trans h⟩)
end Go.Proofs.Try.V
