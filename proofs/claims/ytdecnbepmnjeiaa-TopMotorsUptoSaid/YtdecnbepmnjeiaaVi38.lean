/- The abstract interpreter 'Vi', thirty-eighth part: all code, ranges over functions with it; the contract of a function. No condition beyond those typed in each theorem. -/
import Derived.Test.YtdecnbepmnjeiaaVi37
namespace Go.Vi
open Go.RowKit
section
variable {P : Program} {C : Ctx} {cfg : jN} {R : Type} {r : R} {s s' s1 : St} {a a' a1 : Act} {w w' W W' W1 : World} {H H' Hf : FH} {Φ Φ' : Nat → qA}
theorem qgJ (hs : qg P C s a w H Φ) : ∀ {tl : List Nat} {l : List AV}, qim s tl = some l → qah (qi P C w H Φ s.obj) l (tl.map fun t => a.tmps.getD t undef)
 | [], l, h => by cases h; trivial
 | t :: tl, l, h => by
  simp only [qim] at h
  split at h
  ·rename_i av r h1 h2
   cases h
   exact ⟨hs.ts t av h1, qgJ hs h2⟩
  ·cases h
theorem qi0 {x : X} {k : X → Option R} : ∀ {l : List X}, pickK l x k = some r → k x = some r
 | [], h => by cases h
 | y :: l, h => by
  unfold pickK at h
  cases hb : y.same x with
  | true => rw [hb, cond_true, X.same_eq hb] at h; exact h
  | false => rw [hb] at h; exact qi0 h
theorem qbO {os : Nat → Option Obj} : ∀ {ps : List jR} {l : List AV} {Φs : List qA} {s : St}, ps.all reads = true → qc6 os Φ ps l Φs → qg P C s a w H Φ → qg P C (qbt s ps l) a w H Φ ∧ ∀ j, (qbt s ps l).obj j = if j ∈ qB ps l then none else s.obj j
 | [], l, Φs, s, _, _, hs => ⟨by cases l <;> exact hs, fun j => by cases l <;> simp [qbt, qB]⟩
 | .v _ :: ps, l, Φs, s, hr, hm, hs => by
  obtain ⟨av, l', φ, Φs', rfl, rfl, _, hm⟩ := hm
  exact qbO (ps := ps) (by simpa [reads] using hr) hm hs
 | .r _ :: ps, l, Φs, s, hr, hm, hs => by
  obtain ⟨av, l', φ, Φs', rfl, rfl, _, hm⟩ := hm
  exact qbO (ps := ps) (by simpa [reads] using hr) hm hs
 | .c _ :: ps, l, Φs, s, hr, hm, hs => by
  obtain ⟨av, l', φ, Φs', rfl, rfl, _, hm⟩ := hm
  exact qbO (ps := ps) (by simpa [reads] using hr) hm hs
 | .gm τ :: ps, l, Φs, s, hr, hm, hs => by
  obtain ⟨id, l', Φs', x, rfl, rfl, _, hm⟩ := hm
  obtain ⟨h1, h2⟩ := qbO (ps := ps) (by simpa [reads] using hr) hm (hs.remove id)
  refine ⟨h1, fun j => ?_⟩
  show (qbt ((s.kill id).setObj id none) ps l').obj j = _
  rw [h2, St.obj_setObj, St.kill, St.obj_killIf]
  simp only [qB, AV.name, List.singleton_append, List.mem_cons]
  by_cases e1 : j ∈ qB ps l'
  ·rw [if_pos e1, if_pos (.inr e1)]
  ·rw [if_neg e1]
   by_cases e2 : id = j
   ·rw [if_pos e2, if_pos (.inl e2.symm)]
   ·rw [if_neg e2, if_neg (fun h => h.elim (fun h => e2 h.symm) e1)]
 | .m _ :: _, _, _, _, hr, _, _ => by simp [reads] at hr
 | .mr _ _ :: _, _, _, _, hr, _, _ => by simp [reads] at hr
 | .t _ _ :: _, _, _, _, hr, _, _ => by simp [reads] at hr
 | .cm _ _ :: _, _, _, _, hr, _, _ => by simp [reads] at hr
theorem qhf {f : FuncId} {lb : Array Value} {O0 : Nat → Prop} : ∀ (α β : Ty) (e : Ty.list false 0 α = .list false 0 β) (xs0 : List α.den) (xs : List β.den) (cs : Nat → List Value), xs = (show List β.den from (e ▸ (show (Ty.list false 0 α).den from xs0) : (Ty.list false 0 β).den)) → α.isFz = true → (∀ (i : Nat) x, xs0[i]? = some x → qp P α w Hf x (cs i) []) → qfo P f lb xs0.length (fun i => #[j0 α (cs i)]) Hf O0 w →
  β.isFz = true ∧ (∀ (i : Nat) x, xs[i]? = some x → qp P β w Hf x (cs i) []) ∧ qfo P f lb xs.length (fun i => #[j0 β (cs i)]) Hf O0 w := by
 intro α β e xs0 xs cs hx h1 h2 h3
 injection e with _ _ e'
 subst e'
 subst hx
 exact ⟨h1, h2, h3⟩
def qcF (cfg : jN) : Code → Bool
 | .region id ops true => (qcY id cfg.enum && Region.noSelect ops) || drawR cfg ops
 | .seq a b => qcF cfg a && qcF cfg b
 | .cond _ a b => qcF cfg a && qcF cfg b
 | .block _ c => qcF cfg c
 | .loop c => qcF cfg c
 | .rangeFunc _ _ a b => qag cfg a && qag cfg b
 | _ => true
theorem range_ok (hmo2 : P.follows .mixedOrders = true) (hcfg : qy P cfg) (hit : ∀ f it, lk cfg.iters f = some it → qfr P f it) {gop : Operand} {prms : Array Tmp} {assign body : Code} {n : Nat} {k : X → St → Option R} (hl : qbw cfg (.rangeFunc gop prms assign body)) (hra : qag cfg assign = true) (hrb : qag cfg body = true)
  (hC : qF C cfg) (hs : jW P C s a w) (h : run cfg n (.rangeFunc gop prms assign body) s k = some r) : (Code.rangeFunc gop prms assign body).wp P (qfL P C k r) a w := by
 obtain ⟨H, Φ, hsb, _⟩ := hs
 simp only [run] at h
 split at h
 case h_2 => cases h
 rename_i key f caps p hkey hg hprm
 split at h
 case h_2 => cases h
 rename_i it li hiter hli
 split at h
 case h_2 => cases h
 rename_i l hgl
 cases hq : caps.isTup && s.mp.isNone && it.ps.all reads && qaE (qB it.ps caps.list ++ qB li.ps l) (qn it.ps caps.list ++ qn li.ps l) && Nat.blt p cfg.nt && Nat.ble li.ps.length cfg.nt && li.ps.all jR.noT with
 | false => rw [hq] at h; cases h
 | true =>
 rw [hq, cond_true] at h
 simp only [Bool.and_eq_true] at hq
 obtain ⟨⟨⟨⟨⟨⟨ht, _⟩, hird⟩, hap⟩, hp⟩, hnt⟩, hnT⟩ := hq
 have hp : p < cfg.nt := Eq.mp Nat.blt_eq hp
 have hnt : li.ps.length ≤ cfg.nt := Nat.le_of_ble_eq_true hnt
 obtain ⟨hmsA, hmtA⟩ := qbT hap
 have hms : (qB li.ps l).Nodup := (List.nodup_append.1 hmsA).2.1
 have hmt : ∀ x ∈ qB li.ps l, x ∉ qn it.ps caps.list ++ qn li.ps l := fun x hx => hmtA x (List.mem_append_right _ hx)
 have hmtc : ∀ x ∈ qB it.ps caps.list, x ∉ qn it.ps caps.list ++ qn li.ps l := fun x hx => hmtA x (List.mem_append_left _ hx)
 have hmsc : (qB it.ps caps.list).Nodup := (List.nodup_append.1 hmsA).1
 have hmx : ∀ x ∈ qB it.ps caps.list, ∀ y ∈ qB li.ps l, x ≠ y := (List.nodup_append.1 hmsA).2.2
 obtain ⟨hla, hlb, heq⟩ := hl
 have heq := heq key li p hkey hli hprm
 obtain ⟨hcal, hifz, hiseq⟩ := hit f it hiter
 obtain ⟨vs0, us, hv, hn0, hcaps⟩ := qm hsb qJ hg
 have hn0 : (Value.tuple vs0) = .tuple #[] := hn0
 cases hn0
 have hrelc : qah (qi P C w H Φ s.obj) caps.list us.toList := qax ht (by simpa using hcaps)
 have hrell := qgJ hsb hgl
 obtain ⟨Hf, m1, m2, m3, m4, m5⟩ := qg.freezeAll (qn it.ps caps.list ++ qn li.ps l) hsb
 obtain ⟨dc, h, Φc, hargc, hmc⟩ := qaI hcfg hsb m1 (fun id hid => m3 id (List.mem_append_left _ hid)) hrelc h
 obtain ⟨d, h, Φs, hargs, hmr⟩ := qaI hcfg hsb m1 (fun id hid => m3 id (List.mem_append_right _ hid)) hrell h
 rw [ql] at h
 replace h := Option.bind_eq_some_iff.1 h
 obtain ⟨xs0, hx0, h⟩ := h
 rw [ql] at h
 replace h := Option.bind_eq_some_iff.1 h
 obtain ⟨xs, hx, h⟩ := h
 rw [ql] at h
 replace h := Option.bind_eq_some_iff.1 h
 obtain ⟨o, ho, h⟩ := h
 have h := qi0 h
 obtain ⟨hfps, hmo⟩ := qaQ hmr
 obtain ⟨hfpc, hmoc⟩ := qaQ hmc
 have hndc : (qb Φc).Nodup := by
  rw [hfpc]
  refine qaX hmsc (fun id hid => ?_) (fun i hi j hj hij b hb => ?_)
  ·obtain ⟨o, ho⟩ := hmoc id hid
   exact (hsb.os id o ho).1.2.1
  ·obtain ⟨o, ho⟩ := hmoc i hi
   obtain ⟨o', ho'⟩ := hmoc j hj
   exact hsb.disj i j o o' hij ho ho' b hb
 have hG : ∀ b ∈ qb Φc, Hf b = none ∧ b < w.heap.size ∧ b ∉ qb Φs := by
  intro b hb
  rw [hfpc] at hb
  obtain ⟨id, hid, hb⟩ := List.mem_flatMap.1 hb
  obtain ⟨o, ho⟩ := hmoc id hid
  obtain ⟨q1, q2, q3⟩ := (hsb.os id o ho).2 b hb
  refine ⟨?_, q3, fun hb2 => ?_⟩
  ·cases hq : Hf b with
   | none => rfl
   | some c =>
    rcases m2 b c hq with h1 | ⟨id2, hid2, o2, ho2, hb2⟩
    ·rw [q1] at h1; cases h1
    ·exact absurd hb2 (hsb.disj id id2 o o2 (by rintro rfl; exact hmtc id hid hid2) ho ho2 b hb)
  ·rw [hfps] at hb2
   obtain ⟨id2, hid2, hb2⟩ := List.mem_flatMap.1 hb2
   obtain ⟨o2, ho2⟩ := hmo id2 hid2
   exact hsb.disj id id2 o o2 (hmx id hid id2 hid2) ho ho2 b hb hb2
 obtain ⟨hsd, hod⟩ := qbO hird hmc m4
 have hG2 : ∀ b ∈ qb Φc, (C.M0 b ∨ C.w0.heap.size ≤ b) ∧ ∀ j o, (qbt (s.freezeAll (qn it.ps caps.list ++ qn li.ps l)) it.ps caps.list).obj j = some o → b ∉ (Φ j).fp := by
  intro b hb
  rw [hfpc] at hb
  obtain ⟨id, hid, hb⟩ := List.mem_flatMap.1 hb
  obtain ⟨o, ho⟩ := hmoc id hid
  refine ⟨((hsb.os id o ho).2 b hb).2.1, fun j o2 hj => ?_⟩
  rw [hod] at hj
  split at hj
  ·cases hj
  ·rename_i hjn
   rw [m5] at hj
   split at hj
   ·cases hj
   ·exact hsb.disj id j o o2 (fun e => hjn (e ▸ hid)) ho hj b hb
 obtain ⟨cs, hcs, hseq⟩ := hiseq dc xs0 hx0 w Hf us.toList Φc m4.hok hargc hndc (fun b hb => ⟨(hG b hb).1, (hG b hb).2.1⟩)
 obtain ⟨e, hxe⟩ := qh hx
 obtain ⟨hfz, hcs, hseq⟩ := qhf it.a li.a e xs0 xs cs hxe hifz hcs hseq
 have hnd : (qb Φs).Nodup := by
  rw [hfps]
  refine qaX hms (fun id hid => ?_) (fun i hi j hj hij b hb => ?_)
  ·obtain ⟨o, ho⟩ := hmo id hid
   exact (hsb.os id o ho).1.2.1
  ·obtain ⟨o, ho⟩ := hmo i hi
   obtain ⟨o', ho'⟩ := hmo j hj
   exact hsb.disj i j o o' hij ho ho' b hb
 have hnone : ∀ b ∈ qb Φs, Hf b = none ∧ b < w.heap.size := by
  intro b hb
  rw [hfps] at hb
  obtain ⟨id, hid, hb⟩ := List.mem_flatMap.1 hb
  obtain ⟨o, ho⟩ := hmo id hid
  obtain ⟨q1, q2, q3⟩ := (hsb.os id o ho).2 b hb
  refine ⟨?_, q3⟩
  cases hq : Hf b with
  | none => rfl
  | some c =>
   rcases m2 b c hq with h1 | ⟨id2, hid2, o2, ho2, hb2⟩
   ·rw [q1] at h1; cases h1
   ·exact absurd hb2 (hsb.disj id id2 o o2 (by rintro rfl; exact hmt id hid hid2) ho ho2 b hb)
 have hds : a.defers = C.ds := hsb.defers
 refine qkE hmo2 hnT hcfg heq hla hlb hra hrb hprm hp hnt m4.hok hargs hnd hnone hG (hsb.size.trans hC.nt) rfl (gf := f) (lb := us) hv hcal hfz hcs (by simpa using hseq) ho ?_
 rintro D W hD ⟨H', Φs', k1, k2, k3, k4, k5, k6, k7⟩ hh
 have hsim := qfI (dst := none) hcfg hC hsd rfl k2 k3 (p := ⟨li.ps, [], fun _ => none⟩) (show (0 : Nat) < 1000 by decide) hG2 (us := []) (Ψs := []) (y := ((), o.2)) k1 k4
  (qat (fun id hid => by rw [hod, if_neg (fun h => hmx id h id hid rfl), m5, if_neg (hmt id hid)]) hmr) hargs k5 ⟨rfl, rfl⟩ (by simpa using k6) (by simpa using k7) hms
 obtain ⟨H2, Φ2, hsim⟩ := hsim
 have hact : ({ ({ a with defers := { target := .collected D, args := #[] } :: a.defers } : Act) with defers := C.ds } : Act) = a := by
  rw [← hds]
 have hends : qft P C k r o.1 { a with defers := { target := .collected D, args := #[] } :: a.defers } W := by
  refine ⟨_, [{ target := .collected D, args := #[] }], by rw [hds]; rfl, ⟨by simp, ?_⟩, ?_, h⟩
  ·intro x hx
   obtain rfl := List.mem_singleton.1 hx
   exact ⟨D, rfl, Nat.le_trans hsb.mod.size hD, hh⟩
  ·rw [hact]
   exact ⟨H2, Φ2, hsim.withM none, trivial⟩
 obtain ⟨x, md⟩ := o
 cases x with
 | norm => exact hends
 | exit i => exact hends
 | ret => exact hends
theorem qfz {c : Code} {Q Q' : Exit → Act → World → Prop} (hq : ∀ e a w, Q e a w → Q' e a w) : ∀ (m : Nat) {a : Act} {w : World}, Code.rounds P c Q m a w → Code.rounds P c Q' m a w
 | 0, _, _, h => h
 | m + 1, _, _, h => wp_mono h (fun e a w hp => by
  cases e with
  | normal => exact qfz hq m hp
  | _ => exact hq _ _ _ hp)
theorem qda (hm : P.follows .mixedOrders = true) (hcfg : qy P cfg) (hit : ∀ f it, lk cfg.iters f = some it → qfr P f it) : ∀ (c : Code) {C : Ctx} (_ : qF C cfg) {R : Type} {r : R} {n : Nat} {s : St} {k : X → St → Option R} {a : Act} {w : World}, qab cfg c → qbw cfg c → qcF cfg c = true → jW P C s a w → run cfg n c s k = some r → c.wp P (qfL P C k r) a w
 | .skip, C, hC, R, r, n, s, k, a, w, _, _, _, hs, h => wp_skip (.one hs h)
 | .ret, C, hC, R, r, n, s, k, a, w, _, _, _, hs, h => wp_ret (.one hs h)
 | .exit i, C, hC, R, r, n, s, k, a, w, _, _, _, hs, h => wp_exit (.one hs h)
 | .region id ops draw, C, hC, R, r, n, s, k, a, w, hl, _, hd, hs, h => wp_mono (qbX hm hcfg hC (.region id ops draw) hl (by cases draw <;> first | rfl | exact hd) hs h) (fun _ _ _ hp => .of_post hp)
 | .seq x y, C, hC, R, r, n, s, k, a, w, hl, hr, hd, hs, h => by
  simp only [qcF, Bool.and_eq_true] at hd
  refine wp_seq (wp_mono (qda hm hcfg hit x hC hl.1 hr.1 hd.1 hs h) ?_)
  intro e a w hp
  cases e with
  | normal =>
   obtain ⟨s', ds, hd', hD, hs', h'⟩ := hp
   obtain ⟨H, Φ, hsb, hs2⟩ := hs'.rebaseD ds hd'
   exact wp_mono (qda hm hcfg hit y (reD_ok hC) hl.2 hr.2 hd.2 hs2 h') (fun _ _ _ hp => hp.unbase hsb hD)
  | exit i => exact hp
  | ret => exact hp
  | _ => exact hp.elim
 | .cond c x y, C, hC, R, r, n, s, k, a, w, hl, hr, hd, hs, h => by
  simp only [qcF, Bool.and_eq_true] at hd
  simp only [run] at h
  split at h
  ·rename_i b hb
   obtain ⟨H, Φ, hsb, hM⟩ := hs
   have hv := (qm hsb qJ hb).bool
   refine wp_cond hv ?_
   cases b with
   | true => exact qda hm hcfg hit x hC hl.1 hr.1 hd.1 ⟨H, Φ, hsb, hM⟩ h
   | false => exact qda hm hcfg hit y hC hl.2 hr.2 hd.2 ⟨H, Φ, hsb, hM⟩ h
  ·cases h
 | .block i c, C, hC, R, r, n, s, k, a, w, hl, hr, hd, hs, h => by
  refine wp_block (wp_mono (qda hm hcfg hit c hC hl hr hd hs h) ?_)
  intro e a w hp
  cases e with
  | normal => exact hp
  | exit j =>
   obtain ⟨s', ds, q1, q2, q3, h'⟩ := hp
   simp only [qiz] at h'
   unfold Exit.inBlock
   cases hb : Nat.beq j i with
   | true =>
    rw [hb] at h'
    obtain rfl := Nat.eq_of_beq_eq_true hb
    simp only [if_true]
    exact ⟨s', ds, q1, q2, q3, h'⟩
   | false =>
    rw [hb] at h'
    simp only [Nat.ne_of_beq_eq_false hb, if_false]
    exact ⟨s', ds, q1, q2, q3, h'⟩
  | ret => exact hp
  | _ => exact hp.elim
 | .loop c, C, hC, R, r, n, s, k, a, w, hl, hr, hd, hs, h => by
  simp only [run] at h
  split at h
  ·cases h
  ·rename_i key hkey
   split at h
   ·cases h
   ·rename_i li hli
    split at h
    ·cases h
    ·rename_i d hd'
     rw [ql] at h
     replace h := Option.bind_eq_some_iff.1 h
     obtain ⟨o, ho, h⟩ := h
     obtain ⟨heq0, heq⟩ := hl.2 key li hkey hli
     have hs' := qbK hd' hs
     have rounds : ∀ m {C : Ctx} (_ : qF C cfg) d a w, li.g m d = some o → jW P C (li.ins.fill d) a w → Code.rounds P c (qfL P C k r) m a w := by
      intro m
      induction m with
      | zero => intro C _ d a w hg; rw [heq0] at hg; cases hg
      | succ m ih =>
       intro C hC d a w hg hsd
       rw [heq] at hg
       refine wp_mono (qda hm hcfg hit c hC hl.1 hr hd hsd hg) ?_
       intro e a w hp
       cases e with
       | normal =>
        obtain ⟨s2, ds, q1, q2, hs2, h2⟩ := hp
        simp only [qO] at h2
        split at h2
        ·rename_i d2 hd2
         obtain ⟨H, Φ, hsb, hs3⟩ := hs2.rebaseD ds q1
         exact qfz (fun _ _ _ hp => hp.unbase hsb q2) m (ih (reD_ok hC) d2 a w h2 (qbK hd2 hs3))
        ·cases h2
       | exit j =>
        obtain ⟨s2, ds, q1, q2, hs2, h2⟩ := hp
        obtain ⟨s3, hs3, h3⟩ := qct hs2 (k := k) h2
        exact ⟨s3, ds, q1, q2, hs3, by rw [← h3]; exact h⟩
       | ret =>
        obtain ⟨s2, ds, q1, q2, hs2, h2⟩ := hp
        obtain ⟨s3, hs3, h3⟩ := qct hs2 (k := k) h2
        exact ⟨s3, ds, q1, q2, hs3, by rw [← h3]; exact h⟩
       | _ => exact hp.elim
     exact wp_loop_rounds n (rounds n hC d a w ho hs')
 | .rangeFunc g ps x y, C, hC, R, r, n, s, k, a, w, _, hr, hd, hs, h => by
  simp only [qcF, Bool.and_eq_true] at hd
  exact range_ok hm hcfg hit hr hd.1 hd.2 hC hs h
 | .scope _, _, _, _, _, _, _, _, _, _, _, _, _, _, h => by cases h
 | .label _, _, _, _, _, _, _, _, _, _, _, _, _, _, h => by cases h
 | .goto _, _, _, _, _, _, _, _, _, _, _, _, _, _, h => by cases h
 | .refuse _, _, _, _, _, _, _, _, _, _, _, _, _, _, h => by cases h
def qcq (W W' : World) : Prop := ∀ (b : Nat) (c : Array Value) (t : TypeId) (f : Nat × Nat), W.heap[b]? = some (.cells c t f) → W'.heap[b]? = some (.cells c t f)
theorem qcq.cell (h : qcq W W') {ad : Addr} {v : Value} (hv : W.cell? ad = some v) : W'.cell? ad = some v := by
 unfold World.cell? at hv ⊢
 cases e : W.heap[ad.block]? with
 | none => rw [e] at hv; simp at hv
 | some o =>
  rw [e] at hv
  cases o with
  | cells c t f => rw [h _ _ _ _ e]; exact hv
  | _ => simp at hv
theorem qcq.locO (h : qcq W W') {o : Obj} {φ : qA} {p : List qE} {b off : Nat} (hl : qam W o φ p b off) : qam W' o φ p b off := by
 obtain ⟨row, τ, x⟩ := o
 cases row with
 | false => exact Loc.keep τ (fun _ _ _ _ _ he => h.cell he) hl
 | true =>
  unfold qam at hl ⊢
  simp only at hl ⊢
  split at hl
  ·obtain ⟨g, n, cap, e, hl⟩ := hl
   exact ⟨g, n, cap, e, Loc.keep _ (fun _ _ _ _ _ he => h.cell he) hl⟩
  ·exact hl
theorem qg.sameC (hs : qg P C s a w H Φ) (hsame : qcq w w') (hsz : w.heap.size ≤ w'.heap.size) (hmod : Mod C.M0 C.w0 w') : qg P C s a w' H Φ := by
 refine ⟨hs.defers, hs.size, hs.le, ?_, hs.hnew, hmod, ?_, ?_, hs.disj, hs.pins⟩
 ·intro b c hb
  obtain ⟨t, f, e⟩ := hs.hok b c hb
  exact ⟨t, f, hsame _ _ _ _ e⟩
 ·intro t av ht
  have h1 : qi P C w' H Φ s.obj (av.killIf fun _ => false) (a.tmps.getD t undef) := qi.transfer (fun _ => false) (FH.le_refl H) (fun id p v _ hh => by
    obtain ⟨o, y, b, off, h1, h2, h3, h4, h5⟩ := hh
    exact ⟨o, y, b, off, h1, h2, h3, hsame.locO h4, h5⟩) (fun id p v _ hh => by
    obtain ⟨o, y, h1, h2, h3⟩ := hh
    refine ⟨o, y, h1, h2, ?_⟩
    cases hb : o.row && p.isEmpty with
    | true => rw [hb] at h3; exact h3
    | false =>
     rw [hb] at h3
     obtain ⟨b, off, blk, t, k1, k2, k3⟩ := h3
     exact ⟨b, off, blk, t, hsame.locO k1, hsame _ _ _ _ k2, k3⟩) (fun id p t e l v _ hh => by
    obtain ⟨o, h1, h2, h3, h4, fp, h5, h6⟩ := hh
    refine ⟨o, h1, h2, h3, h4, fp, qp.mono _ (FH.le_refl _) (fun b hb => ?_) h5, fun b hb => ⟨Nat.lt_of_lt_of_le (h6 b hb).1 hsz, ?_⟩⟩
    ·obtain ⟨c, t, f, e⟩ := qp.cells _ h5 b hb
     rw [e, hsame _ _ _ _ e]
    ·rcases (h6 b hb).2 with hf | ⟨hh, q1, q2⟩
     ·exact .inl ⟨hf.fz, hf.obj, hf.may, Nat.lt_of_lt_of_le hf.lt hsz⟩
     ·refine .inr ⟨hh, ?_, q2⟩
      unfold qdY at q1 ⊢
      cases hr : o.row && p.isEmpty with
      | true => rw [hr] at q1; exact q1
      | false =>
       rw [hr] at q1
       obtain ⟨b2, off2, z1, z2⟩ := q1
       exact ⟨b2, off2, hsame.locO z1, hsame.cell z2⟩) av _ (hs.ts t av ht)
  rwa [qi.id_kill _ (fun _ => rfl)] at h1
 ·intro id o ho
  have h := hs.os id o ho
  exact ⟨h.1.frame (FH.le_refl _) (fun b hb => by obtain ⟨c, t, f, e⟩ := h.1.cells b hb; rw [e, hsame _ _ _ _ e]), fun b hb => ⟨(h.2 b hb).1, (h.2 b hb).2.1, Nat.lt_of_lt_of_le (h.2 b hb).2.2 hsz⟩⟩
theorem qeF {fn : Func} {n : Nat} {tmps : Array Value} {R : Ending → World → Prop} {B : Nat} : ∀ {ds : List Deferred} {w : World}, DsOK B ds w →
  (∀ w', qcq w w' → w'.heap.size = w.heap.size → w'.os = w.os → w'.tape = w.tape → w'.output = w.output → (∀ k, k < B → w'.heap[k]? = w.heap[k]?) → ∃ v, (results fn tmps).run P w' = .ok v w' ∧ R (.returned v) w') → LeavesInM Fence.wide n P fn tmps R ds .returning w
 | [], w, _, h => h w (fun _ _ _ _ e => e) rfl rfl rfl rfl (fun _ _ => rfl)
 | d :: ds, w, hD, h => by
  obtain ⟨hnd, hD⟩ := hD
  obtain ⟨D, e, hB, hh⟩ := hD d List.mem_cons_self
  have hlt := (Array.getElem?_eq_some_iff.1 hh).1
  rw [List.nodup_cons] at hnd
  refine ⟨by simp, .inl ⟨D, _, by rw [e], run_takeDeferred hh, qeF ⟨hnd.2, fun x hx => ?_⟩ (fun w' q1 q2 q3 q4 q5 q6 => h w' (fun b c t f e2 => q1 _ _ _ _ ((World.putObj_heap_other (fun hb => by rw [hb, hh] at e2; cases e2)).trans e2)) (q2.trans (by simp)) (q3.trans rfl) (q4.trans rfl) (q5.trans rfl) (fun k hk => (q6 k hk).trans (World.putObj_heap_other (by omega))))⟩⟩
  ·obtain ⟨D', e', hB', hh'⟩ := hD x (List.mem_cons_of_mem _ hx)
   refine ⟨D', e', hB', (World.putObj_heap_other ?_).trans hh'⟩
   rintro rfl
   exact hnd.1 (by rw [e, ← e']; exact hx)
theorem done_ok (hcfg : qy P cfg) {fn : Func} {ps : List jR} {rs : List RTy} {y : RDens rs × MDens ps} {vs : List Value} {Φs : List qA} {d : PDens ps} (hargs : jS P w H ps d vs Φs) : ∀ (s : St) (a' : Act) (w' : World), Sim P (qaL w H cfg.nt ps Φs) s a' w' → qc5 cfg fn ps rs .ret s = some y →
   a'.defers = [] ∧ ∃ v, (results fn a'.tmps).run P w' = .ok v w' ∧ ∃ us H' Φs' Ψs, Ending.returned v = .returned (qap us) ∧ Mod (· ∈ qb Φs) w w' ∧ H.le H' ∧ HOk H' w' ∧ (∀ b c, H' b = some c → H b = some c ∨ b ∈ qb Φs ∨ w.heap.size ≤ b) ∧
    qak P w' H' rs y.1 us Ψs ∧ jQ P w' H' ps y.2 vs Φs' ∧ (qb (Ψs ++ Φs')).Nodup ∧ ∀ b ∈ qb (Ψs ++ Φs'), H' b = none ∧ (b ∈ qb Φs ∨ w.heap.size ≤ b) ∧ b < w'.heap.size := by
 obtain ⟨_, _, _, h4, _⟩ := qaA (C := qaL w H cfg.nt ps Φs) 0 hargs
 rintro s a' w' ⟨H2, Φ2, hs⟩ h
 simp only [qc5] at h
 split at h
 case h_2 => cases h
 rename_i md hmd
 obtain ⟨T, hand, t1, t2, t3, t4⟩ := qdb hcfg hs h
 obtain ⟨Hf, m1, m2, m3, m4, m5⟩ := qg.freezeAll T hs
 obtain ⟨d', us, Ψs, g1, g2, g3, g4, g5⟩ := t4 Hf m1 m3
 cases g1
 obtain ⟨Φs', k1, k2, k3⟩ := qas hs m1 (i := 0) hargs (fun x hx => by
  obtain ⟨id, φ⟩ := x
  have hpin : (qaL w H cfg.nt ps Φs).pin id = some φ := qdM h4 hx
  exact hs.pins.1 id φ hpin) hmd
 have hids := qaN (ps := ps) (i := 0)
 have hfapp : qb (Ψs ++ Φs') = qb Ψs ++ qb Φs' := by simp [qb]
 have hobj : ∀ id, id ∉ T → ∀ o, s.obj id = some o → ∀ b ∈ (Φ2 id).fp, Hf b = none ∧ (b ∈ qb Φs ∨ w.heap.size ≤ b) ∧ b < w'.heap.size := by
  intro id hid o ho b hb'
  obtain ⟨q1, q2, q3⟩ := (hs.os id o ho).2 b hb'
  refine ⟨?_, q2, q3⟩
  cases hq : Hf b with
  | none => rfl
  | some c =>
   rcases m2 b c hq with h1 | ⟨j, hj, o', ho', hbj⟩
   ·rw [q1] at h1; cases h1
   ·exact absurd hbj (hs.disj id j o o' (by rintro rfl; exact hid hj) ho ho' b hb')
 refine ⟨hs.defers, _, qdF g2, us, Hf, Φs', Ψs, rfl, hs.mod, FH.le_trans hs.le m1, m4.hok, m4.hnew, g3, k1, ?_, ?_⟩
 ·rw [hfapp, List.nodup_append]
  refine ⟨g4, ?_, ?_⟩
  ·rw [k2]
   refine qaX hids.2 (fun id hid => ?_) (fun i hi j hj hij b hb' => ?_)
   ·obtain ⟨o, ho⟩ := k3 id hid
    exact (hs.os id o ho).1.2.1
   ·obtain ⟨o, ho⟩ := k3 i hi
    obtain ⟨o', ho'⟩ := k3 j hj
    exact hs.disj i j o o' hij ho ho' b hb'
  ·rintro b hb1 _ hb2 rfl
   obtain ⟨i, hi, o, ho, hbi⟩ := g5 b hb1
   rw [k2] at hb2
   obtain ⟨j, hj, hbj⟩ := List.mem_flatMap.1 hb2
   obtain ⟨o', ho'⟩ := k3 j hj
   exact hs.disj i j o o' (by rintro rfl; exact (t3 i hi).1 hj) ho ho' b hbi hbj
 ·intro b hb'
  rw [hfapp] at hb'
  rcases List.mem_append.1 hb' with hb1 | hb2
  ·obtain ⟨i, hi, o, ho, hbi⟩ := g5 b hb1
   exact hobj i (t3 i hi).2 o ho b hbi
  ·rw [k2] at hb2
   obtain ⟨j, hj, hbj⟩ := List.mem_flatMap.1 hb2
   obtain ⟨o', ho'⟩ := k3 j hj
   exact hobj j (fun hT => t1 j hT hj) o' ho' b hbj
theorem qkR (hm : P.follows .mixedOrders = true) (hcfg : qy P cfg) (hit : ∀ f it, lk cfg.iters f = some it → qfr P f it) {f : FuncId} {fn : Func} {c : Code} (hf : P.funcs[f]? = some fn) (hb : fn.body = some c) (hnt : fn.ntmps = cfg.nt) (hl : qab cfg c) (hr : qbw cfg c) (hd : qcF cfg c = true)
  {p : qY} (hps : p.ps.length ≤ cfg.nt) (hg : ∀ d y, p.g d = some y → ∃ n, qX cfg n fn c p.ps p.rs d = some y) : qhS P f p := by
 intro d y hy w H vs Φs hok hargs hnd hfr
 obtain ⟨n, hn⟩ := hg d y hy
 have hsim := qc2 hok hargs hnd hfr hps
 have hC := qc3 (cfg := cfg) hargs
 refine (callsIn_wide (n := 0)).1 (callsIn_of_wp_marks hf hb trivial ((wpIn_wide (n := 0)).2 ?_))
 rw [hnt]
 refine wp_mono (qda hm hcfg hit c hC hl hr hd ⟨H, _, hsim, trivial⟩ hn) ?_
 have fin : ∀ {x : X} {a' : Act} {w' : World}, (match x with | .exit _ => False | _ => True) → qft P (qaL w H cfg.nt p.ps Φs) (qc5 cfg fn p.ps p.rs) y x a' w' → LeavesInM Fence.wide 0 P fn a'.tmps (fun e w' => ∃ us H' Φs' Ψs, e = .returned (qap us) ∧ Mod (· ∈ qb Φs) w w' ∧ H.le H' ∧ HOk H' w' ∧ (∀ b c, H' b = some c → H b = some c ∨ b ∈ qb Φs ∨ w.heap.size ≤ b) ∧
   qak P w' H' p.rs y.1 us Ψs ∧ jQ P w' H' p.ps y.2 vs Φs' ∧ (qb (Ψs ++ Φs')).Nodup ∧ ∀ b ∈ qb (Ψs ++ Φs'), H' b = none ∧ (b ∈ qb Φs ∨ w.heap.size ≤ b) ∧ b < w'.heap.size) a'.defers .returning w' := by
  intro x a' w' hx ⟨s, ds, e1, hD, ⟨H2, Φ2, hs, _⟩, hk⟩
  have hk : qc5 cfg fn p.ps p.rs .ret s = some y := by cases x <;> first | exact hk | exact hx.elim
  have e1 : a'.defers = ds := by rw [e1]; exact List.append_nil ds
  rw [e1]
  refine qeF hD (fun w2 q1 q2 q3 q4 q5 q6 => ?_)
  have hs2 := hs.sameC q1 (Nat.le_of_eq q2.symm) (hs.mod.trans_new (N := fun k => w.heap.size ≤ k) ⟨q3, q4, q5, Nat.le_of_eq q2.symm, fun k _ hk => q6 k (Nat.lt_of_not_le hk)⟩ (fun i hi => .inr hi))
  obtain ⟨_, v, h1, us, H', Φs', Ψs, h2, rest⟩ := done_ok hcfg hargs s _ w2 ⟨H2, Φ2, hs2⟩ hk
  exact ⟨v, h1, us, H', Φs', Ψs, h2, rest⟩
 intro e a' w' hp
 cases e with
 | normal => exact fin (x := .norm) trivial hp
 | ret => exact fin (x := .ret) trivial hp
 | exit i => obtain ⟨s, ds, _, _, _, hk⟩ := hp; cases hk
 | _ => exact hp.elim
end
end Go.Vi
