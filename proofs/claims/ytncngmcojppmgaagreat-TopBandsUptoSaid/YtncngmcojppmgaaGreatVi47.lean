/- The abstract interpreter 'Vi', forty-seventh part: calls that are walked on the caller's own objects; a function that boxes its parameter. No condition beyond those typed in each theorem. -/
import Derived.Test.YtncngmcojppmgaaGreatVi43
namespace Go.Vi
def AV.lowGh : AV → Bool
 | .cons a b => a.lowGh && b.lowGh
 | .fn _ a b => a.lowGh && b.lowGh
 | .gh n a => Nat.blt n 20000000 && a.lowGh
 | _ => true
def qcF (a : AV) : AV := bif a.lowGh then a else .dead
def qiE (t : Nat) (a : AV) : AV :=
 bif Nat.ble 20000000 t then (match a with
  | .gh n b => bif Nat.beq n t then .gh (20000000 + t) (qcF b) else .dead
  | _ => .dead) else .gh (20000000 + t) (qcF a)
def qeM (t : Nat) (a : AV) : AV :=
 match a with
 | .gh n b => bif Nat.beq n t then qcs (t - 20000000) (qcF b) else .dead
 | _ => .dead
def qhr : List (Nat × AV) → List (Nat × AV)
 | [] => []
 | (t, a) :: r => (20000000 + t, qiE t a) :: qhr r
def qio : List (Nat × AV) → List (Nat × AV)
 | [] => []
 | (t, a) :: r => bif Nat.ble 20000000 t then (t - 20000000, qeM t a) :: qio r else qio r
def argT : Nat → List AV → List (Nat × AV)
 | _, [] => []
 | i, a :: l => (i, qcF a) :: argT (i + 1) l
def qkK (s : St) (l : List AV) : St := ⟨argT 0 l ++ qhr s.ts, s.os, none⟩
def exitI (s : St) (dst : Nat) (a : AV) : St := ⟨(dst, qcF a) :: qio s.ts, s.os, none⟩
def qj7 {R : Type} (cfg : jM) (s : St) : List ResultVar → (List AV → Option R) → Option R
 | [], k => k []
 | v :: vs, k => qfR cfg s v fun a => qj7 cfg s vs fun l => k (a :: l)
def qjr : List AV → AV
 | [a] => a
 | l => AV.ofList l
def qeh {R : Type} : List (Nat × Sh) → St → (St → Option R) → Option R
 | [], s, k => k s
 | (t, .u i _ _ tid e) :: r, s, k => match s.get t with
  | some (.view j p) => bif Nat.beq j i && e.noFn then (match s.obj j with
   | some o => qaG o.τ o.x p fun σ y => qa (qy σ (.list true tid e) y) fun l => qeh r (s.set t (.upd j p tid e l)) k
   | none => none) else none
  | _ => qeh r s k
 | (_, .v _) :: r, s, k => qeh r s k
 | (_, .r _) :: r, s, k => qeh r s k
 | (_, .c _) :: r, s, k => qeh r s k
 | (_, .k _ _ _) :: r, s, k => qeh r s k
 | (_, .p _ _ _ _) :: r, s, k => qeh r s k
def doneI (cfg : jM) (fn : Func) (il : Inl) (dst : Nat) (e : X) (s : St) : Option il.outs.Den :=
 match e with
 | .exit _ => none
 | _ => bif s.mp.isNone then qj7 cfg s fn.results.toList fun l => qeh il.outs.ts (exitI s dst (qjr l)) il.outs.get else none
noncomputable def qbp (cfg : jM) (n : Nat) (fn : Func) (c : Code) (il : Inl) (f dst : Nat) (d : il.ins.Den) : Option il.outs.Den :=
 match jB (il.ins.fill d) none il.fop, qbg (il.ins.fill d) (fun _ => none) il.ops 0 with
 | some (.fn g first caps), some l => bif Nat.beq g f && (first.isTup && (caps.isTup && Nat.ble (first.list ++ l ++ caps.list).length cfg.nt)) then
   run cfg n c (qkK (il.ins.fill d) (first.list ++ l ++ caps.list)) (doneI cfg fn il dst) else none
 | _, _ => none
section
variable {P : Program} {C C' : Ctx} {cfg : jM} {R : Type} {r : R} {s : St} {a : Act} {w : World} {H : FH} {Φ : Nat → qC}
theorem qg.ctxL {os : Nat → Option Obj} (hg : ∀ n, n < 20000000 → C'.gh n = C.gh n) (hp : C'.pin = C.pin) (hM : C'.M0 = C.M0) (hw : C'.w0 = C.w0) : ∀ {av : AV} {v : Value}, av.lowGh = true → qg P C w H Φ os av v → qg P C' w H Φ os av v
 | .dead, _, _, h => h
 | .val _ _, _, _, h => h
 | .ref _ _, _, _, h => h
 | .ptr _ _, _, _, h => h
 | .view _ _, _, _, h => h
 | .upd id p tid e l, v, _, h => by
  obtain ⟨o, h1, h2, h3, fp, h4, h5, h6⟩ := h
  exact ⟨o, h1, h2, h3, fp, h4, h5, fun b hb => ⟨(h6 b hb).1, (h6 b hb).2.imp_left (fun hh => ⟨hh.fz, hh.obj, by rw [hM, hw]; exact hh.may, hh.lt⟩)⟩⟩
 | .cut _ _ _ _, _, _, h => h
 | .fn _ x y, _, hl, ⟨vs, us, h1, h2, h3⟩ => by
  have hl : (x.lowGh && y.lowGh) = true := hl
  rw [Bool.and_eq_true] at hl
  exact ⟨vs, us, h1, qg.ctxL hg hp hM hw hl.1 h2, qg.ctxL hg hp hM hw hl.2 h3⟩
 | .nil, _, _, h => h
 | .gh n x, _, hl, ⟨u, h1, h2⟩ => by
  have hl : (Nat.blt n 20000000 && x.lowGh) = true := hl
  rw [Bool.and_eq_true] at hl
  exact ⟨u, by rw [hg n (Eq.mp Nat.blt_eq hl.1)]; exact h1, qg.ctxL hg hp hM hw hl.2 h2⟩
 | .cv _ _ _, _, _, ⟨b, cv, h1, h2⟩ => ⟨b, cv, h1, by rw [hp]; exact h2⟩
 | .cons x y, _, hl, ⟨u, us, h1, h2, h3⟩ => by
  have hl : (x.lowGh && y.lowGh) = true := hl
  rw [Bool.and_eq_true] at hl
  exact ⟨u, us, h1, qg.ctxL hg hp hM hw hl.1 h2, qg.ctxL hg hp hM hw hl.2 h3⟩
theorem qg.clean {os : Nat → Option Obj} (hg : ∀ n, n < 20000000 → C'.gh n = C.gh n) (hp : C'.pin = C.pin) (hM : C'.M0 = C.M0) (hw : C'.w0 = C.w0) {av : AV} {v : Value} (h : qg P C w H Φ os av v) : qg P C' w H Φ os (qcF av) v := by
 unfold qcF
 cases hl : av.lowGh with
 | true => exact qg.ctxL hg hp hM hw hl h
 | false => trivial
theorem qii : ∀ {l : List (Nat × AV)} {t : Nat} {av : AV}, lk (qhr l) t = some av → ∃ u b, t = 20000000 + u ∧ lk l u = some b ∧ av = qiE u b
 | [], _, _, h => by cases h
 | (u, b) :: l, t, av, h => by
  rw [qhr, jD] at h
  cases hb : Nat.beq (20000000 + u) t with
  | true =>
   rw [hb] at h
   cases h
   obtain rfl := Nat.eq_of_beq_eq_true hb
   exact ⟨u, b, rfl, by rw [jD, Nat.beq_refl]; rfl, rfl⟩
  | false =>
   rw [hb] at h
   obtain ⟨u', b', rfl, h2, h3⟩ := qii h
   refine ⟨u', b', rfl, ?_, h3⟩
   rw [jD]
   have : Nat.beq u u' = false := by
    cases hq : Nat.beq u u' with
    | false => rfl
    | true => rw [Nat.eq_of_beq_eq_true hq, Nat.beq_refl] at hb; cases hb
   rw [this]
   exact h2
theorem qg8 : ∀ {l : List (Nat × AV)} {t : Nat} {av : AV}, lk (qio l) t = some av → ∃ b, lk l (20000000 + t) = some b ∧ av = qeM (20000000 + t) b
 | [], _, _, h => by cases h
 | (u, b) :: l, t, av, h => by
  rw [qio] at h
  cases hv : Nat.ble 20000000 u with
  | true =>
   have hu := Nat.le_of_ble_eq_true hv
   rw [hv, cond_true, jD] at h
   cases hb : Nat.beq (u - 20000000) t with
   | true =>
    rw [hb] at h
    cases h
    obtain rfl := Nat.eq_of_beq_eq_true hb
    refine ⟨b, ?_, ?_⟩
    ·rw [jD, show 20000000 + (u - 20000000) = u by omega, Nat.beq_refl]; rfl
    ·rw [show 20000000 + (u - 20000000) = u by omega]
   | false =>
    rw [hb] at h
    obtain ⟨b', h2, h3⟩ := qg8 h
    refine ⟨b', ?_, h3⟩
    rw [jD]
    have : Nat.beq u (20000000 + t) = false := by
     cases hq : Nat.beq u (20000000 + t) with
     | false => rfl
     | true =>
      have := Nat.eq_of_beq_eq_true hq
      rw [this, show 20000000 + t - 20000000 = t by omega, Nat.beq_refl] at hb
      cases hb
    rw [this]
    exact h2
  | false =>
   rw [hv, cond_false] at h
   obtain ⟨b', h2, h3⟩ := qg8 h
   refine ⟨b', ?_, h3⟩
   rw [jD]
   have : Nat.beq u (20000000 + t) = false := by
    cases hq : Nat.beq u (20000000 + t) with
    | false => rfl
    | true =>
     have := Nat.eq_of_beq_eq_true hq
     rw [this, Nat.ble_eq_true_of_le (show 20000000 ≤ 20000000 + t by omega)] at hv
     cases hv
   rw [this]
   exact h2
theorem lk_app {α : Type} : ∀ {l r : List (Nat × α)} {t : Nat} {x : α}, lk (l ++ r) t = some x → lk l t = some x ∨ lk r t = some x
 | [], _, _, _, h => .inr h
 | (u, b) :: l, r, t, x, h => by
  rw [List.cons_append, jD] at h
  rw [jD]
  cases hb : Nat.beq u t with
  | true => rw [hb] at h; exact .inl h
  | false => rw [hb] at h; exact lk_app h
theorem qld {Q : AV → Value → Prop} : ∀ {l : List AV} {vs : List Value} {i t : Nat} {av : AV}, j6 Q l vs → lk (argT i l) t = some av → ∃ j b v, t = i + j ∧ vs[j]? = some v ∧ av = qcF b ∧ Q b v
 | [], _, _, _, _, _, h => by cases h
 | b :: l, vs, i, t, av, hr, h => by
  match vs, hr with
  | v :: vs, hr =>
   rw [argT, jD] at h
   cases hb : Nat.beq i t with
   | true =>
    rw [hb] at h
    cases h
    obtain rfl := Nat.eq_of_beq_eq_true hb
    exact ⟨0, b, v, rfl, rfl, rfl, hr.1⟩
   | false =>
    rw [hb] at h
    obtain ⟨j, b', v', h1, h2, h3, h4⟩ := qld hr.2 h
    exact ⟨j + 1, b', v', by omega, by simpa using h2, h3, h4⟩
  | [], hr => exact hr.elim
theorem qh3 (hcfg : qA P cfg) (hs : qk P C s a w H Φ) : ∀ {vs : List ResultVar} {k : List AV → Option R}, qj7 cfg s vs k = some r → ∃ avs us, k avs = some r ∧ j6 (qg P C w H Φ s.obj) avs us ∧ j6 (qe9 P a w) vs us
 | [], k, h => ⟨[], [], h, trivial, trivial⟩
 | v :: vs, k, h => by
  obtain ⟨av, u, h1, h2, h3⟩ := qcJ hcfg hs h
  obtain ⟨avs, us, k1, k2, k3⟩ := qh3 hcfg hs h1
  exact ⟨av :: avs, u :: us, k1, ⟨h2, k2⟩, ⟨h3, k3⟩⟩
theorem qgO {os : Nat → Option Obj} : ∀ {avs : List AV} {us : List Value}, j6 (qg P C w H Φ os) avs us → qg P C w H Φ os (AV.ofList avs) (.tuple us.toArray)
 | [], [], _ => rfl
 | _ :: _, u :: us, h => ⟨u, us, rfl, h.1, qgO h.2⟩
 | [], _ :: _, h => h.elim
 | _ :: _, [], h => h.elim
theorem qlC {os : Nat → Option Obj} {avs : List AV} {us : List Value} (h : j6 (qg P C w H Φ os) avs us) : qg P C w H Φ os (qjr avs) (qaa us) := by
 match avs, us, h with
 | [], [], _ => rfl
 | [a], [u], h => exact h.1
 | a :: b :: l, u :: v :: us, h => exact qgO h
 | [], _ :: _, h => exact h.elim
 | _ :: _, [], h => exact h.elim
 | [_], _ :: _ :: _, h => exact h.2.elim
 | _ :: _ :: _, [_], h => exact h.2.elim
theorem qjm {os : Nat → Option Obj} (hg : ∀ n, n < 20000000 → C'.gh n = C.gh n) (hp : C'.pin = C.pin) (hM : C'.M0 = C.M0) (hw : C'.w0 = C.w0) {m t : Nat} (hm : m = 20000000 + t) {b : AV} {v v0 : Value} (hu : qg P C w H Φ os b v0) (h : ∀ u, C.gh m = some u → (if 20000000 ≤ t then C'.gh t else some v) = some u) : qg P C' w H Φ os (qeM m b) v := by
 unfold qeM
 cases b with
 | gh n x =>
  obtain ⟨u0, q1, q2⟩ := hu
  obtain ⟨z, hz⟩ : ∃ z, z = m - 20000000 := ⟨_, rfl⟩
  rw [← hz]
  show qg P C' w H Φ os (bif Nat.beq n m then qcs z (qcF x) else .dead) v
  cases hn : Nat.beq n m with
  | false => trivial
  | true =>
   have hnm := Nat.eq_of_beq_eq_true hn
   rw [hnm] at q1
   have q3 := h u0 q1
   have hmt : z = t := by omega
   rw [cond_true, hmt]
   unfold qcs
   cases hv : Nat.ble 20000000 t with
   | false =>
    have hult : t < 20000000 := by
     rcases Nat.lt_or_ge t 20000000 with h | h
     ·exact h
     ·rw [Nat.ble_eq_true_of_le h] at hv; cases hv
    rw [if_neg (by omega)] at q3
    cases q3
    exact qg.clean hg hp hM hw q2
   | true =>
    have hge := Nat.le_of_ble_eq_true hv
    rw [if_pos hge] at q3
    exact ⟨u0, q3, qg.clean hg hp hM hw q2⟩
 | _ => trivial
theorem qbT {R : Type} {r : R} : ∀ {l : List (Nat × Sh)} {s : St} {k : St → Option R}, qeh l s k = some r → qk P C s a w H Φ → ∃ s', qk P C s' a w H Φ ∧ k s' = some r
 | [], s, k, h, hs => ⟨s, hs, h⟩
 | (t, .u i q1 q2 tid e) :: l, s, k, h, hs => by
  unfold qeh at h
  split at h
  ·rename_i j p ht
   cases hj : Nat.beq j i && e.noFn with
   | false => rw [hj] at h; cases h
   | true =>
   rw [hj, cond_true] at h
   rw [Bool.and_eq_true] at hj
   split at h
   ·rename_i o ho
    rw [jJ] at h
    obtain ⟨⟨σ, y0⟩, hy0, h⟩ := Option.bind_eq_some_iff.1 h
    rw [ql] at h
    obtain ⟨l2, hl2, h⟩ := Option.bind_eq_some_iff.1 h
    obtain ⟨hσ, hyl⟩ := qbj hl2
    simp only at hσ
    subst hσ
    obtain rfl := eq_of_heq hyl
    exact qbT h (hs.know (qjc hs ho hy0 hj.2 (hs.ts _ _ ht)))
   ·cases h
  ·exact qbT h hs
 | (_, .v _) :: l, s, k, h, hs => qbT (l := l) h hs
 | (_, .r _) :: l, s, k, h, hs => qbT (l := l) h hs
 | (_, .c _) :: l, s, k, h, hs => qbT (l := l) h hs
 | (_, .k _ _ _) :: l, s, k, h, hs => qbT (l := l) h hs
 | (_, .p _ _ _ _) :: l, s, k, h, hs => qbT (l := l) h hs
theorem qlR (hm : P.follows .mixedOrders = true) (hcfg : qA P cfg) {f : FuncId} {fn : Func} {c : Code} (hf : P.funcs[f]? = some fn) (hb : fn.body = some c) (hnt : fn.ntmps = cfg.nt) (hl : qa3 cfg c) (hd : qw cfg c = true) (hcal : jO P f)
  {il : Inl} {dst : Nat} (hg : ∀ d y, il.g d = some y → ∃ n, qbp cfg n fn c il f dst d = some y) : qaU P dst il := by
 intro d y hy C a w hpin hdC hsim
 obtain ⟨H, Φ, hs⟩ := hsim
 obtain ⟨n, hn⟩ := hg d y hy
 unfold qbp at hn
 split at hn
 case h_2 => cases hn
 rename_i g first caps l he1 he2
 cases hq : Nat.beq g f && (first.isTup && (caps.isTup && Nat.ble (first.list ++ l ++ caps.list).length cfg.nt)) with
 | false => rw [hq] at hn; cases hn
 | true =>
 rw [hq, cond_true] at hn
 simp only [Bool.and_eq_true] at hq
 obtain ⟨hgf, ht1, ht2, hlen⟩ := hq
 obtain rfl := Nat.eq_of_beq_eq_true hgf
 have hlen := Nat.le_of_ble_eq_true hlen
 obtain ⟨vs, us, hv, hr1, hr2⟩ := qo hs qD he1
 have l1 := qai (vs := vs.toList) ht1 (by simpa using hr1)
 have l2 := qai (vs := us.toList) ht2 (by simpa using hr2)
 have lm := qbP (jW hs (fun _ _ h => by cases h) he2)
 have hrel := j6.append (j6.append l1 lm) l2
 obtain ⟨args, hargs⟩ : ∃ args, args = vs.toList ++ il.ops.map a.eval ++ us.toList := ⟨_, rfl⟩
 rw [← hargs] at hrel
 have harr : vs ++ (il.ops.map a.eval).toArray ++ us = args.toArray := by
  rw [hargs]
  apply Array.toList_inj.1
  simp
 refine ⟨g, vs, us, hv, hcal, ?_⟩
 rw [harr]
 refine calls_of_wp hf hb ?_
 rw [hnt]
 have hal : args.length = (first.list ++ l ++ caps.list).length := (qgP hrel).symm
 obtain ⟨C', hC'⟩ : ∃ C' : Ctx, C' = ⟨C.w0, C.M0, C.H0, cfg.nt, C.pin, [], fun m => if 20000000 ≤ m then (if 20000000 ≤ m - 20000000 then C.gh (m - 20000000) else some (a.tmps.getD (m - 20000000) undef)) else C.gh m⟩ := ⟨_, rfl⟩
 have hgl : ∀ m, m < 20000000 → C'.gh m = C.gh m := by
  intro m hm
  subst hC'
  exact if_neg (by omega)
 have hgh : ∀ m, 20000000 ≤ m → C'.gh m = if 20000000 ≤ m - 20000000 then C.gh (m - 20000000) else some (a.tmps.getD (m - 20000000) undef) := by
  intro m hm
  subst hC'
  exact if_pos hm
 have hp' : C'.pin = C.pin := by rw [hC']
 have hM' : C'.M0 = C.M0 := by rw [hC']
 have hw' : C'.w0 = C.w0 := by rw [hC']
 have hH' : C'.H0 = C.H0 := by rw [hC']
 have hCok : qG C' cfg := ⟨by rw [hC'], fun id hid => by rw [hp']; exact hpin id hid⟩
 have hob : (qkK (il.ins.fill d) (first.list ++ l ++ caps.list)).obj = (il.ins.fill d).obj := rfl
 have hent : qk P C' (qkK (il.ins.fill d) (first.list ++ l ++ caps.list)) { tmps := args.toArray ++ Array.replicate (cfg.nt - args.toArray.size) undef, defers := [] } w H Φ := by
  refine ⟨by rw [hC'], ?_, by rw [hH']; exact hs.le, hs.hok, by rw [hH', hM', hw']; exact hs.hnew, by rw [hM', hw']; exact hs.mod, ?_, by rw [hob, hM', hw']; exact hs.os, by rw [hob]; exact hs.disj, by rw [hp']; exact hs.pins⟩
  ·rw [hCok.nt]
   simp only [Array.size_append, List.size_toArray, Array.size_replicate]
   omega
  ·intro t av ht
   rw [hob]
   have ht' : lk (argT 0 (first.list ++ l ++ caps.list) ++ qhr (il.ins.fill d).ts) t = some av := ht
   rcases lk_app ht' with ht' | ht'
   ·obtain ⟨j, b, v, h1, h2, rfl, h4⟩ := qld hrel ht'
    rw [Nat.zero_add] at h1
    subst h1
    have hlt := (List.getElem?_eq_some_iff.1 h2).1
    have : (args.toArray ++ Array.replicate (cfg.nt - args.toArray.size) undef).getD t undef = v := by
     rw [Array.getD_eq_getD_getElem?, Array.getElem?_append_left (by simpa using hlt)]
     simp [h2]
    simp only [this]
    exact qg.clean hgl hp' hM' hw' h4
   ·obtain ⟨u, b, rfl, h2, rfl⟩ := qii ht'
    have hu := hs.ts u b h2
    unfold qiE
    cases hv : Nat.ble 20000000 u with
    | false =>
     have hult : u < 20000000 := by
      rcases Nat.lt_or_ge u 20000000 with h | h
      ·exact h
      ·rw [Nat.ble_eq_true_of_le h] at hv; cases hv
     refine ⟨a.tmps.getD u undef, ?_, ?_⟩
     ·rw [hgh _ (by omega), Nat.add_sub_cancel_left, if_neg (by omega)]
     ·exact qg.clean hgl hp' hM' hw' hu
    | true =>
     have hge := Nat.le_of_ble_eq_true hv
     rw [cond_true]
     cases b with
     | gh n x =>
      obtain ⟨u0, k1, k2⟩ := hu
      show qg P C' w H Φ _ (bif Nat.beq n u then _ else _) _
      cases hn : Nat.beq n u with
      | true =>
       obtain rfl := Nat.eq_of_beq_eq_true hn
       refine ⟨u0, ?_, qg.clean hgl hp' hM' hw' k2⟩
       rw [hgh _ (by omega), Nat.add_sub_cancel_left, if_pos hge]
       exact k1
      | false => trivial
     | _ => trivial
 refine wp_mono (qcC hm hcfg hCok c hl hd ⟨H, Φ, hent, trivial⟩ hn) ?_
 have fin : ∀ (s : St) (a' : Act) (w' : World), Sim P C' s a' w' → doneI cfg fn il dst .ret s = some y →
   a'.defers = [] ∧ ∃ v, (results fn a'.tmps).run P w' = .ok v w' ∧ ∃ v0, Ending.returned v = .returned v0 ∧ Sim P C (il.outs.fill y) (a.put (some dst) v0) w' := by
  rintro s a' w' ⟨H2, Φ2, hs2⟩ h
  simp only [doneI] at h
  cases hmp : s.mp.isNone with
  | false => rw [hmp] at h; cases h
  | true =>
  rw [hmp, cond_true] at h
  obtain ⟨avs, us2, h1, h2, h3⟩ := qh3 hcfg hs2 h
  have hdd := hs2.defers
  rw [show C'.ds = [] by rw [hC']] at hdd
  refine ⟨hdd, _, qdz h3, _, rfl, H2, Φ2, ?_⟩
  suffices hsx : qk P C (exitI s dst (qjr avs)) (a.put (some dst) (qaa us2)) w' H2 Φ2 by
   obtain ⟨s2, h5, h6⟩ := qbT h1 hsx
   exact qgA h6 h5
  refine ⟨by rw [qkf]; exact hs.defers, by rw [qjs]; exact hs.size, by rw [← hH']; exact hs2.le, hs2.hok, by rw [← hH', ← hM', ← hw']; exact hs2.hnew, by rw [← hM', ← hw']; exact hs2.mod, ?_, by rw [← hM', ← hw']; exact hs2.os, hs2.disj, by rw [← hp']; exact hs2.pins⟩
  intro t av ht
  have hgl' : ∀ m, m < 20000000 → C.gh m = C'.gh m := fun m hm => (hgl m hm).symm
  have ht' : lk ((dst, qcF (qjr avs)) :: qio s.ts) t = some av := ht
  have hobx : (exitI s dst (qjr avs)).obj = s.obj := rfl
  rw [hobx]
  rw [jD] at ht'
  rw [qcZ (by rw [hs.size]; exact hdC)]
  cases hb : Nat.beq dst t with
  | true =>
   rw [hb] at ht'
   cases ht'
   obtain rfl := Nat.eq_of_beq_eq_true hb
   rw [if_pos rfl]
   exact qg.clean hgl' hp'.symm hM'.symm hw'.symm (qlC h2)
  | false =>
   rw [hb] at ht'
   rw [if_neg (Nat.ne_of_beq_eq_false hb)]
   obtain ⟨b, k1, rfl⟩ := qg8 ht'
   have hu := hs2.ts _ b k1
   refine qjm hgl' hp'.symm hM'.symm hw'.symm rfl hu fun u hu => ?_
   rw [hgh _ (by omega), Nat.add_sub_cancel_left] at hu
   exact hu
 intro e a' w' hp
 cases e with
 | normal => obtain ⟨s, hs, h⟩ := hp; exact fin s a' w' hs.sim h
 | ret => obtain ⟨s, hs, h⟩ := hp; exact fin s a' w' hs.sim h
 | exit i => obtain ⟨s, hs, h⟩ := hp; cases h
 | _ => exact hp.elim
theorem qa7 (hm : P.follows .mixedOrders = true) (hcfg : qA P cfg) {f : FuncId} {fn : Func} (hf : P.funcs[f]? = some fn) (hb : fn.body.isSome = true) (hnt : fn.ntmps = cfg.nt) (hname : (fn.name == "runtime.NumGoroutine") = false)
  {il : Inl} {dst : Nat} (hl : ∀ b ∈ qh (body fn), qdu cfg b) (hd : qw cfg (body fn) = true) (hg : ∀ d y, il.g d = some y → ∃ n, qbp cfg n fn (body fn) il f dst d = some y) : qaU P dst il := by
 have hb2 : fn.body = some (body fn) := by
  unfold body
  cases h : fn.body with
  | none => rw [h] at hb; cases hb
  | some c => rfl
 exact qlR hm hcfg hf hb2 hnt (qbh hl) hd (qbd hf hb2 hname) hg
theorem qdF : ∀ d il, lk ([] : List (Nat × Inl)) d = some il → qaU P d il := by intro _ _ h; cases h
theorem qbl {d0 : Nat} {il0 : Inl} {l : List (Nat × Inl)} (h0 : qaU P d0 il0) (hl : ∀ d il, lk l d = some il → qaU P d il) : ∀ d il, lk ((d0, il0) :: l) d = some il → qaU P d il := by
 intro d il h
 rw [jD] at h
 cases hb : Nat.beq d0 d with
 | true => rw [hb] at h; cases h; rw [← Nat.eq_of_beq_eq_true hb]; exact h0
 | false => rw [hb] at h; exact hl d il h
def regB (fn : Func) : Nat := match body fn with
 | .seq (.region i _ _) _ => i
 | _ => 0
def opB (fn : Func) : Oper := match body fn with
 | .seq (.region _ ops _) _ => match ops[0]? with
  | some o => o
  | none => ⟨none, .move (.tmp 0), 0, "", #[], none⟩
 | _ => ⟨none, .move (.tmp 0), 0, "", #[], none⟩
noncomputable def absFnB (cfg : jM) (n : Nat) (fn : Func) (E : Code) (tb : Nat) (ps : List jZ) (rs : List RTy) (d : PDens ps) : Option (RDens rs × MDens ps) :=
 run cfg n E ((qcb ps d).set tb (.cv 2 0 1000)) (qf3 cfg fn ps rs)
def qfV (fn : Func) : Code := match body fn with
 | .seq _ E => E
 | c => c
theorem fn_doneB (hm : P.follows .mixedOrders = true) (hcfg : qA P cfg) {f : FuncId} {fn : Func} (hf : P.funcs[f]? = some fn) (hnt : fn.ntmps = cfg.nt) (hname : (fn.name == "runtime.NumGoroutine") = false)
  {p : jH} {τ0 : Ty} (hp0 : p.ps[0]? = some (.m τ0)) (hps : Nat.ble p.ps.length cfg.nt = true) {T0 ty1 : TypeId} {i0 tb : Nat} {po1 : String} {af1 : Array Edge} {E : Code}
  (hb : fn.body = some (.seq (.region i0 #[⟨some tb, .box T0 (.tmp 0), ty1, po1, af1, none⟩] false) E)) (htb : Nat.blt tb cfg.nt = true)
  (hl : ∀ b ∈ qh E, qdu cfg b) (hd : qw cfg E = true) (hg : ∀ d y, p.g d = some y → ∃ n, absFnB cfg n fn E tb p.ps p.rs d = some y) : jA P f p := by
 refine ⟨qbd hf hb hname, ?_⟩
 intro d y hy w H vs Φs hok hargs hnd hfr
 obtain ⟨n, hn⟩ := hg d y hy
 refine calls_of_wp hf hb ?_
 rw [hnt]
 have htb : tb < cfg.nt := Eq.mp Nat.blt_eq htb
 have hsim := qfB hok hargs hnd hfr (Nat.le_of_ble_eq_true hps)
 have hC := qfC (cfg := cfg) hargs
 obtain ⟨hvl, _, _, hnodup, _⟩ := qaR (C := qb1 w H cfg.nt p.ps Φs) 0 hargs
 have hps1 : 0 < p.ps.length := (List.getElem?_eq_some_iff.1 hp0).1
 obtain ⟨vp, hvp⟩ : ∃ vp, vs[0]? = some vp := ⟨vs[0]'(by omega), List.getElem?_eq_getElem _⟩
 obtain ⟨φ, hφ1, hφ2⟩ := args_m 0 hargs 0 τ0 vp hp0 hvp
 have hpin : lk (qay p.ps Φs 0) 10000000 = some φ := qg7 hnodup hφ1
 obtain ⟨a0, ha0⟩ : ∃ a0 : Act, a0 = { tmps := vs.toArray ++ Array.replicate (cfg.nt - vs.toArray.size) undef, defers := [] } := ⟨_, rfl⟩
 rw [← ha0] at hsim ⊢
 have e0 : a0.eval (.tmp 0) = vp := by
  show a0.tmps.getD 0 undef = vp
  rw [ha0]
  rw [Array.getD_eq_getD_getElem?, Array.getElem?_append_left (by simp; omega)]
  simp [hvp]
 obtain ⟨w1, hw1⟩ : ∃ w1, w1 = w.alloc (.cells #[vp] T0) := ⟨_, rfl⟩
 have hb1 : w1.heap[w.heap.size]? = some (.cells #[vp] T0 (0, 0)) := by rw [hw1]; exact heap_alloc_new w _
 have hm1 : j7 jP w w1 := by rw [hw1]; exact qbt w _
 obtain ⟨H1, hle1, hHb, hsim1, _⟩ := hsim.newFixed hm1 hb1
 have hsim2 := hsim1.set (d := tb) (av := .cv 2 0 1000) (v := .pointer (some ⟨w.heap.size, 0, none⟩)) (by exact htb) (by
  refine ⟨w.heap.size, [vp], hHb, ⟨rfl, fun j u hj => ?_⟩, rfl⟩
  cases j with
  | zero =>
   obtain rfl : vp = u := by simpa using hj
   exact ⟨φ, hpin, hφ2⟩
  | succ j => simp at hj)
 refine wp_seq (wp_region_list (wpList_plain rfl fun K hK => ?_))
 have r1 : (execOp a0.eval ⟨some tb, .box T0 (.tmp 0), ty1, po1, af1, none⟩).run P w = .ok (.value (.pointer (some ⟨w.heap.size, 0, none⟩))) w1 := by
  have hcl : vp.cells = #[vp] := by rw [hφ2]; rfl
  rw [hw1]
  simp [execOp, Instr.box, qbI, e0, hcl]
 unfold Oper.wp
 rw [r1, Oper.upon_value]
 refine hK _ _ (wpList_nil ?_)
 show Code.wp P E _ (a0.put (some tb) (.pointer (some ⟨w.heap.size, 0, none⟩))) w1
 refine wp_mono (qcC hm hcfg hC E (qbh hl) hd ⟨H1, _, hsim2, trivial⟩ hn) ?_
 have fin : ∀ (s : St) (a' : Act) (w' : World), Sim P (qb1 w H cfg.nt p.ps Φs) s a' w' → qf3 cfg fn p.ps p.rs .ret s = some y →
   a'.defers = [] ∧ ∃ v, (results fn a'.tmps).run P w' = .ok v w' ∧ ∃ us H' Φs' Ψs, Ending.returned v = .returned (qaa us) ∧ j7 (· ∈ qd Φs) w w' ∧ H.le H' ∧ HOk H' w' ∧ (∀ b c, H' b = some c → H b = some c ∨ b ∈ qd Φs ∨ w.heap.size ≤ b) ∧
    qac P w' H' p.rs y.1 us Ψs ∧ jN P w' H' p.ps y.2 vs Φs' ∧ (qd (Ψs ++ Φs')).Nodup ∧ ∀ b ∈ qd (Ψs ++ Φs'), H' b = none ∧ (b ∈ qd Φs ∨ w.heap.size ≤ b) ∧ b < w'.heap.size := by
  rintro s a' w' ⟨H2, Φ2, hs⟩ h
  exact fin_ok (gh := fun _ => none) hcfg hargs hs h
 intro e a' w' hp
 cases e with
 | normal => obtain ⟨s, hs, h⟩ := hp; exact fin s a' w' hs.sim h
 | ret => obtain ⟨s, hs, h⟩ := hp; exact fin s a' w' hs.sim h
 | exit i => obtain ⟨s, hs, h⟩ := hp; cases h
 | _ => exact hp.elim
end
end Go.Vi
