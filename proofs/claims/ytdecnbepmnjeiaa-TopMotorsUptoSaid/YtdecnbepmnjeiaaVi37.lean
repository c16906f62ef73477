/- The abstract interpreter 'Vi', thirty-seventh part: a range over a function, by the interpreter. No condition beyond those typed in each theorem. -/
import Derived.Test.YtdecnbepmnjeiaaVi36
namespace Go.Vi
open Go.RowKit
section
variable {P : Program} {C : Ctx} {cfg : jN} {R : Type} {r : R} {s s' s1 : St} {a a' a1 : Act} {w w' W W' W1 : World} {H H' Hf : FH} {Φ Φ' : Nat → qA} {Φs : List qA} {M O O' : Nat → Prop} {pl : List (Nat × qA)} {nt : Nat} {G : List Nat}
def qfr (P : Program) (f : FuncId) (it : Iter) : Prop := jT P f ∧ it.a.isFz = true ∧ ∀ (d : PDens it.ps) (xs : List it.a.den), it.g d = some xs → ∀ (w : World) (H : FH) (vs : List Value) (Φs : List qA), HOk H w → jS P w H it.ps d vs Φs → (qb Φs).Nodup → (∀ b ∈ qb Φs, H b = none ∧ b < w.heap.size) →
 ∃ cs : Nat → List Value, (∀ (i : Nat) x, xs[i]? = some x → qp P it.a w H x (cs i) []) ∧ qfo P f vs.toArray xs.length (fun i => #[j0 it.a (cs i)]) H (· ∈ qb Φs) w
theorem qaP {s s' : St} (h : ∀ id, s'.obj id = s.obj id) : ∀ {ps : List jR} {i : Nat}, jD s' ps i = jD s ps i
 | [], _ => rfl
 | .v _ :: ps, i => by simp only [jD, qaP h (ps := ps)]
 | .r _ :: ps, i => by simp only [jD, qaP h (ps := ps)]
 | .c _ :: ps, i => by simp only [jD, qaP h (ps := ps)]
 | .m _ :: ps, i => by simp only [jD, qaP h (ps := ps), h]
 | .mr _ _ :: ps, i => by simp only [jD, qaP h (ps := ps), h]
 | .t _ _ :: ps, i => by simp only [jD, qaP h (ps := ps)]
 | .gm _ :: ps, i => by simp only [jD, qaP h (ps := ps)]
 | .cm _ _ :: ps, i => by simp only [jD, qaP h (ps := ps), h]
theorem qg.killU (h : qg P C s a w H Φ) : qg P C (s.killIf AV.isUpd) a w H Φ := by
 refine ⟨h.defers, h.size, h.le, h.hok, h.hnew, h.mod, ?_, h.os, h.disj, h.pins⟩
 intro t av ht
 rw [St.get_killIf] at ht
 obtain ⟨av0, h0, rfl⟩ := Option.map_eq_some_iff.1 ht
 exact qi.transfer AV.isUpd (FH.le_refl H) (fun _ _ _ _ hh => hh) (fun _ _ _ _ hh => hh) (fun _ _ _ _ _ _ hf _ => by cases hf) av0 _ (h.ts t av0 h0)
theorem qik (s : St) : (s.killIf AV.isUpd).calm := by
 intro t av ht
 rw [St.get_killIf] at ht
 obtain ⟨av0, _, rfl⟩ := Option.map_eq_some_iff.1 ht
 exact qcm av0
def Mid (P : Program) (w : World) (Hf : FH) (M : Nat → Prop) (pl : List (Nat × qA)) (nt : Nat) (s : St) (a : Act) (O : Nat → Prop) (W : World) : Prop :=
 ∃ H' Φ', qg P (qdI w M pl nt O W H') s a W H' Φ' ∧ s.calm ∧ Hf.le H' ∧ (∀ b c, H' b = some c → Hf b = some c ∨ M b ∨ w.heap.size ≤ b) ∧ Mod (fun b => M b) w W ∧ ∀ b, O b → b < W.heap.size ∧ H' b = none
theorem Mid.move (h : Mid P w Hf M pl nt s a O W) (hMO : ∀ b, O b → M b ∨ w.heap.size ≤ b) (hg : qfs w.heap.size O O' W W') : Mid P w Hf M pl nt s a O' W' := by
 obtain ⟨H', Φ', hs, hc, hle, hn, hm, hO⟩ := h
 obtain ⟨row, hg, hr, hO'⟩ := hg
 refine ⟨H', Φ', hs.moveK hc ⟨hg.os, hg.tape, hg.output⟩ hg.size ?_ (fun b hb => (hO b hb).2) (fun b hb => ((hO' b).1 hb).imp id And.left), hc, hle, hn, hm.trans_new (N := fun k => some k = row) ⟨hg.os, hg.tape, hg.output, hg.size, fun k hk hne => hg.block k hk (fun e => hne e)⟩ (fun i hi => ?_), fun b hb => ?_⟩
 ·intro b c t f hb e
  refine (hg.block b (Array.getElem?_eq_some_iff.1 e).1 (fun e2 => ?_)).trans e
  rcases hr b e2.symm with h1 | ⟨_, o, ho, hoc⟩
  ·exact hb h1
  ·rw [e] at ho; cases ho; cases hoc
 ·rcases hr i hi.symm with h1 | h1
  ·exact hMO i h1
  ·exact .inr h1.1
 ·rcases (hO' b).1 hb with h1 | h1
  ·exact ⟨Nat.lt_of_lt_of_le (hO b h1).1 hg.size, (hO b h1).2⟩
  ·refine ⟨h1.2, ?_⟩
   cases hq : H' b with
   | none => rfl
   | some c =>
    obtain ⟨t, f, e⟩ := hs.hok b c hq
    have := (Array.getElem?_eq_some_iff.1 e).1
    omega
theorem Mid.run (_hs : qg P (qdI w M pl nt O W H) s a W H Φ) (hle : Hf.le H) (hn : ∀ b c, H b = some c → Hf b = some c ∨ M b ∨ w.heap.size ≤ b) (hm : Mod (fun b => M b) w W) (hO : ∀ b, O b → b < W.heap.size ∧ H b = none) (hok : HOk Hf w) (hfr : ∀ b, M b → Hf b = none)
  (h1 : jW P (qdI w M pl nt O W H) s1 a1 W1) : Mid P w Hf M pl nt (s1.killIf AV.isUpd) a1 O W1 ∧ KeepsFrom w.heap.size W W1 ∧ qcx Hf W W1 ∧ qfq O W W1 := by
 obtain ⟨H1, Φ1, h1, _⟩ := h1
 have hM : ∀ i, (qdI w M pl nt O W H).M0 i → M i ∨ w.heap.size ≤ i := fun i hi => hi.1
 refine ⟨⟨H1, Φ1, (h1.rebaseK hm.size (fun b hb => (hO b hb).1)).killU, qik s1, FH.le_trans hle h1.le, ?_, hm.trans_new h1.mod hM, fun b hb => ⟨Nat.lt_of_lt_of_le (hO b hb).1 h1.mod.size, ?_⟩⟩, ⟨h1.mod.size, ?_⟩, ?_, ?_⟩
 ·intro b c hb
  rcases h1.hnew b c hb with h2 | h2 | h2
  ·exact hn b c h2
  ·exact .inr (hM b h2)
  ·exact .inr (.inr (Nat.le_trans hm.size h2))
 ·cases hq : H1 b with
  | none => rfl
  | some c =>
   rcases h1.hnew b c hq with h2 | h2 | h2
   ·have h2' : H b = some c := h2
    rw [(hO b hb).2] at h2'; cases h2'
   ·exact absurd hb h2.2.2
   ·exact absurd (hO b hb).1 (Nat.not_lt.2 h2)
 ·intro k o _ hk ho
  refine (h1.mod.block k (Array.getElem?_eq_some_iff.1 hk).1 ?_).trans hk
  rintro ⟨_, ⟨c, t, f, e⟩, _⟩
  have e' : W.heap[k]? = some (.cells c t f) := e
  rw [hk] at e'
  cases e'
  cases ho
 ·intro b c hb
  obtain ⟨t, f, e⟩ := hok b c hb
  have hlt := (Array.getElem?_eq_some_iff.1 e).1
  refine h1.mod.block b (Nat.lt_of_lt_of_le hlt hm.size) ?_
  rintro ⟨h2 | h2, _⟩
  ·rw [hfr b h2] at hb; cases hb
  ·exact absurd hlt (Nat.not_lt.2 h2)
 ·intro b hb
  exact h1.mod.block b (hO b hb).1 (fun h2 => h2.2.2 hb)
def After (P : Program) (w : World) (Hf : FH) (Φs : List qA) (G : List Nat) (ps : List jR) (vs : List Value) (md : MDens ps) (W : World) : Prop :=
 ∃ H' Φs', Mod (· ∈ qb Φs ++ G) w W ∧ Hf.le H' ∧ HOk H' W ∧ (∀ b c, H' b = some c → Hf b = some c ∨ b ∈ qb Φs ++ G ∨ w.heap.size ≤ b) ∧ jQ P W H' ps md vs Φs' ∧ (qb Φs').Nodup ∧ ∀ b ∈ qb Φs', H' b = none ∧ (b ∈ qb Φs ++ G ∨ w.heap.size ≤ b) ∧ b < W.heap.size
theorem Mid.after {ps : List jR} {d : PDens ps} {vs : List Value} {md : MDens ps} (hargs : jS P w Hf ps d vs Φs) (hpn : ((jX ps Φs 0).map (·.1)).Nodup) (h : Mid P w Hf (· ∈ qb Φs ++ G) (jX ps Φs 0) nt s a O W) (hom : jD s ps 0 = some md) : After P w Hf Φs G ps vs md W := by
 obtain ⟨H', Φ', hs, _, hle, hn, hm, _⟩ := h
 obtain ⟨Φs', k1, k2, k3⟩ := qas hs (FH.le_refl H') (i := 0) hargs (fun x hx => hs.pins.1 x.1 x.2 (qdM hpn hx)) hom
 have hids := qaN (ps := ps) (i := 0)
 refine ⟨H', Φs', hm, hle, hs.hok, hn, k1, ?_, ?_⟩
 ·rw [k2]
  refine qaX hids.2 (fun id hid => ?_) (fun i hi j hj hij b hb' => ?_)
  ·obtain ⟨o, ho⟩ := k3 id hid
   exact (hs.os id o ho).1.2.1
  ·obtain ⟨o, ho⟩ := k3 i hi
   obtain ⟨o', ho'⟩ := k3 j hj
   exact hs.disj i j o o' hij ho ho' b hb'
 ·intro b hb
  rw [k2] at hb
  obtain ⟨j, hj, hbj⟩ := List.mem_flatMap.1 hb
  obtain ⟨o', ho'⟩ := k3 j hj
  obtain ⟨q1, q2, q3⟩ := (hs.os j o' ho').2 b hbj
  refine ⟨q1, ?_, q3⟩
  rcases q2 with q2 | q2
  ·exact q2.1
  ·exact absurd q3 (Nat.not_lt.2 q2)
def qj0 : X → Exit
 | .norm => .normal
 | .exit i => .exit i
 | .ret => .ret
def codeOf : X → Code
 | .norm => .skip
 | .exit i => .exit i
 | .ret => .ret
theorem qkx {x : X} {Q : Exit → Act → World → Prop} (h : Q (qj0 x) a w) : (codeOf x).wp P Q a w := by
 cases x with
 | norm => exact wp_skip h
 | exit i => exact wp_exit h
 | ret => exact wp_ret h
theorem qkE {li : qdw} (hmx : P.follows .mixedOrders = true) (hnT : li.ps.all jR.noT = true) (hcfg : qy P cfg) {p n : Nat} {assign body : Code} {prms : Array Tmp} {gop : Operand} (heq : qiE cfg li p assign body) (hla : qab cfg assign) (hlb : qab cfg body) (hra : qag cfg assign = true) (hrb : qag cfg body = true)
  (hprm : prms.toList = [p]) (hp : p < cfg.nt) (hnt : li.ps.length ≤ cfg.nt) (hok : HOk Hf w) {d : PDens li.ps} {vs : List Value} (hargs : jS P w Hf li.ps d vs Φs) (hnd : (qb Φs).Nodup) (hfr : ∀ b ∈ qb Φs, Hf b = none ∧ b < w.heap.size) (hG : ∀ b ∈ G, Hf b = none ∧ b < w.heap.size ∧ b ∉ qb Φs)
  (hsz : a.tmps.size = cfg.nt) (hvs : vs = li.tl.map fun t => a.tmps.getD t undef) {gf : FuncId} {lb : Array Value} (hg : a.eval gop = .func (.func gf) #[] lb) (hcal : jT P gf) (hfz : li.a.isFz = true) {xs : List li.a.den} {cs : Nat → List Value}
  (hcs : ∀ (i : Nat) x, xs[i]? = some x → qp P li.a w Hf x (cs i) []) (hseq : qfo P gf lb xs.length (fun i => #[j0 li.a (cs i)]) Hf (· ∈ G) w) {o : X × MDens li.ps} (ho : li.g n xs d = some o) {Q : Exit → Act → World → Prop}
  (hend : ∀ (D : Nat) (W : World), w.heap.size ≤ D → After P w Hf Φs G li.ps vs o.2 W → W.heap[D]? = some (.deferred (some [])) → Q (qj0 o.1) { a with defers := { target := .collected D, args := #[] } :: a.defers } W) :
  (Code.rangeFunc gop prms assign body).wp P Q a w := by
 obtain rfl : prms = #[p] := by
  apply Array.ext'
  simpa using hprm
 obtain ⟨_, _, _, hpn, _⟩ := qaA (C := qaL w Hf cfg.nt li.ps Φs) 0 hargs
 have hC : ∀ O W H', qF (qdI w (· ∈ qb Φs ++ G) (jX li.ps Φs 0) cfg.nt O W H') cfg := by
  intro O W H'
  refine ⟨rfl, fun id hid => ?_⟩
  obtain ⟨_, _, h3, _⟩ := qaA (C := qaL w Hf cfg.nt li.ps Φs) 0 hargs
  show lk (jX li.ps Φs 0) id = none
  cases hq : lk (jX li.ps Φs 0) id with
  | none => rfl
  | some φ =>
   have h : pid 0 ≤ id := h3 _ (qbg hq)
   unfold pid at h
   omega
 obtain ⟨aε, haε⟩ : ∃ aε : Act, aε = { tmps := a.tmps, defers := [] } := ⟨_, rfl⟩
 have hsz' : aε.tmps.size = cfg.nt := by rw [haε]; exact hsz
 have hvs' : vs = li.tl.map fun t => aε.tmps.getD t undef := by rw [haε]; exact hvs
 have hde : aε.defers = [] := by rw [haε]
 have hend2 : ∀ {s2 : St} {a2 : Act} {D : Nat} {O : Nat → Prop} {W : World}, Mid P w Hf (· ∈ qb Φs ++ G) (jX li.ps Φs 0) cfg.nt s2 a2 O W → jD s2 li.ps 0 = some o.2 → w.heap.size ≤ D → W.heap[D]? = some (.deferred (some [])) → Q (qj0 o.1) { a with defers := { target := .collected D, args := #[] } :: a.defers } W :=
  fun hM hom hD hh => hend _ _ hD (hM.after hargs hpn hom) hh
 have hstep : ∀ {O O' : Nat → Prop} {A B : World}, Mod (· ∈ qb Φs ++ G) w A → (∀ b, O b → b ∈ qb Φs ++ G ∨ w.heap.size ≤ b) → qfs w.heap.size O O' A B → ∀ b, O' b → b ∈ qb Φs ++ G ∨ w.heap.size ≤ b := by
  rintro O O' A B hm hO ⟨_, _, _, hO'⟩ b hb
  rcases (hO' b).1 hb with h | h
  ·exact hO b h
  ·exact .inr (Nat.le_trans hm.size h.1)
 have hfr2 : ∀ b, b ∈ qb Φs ++ G → Hf b = none := fun b hb => (List.mem_append.1 hb).elim (fun h => (hfr b h).1) (fun h => (hG b h).1)
 refine qkG hg (fun args w' => ?_) ?_ hseq (fun i => rfl) (fun b hb => (hG b hb).2.1)
  (fun i O W => (∀ b, O b → b ∈ qb Φs ++ G ∨ w.heap.size ≤ b) ∧ ∃ md, Mid P w Hf (· ∈ qb Φs ++ G) (jX li.ps Φs 0) cfg.nt (qeo li.tl li.ps (j2 li.ps d md)) aε O W ∧ li.g n (xs.drop i) (j2 li.ps d md) = some o)
  (fun x O W => (∀ b, O b → b ∈ qb Φs ++ G ∨ w.heap.size ≤ b) ∧ ∃ s1 md, Mid P w Hf (· ∈ qb Φs ++ G) (jX li.ps Φs 0) cfg.nt s1 x.2 O W ∧ s1.mp = none ∧ run cfg n body s1 (qh4 li n (xs.drop (x.1 + 1)) (j2 li.ps d md)) = some o)
  (fun c O W => (∀ b, O b → b ∈ qb Φs ++ G ∨ w.heap.size ≤ b) ∧ ∃ s2 a2, c = codeOf o.1 ∧ Mid P w Hf (· ∈ qb Φs ++ G) (jX li.ps Φs 0) cfg.nt s2 a2 O W ∧ jD s2 li.ps 0 = some o.2)
  ?_ ?_ ?_ ?_ ?_ ?_ ?_ ?_
 ·exact qeZ hcal args w'
 ·intro b c hb
  obtain ⟨t, f, e⟩ := hok b c hb
  exact (Array.getElem?_eq_some_iff.1 e).1
 ·rintro i O O' A B ⟨hO, md, hM, hg⟩ hgr
  exact ⟨hstep (by obtain ⟨_, _, _, _, _, _, hm, _⟩ := hM; exact hm) hO hgr, md, hM.move hO hgr, hg⟩
 ·rintro i O O' A B ⟨hO, s1, md, hM, h1, h2⟩ hgr
  exact ⟨hstep (by obtain ⟨_, _, _, _, _, _, hm, _⟩ := hM; exact hm) hO hgr, s1, md, hM.move hO hgr, h1, h2⟩
 ·rintro i O O' A B ⟨hO, s2, a2, e, hM, hom⟩ hgr
  exact ⟨hstep (by obtain ⟨_, _, _, _, _, _, hm, _⟩ := hM; exact hm) hO hgr, s2, a2, e, hM.move hO hgr, hom⟩
 ·-- at the beginning
  have hsim := qc2 hok hargs hnd hfr hnt
  have h0 : qg P (qdI w (· ∈ qb Φs ++ G) (jX li.ps Φs 0) cfg.nt (· ∈ G) w Hf) (qbs li.ps d) { tmps := vs.toArray ++ Array.replicate (cfg.nt - vs.toArray.size) undef, defers := [] } w Hf (fun id => (lk (jX li.ps Φs 0) id).getD (nilI id)) := by
   refine ⟨rfl, hsim.size, FH.le_refl _, hok, fun b c hb => .inl hb, Mod.refl _ _, ?_, ?_, hsim.disj, hsim.pins⟩
   ·intro t av ht
    exact qi.ctx (C := qaL w Hf cfg.nt li.ps Φs) (by rfl) (by rfl) (fun b hb hc => (⟨hb.fz, hb.obj, .inl ⟨hb.may.imp (fun h => List.mem_append_left _ h) (fun h => h), hc, fun h => hb.may.elim (fun h2 => (hG b h).2.2 h2) (fun h2 => absurd hb.lt (Nat.not_lt.2 h2))⟩, hb.lt⟩ : qaG (qdI w (· ∈ qb Φs ++ G) (jX li.ps Φs 0) cfg.nt (· ∈ G) w Hf) w Hf _ _ b)) (hsim.ts t av ht)
   ·intro id o ho
    have h := hsim.os id o ho
    exact ⟨h.1, fun b hb => ⟨(h.2 b hb).1, .inl ⟨(h.2 b hb).2.1.imp (fun h => List.mem_append_left _ h) (fun h => h), h.1.cells b hb, fun h3 => (h.2 b hb).2.1.elim (fun h2 => (hG b h3).2.2 h2) (fun h2 => absurd (h.2 b hb).2.2 (Nat.not_lt.2 h2))⟩, (h.2 b hb).2.2⟩⟩
  have hom : jD (qbs li.ps d) li.ps 0 = some (qbr li.ps d) := qaU _ (fun id o hm => by
   show (lk (jF li.ps 0 d) id).join = some o
   rw [qdM (qaD 0).2 hm]
   rfl)
  obtain ⟨h1, h2⟩ := qhG (tl := li.tl) hnT hargs rfl hpn rfl h0 (FH.le_refl Hf) hom hsz' hde hvs'
  exact ⟨fun b hb => .inl (List.mem_append_right _ hb), qbr li.ps d, ⟨Hf, _, h1, h2, FH.le_refl _, fun b c hb => .inl hb, Mod.refl _ _, fun b hb => ⟨(hG b hb).2.1, (hG b hb).1⟩⟩, by rw [qbo]; exact ho⟩
 ·-- the loop variable
  rintro l m i O W hi ⟨hOw, md, ⟨H', Φ', hs, hc, hle, hn, hm, hO⟩, hgo⟩
  have hx : xs[i]? = some (xs[i]'hi) := List.getElem?_eq_getElem hi
  rw [List.drop_eq_getElem_cons hi, heq.2] at hgo
  have hset := hs.set (d := p) hp (av := .val li.a (xs[i]'hi)) (v := j0 li.a (cs i)) ⟨hfz, cs i, rfl, qp.mono _ hle (by simp) (hcs i _ hx)⟩
  have hact : ({ tmps := ((#[p] : Array Tmp).zip #[j0 li.a (cs i)]).foldl (fun t (x : Tmp × Value) => t.setIfInBounds x.1 x.2) a.tmps, defers := [] } : Act) = aε.put (some p) (j0 li.a (cs i)) := by
   rw [haε]
   simp [Act.put]
  rw [hact]
  refine wpIn_mono (qb3 hmx hcfg (hC O W H') assign hla hra ⟨H', Φ', hset, trivial⟩ hgo) ?_
  rintro e a1 W1 hp1
  cases e with
  | normal =>
   obtain ⟨s1, hs1, h1⟩ := hp1
   simp only [qhk, qjr] at h1
   cases hmp : s1.mp.isNone with
   | false => rw [hmp] at h1; cases h1
   | true =>
    rw [hmp, cond_true] at h1
    obtain ⟨k1, k2, k3, k4⟩ := Mid.run hs hle hn hm hO hok hfr2 hs1
    exact ⟨⟨hOw, _, md, k1, Option.isNone_iff_eq_none.1 hmp, h1⟩, k2, k3, k4⟩
  | exit j => obtain ⟨s1, hs1, h1⟩ := hp1; cases h1
  | ret => obtain ⟨s1, hs1, h1⟩ := hp1; cases h1
  | _ => exact hp1.elim
 ·-- a round
  rintro l m i O a₁ W hi ⟨hOw, s1, md, ⟨H', Φ', hs, hc, hle, hn, hm, hO⟩, hmp, hgo⟩
  refine wpIn_mono (qb3 hmx hcfg (hC O W H') body hlb hrb ⟨H', Φ', hs, by rw [hmp]; trivial⟩ hgo) ?_
  rintro e a2 W2 hp2
  have fin : ∀ {x : X} {s2 : St}, jW P (qdI w (· ∈ qb Φs ++ G) (jX li.ps Φs 0) cfg.nt O W H') s2 a2 W2 → qh4 li n (xs.drop (i + 1)) (j2 li.ps d md) x s2 = some o → ∃ md2, jD (s2.killIf AV.isUpd) li.ps 0 = some md2 ∧ (Mid P w Hf (· ∈ qb Φs ++ G) (jX li.ps Φs 0) cfg.nt (s2.killIf AV.isUpd) a2 O W2 ∧ KeepsFrom w.heap.size W W2 ∧ qcx Hf W W2 ∧ qfq O W W2) ∧
    (match x with | .norm => li.g n (xs.drop (i + 1)) (j2 li.ps (j2 li.ps d md) md2) | e => some (e, md2)) = some o := by
   intro x s2 hs2 h2
   unfold qh4 at h2
   split at h2
   ·rename_i md2 hmd2
    exact ⟨md2, (qaP (s := s2) (s' := s2.killIf AV.isUpd) (fun _ => rfl)).trans hmd2, Mid.run hs hle hn hm hO hok hfr2 hs2, h2⟩
   ·cases h2
  cases e with
  | normal =>
   obtain ⟨s2, hs2, h2⟩ := hp2
   obtain ⟨md2, hom, ⟨⟨H2, Φ2, k1, _, k2, k3, k4, k7⟩, k5, k6, k8⟩, h3⟩ := fin hs2 h2
   simp only at h3
   rw [qbn] at h3
   obtain ⟨q1, q2⟩ := qhG (tl := li.tl) hnT hargs rfl hpn rfl k1 k2 hom hsz' hde hvs'
   exact ⟨k5, k6, k8, hOw, md2, ⟨H2, Φ2, q1, q2, k2, k3, k4, k7⟩, h3⟩
  | exit j =>
   obtain ⟨s2, hs2, h2⟩ := hp2
   obtain ⟨md2, hom, ⟨k1, k5, k6, k8⟩, h3⟩ := fin hs2 h2
   cases h3
   exact ⟨k5, hOw, _, _, rfl, k1, hom⟩
  | ret =>
   obtain ⟨s2, hs2, h2⟩ := hp2
   obtain ⟨md2, hom, ⟨k1, k5, k6, k8⟩, h3⟩ := fin hs2 h2
   cases h3
   exact ⟨k5, hOw, _, _, rfl, k1, hom⟩
  | _ => exact hp2.elim
 ·-- all have come
  rintro D O W hD ⟨_, md, hM, hgo⟩ hh
  rw [List.drop_length, heq.1, qa9] at hgo
  cases hgo
  exact hend2 hM ((qaU _ (fun id o hm => qfd.2 hm)).trans (by rw [qa9])) hD hh
 ·rintro D c O W hD ⟨_, s2, a2, rfl, hM, hom⟩ hh
  exact qkx (hend2 hM hom hD hh)
end
end Go.Vi
