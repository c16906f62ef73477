/- The abstract interpreter 'Vi', twenty-first part: calls. No condition beyond those typed in each theorem. -/
import Derived.Test.YtjhphibadndkcaaVi20
namespace Go.Vi
section
variable {P : Program} {C : Ctx} {cfg : Cfg} {R : Type} {r : R} {s : St} {a : Act} {w : World} {H : FH} {Φ : Nat → Info} {dst : Option Nat} {ty : TypeId} {pos : String} {after : Array Edge} {guard : Option (Nat × Bool)} {k : St → Option R}

theorem St.obj_freeze (s : St) (id j : Nat) : (s.freeze id).obj j = if id = j then none else s.obj j := by
  unfold St.freeze
  cases ho : s.obj id with
  | none =>
    simp only
    split
    · rename_i e; rw [← e]; exact ho
    · rfl
  | some o => exact St.obj_setObj s id j none

theorem SimB.freezeAll : ∀ (ids : List Nat) {s : St} {H : FH}, SimB P C s a w H Φ →
    ∃ Hf, H.le Hf ∧ (∀ b c, Hf b = some c → H b = some c ∨ ∃ id ∈ ids, ∃ o, s.obj id = some o ∧ b ∈ (Φ id).fp) ∧ Fzn w Hf Φ s.obj ids ∧ SimB P C (s.freezeAll ids) a w Hf Φ ∧ ∀ j, (s.freezeAll ids).obj j = if j ∈ ids then none else s.obj j
  | [], s, H, h => ⟨H, FH.le_refl _, fun _ _ hb => .inl hb, (fun id hid => by cases hid), h, fun j => by simp [St.freezeAll]⟩
  | i :: r, s, H, h => by
    obtain ⟨H1, k1, k2, k3, k4⟩ := h.freeze i
    obtain ⟨H2, m1, m2, m3, m4, m5⟩ := SimB.freezeAll r k4
    refine ⟨H2, FH.le_trans k1 m1, ?_, ?_, m4, ?_⟩
    · intro b c hb
      rcases m2 b c hb with hb | ⟨id, hid, o, ho, hbf⟩
      · rcases k2 b c hb with hb | ⟨o, ho, hbf⟩
        · exact .inl hb
        · exact .inr ⟨i, by simp, o, ho, hbf⟩
      · rw [St.obj_freeze] at ho
        split at ho
        · cases ho
        · exact .inr ⟨id, by simp [hid], o, ho, hbf⟩
    · intro id hid o ho b hb c t f hc
      by_cases e : i = id
      · subst e
        exact m1 _ _ (k3 o ho b hb c t f hc)
      · rcases List.mem_cons.1 hid with h1 | hid
        · exact absurd h1.symm e
        · exact m3 id hid o (by rw [St.obj_freeze, if_neg e]; exact ho) b hb c t f hc
    · intro j
      show ((s.freeze i).freezeAll r).obj j = _
      rw [m5 j, St.obj_freeze]
      by_cases h1 : j ∈ r
      · simp [h1]
      · by_cases h2 : i = j
        · simp [h2]
        · have h3 : j ≠ i := fun e => h2 e.symm
          simp [h1, h2, h3]

/-- A call's results. -/
theorem res_ok : ∀ (rs : List RTy) {n : Nat} {d : RDens rs} {us : List Value} {Ψs : List Info} {s : St} {Φ : Nat → Info}, SimB P C s a w H Φ → ResOK P w H rs d us Ψs → (∀ i, n ≤ i → i < n + rs.length → C.pin i = none) →
    (∀ b ∈ fpsOf Ψs, H b = none ∧ (C.M0 b ∨ C.w0.heap.size ≤ b) ∧ b < w.heap.size ∧ ∀ j o, s.obj j = some o → b ∉ (Φ j).fp) → (fpsOf Ψs).Nodup →
    ∃ Φ', SimB P C (resAVs s n rs d).1 a w H Φ' ∧ RepA P C w H Φ' (resAVs s n rs d).1.obj (resAVs s n rs d).2 (.tuple us.toArray) ∧ (resAVs s n rs d).2.isTup = true ∧ ∀ j, j < n → (resAVs s n rs d).1.obj j = s.obj j ∧ Φ' j = Φ j
  | [], n, d, us, Ψs, s, Φ, hs, hr, _, _, _ => by
    obtain ⟨rfl, rfl⟩ := hr
    exact ⟨Φ, hs, rfl, rfl, fun _ _ => ⟨rfl, rfl⟩⟩
  | .v τ :: rs, n, d, us, Ψs, s, Φ, hs, hr, hpin, hb, hnd => by
    obtain ⟨v, vs', φ, Φs', rfl, rfl, hfz, hφ, hv, hr⟩ := hr
    obtain ⟨Φ', h1, h2, h3, h4⟩ := res_ok rs (n := n + 1) hs hr (fun i h1 h2 => hpin i (by omega) (by simp only [List.length_cons]; omega)) (fun b hb' => hb b (by simpa [fpsOf, hφ] using hb')) (by simpa [fpsOf, hφ] using hnd)
    exact ⟨Φ', h1, ⟨v, vs', rfl, ⟨hfz, hv⟩, h2⟩, h3, fun j hj => h4 j (by omega)⟩
  | .own tid e :: rs, n, d, us, Ψs, s, Φ, hs, hr, hpin, hb, hnd => by
    obtain ⟨v, vs', φ, Φs', rfl, rfl, hv, hok, hr⟩ := hr
    have hnd' : φ.fp.Nodup ∧ (fpsOf Φs').Nodup ∧ ∀ b ∈ φ.fp, b ∉ fpsOf Φs' := by
      simp only [fpsOf, List.flatMap_cons, List.nodup_append] at hnd
      exact ⟨hnd.1, hnd.2.1, fun b h1 h2 => hnd.2.2 b h1 b h2 rfl⟩
    have h0 := hs.newObj (Mod.refl _ w) (hpin n (Nat.le_refl _) (by simp only [List.length_cons]; omega)) (row := true) (τ := .list true tid e) (x := d.1) (φ := φ) hok (fun b hb' => by
      obtain ⟨k1, k2, k3, k4⟩ := hb b (by simp [fpsOf, hb'])
      exact ⟨k1, k2, k3, fun j o _ hj => k4 j o hj⟩)
    obtain ⟨Φ', h1, h2, h3, h4⟩ := res_ok rs (n := n + 1) h0 hr (fun i h1 h2 => hpin i (by omega) (by simp only [List.length_cons]; omega)) (fun b hb' => by
      obtain ⟨k1, k2, k3, k4⟩ := hb b (by simp only [fpsOf, List.flatMap_cons, List.mem_append]; exact .inr hb')
      refine ⟨k1, k2, k3, fun j o hj => ?_⟩
      rw [St.newObj, St.obj_setObj] at hj
      split at hj
      · rename_i e1; subst e1; rw [putInfo_same]; exact fun h1 => hnd'.2.2 b h1 hb'
      · rename_i e1; rw [putInfo_ne _ _ (fun e => e1 e.symm)]; exact k4 j o hj) hnd'.2.1
    obtain ⟨h5, h6⟩ := h4 n (by omega)
    refine ⟨Φ', h1, ⟨v, vs', rfl, ⟨⟨true, .list true tid e, d.1⟩, ⟨.list true tid e, d.1⟩, ?_, getV_nil _ _, ?_⟩, h2⟩, h3, fun j hj => ?_⟩
    · show (resAVs ((s.kill n).setObj n _) (n + 1) rs d.2).1.obj n = _
      have h5' := h5
      rw [St.newObj, St.obj_setObj, if_pos rfl] at h5'
      exact h5'
    · simp only [List.isEmpty_nil, Bool.and_self]
      rw [h6, putInfo_same, hv]
    · obtain ⟨h7, h8⟩ := h4 j (by omega)
      refine ⟨?_, by rw [h8, putInfo_ne _ _ (by omega)]⟩
      show (resAVs ((s.kill n).setObj n _) (n + 1) rs d.2).1.obj j = _
      rw [St.newObj, St.obj_setObj, if_neg (by omega)] at h7
      exact h7
  | .optr τ :: rs, n, d, us, Ψs, s, Φ, hs, hr, hpin, hb, hnd => by
    obtain ⟨v, vs', φ, Φs', rfl, rfl, hv, hok, hr⟩ := hr
    have hnd' : φ.fp.Nodup ∧ (fpsOf Φs').Nodup ∧ ∀ b ∈ φ.fp, b ∉ fpsOf Φs' := by
      simp only [fpsOf, List.flatMap_cons, List.nodup_append] at hnd
      exact ⟨hnd.1, hnd.2.1, fun b h1 h2 => hnd.2.2 b h1 b h2 rfl⟩
    have h0 := hs.newObj (Mod.refl _ w) (hpin n (Nat.le_refl _) (by simp only [List.length_cons]; omega)) (row := false) (τ := τ) (x := d.1) (φ := φ) hok (fun b hb' => by
      obtain ⟨k1, k2, k3, k4⟩ := hb b (by simp [fpsOf, hb'])
      exact ⟨k1, k2, k3, fun j o _ hj => k4 j o hj⟩)
    obtain ⟨Φ', h1, h2, h3, h4⟩ := res_ok rs (n := n + 1) h0 hr (fun i h1 h2 => hpin i (by omega) (by simp only [List.length_cons]; omega)) (fun b hb' => by
      obtain ⟨k1, k2, k3, k4⟩ := hb b (by simp only [fpsOf, List.flatMap_cons, List.mem_append]; exact .inr hb')
      refine ⟨k1, k2, k3, fun j o hj => ?_⟩
      rw [St.newObj, St.obj_setObj] at hj
      split at hj
      · rename_i e1; subst e1; rw [putInfo_same]; exact fun h1 => hnd'.2.2 b h1 hb'
      · rename_i e1; rw [putInfo_ne _ _ (fun e => e1 e.symm)]; exact k4 j o hj) hnd'.2.1
    obtain ⟨h5, h6⟩ := h4 n (by omega)
    refine ⟨Φ', h1, ⟨v, vs', rfl, ⟨⟨false, τ, d.1⟩, ⟨τ, d.1⟩, φ.b, 0, ?_, rfl, getV_nil _ _, ?_, hv⟩, h2⟩, h3, fun j hj => ?_⟩
    · show (resAVs ((s.kill n).setObj n _) (n + 1) rs d.2).1.obj n = _
      have h5' := h5
      rw [St.newObj, St.obj_setObj, if_pos rfl] at h5'
      exact h5'
    · rw [h6, putInfo_same]
      exact Loc_nil _ _ _ _
    · obtain ⟨h7, h8⟩ := h4 j (by omega)
      refine ⟨?_, by rw [h8, putInfo_ne _ _ (by omega)]⟩
      show (resAVs ((s.kill n).setObj n _) (n + 1) rs d.2).1.obj j = _
      rw [St.newObj, St.obj_setObj, if_neg (by omega)] at h7
      exact h7

theorem lone_ok {os : Nat → Option Obj} {av : AV} {us : List Value} (ht : av.isTup = true) (h : RepA P C w H Φ os av (.tuple us.toArray)) : RepA P C w H Φ os av.lone (resultV us) := by
  have hl := list_rel ht h
  match av, ht with
  | .nil, _ =>
    match us, hl with
    | [], _ => exact h
  | .cons b .nil, _ =>
    match us, hl with
    | [u], hl => exact hl.1
    | _ :: _ :: _, hl => exact hl.2.elim
  | .cons b (.cons c d), _ =>
    match us, hl with
    | _ :: _ :: _, _ => exact h
    | [_], hl => exact hl.2.elim

theorem lk_mem {α : Type} {n : Nat} {x : α} : ∀ {l : List (Nat × α)}, lk l n = some x → (n, x) ∈ l
  | [], h => by cases h
  | (m, y) :: l, h => by
    rw [lk_cons] at h
    cases hb : Nat.beq m n with
    | true => rw [hb] at h; cases h; obtain rfl := Nat.eq_of_beq_eq_true hb; simp
    | false => rw [hb] at h; exact List.mem_cons_of_mem _ (lk_mem h)
theorem lk_not {α : Type} {n : Nat} : ∀ {l : List (Nat × α)}, lk l n = none → ∀ x ∈ l, x.1 ≠ n
  | [], _, x, hx => by cases hx
  | (m, y) :: l, h, x, hx => by
    rw [lk_cons] at h
    cases hb : Nat.beq m n with
    | true => rw [hb] at h; cases h
    | false =>
      rw [hb] at h
      rcases List.mem_cons.1 hx with rfl | hx
      · exact Nat.ne_of_beq_eq_false hb
      · exact lk_not h x hx
theorem flat_disj {α : Type} {f : α → List Nat} : ∀ {l : List α}, (l.flatMap f).Nodup → ∀ x ∈ l, ∀ y ∈ l, x ≠ y → ∀ b ∈ f x, b ∉ f y
  | [], _, x, hx, _, _, _, _, _ => by cases hx
  | z :: l, h, x, hx, y, hy, hne, b, hb => by
    simp only [List.flatMap_cons, List.nodup_append] at h
    intro hb'
    rcases List.mem_cons.1 hx with rfl | hx2
    · rcases List.mem_cons.1 hy with rfl | hy2
      · exact hne rfl
      · exact h.2.2 b hb b (List.mem_flatMap.2 ⟨y, hy2, hb'⟩) rfl
    · rcases List.mem_cons.1 hy with rfl | hy2
      · exact h.2.2 b hb' b (List.mem_flatMap.2 ⟨x, hx2, hb⟩) rfl
      · exact flat_disj h.2.1 x hx2 y hy2 hne b hb hb'
theorem flat_nodup {f : Nat → List Nat} : ∀ {l : List Nat}, l.Nodup → (∀ x ∈ l, (f x).Nodup) → (∀ x ∈ l, ∀ y ∈ l, x ≠ y → ∀ b ∈ f x, b ∉ f y) → (l.flatMap f).Nodup
  | [], _, _, _ => by simp
  | z :: l, h, h1, h2 => by
    simp only [List.nodup_cons] at h
    simp only [List.flatMap_cons, List.nodup_append]
    refine ⟨h1 z (by simp), flat_nodup h.2 (fun x hx => h1 x (by simp [hx])) (fun x hx y hy => h2 x (by simp [hx]) y (by simp [hy])), ?_⟩
    rintro b hb _ hb' rfl
    obtain ⟨y, hy, hb'⟩ := List.mem_flatMap.1 hb'
    exact h2 z (by simp) y (by simp [hy]) (by rintro rfl; exact h.1 hy) b hb hb'

/-- Behind the call. -/
theorem after_call (hcfg : CfgOK P cfg) (hC : CtxOK C cfg) {s0 : St} {H0 H2 Hf : FH} {w' : World} (hs : SimB P C s0 a w H0 Φ) (hd : dstOK cfg.nt dst = true) (hle : H0.le H2) (hok2 : HOk H2 w') {p : Prim} (hrs : p.rs.length < 1000)
    {l : List AV} {vs us : List Value} {d : PDens p.ps} {y : RDens p.rs × MDens p.ps} {Φs Φs' Ψs : List Info} (hm : Mod (· ∈ fpsOf Φs) w w') (hnew2 : ∀ b c, H2 b = some c → H0 b = some c ∨ b ∈ fpsOf Φs ∨ w.heap.size ≤ b)
    (hmr : MutR s0.obj Φ p.ps l Φs) (hargs : ArgsOK P w Hf p.ps d vs Φs) (hmu : MutsOK P w' H2 p.ps y.2 vs Φs') (hres : ResOK P w' H2 p.rs y.1 us Ψs) (hnd : (fpsOf (Ψs ++ Φs')).Nodup)
    (hall : ∀ b ∈ fpsOf (Ψs ++ Φs'), H2 b = none ∧ (b ∈ fpsOf Φs ∨ w.heap.size ≤ b) ∧ b < w'.heap.size) (hms : (mutsOf p.ps l).Nodup) :
    Sim P C ((resAVs (afterMuts (s0.killIf AV.isUpd) p.ps l y.2) (1000 * (dst.getD 0 + 1)) p.rs y.1).1.setDst dst (resAVs (afterMuts (s0.killIf AV.isUpd) p.ps l y.2) (1000 * (dst.getD 0 + 1)) p.rs y.1).2.lone) (a.put dst (resultV us)) w' := by
  obtain ⟨ML, h1, h2, h3, h4, h5⟩ := muts_list hmr hargs hmu
  obtain ⟨F, g1, g2, g3⟩ := h5 (s0.killIf AV.isUpd)
  rw [← h1] at hms
  have g3 := g3 hms
  have hfpsapp : fpsOf (Ψs ++ Φs') = fpsOf Ψs ++ fpsOf Φs' := by simp [fpsOf]
  rw [hfpsapp] at hnd hall
  simp only [List.nodup_append] at hnd
  obtain ⟨hnd1, hnd2, hnd3⟩ := hnd
  have hmay : ∀ b ∈ fpsOf Φs, C.M0 b ∨ C.w0.heap.size ≤ b := by
    intro b hb
    rw [h3] at hb
    obtain ⟨x, hx, hb⟩ := List.mem_flatMap.1 hb
    obtain ⟨o, ho, _⟩ := h4 x hx
    exact ((hs.os _ o ho).2 b hb).2.1
  -- an object that the call did not change
  have hother : ∀ j o', lk ML j = none → s0.obj j = some o' → ∀ b ∈ (Φ j).fp, b ∉ fpsOf Φs ∧ b < w.heap.size ∧ H0 b = none := by
    intro j o' hj hoj b hb
    refine ⟨fun hb' => ?_, ((hs.os j o' hoj).2 b hb).2.2, ((hs.os j o' hoj).2 b hb).1⟩
    rw [h3] at hb'
    obtain ⟨x, hx, hb'⟩ := List.mem_flatMap.1 hb'
    obtain ⟨o, ho, _⟩ := h4 x hx
    exact hs.disj x.1 j o o' (lk_not hj x hx) ho hoj b hb' hb
  have hapart : ∀ b, (b ∈ fpsOf Φs ∨ w.heap.size ≤ b) → ∀ j o', lk ML j = none → s0.obj j = some o' → b ∉ (Φ j).fp := by
    intro b hb j o' hj hoj hbj
    obtain ⟨k1, k2, _⟩ := hother j o' hj hoj b hbj
    rcases hb with hb | hb
    · exact k1 hb
    · omega
  have hmay2 : ∀ b, (b ∈ fpsOf Φs ∨ w.heap.size ≤ b) → C.M0 b ∨ C.w0.heap.size ≤ b := by
    rintro b (hb | hb)
    · exact hmay b hb
    · exact .inr (Nat.le_trans hs.mod.size hb)
  have hinΦ' : ∀ id x, lk ML id = some x → ∀ b ∈ x.2, b ∈ fpsOf Φs' := by
    intro id x hx b hb
    rw [h2]
    exact List.mem_flatMap.2 ⟨(id, x), lk_mem hx, hb⟩
  have hsim : SimB P C (afterMuts (s0.killIf AV.isUpd) p.ps l y.2) a w' H2 (chInfo (lk ML) Φ) := by
    refine hs.changes (ch := lk ML) (F := fun av => AV.isUpd av || F av) ?_ g3 ?_ ?_ ?_ hle hok2 ?_ (hs.mod.trans_new hm hmay) hm.size ?_ ?_ ?_
    · intro id x hx
      exact h4 (id, x) (lk_mem hx)
    · intro t
      rw [g1, St.get_killIf]
      cases s0.get t with
      | none => rfl
      | some av => simp [killIf_killIf]
    · intro id x hx av hst
      simp [g2 (id, x) (lk_mem hx) av hst]
    · intro av hu; simp [hu]
    · intro b c hb
      rcases hnew2 b c hb with hb | hb | hb
      · exact hs.hnew b c hb
      · exact .inr (hmay b hb)
      · exact .inr (.inr (Nat.le_trans hs.mod.size hb))
    · intro j o' hj hoj b hb
      obtain ⟨k1, k2, k3⟩ := hother j o' hj hoj b hb
      refine ⟨hm.block b k2 k1, ?_⟩
      cases hq : H2 b with
      | none => rfl
      | some c =>
        rcases hnew2 b c hq with h | h | h
        · rw [k3] at h; cases h
        · exact absurd h k1
        · omega
    · intro id x hx b hb
      obtain ⟨k1, k2, k3⟩ := hall b (List.mem_append.2 (.inr (hinΦ' id x hx b hb)))
      exact ⟨k1, hmay2 b k2, k3, hapart b k2⟩
    · intro i j x y' hij hx hy b hb
      rw [h2] at hnd2
      exact flat_disj hnd2 (i, x) (lk_mem hx) (j, y') (lk_mem hy) (by intro e; cases e; exact hij rfl) b hb
  have hdn : dst.getD 0 < 5000 := by
    cases dst with
    | none => decide
    | some d' => exact Nat.lt_of_lt_of_le (Eq.mp Nat.blt_eq hd : d' < cfg.nt) hcfg.small
  obtain ⟨Φ', k1, k2, k3, _⟩ := res_ok p.rs (n := 1000 * (dst.getD 0 + 1)) hsim hres (fun i _ hi => hC.pin i (by omega)) (by
    intro b hb
    obtain ⟨q1, q2, q3⟩ := hall b (List.mem_append.2 (.inl hb))
    refine ⟨q1, hmay2 b q2, q3, fun j o hj => ?_⟩
    rw [g3] at hj
    unfold chInfo
    cases hc : lk ML j with
    | some x =>
      simp only
      exact fun hb' => hnd3 b hb b (hinΦ' j x hc b hb') rfl
    | none =>
      rw [hc] at hj
      exact hapart b q2 j o hc hj) hnd1
  exact ⟨H2, Φ', k1.setDst (by rw [hC.nt]; exact hd) (lone_ok k3 k2)⟩

theorem mutR_fps {os : Nat → Option Obj} : ∀ {ps : List PTy} {l : List AV} {Φs : List Info}, MutR os Φ ps l Φs → fpsOf Φs = (mutsOf ps l).flatMap (fun id => (Φ id).fp) ∧ ∀ id ∈ mutsOf ps l, ∃ o, os id = some o
  | [], l, Φs, h => by obtain ⟨rfl, rfl⟩ := h; exact ⟨rfl, by simp [mutsOf]⟩
  | .v τ :: ps, l, Φs, h => by
    obtain ⟨av, l', φ, Φs1, rfl, rfl, hφ, hm⟩ := h
    obtain ⟨h1, h2⟩ := mutR_fps hm
    exact ⟨by simpa [fpsOf, hφ, mutsOf] using h1, by simpa [mutsOf] using h2⟩
  | .r τ :: ps, l, Φs, h => by
    obtain ⟨av, l', φ, Φs1, rfl, rfl, hφ, hm⟩ := h
    obtain ⟨h1, h2⟩ := mutR_fps hm
    exact ⟨by simpa [fpsOf, hφ, mutsOf] using h1, by simpa [mutsOf] using h2⟩
  | .m τ :: ps, l, Φs, h => by
    obtain ⟨id, l', Φs1, x, rfl, rfl, ho, hm⟩ := h
    obtain ⟨h1, h2⟩ := mutR_fps hm
    exact ⟨by simpa [fpsOf, mutsOf, AV.name] using h1, by simpa [mutsOf, AV.name, ho] using h2⟩
  | .mr tid e :: ps, l, Φs, h => by
    obtain ⟨id, l', Φs1, x, rfl, rfl, ho, hm⟩ := h
    obtain ⟨h1, h2⟩ := mutR_fps hm
    exact ⟨by simpa [fpsOf, mutsOf, AV.name] using h1, by simpa [mutsOf, AV.name, ho] using h2⟩
theorem mutR_congr {os os' : Nat → Option Obj} : ∀ {ps : List PTy} {l : List AV} {Φs : List Info}, (∀ id ∈ mutsOf ps l, os' id = os id) → MutR os Φ ps l Φs → MutR os' Φ ps l Φs
  | [], l, Φs, _, h => h
  | .v τ :: ps, l, Φs, hh, h => by
    obtain ⟨av, l', φ, Φs1, rfl, rfl, hφ, hm⟩ := h
    exact ⟨av, l', φ, Φs1, rfl, rfl, hφ, mutR_congr (by simpa [mutsOf] using hh) hm⟩
  | .r τ :: ps, l, Φs, hh, h => by
    obtain ⟨av, l', φ, Φs1, rfl, rfl, hφ, hm⟩ := h
    exact ⟨av, l', φ, Φs1, rfl, rfl, hφ, mutR_congr (by simpa [mutsOf] using hh) hm⟩
  | .m τ :: ps, l, Φs, hh, h => by
    obtain ⟨id, l', Φs1, x, rfl, rfl, ho, hm⟩ := h
    exact ⟨id, l', Φs1, x, rfl, rfl, by rw [hh id (by simp [mutsOf, AV.name])]; exact ho, mutR_congr (fun j hj => hh j (by simp [mutsOf, hj])) hm⟩
  | .mr tid e :: ps, l, Φs, hh, h => by
    obtain ⟨id, l', Φs1, x, rfl, rfl, ho, hm⟩ := h
    exact ⟨id, l', Φs1, x, rfl, rfl, by rw [hh id (by simp [mutsOf, AV.name])]; exact ho, mutR_congr (fun j hj => hh j (by simp [mutsOf, hj])) hm⟩

theorem ObjOK.closed {w : World} {H H' : FH} {o : Obj} {φ : Info} (hc : o.τ.isClosed = true) (h : ObjOK P w H o φ) : ObjOK P w H' o φ := by
  obtain ⟨h1, h2, h3⟩ := h
  refine ⟨h1, h2, ?_⟩
  cases hr : o.row with
  | false =>
    rw [hr] at h3
    obtain ⟨blk, t, fp', h4, h5, h6⟩ := h3
    exact ⟨blk, t, fp', h4, Rep.closed _ hc h5, h6⟩
  | true =>
    rw [hr] at h3
    obtain ⟨k1, cs, k2, k3⟩ := h3
    exact ⟨k1, cs, k2, Rep.closed _ hc k3⟩
theorem MutsOK.closed {w : World} {H H' : FH} : ∀ {ps : List PTy} {md : MDens ps} {vs : List Value} {Φs : List Info}, ps.all PTy.closed = true → MutsOK P w H ps md vs Φs → MutsOK P w H' ps md vs Φs
  | [], _, _, _, _, h => h
  | .v τ :: ps, md, vs, Φs, hc, h => by
    obtain ⟨v, vs', φ, Φs', e1, e2, e3, h⟩ := h
    exact ⟨v, vs', φ, Φs', e1, e2, e3, MutsOK.closed (by simpa [PTy.closed] using hc) h⟩
  | .r τ :: ps, md, vs, Φs, hc, h => by
    obtain ⟨v, vs', φ, Φs', e1, e2, e3, h⟩ := h
    exact ⟨v, vs', φ, Φs', e1, e2, e3, MutsOK.closed (by simpa [PTy.closed] using hc) h⟩
  | .m τ :: ps, md, vs, Φs, hc, h => by
    simp only [List.all_cons, Bool.and_eq_true] at hc
    obtain ⟨v, vs', φ, Φs', e1, e2, e3, e4, h⟩ := h
    exact ⟨v, vs', φ, Φs', e1, e2, e3, ObjOK.closed hc.1 e4, MutsOK.closed hc.2 h⟩
  | .mr tid e :: ps, md, vs, Φs, hc, h => by
    simp only [List.all_cons, Bool.and_eq_true] at hc
    obtain ⟨v, vs', φ, Φs', e1, e2, e3, e4, h⟩ := h
    exact ⟨v, vs', φ, Φs', e1, e2, e3, ObjOK.closed (by simpa [Ty.isClosed] using Ty.flat_closed e hc.1) e4, MutsOK.closed hc.2 h⟩
theorem ResOK.closed {w : World} {H H' : FH} : ∀ {rs : List RTy} {d : RDens rs} {vs : List Value} {Φs : List Info}, rs.all RTy.closed = true → ResOK P w H rs d vs Φs → ResOK P w H' rs d vs Φs
  | [], _, _, _, _, h => h
  | .v τ :: rs, d, vs, Φs, hc, h => by
    simp only [List.all_cons, Bool.and_eq_true] at hc
    obtain ⟨v, vs', φ, Φs', e1, e2, e3, e4, ⟨cs, e5, e6⟩, h⟩ := h
    exact ⟨v, vs', φ, Φs', e1, e2, e3, e4, ⟨cs, e5, Rep.closed τ (Ty.flat_closed τ hc.1) e6⟩, ResOK.closed hc.2 h⟩
  | .own tid e :: rs, d, vs, Φs, hc, h => by
    simp only [List.all_cons, Bool.and_eq_true] at hc
    obtain ⟨v, vs', φ, Φs', e1, e2, e3, e4, h⟩ := h
    exact ⟨v, vs', φ, Φs', e1, e2, e3, ObjOK.closed (by simpa [Ty.isClosed] using Ty.flat_closed e hc.1) e4, ResOK.closed hc.2 h⟩
  | .optr τ :: rs, d, vs, Φs, hc, h => by
    simp only [List.all_cons, Bool.and_eq_true] at hc
    obtain ⟨v, vs', φ, Φs', e1, e2, e3, e4, h⟩ := h
    exact ⟨v, vs', φ, Φs', e1, e2, e3, ObjOK.closed hc.1 e4, ResOK.closed hc.2 h⟩

theorem callK_ok (hcfg : CfgOK P cfg) (hC : CtxOK C cfg) {f : Nat} {p : Prim} (hp : lk cfg.prims f = some p) {l : List AV} {vs : List Value} (hs : SimB P C s a w H Φ) (hd : dstOK cfg.nt dst = true) (hrel : Rel2 (RepA P C w H Φ s.obj) l vs)
    (h : callK cfg s dst p l k = some r) : ∃ s', k s' = some r ∧ Calls P f vs.toArray w fun e w'' => ∃ v, e = .returned v ∧ Sim P C s' (a.put dst v) w'' := by
  obtain ⟨_, hsound⟩ := hcfg.prims f p hp
  unfold callK at h
  cases hq : apart (mutsOf p.ps l) (touchesOf p.ps l) && Nat.blt p.rs.length 1000 with
  | false => rw [hq] at h; cases h
  | true =>
  rw [hq, cond_true] at h
  rw [Bool.and_eq_true] at hq
  obtain ⟨hap, hrs⟩ := hq
  have hrs : p.rs.length < 1000 := Eq.mp Nat.blt_eq hrs
  obtain ⟨hms, hmt⟩ := apart_ok hap
  obtain ⟨Hf, m1, m2, m3, m4, m5⟩ := SimB.freezeAll (touchesOf p.ps l) hs
  obtain ⟨d, h, Φs, hargs, hmr⟩ := argsK_ok hcfg hs m1 m3 hrel h
  rw [derefK_eq] at h
  replace h := Option.bind_eq_some_iff.1 h
  obtain ⟨y, hy, h⟩ := h
  obtain ⟨hfps, hmo⟩ := mutR_fps hmr
  have hnd : (fpsOf Φs).Nodup := by
    rw [hfps]
    refine flat_nodup hms (fun id hid => ?_) (fun i hi j hj hij b hb => ?_)
    · obtain ⟨o, ho⟩ := hmo id hid
      exact (hs.os id o ho).1.2.1
    · obtain ⟨o, ho⟩ := hmo i hi
      obtain ⟨o', ho'⟩ := hmo j hj
      exact hs.disj i j o o' hij ho ho' b hb
  have hnone : ∀ b ∈ fpsOf Φs, Hf b = none ∧ b < w.heap.size := by
    intro b hb
    rw [hfps] at hb
    obtain ⟨id, hid, hb⟩ := List.mem_flatMap.1 hb
    obtain ⟨o, ho⟩ := hmo id hid
    obtain ⟨q1, q2, q3⟩ := (hs.os id o ho).2 b hb
    refine ⟨?_, q3⟩
    cases hq : Hf b with
    | none => rfl
    | some c =>
      rcases m2 b c hq with h1 | ⟨id2, hid2, o2, ho2, hb2⟩
      · rw [q1] at h1; cases h1
      · exact absurd hb2 (hs.disj id id2 o o2 (by rintro rfl; exact hmt id hid hid2) ho ho2 b hb)
  have hc := hsound d y hy w Hf vs Φs m4.hok hargs hnd hnone
  refine ⟨_, h, hc.mono ?_⟩
  rintro e w'' ⟨us, H', Φs', Ψs, he, hm, hle, hok', hnew, hres, hmu, hnd2, hall⟩
  refine ⟨_, he, ?_⟩
  cases hcl : p.rs.all RTy.closed && p.ps.all PTy.closed with
  | false =>
    rw [cond_false]
    exact after_call hcfg hC m4 hd hle hok' hrs hm hnew (mutR_congr (fun id hid => by rw [m5, if_neg (hmt id hid)]) hmr) hargs hmu hres hnd2 hall hms
  | true =>
    rw [cond_true]
    rw [Bool.and_eq_true] at hcl
    classical
    have htf : ∀ b, (∃ id ∈ touchesOf p.ps l, ∃ o, s.obj id = some o ∧ b ∈ (Φ id).fp) → H b = none := by
      rintro b ⟨id, _, o, ho, hb⟩
      exact ((hs.os id o ho).2 b hb).1
    let H2 : FH := fun b => if (∃ id ∈ touchesOf p.ps l, ∃ o, s.obj id = some o ∧ b ∈ (Φ id).fp) then none else H' b
    have hH2 : ∀ b c, H2 b = some c → H' b = some c ∧ ¬ ∃ id ∈ touchesOf p.ps l, ∃ o, s.obj id = some o ∧ b ∈ (Φ id).fp := by
      intro b c hb
      simp only [H2] at hb
      split at hb
      · cases hb
      · exact ⟨hb, ‹_›⟩
    refine after_call (H2 := H2) hcfg hC hs hd ?_ (fun b c hb => hok' b c (hH2 b c hb).1) hrs hm ?_ hmr hargs (MutsOK.closed hcl.2 hmu) (ResOK.closed hcl.1 hres) hnd2 ?_ hms
    · intro b c hb
      simp only [H2]
      rw [if_neg (fun hh => by rw [htf b hh] at hb; cases hb)]
      exact hle _ _ (m1 _ _ hb)
    · intro b c hb
      obtain ⟨q1, q2⟩ := hH2 b c hb
      rcases hnew b c q1 with q | q | q
      · rcases m2 b c q with q | q
        · exact .inl q
        · exact absurd q q2
      · exact .inr (.inl q)
      · exact .inr (.inr q)
    · intro b hb
      obtain ⟨q1, q2, q3⟩ := hall b hb
      refine ⟨?_, q2, q3⟩
      simp only [H2]
      split
      · rfl
      · exact q1
end
end Go.Vi
