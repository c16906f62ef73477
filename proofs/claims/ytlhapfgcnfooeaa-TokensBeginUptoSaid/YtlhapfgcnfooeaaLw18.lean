/- Plain laws of layer 1: many deals by the document; the document's account. No condition beyond those typed in each theorem. -/
import Derived.Test.YtlhapfgcnfooeaaLw17
namespace Go.Proofs.Try.V
open Go.Vi
set_option maxRecDepth 100000

theorem g63_eq {f : Fair} (hf : Ok f) : g63 (f, ()) = some ((cnt0 f, ()), ()) := by
  have e0 : g63 (f, ()) = F63 fuel f := rfl
  rw [e0]
  have h1 := hf.s8
  have h2 := hf.c8
  have h3 := hf.p0
  have h4 := hf.p1
  have h5 := hf.b0
  have h6 := hf.b1
  have e1 : ∀ {R : Type} (k : Option R), lenK (f.2.2.1.length : Int) k = k := fun k => lenK_in (by omega) (by omega) k
  have e2 : ∀ {R : Type} (k : Option R), lenK (f.2.2.2.1.length : Int) k = k := fun k => lenK_in (by omega) (by omega) k
  have l1 : ∀ {R : Type} (k : Option R), leK 0 f.1 k = k := fun k => leK_in h3 k
  have l2 : ∀ {R : Type} (k : Option R), leK f.1 f.1 k = k := fun k => leK_in (Int.le_refl _) k
  have l3 : ∀ {R : Type} (k : Option R), lenK f.1 k = k := fun k => lenK_in h3 (by omega) k
  have l4 : ∀ {R : Type} (k : Option R), leK 0 f.2.1 k = k := fun k => leK_in h5 k
  have l5 : ∀ {R : Type} (k : Option R), leK f.2.1 f.2.1 k = k := fun k => leK_in (Int.le_refl _) k
  have l6 : ∀ {R : Type} (k : Option R), lenK f.2.1 k = k := fun k => lenK_in h5 (by omega) k
  unfold F63
  simp only [enumK_eq, e1, e2, l1, l2, l3, l4, l5, l6, agreeK_two, agreeK_one]
  rfl
theorem g56_eq {f : Fair} (hf : Ok f) (l : List Deal) (hl : l.length ≤ 200) (hb : ∀ j, j < l.length → bad f l j = false) : g56 (f, l, ()) = some ((stC f l l.length, ()), ()) := by
  have hfu := fuel_ge
  have e0 : g56 (f, l, ()) = F56 fuel f l := rfl
  rw [e0]
  unfold F56
  rw [g63_eq hf, derefK_some]
  have h := loopF (L := L56_3) (fun i => ((l, f, (i : Int), ()), (cnil, stC f l i, ()), ())) ((), (cnil, stC f l l.length, ()), ()) 0 l.length (N := fuel) (by omega)
    (fun N => by simp only [L56_3, B56_3]; rw [dec_f (by omega), cond_false])
    (fun N i _ hi => by
      have hI := Inv.all hf l i fun j hj => hb j (by omega)
      have e64 := g64_eq hf hI (by omega) (gd l (i : Int))
      rw [(bad_ok (hb i hi)).2, if_pos rfl] at e64
      have e1 : ∀ {R : Type} (k : Deal → Option R), getI l (i : Int) k = k (gd l (i : Int)) := fun k => getI_gd (by omega) (by omega) k
      simp only [L56_3, B56_3]
      rw [dec_t (by omega), cond_true]
      simp only [enumK_eq, e1, e64, derefK_some, agreeK_two, agreeK_one]
      rw [wI (by omega) (by omega)]
      rfl)
  have h' : L56_3 fuel ((l, f, 0, ()), (([], ([], (([] : List (Int × Int)), ([], (0 : Int))))), cnt0 f, ()), ()) = _ := h
  rw [h', derefK_some]
theorem g34_eq (f : Fair) (hs : Sized f) (l : List Deal) : g34 (f, l, ()) = some ((match wrong f l with | some x => (x.1, x.2, ()) | none => (0, 0, ())), ()) := by
  have hfu := fuel_ge
  have e0 : g34 (f, l, ()) = F34 fuel f l := rfl
  rw [e0]
  unfold F34 wrong
  rw [g19_eq f hs, derefK_some]
  by_cases hv : fairOK f = false
  · rw [hv]; rfl
  have hv' : fairOK f = true := by simpa using hv
  rw [if_neg hv, hv', if_pos rfl, show ((0 : Int) != 0) = false from rfl, cond_false]
  by_cases hl : 200 < l.length
  · rw [dec_t (by omega), cond_true, if_pos hl]
  have hf := Ok.of hv'
  rw [dec_f (by omega), cond_false, if_neg hl, g63_eq hf, derefK_some]
  have h := loopFirst (L := L34_9) (fun i => ((l, f, lastT l i, (i : Int), ()), (stC f l i, ()), ())) l.length (bad f l) (fun i => .inl (((i : Int), 11, ()), (), ())) (.inr ((), (), ())) 0 (N := fuel) (by omega)
    (fun N _ => by simp only [L34_9, B34_9]; rw [dec_f (by omega), cond_false])
    (fun N i _ hi hb => by
      have hI := Inv.all hf l i hb
      have e64 := g64_eq hf hI (by omega) (gd l (i : Int))
      have e1 : ∀ {R : Type} (k : Deal → Option R), getI l (i : Int) k = k (gd l (i : Int)) := fun k => getI_gd (by omega) (by omega) k
      simp only [L34_9, B34_9]
      rw [dec_t (by omega), cond_true]
      simp only [enumK_eq, e1, e64, g44_eq, derefK_some, agreeK_two, agreeK_one]
      unfold bad
      cases hok : okD f (stC f l i) (gd l (i : Int)) with
      | false => rw [Bool.and_false]; rfl
      | true =>
        cases rng (gd l (i : Int)).1 (lastT l i) 1440 with
        | false => rfl
        | true =>
          rw [if_pos rfl, wI (by omega) (by omega)]
          rfl)
  have h' : L34_9 fuel ((l, f, 0, 0, ()), (cnt0 f, ()), ()) = _ := h
  simp only
  rw [h', derefK_some]
  cases first l.length (bad f l) <;> rfl
theorem g35_eq (f : Fair) (hs : Sized f) (l : List Deal) : g35 (f, l, ()) = some ((match wrong f l with | some x => (cnil, x.2, ()) | none => (stC f l l.length, 0, ())), ()) := by
  have e0 : g35 (f, l, ()) = F35 fuel f l := rfl
  rw [e0]
  unfold F35
  rw [g34_eq f hs l, derefK_some]
  cases h : wrong f l with
  | none =>
    obtain ⟨hf, _, hl, hb⟩ := wrong_none h
    simp only
    rw [show ((0 : Int) != 0) = false from rfl, cond_false, g56_eq hf l hl hb]
    rfl
  | some x =>
    simp only
    rw [bne_iff_ne.2 (wrong_ne h), cond_true]
    rfl

/-! ## The document's account -/
theorem g57_eq (l : List Int) (hl : l.length ≤ 1000000) (hb : ∀ i, i ≤ l.length → -4000000000000000000 ≤ 0 + (l.take i).sum ∧ 0 + (l.take i).sum ≤ 4000000000000000000) : g57 (l, ()) = some ((l.sum, ()), ()) := by
  have hfu := fuel_ge
  have e0 : g57 (l, ()) = F57 fuel l := rfl
  rw [e0]
  unfold F57
  have a1 := loopSum (L := L57_3) (fun s i => ((l, s, (i : Int), ()), (), ())) l (fun s => ((s, ()), (), ())) 0 0 (N := fuel) (by omega) hb
    (fun N s => by simp only [L57_3, B57_3]; rw [dec_f (by omega), cond_false])
    (fun N s i _ hi => by simp only [L57_3, B57_3]; rw [dec_t (by omega), cond_true, getI_gd (by omega) (by omega), wI (x := (i : Int) + 1) (by omega) (by omega)]; rfl)
  have a1' : L57_3 fuel ((l, 0, 0, ()), (), ()) = _ := a1
  rw [a1', derefK_some, Int.zero_add]
theorem g57_box {f : Fair} (hf : Ok f) {c : Cnt} {k : Nat} (h : Inv f c k) : g57 (c.2.2.2.1, ()) = some ((c.2.2.2.1.sum, ()), ()) := by
  have h1 := h.lb
  have h2 := hf.b1
  have hsum := hf.sum
  have ht := h.tt
  unfold tot at ht
  have n1 := sum_nn h.ns
  have n2 := sumP_nn h.np
  have n4 := h.nl
  exact g57_eq _ (by omega) (nn_bound h.nb (Int.le_refl _) (by omega))
theorem g57_cash {f : Fair} (hf : Ok f) {c : Cnt} {k : Nat} (h : Inv f c k) (hk : k ≤ 200) : g57 (c.2.1, ()) = some ((c.2.1.sum, ()), ()) := by
  have h1 := h.lc
  have h2 := hf.s8
  refine g57_eq _ (by omega) fun i _ => ?_
  have b := nc_sum (m := 1000000 * ((k : Int) + 1)) h.nc i
  have b' : (c.2.1.length : Int) * (1000000 * ((k : Int) + 1)) ≤ 8 * 201000000 := Int.mul_le_mul (by omega) (by omega) (by omega) (by omega)
  omega
theorem g57_cash0 {f : Fair} (hf : Ok f) : g57 (f.2.2.2.1, ()) = some ((f.2.2.2.1.sum, ()), ()) := g57_cash hf (.zero hf) (by omega)
theorem gd_take' {α : Type} [Inhabited α] {l : List α} {k i : Nat} (h : i < k) : gd (l.take k) (i : Int) = gd l (i : Int) := by
  unfold gd
  rw [List.getD_eq_getElem?_getD, List.getD_eq_getElem?_getD, List.getElem?_take_of_lt (by omega)]
theorem g56_take {f : Fair} (hf : Ok f) (l : List Deal) (hl : l.length ≤ 200) (hb : ∀ j, j < l.length → bad f l j = false) (m : Nat) (hm : m ≤ l.length) : g56 (f, l.take m, ()) = some ((stC f l m, ()), ()) := by
  have hlen : (l.take m).length = m := by rw [List.length_take]; omega
  rw [g56_eq hf (l.take m) (by omega) fun j hj => ?_, hlen, stC_congr fun j hj => gd_take' hj]
  rw [hlen] at hj
  rw [bad_congr (l' := l) fun i hi => gd_take' (by omega)]
  exact hb j (by omega)
theorem g30_eq (f : Fair) (hs : Sized f) (l : List Deal) : g30 (f, l, ()) = some ((match wrong f l with | some x => (nt0, x.2, ()) | none => (acct f l, 0, ())), ()) := by
  have hfu := fuel_ge
  have e0 : g30 (f, l, ()) = F30 fuel f l := rfl
  rw [e0]
  unfold F30
  rw [g34_eq f hs l, derefK_some]
  cases h : wrong f l with
  | some x =>
    simp only
    rw [bne_iff_ne.2 (wrong_ne h), cond_true]
    rfl
  | none =>
    obtain ⟨hf, _, hl, hb⟩ := wrong_none h
    simp only
    rw [show ((0 : Int) != 0) = false from rfl, cond_false]
    have a1 := loopF (L := L30_6) (fun i => ((l, f, (i : Int), ()), (nt0, ((stT f l i).1, (stT f l i).2.1, (stT f l i).2.2.1, 0, 0, 0), ()), ())) ((l, f, ()), (nt0, ((stT f l l.length).1, (stT f l l.length).2.1, (stT f l l.length).2.2.1, 0, 0, 0), ()), ()) 0 l.length (N := fuel) (by omega)
      (fun N => by simp only [L30_6, B30_6]; rw [dec_f (by omega), cond_false])
      (fun N i _ hi => by
        have hbi : ∀ j, j < i → bad f l j = false := fun j hj => hb j (by omega)
        have hI := Inv.all hf l i hbi
        have hI1 := Inv.all hf l (i + 1) fun j hj => hb j (by omega)
        have hN := NInv.all hf l (i + 1) fun j hj => hb j (by omega)
        obtain ⟨_, hok⟩ := bad_ok (hb i hi)
        have p1 := g56_take hf l hl hb i (by omega)
        have p2 := g56_take hf l hl hb (i + 1) (by omega)
        have s1 := g57_box hf hI
        have s2 := g57_box hf hI1
        have x0 := hN.s0
        have x1 := hN.s1
        have x2 := hN.t0
        have x3 := hN.t1
        have x4 := hN.r0
        have x5 := hN.r1
        have w0 : IntKind.wrap .i64 ((i : Int) + 1) = ((i + 1 : Nat) : Int) := by rw [wI (by omega) (by omega)]; omega
        simp only [L30_6, B30_6]
        rw [dec_t (by omega), cond_true]
        have g1 : ∀ {R : Type} (k : Deal → Option R), getI l (i : Int) k = k (gd l (i : Int)) := fun k => getI_gd (by omega) (by omega) k
        have l1 : ∀ {R : Type} (k : Option R), leK 0 (i : Int) k = k := fun k => leK_in (by omega) k
        have l2 : ∀ {R : Type} (k : Option R), leK (i : Int) (l.length : Int) k = k := fun k => leK_in (by omega) k
        have l3 : ∀ {R : Type} (k : Option R), leK 0 ((i + 1 : Nat) : Int) k = k := fun k => leK_in (by omega) k
        have l4 : ∀ {R : Type} (k : Option R), leK ((i + 1 : Nat) : Int) (l.length : Int) k = k := fun k => leK_in (by omega) k
        simp only [g1, w0, Int.toNat_natCast, p1, p2, s1, s2, derefK_some, enumK_eq, l1, l2, l3, l4, agreeK_two, agreeK_one, bindV_eq]
        have e1 : stC f l (i + 1) = stepD f (stC f l i) (gd l (i : Int)) := rfl
        have e2 : stT f l (i + 1) = nightD f (stC f l i) (gd l (i : Int)) (stT f l i) := rfl
        rw [e2] at x0 x1 x2 x3 x4 x5
        rw [e1, e2]
        revert hok x0 x1 x2 x3 x4 x5
        generalize gd l (i : Int) = d
        obtain ⟨at', kd, a, b, n⟩ := d
        intro hok x0 x1 x2 x3 x4 x5
        unfold okD at hok
        unfold nightD at x0 x1 x2 x3 x4 x5 ⊢
        unfold stepD
        simp only at hok x0 x1 x2 x3 x4 x5 ⊢
        by_cases k1 : kd = 1
        · subst k1
          simp only [Int.reduceBEq, cond_true, Bool.and_eq_true, rng_iff] at hok x0 x1 x2 x3 x4 x5 ⊢
          rw [getI_gd (by omega) (by omega), wI (by omega) (by omega)]
        by_cases k2 : kd = 2
        · subst k2
          simp only [Int.reduceBEq, cond_true, cond_false, Bool.and_eq_true, rng_iff] at hok x0 x1 x2 x3 x4 x5 ⊢
          by_cases hlt : at' < (gd (stC f l i).2.2.1 a).2
          · simp only [dec_t hlt, cond_true] at x0 x1 x2 x3 x4 x5 ⊢
            rw [Int.sub_self, show IntKind.wrap .i64 0 = 0 from wI (by omega) (by omega), Int.add_zero, wI (by omega) (by omega)]
          · simp only [dec_f hlt, cond_false] at x0 x1 x2 x3 x4 x5 ⊢
            rw [sum_ad (by omega) (by omega), show (stC f l i).2.2.2.1.sum + n - (stC f l i).2.2.2.1.sum = n by omega, wI (x := n) (by omega) (by omega), wI (by omega) (by omega)]
        by_cases k3 : kd = 3
        · subst k3
          simp only [Int.reduceBEq, cond_true, cond_false]
        by_cases k4 : kd = 4
        · subst k4
          simp only [Int.reduceBEq, cond_true, cond_false] at x0 x1 x2 x3 x4 x5 ⊢
          rw [wI (by omega) (by omega)]
        rw [beq_false_of_ne k1, beq_false_of_ne k2, beq_false_of_ne k3, beq_false_of_ne k4]
        simp only [cond_false]
        cases kd == 7 <;> rfl)
    have a1' : L30_6 fuel ((l, f, 0, ()), (((0 : Int), ((0 : Int), ((0 : Int), ((0 : Int), ((0 : Int), (0 : Int)))))), ((0 : Int), (0 : Int), (0 : Int), (0 : Int), (0 : Int), (0 : Int)), ()), ()) = _ := a1
    rw [a1', derefK_some]
    simp only
    rw [g56_eq hf l hl hb, derefK_some]
    have hI := Inv.all hf l l.length hb
    have hA := AInv.all hf l l.length hb
    have hN := NInv.all hf l l.length hb
    have hsum := hf.sum
    have ht := hI.tt
    unfold tot at ht
    have n1 := sum_nn hI.ns
    have n3 := sum_nn hI.nb
    have n4 := hI.nl
    have hp1 := hf.p1
    have hlp := hI.lp
    obtain ⟨P, hP⟩ : ∃ P, (stC f l l.length).2.2.1.map (·.1) = P := ⟨_, rfl⟩
    have hPl : P.length = (stC f l l.length).2.2.1.length := by rw [← hP, List.length_map]
    have hPn : ∀ x ∈ P, 0 ≤ x := fun x hx => by
      rw [← hP] at hx
      obtain ⟨y, hy, rfl⟩ := List.mem_map.1 hx
      exact hI.np y hy
    have hPs : P.sum = sumP (stC f l l.length).2.2.1 := by rw [← hP]; rfl
    have a2 := loopSum (L := L30_18) (fun s i => ((f, (i : Int), ()), (nt0, ((stT f l l.length).1, (stT f l l.length).2.1, (stT f l l.length).2.2.1, s, 0, 0), stC f l l.length, ()), ())) P (fun s => ((f, ()), (nt0, ((stT f l l.length).1, (stT f l l.length).2.1, (stT f l l.length).2.2.1, s, 0, 0), stC f l l.length, ()), ())) 0 0 (N := fuel) (by omega) (nn_bound hPn (Int.le_refl _) (by omega))
      (fun N s => by simp only [L30_18, B30_18]; rw [dec_f (by omega), cond_false])
      (fun N s i _ hi => by
        have h5 : gd P (i : Int) = (gd (stC f l l.length).2.2.1 (i : Int)).1 := by rw [← hP]; exact gd_map1 (by omega)
        simp only [L30_18, B30_18, bindV_eq]
        rw [dec_t (by omega), cond_true, getI_gd (by omega) (by omega), wI (x := (i : Int) + 1) (by omega) (by omega), h5]
        rfl)
    have a2' : L30_18 fuel ((f, 0, ()), (nt0, ((stT f l l.length).1, (stT f l l.length).2.1, (stT f l l.length).2.2.1, 0, 0, 0), stC f l l.length, ()), ()) = _ := a2
    simp only
    rw [a2', derefK_some]
    simp only [bindV_eq]
    rw [g57_cash hf hI hl, derefK_some, g57_cash0 hf, derefK_some]
    have hc := hA.ct
    have c0 := hN.c0
    have c1 := hN.c1
    simp only
    rw [hA.lt, Int.zero_add, hPs, hc, show f.2.2.2.1.sum + (stT f l l.length).2.2.2.2.2 - f.2.2.2.1.sum = (stT f l l.length).2.2.2.2.2 by omega, wI (by omega) (by omega)]
    rfl
end Go.Proofs.Try.V
