/- The abstract interpreter 'Vi', fourteenth part: slice expressions; the append operation. No condition beyond those typed in each theorem. -/
import Derived.Test.YtjhphibadndkcaaVi13
namespace Go.Vi
section
variable {P : Program} {C : Ctx} {cfg : Cfg} {R : Type} {r : R} {s : St} {a : Act} {w : World} {H : FH} {Φ : Nat → Info} {dst : Option Nat} {ty : TypeId} {pos : String} {after : Array Edge} {guard : Option (Nat × Bool)} {k : St → Option R}

theorem Addr.add_zero' (x : Addr) : x.add 0 = x := rfl

/-- A slice expression's run, at bounds that hold. -/
theorem run_slice_of {t tid : TypeId} {e : Ty} (hu : P.underlying t = some (.slice tid)) (he : TyOK P tid e) (ad : Option Addr) (n cap : Nat) (lo hi : Option Int) (i j : Nat) (hi0 : lo.getD 0 = i) (hj0 : hi.getD n = j) (hij : i ≤ j) (hjc : j ≤ cap) (w : World) (k1 k2 : IntKind) :
    (Instr.sliceAt t (.slice ad n cap) (lo.map (.int k1)) (hi.map (.int k2)) none).run P w = .ok (.slice (if cap = i then ad else ad.map (·.add (i * e.size))) (j - i) (cap - i)) w := by
  cases lo with
  | none =>
    simp only [Option.getD_none] at hi0
    obtain rfl : i = 0 := by omega
    cases hi with
    | none =>
      simp only [Option.getD_none] at hj0
      obtain rfl : n = j := by omega
      simp [Instr.sliceAt, run_underlying hu, Instr.slice, Instr.sliceBounds, he.sizeOf]
    | some h =>
      simp only [Option.getD_some] at hj0
      subst hj0
      simp [Instr.sliceAt, run_underlying hu, Instr.slice, Instr.sliceBounds, Instr.sliceBound, asIntOf, he.sizeOf, hjc]
  | some l =>
    simp only [Option.getD_some] at hi0
    subst hi0
    cases hi with
    | none =>
      simp only [Option.getD_none] at hj0
      obtain rfl : n = j := by omega
      simp [Instr.sliceAt, run_underlying hu, Instr.slice, Instr.sliceBounds, Instr.sliceBound, asIntOf, he.sizeOf, hij]
    | some h =>
      simp only [Option.getD_some] at hj0
      subst hj0
      simp [Instr.sliceAt, run_underlying hu, Instr.slice, Instr.sliceBounds, Instr.sliceBound, asIntOf, he.sizeOf, hjc, hij]

theorem seg_take_drop {c : Array Value} {o n p q : Nat} (hn : q ≤ n) : ((seg c o n).take q).drop p = seg c (o + p) (q - p) := by
  unfold seg
  rw [List.take_take, Nat.min_eq_left hn, List.drop_take, List.drop_drop]

theorem Rep.slice {tid : TypeId} {e : Ty} {l : List e.den} {ad : Option Addr} {cap : Nat} (hr : Rep P (.list false tid e) w H l [.slice ad l.length cap] []) {i j : Nat} (hij : i ≤ j) (hj : j ≤ l.length) :
    Rep P (.list false tid e) w H ((l.take j).drop i) [.slice (if cap = i then ad else ad.map (·.add (i * e.size))) (j - i) (cap - i)] [] := by
  obtain ⟨_, ad', cap', he, hc, hl⟩ := hr
  simp only [List.cons.injEq, Value.slice.injEq, and_true, true_and] at he
  obtain ⟨rfl, rfl⟩ := he
  have hlen : ((l.take j).drop i).length = j - i := by simp [Nat.min_eq_left hj]
  refine ⟨rfl, _, _, by rw [hlen], by rw [hlen]; omega, ?_⟩
  by_cases hz : j = i
  · left
    exact List.length_eq_zero_iff.1 (by rw [hlen]; omega)
  · right
    rcases hl with rfl | ⟨b, o, blk, rfl, hH, hch⟩
    · simp at hj; omega
    · have hci : ¬ cap = i := by omega
      refine ⟨b, o + i * e.size, blk, ?_, hH, ?_⟩
      · rw [if_neg hci]; simp [Addr.add_none]
      · obtain ⟨f1, h1, g1, e1⟩ := Chunks.take (n := e.size) (fun _ _ _ hh => Rep.length e hh) hch j
        obtain ⟨rfl, rfl⟩ := List.append_eq_nil_iff.1 e1.symm
        obtain ⟨f2, h2, g2, e2⟩ := Chunks.drop (n := e.size) (fun _ _ _ hh => Rep.length e hh) h1 i
        obtain ⟨rfl, rfl⟩ := List.append_eq_nil_iff.1 e2.symm
        rw [seg_take_drop (Nat.mul_le_mul_right _ hj)] at h2
        rw [hlen, Nat.sub_mul]
        exact h2

theorem seg_one_cell {blk : Array Value} {off : Nat} {v : Value} (h : (seg blk off 1).headD undef = v) (hv : v ≠ undef) : blk[off]? = some v := by
  unfold seg at h
  cases hq : blk.toList.drop off with
  | nil => rw [hq] at h; exact absurd h.symm hv
  | cons u r =>
    have h2 : (blk.toList.drop off)[0]? = some u := by rw [hq]; rfl
    rw [List.getElem?_drop, Nat.add_zero, Array.getElem?_toList] at h2
    rw [hq] at h
    rw [h2, ← h]; rfl

theorem leK_some {R : Type} {a b : Int} {k : Option R} {r : R} (h : leK a b k = some r) : a ≤ b ∧ k = some r := by
  unfold leK at h
  split at h
  · exact ⟨‹_›, h⟩
  · cases h

theorem intOpt_ok (hs : SimB P C s a w H Φ) {x : Option Operand} {n : Option Int} (h : intOpt s x = some n) : ∃ k : IntKind, x.map a.eval = n.map (Value.int k) := by
  unfold intOpt at h
  split at h
  · cases h; exact ⟨.i64, rfl⟩
  · rename_i x
    split at h
    · rename_i m hm
      cases h
      obtain ⟨av, h1, h2⟩ := Option.bind_eq_some_iff.1 hm
      obtain ⟨k, hk⟩ := intOf_ok h2 (evalA_ok hs none_fz h1)
      exact ⟨k, by simp [hk]⟩
    · cases h

theorem op_slice0 (hcfg : CfgOK P cfg) (hC : CtxOK C cfg) {T : TypeId} {x : Operand} {lo hi mx : Option Operand} (hs : SimB P C s a w H Φ) (hd : dstOK cfg.nt dst = true) (h : sliceVK cfg s dst T x lo hi mx k = some r) :
    ∃ s', k s' = some r ∧ Still P C ⟨dst, .slice T x lo hi mx, ty, pos, after, guard⟩ a w s' := by
  unfold sliceVK at h
  split at h
  case h_2 => cases h
  rename_i av lo' hi' he hlo hhi
  have hr := evalA_ok hs none_fz he
  obtain ⟨k1, hk1⟩ := intOpt_ok hs hlo
  obtain ⟨k2, hk2⟩ := intOpt_ok hs hhi
  unfold sliceK at h
  split at h
  · rename_i own tid e l
    cases hT : !own && decide (lk cfg.ty T = some (.list false tid e)) with
    | false => rw [hT] at h; cases h
    | true =>
      rw [hT, cond_true] at h
      rw [Bool.and_eq_true, Bool.not_eq_true'] at hT
      obtain ⟨rfl, hT⟩ := hT
      obtain ⟨hty, hfz⟩ := hcfg.ty T _ (of_decide_eq_true hT)
      obtain ⟨hf, cs, hv, hrep⟩ := hr
      have hrep' := hrep
      obtain ⟨_, ad, cap, rfl, hcap, _⟩ := hrep
      have hv' : a.eval x = .slice ad (List.length l) cap := by rw [hv]; rfl
      -- one statement for the four forms
      have fin : ∀ (i j : Nat) (l' : List e.den), lo'.getD 0 = i → hi'.getD (List.length l) = j → i ≤ j → j ≤ List.length l → l' = (List.take j l).drop i → k (s.setDst dst (.val (.list false tid e) l')) = some r →
          ∃ s', k s' = some r ∧ Still P C ⟨dst, .slice T x lo hi none, ty, pos, after, guard⟩ a w s' := by
        rintro i j l' hi0 hj0 hij hj rfl hk
        refine ⟨_, hk, quiet_set hs hC hd (v := .slice (if cap = i then ad else ad.map (·.add (i * e.size))) (j - i) (cap - i)) ⟨hf, _, rfl, Rep.slice hrep' hij hj⟩ (fun w' _ => ?_)⟩
        have := run_slice_of hty.list.1 hty.list.2 ad (List.length l) cap lo' hi' i j hi0 hj0 hij (Nat.le_trans hj hcap) w' k1 k2
        simp [execOp, hv', hk1, hk2, this]
      match lo', hi', h with
      | none, none, h => exact fin 0 (List.length l) l rfl rfl (Nat.zero_le _) (Nat.le_refl _) (by simp) h
      | some i, none, h =>
        obtain ⟨h0, h⟩ := leK_some h
        obtain ⟨h1, h⟩ := leK_some h
        exact fin i.toNat (List.length l) _ (by simp; omega) rfl (by omega) (Nat.le_refl _) (by simp) h
      | none, some j, h =>
        obtain ⟨h0, h⟩ := leK_some h
        obtain ⟨h1, h⟩ := leK_some h
        exact fin 0 j.toNat _ rfl (by simp; omega) (Nat.zero_le _) (by omega) (by simp) h
      | some i, some j, h =>
        obtain ⟨h0, h⟩ := leK_some h
        obtain ⟨h1, h⟩ := leK_some h
        obtain ⟨h2, h⟩ := leK_some h
        exact fin i.toNat j.toNat _ (by simp; omega) (by simp; omega) (by omega) (by omega) rfl h
  · rename_i id p
    split at h
    case h_2 => cases h
    rename_i o ho
    rw [getPK_eq] at h
    obtain ⟨y, hy, h⟩ := Option.bind_eq_some_iff.1 h
    obtain ⟨σ, y⟩ := y
    simp only at h
    split at h
    case h_2 => cases h
    rename_i own tid e l
    cases hT : own && e.isFz && decide (lk cfg.ty T = some (.list false tid e)) with
    | false => rw [hT] at h; cases h
    | true =>
      rw [hT, cond_true] at h
      rw [Bool.and_eq_true, Bool.and_eq_true] at hT
      obtain ⟨⟨rfl, hef⟩, hT⟩ := hT
      obtain ⟨hty, _⟩ := hcfg.ty T _ (of_decide_eq_true hT)
      have hok := (hs.os id o ho).1
      have hnf := getV_noFn _ hok.1 hy
      match lo', hi', h with
      | none, some j, h =>
        obtain ⟨h0, h⟩ := leK_some h
        obtain ⟨h1, h⟩ := leK_some h
        obtain ⟨cs, fp, hv, hrep, hsub, _⟩ := view_rep hr ho hok hy
        replace hrep : Rep P (.list true tid e) w H l cs fp := hrep
        replace hv : a.eval x = toV (.list true tid e) cs := hv
        obtain ⟨hdr, xs, fp', rfl, rfl, hown, hch⟩ := hrep
        have hf0 := Chunks.fp_nil (fun _ _ _ hh => Rep.fz_fp e hef hh) hch
        subst hf0
        have hv' : a.eval x = hdr := by rw [hv]; rfl
        have hcut : ∃ ad cap, hdr = .slice ad (List.length l) cap ∧ List.length l ≤ cap ∧ w.ownsRow 0 tid e.size (.slice ad j.toNat cap) j.toNat (xs.take (j.toNat * e.size)) ∧ (Value.slice ad j.toNat cap).ownBlock = hdr.ownBlock := by
          have hlx : (xs.take (j.toNat * e.size)).length = j.toNat * e.size := by
            rw [List.length_take, hown.1]
            exact Nat.min_eq_left (Nat.mul_le_mul_right _ (by omega))
          rcases hown.2 with ⟨rfl, hz⟩ | ⟨g, cap, cur, rfl, hb, hg, hnc, hcm, hcs, htake⟩
          · have hj0 : j.toNat = 0 := by omega
            refine ⟨none, 0, by rw [hz], by omega, ⟨hlx, .inl ⟨by rw [hj0], hj0⟩⟩, rfl⟩
          · refine ⟨_, cap, rfl, hnc, ⟨hlx, .inr ⟨g, cap, cur, rfl, hb, hg, by omega, hcm, hcs, ?_⟩⟩, rfl⟩
            rw [← htake, List.take_take, Nat.min_eq_left (Nat.mul_le_mul_right _ (by omega))]
        obtain ⟨ad, cap, rfl, hlc, hcut, hblk⟩ := hcut
        obtain ⟨f1, hch', g1, e1⟩ := Chunks.take (n := e.size) (fun _ _ _ hh => Rep.length e hh) hch j.toNat
        obtain ⟨rfl, rfl⟩ := List.append_eq_nil_iff.1 e1.symm
        have hll : (List.take j.toNat l).length = j.toNat := by rw [List.length_take]; omega
        have hru : RepA P C w H Φ s.obj (.upd id p tid e (List.take j.toNat l)) (.slice ad j.toNat cap) := by
          refine ⟨o, ho, hef, by simpa [Ty.noFn] using hnf, getV_tyAt _ hy, (Value.slice ad j.toNat cap).ownBlock.toList, ⟨_, _, [], rfl, by simp, by rw [hll]; exact hcut, hch'⟩, ?_⟩
          intro b hb
          rw [hblk] at hb
          refine ⟨((hs.os id o ho).2 b (hsub b (by simp at hb ⊢; exact hb))).2.2, .inr ⟨.slice ad (List.length l) cap, ?_, by simpa using hb⟩⟩
          obtain ⟨o', y', q1, q2, q3⟩ := hr
          rw [ho] at q1
          cases q1
          unfold HdrAt
          cases hrp : o.row && p.isEmpty with
          | true => rw [hrp] at q3; simp only at q3 ⊢; rw [← hv', q3]
          | false =>
            rw [hrp] at q3
            rw [hy] at q2
            cases q2
            obtain ⟨b2, off, blk, t, q4, q5, q6⟩ := q3
            refine ⟨b2, off, q4, ?_⟩
            rw [cell_of_block q5]
            have q7 : toV (.list true tid e) (seg blk off 1) = .slice ad (List.length l) cap := by rw [← hv']; exact q6.symm
            exact seg_one_cell q7 (by simp [undef])
        refine ⟨_, h, quiet_set hs hC hd hru (fun w' _ => ?_)⟩
        have := run_slice_of hty.list.1 hty.list.2 ad (List.length l) cap none (some j) 0 j.toNat rfl (by simp; omega) (Nat.zero_le _) (by omega) w' k1 k2
        simp only [Nat.zero_mul, Nat.sub_zero, Option.map_none, Option.map_some] at this
        have hadd : (if cap = 0 then ad else Option.map (fun x => x.add 0) ad) = ad := by
          split
          · rfl
          · cases ad <;> rfl
        rw [hadd] at this
        simp [execOp, hv', hk1, hk2, this]
      | none, none, h => cases h
      | some _, none, h => cases h
      | some _, some _, h => cases h
  · cases h

theorem op_slice (hcfg : CfgOK P cfg) (hC : CtxOK C cfg) {T : TypeId} {x : Operand} {lo hi mx : Option Operand} (hs : SimB P C s a w H Φ) (hd : dstOK cfg.nt dst = true) (h : absOp cfg ⟨dst, .slice T x lo hi mx, ty, pos, after, guard⟩ s k = some r) :
    ∃ s', k s' = some r ∧ Still P C ⟨dst, .slice T x lo hi mx, ty, pos, after, guard⟩ a w s' := by
  simp only [absOp] at h
  obtain ⟨H', hs'⟩ := hs.frzSite (cfg := cfg) dst x
  exact op_slice0 hcfg hC hs' hd h
end
end Go.Vi
