/- Plain laws of layer 8, twenty-fourth part: the search for lorries. No condition beyond those typed in each theorem. -/
import Derived.Test.YtjhphibadndkcaaLw6
import Derived.Test.YtjhphibadndkcaaFn5
namespace Go.Proofs.Try.V
open Go.Vi
set_option maxRecDepth 100000

/-! ## What lies on a lorry -/
def lwK (W c : List Int) (v : Int) : Nat → Int
  | 0 => 0
  | i + 1 => lwK W c v i + if gd c (i : Int) = v then gd W (i : Int) else 0
def lw (W c : List Int) (v : Int) : Int := lwK W c v c.length
/-- Weights are as they must be. -/
def WOK (W : List Int) : Prop := W.length ≤ 16 ∧ ∀ i : Nat, i < W.length → 1 ≤ gd W (i : Int) ∧ gd W (i : Int) ≤ 1000000
theorem lwK_app (W c : List Int) (x v : Int) : ∀ i, i ≤ c.length → lwK W (c ++ [x]) v i = lwK W c v i
  | 0, _ => rfl
  | i + 1, h => by
    unfold lwK
    rw [lwK_app W c x v i (by omega), gd_app_l (by omega) (by omega)]
theorem lw_snoc (W c : List Int) (x v : Int) : lw W (c ++ [x]) v = lw W c v + if x = v then gd W (c.length : Int) else 0 := by
  unfold lw
  rw [List.length_append]
  show lwK W (c ++ [x]) v c.length + (if gd (c ++ [x]) (c.length : Int) = v then gd W (c.length : Int) else 0) = _
  rw [lwK_app W c x v c.length (Nat.le_refl _), gd_app_end rfl]
theorem lwK_bd {W : List Int} (hW : WOK W) (c : List Int) (v : Int) : ∀ i, i ≤ W.length → 0 ≤ lwK W c v i ∧ lwK W c v i ≤ 1000000 * i
  | 0, _ => ⟨Int.le_refl _, by show (0 : Int) ≤ _; omega⟩
  | i + 1, h => by
    have ih := lwK_bd hW c v i (by omega)
    have hw := hW.2 i (by omega)
    unfold lwK
    split <;> omega
theorem lw_bd {W : List Int} (hW : WOK W) {c : List Int} (hc : c.length ≤ W.length) (v : Int) : 0 ≤ lw W c v ∧ lw W c v ≤ 16000000 := by
  have := lwK_bd hW c v c.length hc
  have := hW.1
  unfold lw
  omega
theorem lwK_mono {W : List Int} (hW : WOK W) (c : List Int) (v : Int) : ∀ d i, i + d ≤ W.length → lwK W c v i ≤ lwK W c v (i + d)
  | 0, _, _ => Int.le_refl _
  | d + 1, i, h => by
    have ih := lwK_mono hW c v d i (by omega)
    have hw := hW.2 (i + d) (by omega)
    show _ ≤ lwK W c v (i + d) + (if gd c ((i + d : Nat) : Int) = v then gd W ((i + d : Nat) : Int) else 0)
    split <;> omega

/-! ## The search -/
def tryV (f : Nat → Option (List Int)) : Nat → Nat → Option (List Int)
  | 0, _ => none
  | r + 1, v => match f v with
    | some l => some l
    | none => tryV f r (v + 1)
/-- The first lorries for the parts that are left. -/
def srch (W : List Int) (room : Int) (m : Nat) : Nat → List Int → Option (List Int)
  | 0, c => some c
  | d + 1, c => tryV (fun v => if lw W c (v : Int) + gd W (c.length : Int) > room then none else srch W room m d (c ++ [(v : Int)])) m 0
theorem tryV_some {f : Nat → Option (List Int)} {l : List Int} : ∀ {r v : Nat}, tryV f r v = some l → ∃ u, v ≤ u ∧ u < v + r ∧ f u = some l
  | 0, _, h => by cases h
  | r + 1, v, h => by
    unfold tryV at h
    split at h
    · rename_i l' hf
      cases h
      exact ⟨v, Nat.le_refl _, by omega, hf⟩
    · obtain ⟨u, h1, h2, h3⟩ := tryV_some h
      exact ⟨u, by omega, by omega, h3⟩
theorem tryV_none {f : Nat → Option (List Int)} : ∀ {r v : Nat}, tryV f r v = none → ∀ u, v ≤ u → u < v + r → f u = none
  | 0, _, _, u, h1, h2 => by omega
  | r + 1, v, h, u, h1, h2 => by
    unfold tryV at h
    split at h
    · cases h
    · rename_i hf
      by_cases e : u = v
      · rw [e]; exact hf
      · exact tryV_none h u (by omega) (by omega)
/-- Lorries of all parts, none of which has too much. -/
structure Asg (W : List Int) (room : Int) (m : Nat) (a : List Int) : Prop where
  len : a.length = W.length
  rng : ∀ i : Nat, i < W.length → 0 ≤ gd a (i : Int) ∧ gd a (i : Int) < m
  fit : ∀ v : Nat, v < m → lw W a (v : Int) ≤ room
theorem srch_sound {W : List Int} {room : Int} {m : Nat} : ∀ (d : Nat) {c l : List Int}, c.length + d = W.length → (∀ i : Nat, i < c.length → 0 ≤ gd c (i : Int) ∧ gd c (i : Int) < m) → (∀ v : Nat, v < m → lw W c (v : Int) ≤ room) → srch W room m d c = some l → Asg W room m l
  | 0, c, l, hl, hr, hf, h => by
    cases h
    exact ⟨by omega, fun i hi => hr i (by omega), hf⟩
  | d + 1, c, l, hl, hr, hf, h => by
    unfold srch at h
    obtain ⟨u, _, h2, h3⟩ := tryV_some h
    split at h3
    · cases h3
    · rename_i hle
      refine srch_sound d (by rw [List.length_append, List.length_singleton]; omega) (fun i hi => ?_) (fun v hv => ?_) h3
      · rw [List.length_append, List.length_singleton] at hi
        by_cases e : i < c.length
        · rw [gd_app_l (by omega) (by omega)]; exact hr i e
        · rw [gd_app_end (by omega)]; omega
      · rw [lw_snoc]
        have := hf v hv
        by_cases e : (u : Int) = (v : Int)
        · rw [if_pos e]
          rw [e] at hle
          omega
        · rw [if_neg e]; omega
theorem take_lw {W a : List Int} (v : Int) {i : Nat} (hi : i ≤ a.length) : lw W (a.take i) v = lwK W a v i := by
  have key : ∀ j, j ≤ i → lwK W (a.take i) v j = lwK W a v j := by
    intro j
    induction j with
    | zero => intro _; rfl
    | succ j ih =>
      intro hj
      unfold lwK
      rw [ih (by omega)]
      have : gd (a.take i) (j : Int) = gd a (j : Int) := by
        unfold gd
        rw [Int.toNat_natCast, List.getD_eq_getElem?_getD, List.getD_eq_getElem?_getD, List.getElem?_take, if_pos (by omega)]
      rw [this]
  unfold lw
  rw [List.length_take, Nat.min_eq_left hi]
  exact key i (Nat.le_refl _)
theorem srch_complete {W : List Int} (hW : WOK W) {room : Int} {m : Nat} {a : List Int} (ha : Asg W room m a) : ∀ (d i : Nat), i + d = W.length → srch W room m d (a.take i) ≠ none
  | 0, i, _ => by unfold srch; simp
  | d + 1, i, h => by
    intro hn
    unfold srch at hn
    have hal := ha.len
    have hg := ha.rng i (by omega)
    have hlen : (a.take i).length = i := by rw [List.length_take]; omega
    have := tryV_none hn (gd a (i : Int)).toNat (by omega) (by omega)
    rw [show (((gd a (i : Int)).toNat : Nat) : Int) = gd a (i : Int) by omega, hlen] at this
    have hfit := ha.fit (gd a (i : Int)).toNat (by omega)
    rw [show (((gd a (i : Int)).toNat : Nat) : Int) = gd a (i : Int) by omega] at hfit
    have h1 : lwK W a (gd a (i : Int)) (i + 1) = lwK W a (gd a (i : Int)) i + gd W (i : Int) := by
      show lwK W a (gd a (i : Int)) i + (if gd a (i : Int) = gd a (i : Int) then gd W (i : Int) else 0) = _
      rw [if_pos rfl]
    have h2 := lwK_mono hW a (gd a (i : Int)) (W.length - (i + 1)) (i + 1) (by omega)
    rw [show i + 1 + (W.length - (i + 1)) = a.length by omega] at h2
    have h3 : lwK W a (gd a (i : Int)) a.length ≤ room := hfit
    rw [take_lw _ (by omega), if_neg (by omega)] at this
    have e : a.take i ++ [gd a (i : Int)] = a.take (i + 1) := (take_nat (by omega)).symm
    rw [e] at this
    exact srch_complete hW ha d (i + 1) (by omega) this
theorem srch_nil {W : List Int} (hW : WOK W) {room : Int} {m : Nat} {a : List Int} (ha : Asg W room m a) : srch W room m W.length [] ≠ none := srch_complete hW ha W.length 0 (by omega)
theorem srch_asg {W : List Int} {room : Int} (hr : 0 ≤ room) {m : Nat} {l : List Int} (h : srch W room m W.length [] = some l) : Asg W room m l :=
  srch_sound W.length (by simp) (fun i hi => absurd hi (by simp)) (fun v _ => by show (0 : Int) ≤ room; exact hr) h

/-! ## The document's search -/
abbrev wts (k : Kit) : List Int := k.1.map (·.1)
theorem wts_len (k : Kit) : (wts k).length = k.1.length := by simp
theorem wts_gd (k : Kit) {i : Nat} (hi : i < k.1.length) : gd (wts k) (i : Int) = (gd k.1 (i : Int)).1 := gd_of (by rw [List.getElem?_map, gd_nat hi]; rfl)
def resS (o : Option (List Int)) : (List Int × Bool × Unit) × Unit := match o with
  | some l => ((l, true, ()), ())
  | none => (([], false, ()), ())
theorem L82_9_q {k : Kit} (hW : WOK (wts k)) (rec) (room : Int) (c : List Int) (hc : c.length < k.1.length) (m v : Int) (N : Nat) (hN : 100 < N) :
    L82_9 rec N ((room, c, m, (c.length : Int), v, gd (wts k) (c.length : Int), 0, ()), (k, ()), ()) = some ((room, c, m, (c.length : Int), v, gd (wts k) (c.length : Int) + lw (wts k) c v, ()), (k, ()), ()) := by
  have hn := hW.1
  rw [wts_len] at hn
  have hwp := hW.2 c.length (by rw [wts_len]; omega)
  have e := loopF (L := L82_9 rec) (fun i => ((room, c, m, (c.length : Int), v, gd (wts k) (c.length : Int) + lwK (wts k) c v i, (i : Int), ()), (k, ()), ())) ((room, c, m, (c.length : Int), v, gd (wts k) (c.length : Int) + lw (wts k) c v, ()), (k, ()), ()) 0 c.length (N := N) (by omega)
    (fun N => by
      simp only [L82_9, B82_9]
      rw [dec_f (by omega)]
      rfl)
    (fun N i _ hi => by
      have hb := lwK_bd hW c v i (by rw [wts_len]; omega)
      have hw := hW.2 i (by rw [wts_len]; omega)
      simp only [L82_9, B82_9]
      rw [dec_t (by omega), cond_true, getI_gd (by omega) (by omega), w64 (x := (i : Int) + 1) (by omega) (by omega), show ((i : Int) + 1) = ((i + 1 : Nat) : Int) by omega]
      conv => rhs; unfold lwK
      by_cases h : gd c (i : Int) = v
      · have : (gd c (i : Int) == v) = true := by simp [h]
        rw [this, cond_true, getI_gd (by omega) (by omega), if_pos h, ← wts_gd k (show i < k.1.length by omega), w64 (by omega) (by omega), Int.add_assoc]
      · have : (gd c (i : Int) == v) = false := beq_eq_false_iff_ne.2 h
        rw [this, cond_false, if_neg h, Int.add_zero])
  have e' : gd (wts k) (c.length : Int) + lwK (wts k) c v 0 = gd (wts k) (c.length : Int) := by show _ + (0 : Int) = _; omega
  rw [e'] at e
  exact e
theorem L82_5_q {k : Kit} (hW : WOK (wts k)) (rec) (room : Int) (m : Nat) (hm : m ≤ 16) (d : Nat) {c : List Int} (hc : c.length + (d + 1) = k.1.length) (ih : ∀ v : Nat, v < m → rec (k, room, c ++ [(v : Int)], (m : Int), ()) = some (resS (srch (wts k) room m d (c ++ [(v : Int)])))) :
    ∀ (r v : Nat) (N : Nat), v + r = m → r + 200 < N → L82_5 rec N ((room, c, (m : Int), (c.length : Int), (v : Int), ()), (k, ()), ()) =
      some (match tryV (fun v => if lw (wts k) c (v : Int) + gd (wts k) (c.length : Int) > room then none else srch (wts k) room m d (c ++ [(v : Int)])) r v with
        | some l => .inl ((l, true, ()), (), ())
        | none => .inr ((), (), ()))
  | 0, v, N, hv, hN => by
    obtain ⟨N, rfl⟩ : ∃ n, N = n + 1 := ⟨N - 1, by omega⟩
    simp only [L82_5, B82_5]
    rw [dec_f (by omega)]
    rfl
  | r + 1, v, N, hv, hN => by
    obtain ⟨N, rfl⟩ : ∃ n, N = n + 1 := ⟨N - 1, by omega⟩
    have hn := hW.1
    rw [wts_len] at hn
    have hb := lw_bd hW (c := c) (by rw [wts_len]; omega) (v : Int)
    have hwp := hW.2 c.length (by rw [wts_len]; omega)
    have ih2 := L82_5_q hW rec room m hm d hc ih r (v + 1) N (by omega) (by omega)
    have e9 := L82_9_q hW rec room c (by omega) (m : Int) (v : Int) N (by omega)
    simp only [L82_5, B82_5]
    rw [dec_t (by omega), cond_true, getI_gd (by omega) (by omega), ← wts_gd k (show c.length < k.1.length by omega), e9, derefK_some]
    simp only []
    rw [Int.add_comm (gd (wts k) (c.length : Int))]
    conv => rhs; unfold tryV
    by_cases h : lw (wts k) c (v : Int) + gd (wts k) (c.length : Int) > room
    · rw [dec_t h, cond_true, if_pos h, w64 (by omega) (by omega), show (v : Int) + 1 = ((v + 1 : Nat) : Int) by omega]
      exact ih2
    · rw [dec_f h, cond_false, if_neg h]
      have a1 : ∀ {R : Type} (X : Option R), lenK (c.length : Int) X = X := fun X => lenK_in (by omega) (by omega) X
      have a2 : ∀ {R : Type} (X : Option R), lenK ((c.length : Int) + (([(v : Int)].length : Nat) : Int)) X = X := fun X => lenK_in (by simp; omega) (by simp; omega) X
      have a3 := ih v (by omega)
      simp only [a1, a2, a3, derefK_some, agreeK_two, agreeK_one]
      cases hs : srch (wts k) room m d (c ++ [(v : Int)]) with
      | some l => rfl
      | none =>
        show L82_5 rec N ((room, c, (m : Int), (c.length : Int), IntKind.wrap .i64 ((v : Int) + 1), ()), (k, ()), ()) = _
        rw [w64 (by omega) (by omega), show (v : Int) + 1 = ((v + 1 : Nat) : Int) by omega]
        exact ih2
theorem G82_q {k : Kit} (hW : WOK (wts k)) (room : Int) (m : Nat) (hm : m ≤ 16) : ∀ (d e : Nat) {c : List Int}, c.length + d = k.1.length → G82 (d + 1 + e) (k, room, c, (m : Int), ()) = some (resS (srch (wts k) room m d c))
  | 0, e, c, hc => by
    rw [show 0 + 1 + e = e + 1 by omega]
    show F82 _ fuel k room c (m : Int) = _
    unfold F82
    have : ((c.length : Int) == (k.1.length : Int)) = true := by simp; omega
    rw [this]
    rfl
  | d + 1, e, c, hc => by
    rw [show d + 1 + 1 + e = (d + 1 + e) + 1 by omega]
    show F82 _ fuel k room c (m : Int) = _
    unfold F82
    have : ((c.length : Int) == (k.1.length : Int)) = false := beq_eq_false_iff_ne.2 (by omega)
    rw [this, cond_false]
    have hfu := fuel_big
    have e5 := L82_5_q hW (G82 (d + 1 + e)) room m hm d (c := c) (by omega) (fun v hv => G82_q hW room m hm d e (by rw [List.length_append, List.length_singleton]; omega)) m 0 fuel (by omega) (by omega)
    have e5' : L82_5 (G82 (d + 1 + e)) fuel ((room, c, (m : Int), (c.length : Int), 0, ()), (k, ()), ()) = _ := e5
    rw [e5', derefK_some]
    show _ = some (resS (tryV _ m 0))
    cases tryV (fun v => if lw (wts k) c (v : Int) + gd (wts k) (c.length : Int) > room then none else srch (wts k) room m d (c ++ [(v : Int)])) m 0 with
    | some l => rfl
    | none => rfl
theorem g82_q {k : Kit} (hW : WOK (wts k)) (room : Int) {m : Nat} (hm : m ≤ 16) : g82 (k, room, [], (m : Int), ()) = some (resS (srch (wts k) room m k.1.length [])) := by
  have hn := hW.1
  rw [wts_len] at hn
  have hfu := fuel_big
  obtain ⟨e, he⟩ : ∃ e, fuel = k.1.length + 1 + e := ⟨fuel - (k.1.length + 1), by omega⟩
  show G82 fuel _ = _
  rw [he]
  exact G82_q hW room m hm k.1.length e (by simp)

/-! ## The program's search -/
def tbl (W c : List Int) (m : Nat) : List Int := (List.range m).map fun (v : Nat) => lw W c (v : Int)
theorem tbl_len (W c : List Int) (m : Nat) : (tbl W c m).length = m := by simp [tbl]
theorem tbl_gd {W c : List Int} {m v : Nat} (hv : v < m) : gd (tbl W c m) (v : Int) = lw W c (v : Int) := gd_of (by simp [tbl, hv])
theorem tbl_set {W c : List Int} {m v : Nat} (hv : v < m) : (tbl W c m).set v (lw W c (v : Int) + gd W (c.length : Int)) = tbl W (c ++ [(v : Int)]) m := by
  apply List.ext_getElem
  · simp [tbl]
  · intro j h1 h2
    simp only [tbl, List.getElem_set, List.getElem_map, List.getElem_range, lw_snoc]
    by_cases e : v = j
    · subst e; simp
    · rw [if_neg e, if_neg (by omega), Int.add_zero]
theorem tbl_back {W c : List Int} {m v : Nat} (hv : v < m) : (tbl W (c ++ [(v : Int)]) m).set v (lw W c (v : Int)) = tbl W c m := by
  apply List.ext_getElem
  · simp [tbl]
  · intro j h1 h2
    simp only [tbl, List.getElem_set, List.getElem_map, List.getElem_range, lw_snoc]
    by_cases e : v = j
    · subst e; simp
    · rw [if_neg e, if_neg (by omega), Int.add_zero]
abbrev Pkr := (List Part) × (Int × ((List Int) × (List Int)))
def resP (k : Kit) (room : Int) (m : Nat) (c : List Int) (o : Option (List Int)) : (Bool × Unit) × (Pkr × Unit) := match o with
  | some l => ((true, ()), ((k.1, room, tbl (wts k) l m, l), ()))
  | none => ((false, ()), ((k.1, room, tbl (wts k) c m, c), ()))
theorem L81_5_q {k : Kit} (hW : WOK (wts k)) (rec) (room : Int) (m : Nat) (hm : m ≤ 16) (d : Nat) {c : List Int} (hc : c.length + (d + 1) = k.1.length) (ih : ∀ v : Nat, v < m → rec ((k.1, room, tbl (wts k) (c ++ [(v : Int)]) m, c ++ [(v : Int)]), ()) = some (resP k room m (c ++ [(v : Int)]) (srch (wts k) room m d (c ++ [(v : Int)])))) :
    ∀ (r v : Nat) (N : Nat), v + r = m → r < N → L81_5 rec N ((gd (wts k) (c.length : Int), (m : Int), (v : Int), ()), ((k.1, room, tbl (wts k) c m, c), ()), ()) =
      some (match tryV (fun v => if lw (wts k) c (v : Int) + gd (wts k) (c.length : Int) > room then none else srch (wts k) room m d (c ++ [(v : Int)])) r v with
        | some l => .inl ((true, ()), ((k.1, room, tbl (wts k) l m, l), ()), ())
        | none => .inr ((), ((k.1, room, tbl (wts k) c m, c), ()), ()))
  | 0, v, N, hv, hN => by
    obtain ⟨N, rfl⟩ : ∃ n, N = n + 1 := ⟨N - 1, by omega⟩
    simp only [L81_5, B81_5]
    rw [dec_f (by omega)]
    rfl
  | r + 1, v, N, hv, hN => by
    obtain ⟨N, rfl⟩ : ∃ n, N = n + 1 := ⟨N - 1, by omega⟩
    have hn := hW.1
    rw [wts_len] at hn
    have hb := lw_bd hW (c := c) (by rw [wts_len]; omega) (v : Int)
    have hwp := hW.2 c.length (by rw [wts_len]; omega)
    have ih2 := L81_5_q hW rec room m hm d hc ih r (v + 1) N (by omega) (by omega)
    have hvm : v < m := by omega
    have a1 : ∀ (cc : List Int) {R : Type} (X : Option R), inR (v : Int) (tbl (wts k) cc m).length X = X := fun cc R X => inR_in (by omega) (by rw [tbl_len]; omega) X
    have a2 : ∀ (cc : List Int) {R : Type} (F : Int → Option R), getI (tbl (wts k) cc m) (v : Int) F = F (lw (wts k) cc (v : Int)) := fun cc R F => by
      rw [getI_gd (by omega) (by rw [tbl_len]; omega), tbl_gd hvm]
    have a3 : IntKind.wrap .i64 (lw (wts k) c (v : Int) + gd (wts k) (c.length : Int)) = lw (wts k) c (v : Int) + gd (wts k) (c.length : Int) := w64 (by omega) (by omega)
    have a4 : ∀ {R : Type} (X : Option R), lenK ((c.length : Int) + (([(v : Int)].length : Nat) : Int)) X = X := fun X => lenK_in (by simp; omega) (by simp; omega) X
    have a5 : IntKind.wrap .i64 ((v : Int) + 1) = ((v + 1 : Nat) : Int) := by rw [w64 (by omega) (by omega)]; omega
    simp only [L81_5, B81_5, bindV_eq]
    rw [dec_t (by omega), cond_true]
    simp only [a1, a2, a3, a4, a5, Int.toNat_natCast, tbl_set hvm]
    conv => rhs; unfold tryV
    by_cases h : lw (wts k) c (v : Int) + gd (wts k) (c.length : Int) > room
    · rw [dec_t h, cond_true, if_pos h]
      exact ih2
    · rw [dec_f h, cond_false, if_neg h, ih v hvm, derefK_some]
      cases hs : srch (wts k) room m d (c ++ [(v : Int)]) with
      | some l => rfl
      | none =>
        have hlen : ((c ++ [(v : Int)]).length : Int) - 1 = (c.length : Int) := by simp
        show leK 0 (IntKind.wrap .i64 (((c ++ [(v : Int)]).length : Int) - 1)) (leK (IntKind.wrap .i64 (((c ++ [(v : Int)]).length : Int) - 1)) ((c ++ [(v : Int)]).length : Int) (inR (v : Int) (tbl (wts k) (c ++ [(v : Int)]) m).length (getI (tbl (wts k) (c ++ [(v : Int)]) m) (v : Int) fun e8 => inR (v : Int) (tbl (wts k) (c ++ [(v : Int)]) m).length (getI (tbl (wts k) (c ++ [(v : Int)]) m) (v : Int) fun _ => L81_5 rec N ((gd (wts k) (c.length : Int), (m : Int), ((v + 1 : Nat) : Int), ()), ((k.1, room, (tbl (wts k) (c ++ [(v : Int)]) m).set v (IntKind.wrap .i64 (e8 - gd (wts k) (c.length : Int))), (c ++ [(v : Int)]).take (IntKind.wrap .i64 (((c ++ [(v : Int)]).length : Int) - 1)).toNat), ()), ()))))) = _
        rw [hlen, w64 (x := (c.length : Int)) (by omega) (by omega), leK_in (by omega), leK_in (by rw [List.length_append, List.length_singleton]; omega), a1, a2, a1, a2, Int.toNat_natCast, List.take_left, lw_snoc, if_pos rfl, Int.add_sub_cancel, w64 (by omega) (by omega), tbl_back hvm]
        exact ih2
theorem G81_q {k : Kit} (hW : WOK (wts k)) (room : Int) (m : Nat) (hm : m ≤ 16) : ∀ (d e : Nat) {c : List Int}, c.length + d = k.1.length → G81 (d + 1 + e) ((k.1, room, tbl (wts k) c m, c), ()) = some (resP k room m c (srch (wts k) room m d c))
  | 0, e, c, hc => by
    rw [show 0 + 1 + e = e + 1 by omega]
    show F81 _ fuel (k.1, room, tbl (wts k) c m, c) = _
    unfold F81
    have : ((c.length : Int) == (k.1.length : Int)) = true := by simp; omega
    rw [this]
    rfl
  | d + 1, e, c, hc => by
    rw [show d + 1 + 1 + e = (d + 1 + e) + 1 by omega]
    show F81 _ fuel (k.1, room, tbl (wts k) c m, c) = _
    unfold F81
    have : ((c.length : Int) == (k.1.length : Int)) = false := beq_eq_false_iff_ne.2 (by omega)
    rw [this, cond_false]
    show getI k.1 (c.length : Int) _ = _
    rw [getI_gd (by omega) (by omega), ← wts_gd k (show c.length < k.1.length by omega)]
    have hfu := fuel_big
    have e5 := L81_5_q hW (G81 (d + 1 + e)) room m hm d (c := c) (by omega) (fun v hv => G81_q hW room m hm d e (by rw [List.length_append, List.length_singleton]; omega)) m 0 fuel (by omega) (by omega)
    have hT : ((tbl (wts k) c m).length : Int) = (m : Int) := by rw [tbl_len]
    show derefK (L81_5 (G81 (d + 1 + e)) fuel ((gd (wts k) (c.length : Int), ((tbl (wts k) c m).length : Int), 0, ()), ((k.1, room, tbl (wts k) c m, c), ()), ())) _ = _
    rw [hT]
    refine (derefK_of e5 _).trans ?_
    show _ = some (resP k room m c (tryV _ m 0))
    cases tryV (fun v => if lw (wts k) c (v : Int) + gd (wts k) (c.length : Int) > room then none else srch (wts k) room m d (c ++ [(v : Int)])) m 0 with
    | some l => rfl
    | none => rfl
theorem g81_q {k : Kit} (hW : WOK (wts k)) (room : Int) {m : Nat} (hm : m ≤ 16) : g81 ((k.1, room, List.replicate m 0, []), ()) = some (resP k room m [] (srch (wts k) room m k.1.length [])) := by
  have hn := hW.1
  rw [wts_len] at hn
  have hfu := fuel_big
  obtain ⟨e, he⟩ : ∃ e, fuel = k.1.length + 1 + e := ⟨fuel - (k.1.length + 1), by omega⟩
  have ht : List.replicate m (0 : Int) = tbl (wts k) [] m := by
    apply List.ext_getElem
    · simp [tbl]
    · intro j h1 h2
      simp [tbl, lw, lwK]
  show G81 fuel _ = _
  rw [he, ht]
  exact G81_q hW room m hm k.1.length e (by simp)
end Go.Proofs.Try.V
