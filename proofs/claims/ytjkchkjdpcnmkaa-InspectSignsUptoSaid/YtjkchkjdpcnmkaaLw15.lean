/- Plain laws of layer 10, fifteenth part: InspectMore. No condition beyond those typed in each theorem. -/
import Derived.Test.YtjkchkjdpcnmkaaLw14
namespace Go.Proofs.Try.V
open Go.Vi
set_option maxRecDepth 100000

/-- How many open defects of a ride have a severity. -/
theorem cnt_open (l : List Ent) (ride s : Int) : cntL l ride (openL l) s = (((List.range l.length).filter fun i : Nat => openB l (i : Int) && ((gd l (i : Int)).2.2.1 == ride && (gd l (i : Int)).2.2.2.1 == s)).length : Nat) := by
  unfold cntL openL fil
  rw [List.filter_map, List.length_map, List.filter_filter]
  congr 3
  funext i
  exact Bool.and_comm _ _
theorem filter_len_mono {α : Type} {p q : α → Bool} (l : List α) (h : ∀ x ∈ l, p x = true → q x = true) : (l.filter p).length ≤ (l.filter q).length := by
  induction l with
  | nil => exact Nat.le_refl _
  | cons x r ih =>
    have ih := ih fun y hy => h y (List.mem_cons_of_mem _ hy)
    have hx := h x List.mem_cons_self
    rw [List.filter_cons, List.filter_cons]
    cases hp : p x with
    | true => rw [hx hp]; simpa using ih
    | false => cases hq : q x <;> simp <;> omega
theorem mended_app (l : List Ent) (x : Ent) (n : Int) : mendedB (l ++ [x]) n = (mendedB l n || (x.2.1 == 3 && x.2.2.1 == n)) := by
  unfold mendedB
  rw [List.any_append]
  simp
theorem open_app {l : List Ent} {x : Ent} {i : Nat} (hi : i < l.length) : openB (l ++ [x]) (i : Int) = (openB l (i : Int) && !(x.2.1 == 3 && x.2.2.1 == (i : Int))) := by
  unfold openB
  rw [gd_snoc hi, mended_app]
  have e1 : rng (i : Int) 0 (((l ++ [x]).length : Int) - 1) = true := rng_iff.2 ⟨by omega, by simp; omega⟩
  have e2 : rng (i : Int) 0 ((l.length : Int) - 1) = true := rng_iff.2 ⟨by omega, by omega⟩
  rw [e1, e2, Bool.not_or, Bool.true_and, Bool.and_assoc]
theorem open_end {l : List Ent} {x : Ent} (h : (x.2.1 == 2) = false) : openB (l ++ [x]) (l.length : Int) = false := by
  unfold openB
  rw [gd_last, h, Bool.and_false]
  rfl
/-- With a Found more there are no fewer open defects. -/
theorem cnt_found (l : List Ent) (x : Ent) (h3 : (x.2.1 == 3) = false) (ride s : Int) : cntL l ride (openL l) s ≤ cntL (l ++ [x]) ride (openL (l ++ [x])) s := by
  rw [cnt_open, cnt_open, List.length_append, List.length_singleton, List.range_succ, List.filter_append, List.length_append]
  have := filter_len_mono (p := fun i : Nat => openB l (i : Int) && ((gd l (i : Int)).2.2.1 == ride && (gd l (i : Int)).2.2.2.1 == s)) (q := fun i : Nat => openB (l ++ [x]) (i : Int) && ((gd (l ++ [x]) (i : Int)).2.2.1 == ride && (gd (l ++ [x]) (i : Int)).2.2.2.1 == s)) (List.range l.length) (fun i hi hp => by
    have hi := List.mem_range.1 hi
    rw [open_app hi, gd_snoc hi, h3]
    simpa using hp)
  omega
/-- With a Mended more there are no more. -/
theorem cnt_mended (l : List Ent) (x : Ent) (h2 : (x.2.1 == 2) = false) (ride s : Int) : cntL (l ++ [x]) ride (openL (l ++ [x])) s ≤ cntL l ride (openL l) s := by
  rw [cnt_open, cnt_open, List.length_append, List.length_singleton, List.range_succ, List.filter_append, List.length_append, List.filter_cons, open_end h2]
  have := filter_len_mono (q := fun i : Nat => openB l (i : Int) && ((gd l (i : Int)).2.2.1 == ride && (gd l (i : Int)).2.2.2.1 == s)) (p := fun i : Nat => openB (l ++ [x]) (i : Int) && ((gd (l ++ [x]) (i : Int)).2.2.1 == ride && (gd (l ++ [x]) (i : Int)).2.2.2.1 == s)) (List.range l.length) (fun i hi hp => by
    have hi := List.mem_range.1 hi
    rw [open_app hi, gd_snoc hi] at hp
    simp only [Bool.and_eq_true] at hp ⊢
    exact ⟨hp.1.1, hp.2⟩)
  simp
  omega
theorem sound_found {l : List Ent} {x : Ent} (h3 : (x.2.1 == 3) = false) {ride : Int} (h : soundB (l ++ [x]) ride = true) : soundB l ride = true := by
  unfold soundB at h ⊢
  rw [Bool.and_eq_true, decide_eq_true_iff, beq_iff_eq] at h ⊢
  have e3 := cnt_found l x h3 ride 3
  have e2 := cnt_found l x h3 ride 2
  have := (cntL_le l ride (openL l) 3).1
  omega
theorem sound_mended {l : List Ent} {x : Ent} (h2 : (x.2.1 == 2) = false) {ride : Int} (h : soundB l ride = true) : soundB (l ++ [x]) ride = true := by
  unfold soundB at h ⊢
  rw [Bool.and_eq_true, decide_eq_true_iff, beq_iff_eq] at h ⊢
  have e3 := cnt_mended l x h2 ride 3
  have e2 := cnt_mended l x h2 ride 2
  have := (cntL_le (l ++ [x]) ride (openL (l ++ [x])) 3).1
  omega
/-- What a Found or a Mended more changes of a release: only whether the ride is sound. -/
theorem rel_app (b : Book) (l : List Ent) (x : Ent) (hk : x.2.1 = 2 ∨ x.2.1 = 3) (day : Int) (i : Nat) :
    relB b (l ++ [x]) day i = (chkB b l (i : Int) day b.1.length && soundB (l ++ [x]) (i : Int) && (lastE (wantT (i : Int)) (i : Int) l == day) && decide (day ≤ insR b l (i : Int))) := by
  have k1 : (x.2.1 == 1) = false := by rcases hk with h | h <;> rw [h] <;> rfl
  have k4 : (x.2.1 == 4) = false := by rcases hk with h | h <;> rw [h] <;> rfl
  have k5 : (x.2.1 == 5) = false := by rcases hk with h | h <;> rw [h] <;> rfl
  have k6 : (x.2.1 == 6) = false := by rcases hk with h | h <;> rw [h] <;> rfl
  have e : ∀ want ride, want x = false → lastE want ride (l ++ [x]) = lastE want ride l := by
    intro want ride hw
    rw [lastE_app, hw, k6]
    rfl
  have e1 : chkB b (l ++ [x]) (i : Int) day b.1.length = chkB b l (i : Int) day b.1.length := by
    unfold chkB
    refine List.all_congr rfl fun j => ?_
    unfold forceB lastC
    rw [e _ _ (by unfold wantC; rw [k1]; rfl)]
  have e2 : insR b (l ++ [x]) (i : Int) = insR b l (i : Int) := by
    rw [insR_app, k5]
    rfl
  rw [relB_iff, e1, e2, e _ _ (by unfold wantT; rw [k4]; rfl)]
theorem rel_found {b : Book} {l : List Ent} {x : Ent} (hk : x.2.1 = 2) {day : Int} {i : Nat} (h : relB b (l ++ [x]) day i = true) : relB b l day i = true := by
  rw [rel_app b l x (.inl hk)] at h
  rw [relB_iff]
  simp only [Bool.and_eq_true] at h ⊢
  exact ⟨⟨⟨h.1.1.1, sound_found (by rw [hk]; rfl) h.1.1.2⟩, h.1.2⟩, h.2⟩
theorem rel_mended {b : Book} {l : List Ent} {x : Ent} (hk : x.2.1 = 3) {day : Int} {i : Nat} (h : relB b l day i = true) : relB b (l ++ [x]) day i = true := by
  rw [rel_app b l x (.inr hk)]
  rw [relB_iff] at h
  simp only [Bool.and_eq_true] at h ⊢
  exact ⟨⟨⟨h.1.1.1, sound_mended (by rw [hk]; rfl) h.1.1.2⟩, h.1.2⟩, h.2⟩
/-! ## The law -/
theorem L4_24_at (b : Book) (l : List Ent) (x : Ent) (hk : x.2.1 = 2 ∨ x.2.1 = 3) (day : Int) (hb : bookOK b = true) (N : Nat) (hN : b.2.2.length < N) :
    L4_24 N ((l, day, 0, ()), (b, x, l ++ [x], relL b l day, relL b (l ++ [x]) day, ()), ()) = some (.inr ((l, day, ()), (b, x, l ++ [x], ()), ())) := by
  have hs := (sized_of hb).rides
  have v1 := rel_len b l day
  have v2 := rel_len b (l ++ [x]) day
  have e := loopF (L := L4_24) (fun i => ((l, day, (i : Int), ()), (b, x, l ++ [x], relL b l day, relL b (l ++ [x]) day, ()), ())) (.inr ((l, day, ()), (b, x, l ++ [x], ()), ())) 0 b.2.2.length (N := N) (by omega)
    (fun N => by simp [L4_24, B4_24])
    (fun N i _ hi => by
      simp only [L4_24, B4_24]
      rw [dec_t (by omega), cond_true, wI (x := (i : Int) + 1) (by omega) (by omega), g21_eq _ (by omega), g21_eq _ (by omega), has_rel _ _ _ hi, has_rel _ _ _ hi]
      simp only [derefK_some]
      rcases hk with hk | hk
      · rw [hk]
        cases hr : relB b (l ++ [x]) day i with
        | true =>
          rw [rel_found hk hr]
          rfl
        | false => rfl
      · rw [hk]
        cases hr : relB b l day i with
        | true =>
          rw [rel_mended hk hr]
          rfl
        | false => rfl)
  exact e
theorem L4_17_at (b : Book) (l : List Ent) (x : Ent) (hk : x.2.1 = 2 ∨ x.2.1 = 3) (hg : Good b (l ++ [x])) : ∃ z, L4_17 fuel ((l, x.1, ()), (b, x, l ++ [x], ()), ()) = some (.inr z) := by
  obtain ⟨hgl, hr⟩ := hg.app
  obtain ⟨hd0, hd1, hdl⟩ := right_day hgl.fit hr
  have hs := sized_of hg.book
  have hs2 := hs.rides
  obtain ⟨n, hn⟩ : ∃ n : Nat, (n : Int) = min (x.1 + 2) 10000 - x.1 + 1 := ⟨(min (x.1 + 2) 10000 - x.1 + 1).toNat, by omega⟩
  have e := loopF (L := L4_17) (fun i => ((l, x.1 + (i : Int), ()), (b, x, l ++ [x], ()), ())) (.inr ((), (), ())) 1048577 n (N := fuel) (by have := fuel_ge; omega)
    (fun N => by
      simp only [L4_17, B4_17]
      rw [wI (x := x.1 + 2) (by omega) (by omega)]
      by_cases h : x.1 + (n : Int) ≤ x.1 + 2
      · rw [dec_t h, dec_f (p := x.1 + (n : Int) ≤ 10000) (by omega)]
        rfl
      · rw [dec_f h]
        rfl)
    (fun N i hN hi => by
      simp only [L4_17, B4_17]
      have hday : 0 ≤ x.1 + (i : Int) ∧ x.1 + (i : Int) ≤ 10000 := by omega
      have u1 : upto l (x.1 + (i : Int)) = l := upto_all fun y hy => by have := hdl y hy; omega
      have u2 : upto (l ++ [x]) (x.1 + (i : Int)) = l ++ [x] := upto_all fun y hy => by
        rcases List.mem_append.1 hy with hy | hy
        · have := hdl y hy
          omega
        · rw [List.mem_singleton.1 hy]
          omega
      rw [wI (x := x.1 + 2) (by omega) (by omega), dec_t (by omega), cond_true, dec_t (by omega), cond_true, g20_eq, derefK_some, g20_eq, derefK_some, dayErr_good hgl hday.1 hday.2, dayErr_good hg hday.1 hday.2, u1, u2]
      simp only [if_true]
      show derefK (L4_24 N ((l, x.1 + (i : Int), 0, ()), (b, x, l ++ [x], relL b l (x.1 + (i : Int)), relL b (l ++ [x]) (x.1 + (i : Int)), ()), ())) _ = _
      rw [L4_24_at b l x hk _ hg.book N (by omega), derefK_some, sumK_inr]
      dsimp only
      rw [wI (by omega) (by omega), show x.1 + (i : Int) + 1 = x.1 + ((i + 1 : Nat) : Int) by omega])
  have e' : L4_17 fuel ((l, x.1 + ((0 : Nat) : Int), ()), (b, x, l ++ [x], ()), ()) = _ := e
  rw [show x.1 + ((0 : Nat) : Int) = x.1 by simp] at e'
  exact ⟨_, e'⟩
theorem law4 (b : Book) (l : List Ent) (x : Ent) (hl : l.length ≤ 1048576) : g4 (b, l, x, ()) = some ((true, ()), ()) := by
  show F4 fuel b l x = _
  unfold F4
  rw [g16_eq, derefK_some, works_eq]
  simp only [derefK_some]
  have h1 : ∀ {R : Type} (k : Option R), lenK (l.length : Int) k = k := fun k => lenK_in (by omega) (by omega) k
  cases decide (30 < l.length ∧ l.length ≤ 100) with
  | true => rfl
  | false =>
  rw [cond_false]
  by_cases hn : (l.length : Int) ≥ 100
  · rw [dec_t hn]; rfl
  rw [dec_f hn, cond_false, g18_eq, derefK_some]
  by_cases hc : (checkR b l).2 = 0
  case neg =>
    show cond ((checkR b l).2 != 0) _ _ = _
    rw [neq_t hc]
    rfl
  have hg := good_of hc
  have e := loopF (L := L4_7) (fun i => ((l, (i : Int), ()), (b, x, ()), ())) (.inr ((l, ()), (b, x, ()), ())) 0 l.length (N := fuel) (by have := fuel_ge; omega)
    (fun N => by simp [L4_7, B4_7])
    (fun N i _ hi => by
      simp only [L4_7, B4_7]
      rw [dec_t (by omega), cond_true, g18_eq, Int.toNat_natCast, good_iff (hg.take i)]
      simp only [derefK_some, agree2, leK_in (show (0 : Int) ≤ (i : Int) by omega), leK_in (show (i : Int) ≤ (l.length : Int) by omega), enumK]
      rw [wI (x := (i : Int) + 1) (by omega) (by omega)]
      rfl)
  have e' : L4_7 fuel ((l, 0, ()), (b, x, ()), ()) = _ := e
  dsimp only
  rw [hc, e', derefK_some]
  simp only [sumK_inr, h1, agree1, agree2, agree3, agree4, agree5, enumK]
  rw [lenK_in (by simp; omega) (by simp; omega), g18_eq, derefK_some]
  by_cases hm : (checkR b (l ++ [x])).2 = 0
  case neg =>
    show cond ((checkR b (l ++ [x])).2 != 0) _ _ = _
    rw [neq_t hm]
    rfl
  have hg2 := good_of hm
  dsimp only
  rw [hm]
  by_cases h2 : x.2.1 = 2
  · obtain ⟨z, hz⟩ := L4_17_at b l x (.inl h2) hg2
    rw [hz, h2]
    rfl
  · rw [neq_t h2]
    by_cases h3 : x.2.1 = 3
    · obtain ⟨z, hz⟩ := L4_17_at b l x (.inr h3) hg2
      rw [hz, h3]
      rfl
    · rw [neq_t h3]
      rfl
end Go.Proofs.Try.V
