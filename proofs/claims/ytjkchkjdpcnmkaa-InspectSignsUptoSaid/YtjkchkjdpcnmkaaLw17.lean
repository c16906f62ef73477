/- Plain laws of layer 10, seventeenth part: InspectReleased. No condition beyond those typed in each theorem. -/
import Derived.Test.YtjkchkjdpcnmkaaLw16
namespace Go.Proofs.Try.V
open Go.Vi
set_option maxRecDepth 100000

/-- The last accident. -/
def accF (l : List Ent) (ride : Int) : Nat → Int
  | 0 => -1
  | i + 1 => if accB ride (gd l (i : Int)) then (i : Int) else accF l ride i
theorem accF_succ (l : List Ent) (ride : Int) (i : Nat) : accF l ride (i + 1) = if accB ride (gd l (i : Int)) then (i : Int) else accF l ride i := rfl
theorem accF_in (l : List Ent) (ride : Int) : ∀ n, -1 ≤ accF l ride n ∧ accF l ride n < n
  | 0 => by show (-1 : Int) ≤ -1 ∧ (-1 : Int) < 0; omega
  | n + 1 => by
    have := accF_in l ride n
    rw [accF_succ]
    split <;> omega
theorem accF_lt {l : List Ent} {ride : Int} {i : Nat} : ∀ n, i ≤ n → (∀ j : Nat, i ≤ j → j < n → accB ride (gd l (j : Int)) = false) → accF l ride n < i
  | 0, _, _ => by show (-1 : Int) < _; omega
  | n + 1, hi, h => by
    by_cases hn : i = n + 1
    · rw [hn]
      exact (accF_in l ride (n + 1)).2
    · rw [accF_succ, h n (by omega) (by omega), if_neg (by simp)]
      exact accF_lt n (by omega) fun j h1 h2 => h j h1 (by omega)
theorem hit_acc {want : Ent → Bool} {ride : Int} {l : List Ent} {n i : Nat} (h : Hit want ride l n i) (hw : accB ride (gd l (i : Int)) = false) : accF l ride n < i := by
  have := h.lt
  refine accF_lt n (by omega) fun j h1 h2 => ?_
  by_cases hj : j = i
  · rw [hj]
    exact hw
  · exact (h.no j (by omega) h2).2
theorem last_hit_all {want : Ent → Bool} {ride : Int} {l : List Ent} (h : lastE want ride l ≠ -1) : ∃ i, Hit want ride l l.length i ∧ (gd l (i : Int)).1 = lastE want ride l := by
  obtain ⟨i, hi⟩ := last_hit (want := want) (ride := ride) (l := l) l.length (Nat.le_refl _) (by rwa [List.take_length])
  have := hit_last l.length (Nat.le_refl _) hi
  rw [List.take_length] at this
  exact ⟨i, hi, this.symm⟩
theorem L8_17_at (b : Book) (l now : List Ent) (day ride : Int) (u v : List Int) (hn : now.length ≤ 100) (N : Nat) (hN : now.length < N) :
    L8_17 N ((l, day, now, ride, -1, 0, ()), (b, u, v, ()), ()) = some ((l, day, now, ride, accF now ride now.length, ()), (b, u, v, ()), ()) := by
  have e := loopF (L := L8_17) (fun i => ((l, day, now, ride, accF now ride i, (i : Int), ()), (b, u, v, ()), ())) ((l, day, now, ride, accF now ride now.length, ()), (b, u, v, ()), ()) 0 now.length (N := N) (by omega)
    (fun N => by simp [L8_17, B8_17])
    (fun N i _ hi => by
      simp only [L8_17, B8_17]
      rw [dec_t (by omega), cond_true, getI_gd (by omega) (by omega), getI_gd (by omega) (by omega), wI (x := (i : Int) + 1) (by omega) (by omega), accF_succ]
      generalize accF now ride i = s
      unfold accB
      cases (gd now (i : Int)).2.1 == 6 with
      | false => rfl
      | true => cases (gd now (i : Int)).2.2.1 == ride <;> rfl)
  exact e
theorem L8_23_at (b : Book) (l now : List Ent) (day ride last : Int) (u v : List Int) (hn : now.length ≤ 100) (a q : Nat) (ha : a ≤ q) (hq : q < now.length) (hw : wantT ride (gd now (q : Int)) = true) (hd : (gd now (q : Int)).1 = day) (N : Nat) (hN : now.length < N) :
    L8_23 N ((l, day, now, ride, last, false, (a : Int), ()), (b, u, v, ()), ()) = some ((l, day, now, ride, last, true, ()), (b, u, v, ()), ()) := by
  obtain ⟨r, e, rfl⟩ := loopN (L := L8_23) (fun i (t : Bool) => ((l, day, now, ride, last, t, (i : Int), ()), (b, u, v, ()), ())) (fun i t => q < i → t = true) (fun r => r = ((l, day, now, ride, last, true, ()), (b, u, v, ()), ())) 0 now.length
    (fun N t ht => ⟨_, by simp only [L8_23, B8_23]; rw [dec_f (by omega), ht hq]; rfl, rfl⟩)
    (fun N i t _ hi ht => by
      refine .inl ⟨t || (wantT ride (gd now (i : Int)) && (gd now (i : Int)).1 == day), ?_, ?_⟩
      · intro hqi
        by_cases h : q < i
        · rw [ht h]
          rfl
        · obtain rfl : q = i := by omega
          rw [hw, hd]
          simp
      · simp only [L8_23, B8_23]
        rw [dec_t (by omega), cond_true, getI_gd (by omega) (by omega), getI_gd (by omega) (by omega), getI_gd (by omega) (by omega), wI (x := (i : Int) + 1) (by omega) (by omega)]
        unfold wantT
        cases t with
        | true => rfl
        | false =>
          cases (gd now (i : Int)).2.1 == 4 with
          | false => rfl
          | true => cases (gd now (i : Int)).2.2.1 == ride <;> rfl)
    (now.length - a) a N false (by omega) (fun h => absurd h (by omega)) (by omega)
  exact e
theorem L8_33_at (b : Book) (l now : List Ent) (hf : Fit b now) (day ride last : Int) (u v : List Int) (hn : now.length ≤ 100) (a : Nat) (ha : a ≤ now.length) (r : Nat) (hr : r < b.1.length) (t0 : Bool) (hd : 0 ≤ day ∧ day ≤ 10000)
    (h : t0 = true ∨ ∃ q : Nat, a ≤ q ∧ q < now.length ∧ wantC (r : Int) (gd now (q : Int)) = true ∧ day - (gd now (q : Int)).1 < (gd b.1 (r : Int)).2.1) (N : Nat) (hN : now.length < N) :
    L8_33 N ((l, day, now, ride, last, (r : Int), t0, (a : Int), ()), (b, u, v, ()), ()) = some ((l, day, now, ride, last, (r : Int), true, ()), (b, u, v, ()), ()) := by
  have hsz := (sized_of hf.book).rules
  obtain ⟨z, e, rfl⟩ := loopN (L := L8_33) (fun i (t : Bool) => ((l, day, now, ride, last, (r : Int), t, (i : Int), ()), (b, u, v, ()), ())) (fun i t => t = true ∨ ∃ q : Nat, i ≤ q ∧ q < now.length ∧ wantC (r : Int) (gd now (q : Int)) = true ∧ day - (gd now (q : Int)).1 < (gd b.1 (r : Int)).2.1) (fun z => z = ((l, day, now, ride, last, (r : Int), true, ()), (b, u, v, ()), ())) 0 now.length
    (fun N t ht => by
      have : t = true := by
        rcases ht with h | ⟨q, h1, h2, _⟩
        · exact h
        · omega
      exact ⟨_, by simp only [L8_33, B8_33]; rw [dec_f (by omega), this]; rfl, rfl⟩)
    (fun N i t _ hi ht => by
      have h0 := hf.day0 i hi
      refine .inl ⟨if wantC (r : Int) (gd now (i : Int)) && decide (day - (gd now (i : Int)).1 < (gd b.1 (r : Int)).2.1) then true else t, ?_, ?_⟩
      · rcases ht with h | ⟨q, h1, h2, h3, h4⟩
        · rw [h]
          exact .inl (by split <;> rfl)
        · by_cases hq : q = i
          · rw [← hq, h3, dec_t h4]
            exact .inl rfl
          · exact .inr ⟨q, by omega, h2, h3, h4⟩
      · simp only [L8_33, B8_33]
        rw [dec_t (by omega), cond_true, getI_gd (by omega) (by omega), getI_gd (by omega) (by omega), wI (x := (i : Int) + 1) (by omega) (by omega), wI (x := day - (gd now (i : Int)).1) (by omega) (by omega)]
        unfold wantC
        cases (gd now (i : Int)).2.1 == 1 with
        | false => rfl
        | true =>
          cases (gd now (i : Int)).2.2.1 == (r : Int) with
          | false => rfl
          | true => cases decide (day - (gd now (i : Int)).1 < (gd b.1 (r : Int)).2.1) <;> rfl)
    (now.length - a) a N t0 (by omega) h (by omega)
  exact e
theorem L8_29_at (b : Book) (l now : List Ent) (hf : Fit b now) (day ride : Int) (u v : List Int) (hn : now.length ≤ 100) (hd : 0 ≤ day ∧ day ≤ 10000) (hc : chkB b now ride day b.1.length = true) (N : Nat) (hN : 1048776 < N) :
    L8_29 N ((l, day, now, ride, accF now ride now.length, 0, ()), (b, u, v, ()), ()) = some (.inr ((l, day, now, ride, ()), (b, u, v, ()), ())) := by
  have hsz := (sized_of hf.book).rules
  have hin := accF_in now ride now.length
  have e := loopF (L := L8_29) (fun r => ((l, day, now, ride, accF now ride now.length, (r : Int), ()), (b, u, v, ()), ())) (.inr ((l, day, now, ride, ()), (b, u, v, ()), ())) 101 b.1.length (N := N) (by omega)
    (fun N => by simp [L8_29, B8_29])
    (fun N r hN hr => by
      simp only [L8_29, B8_29]
      rw [dec_t (by omega), cond_true, getI_gd (by omega) (by omega), wI (x := accF now ride now.length + 1) (by omega) (by omega)]
      obtain ⟨a, ha⟩ : ∃ a : Nat, (a : Int) = accF now ride now.length + 1 := ⟨(accF now ride now.length + 1).toNat, by omega⟩
      rw [← ha, L8_33_at b l now hf day ride _ u v hn a (by omega) r hr _ hd (by
        by_cases he : (gd b.1 (r : Int)).1 = ride
        · right
          have h1 := (chkB_iff _ _ _ _ _).1 hc r hr he
          unfold forceB lastC at h1
          rw [Bool.and_eq_true, decide_eq_true_iff, decide_eq_true_iff, he] at h1
          obtain ⟨q, hq, hqd⟩ := last_hit_all (want := wantC (r : Int)) (ride := ride) (l := now) (by omega)
          have hy := hq.yes
          have h2 := hit_acc hq (by
            unfold wantC at hy
            rw [Bool.and_eq_true, beq_iff_eq] at hy
            unfold accB
            rw [hy.1]
            rfl)
          exact ⟨q, by omega, hq.lt, hy, by rw [hqd]; exact h1.2⟩
        · exact .inl (neq_t he)) N (by omega), derefK_some]
      dsimp only
      rw [wI (x := (r : Int) + 1) (by omega) (by omega)]
      rfl)
  exact e
theorem L8_41_at (b : Book) (l now : List Ent) (day ride : Int) (u : List Int) (hn : now.length ≤ 100) (hs : soundB now ride = true) (N : Nat) (hN : 100 < N) :
    L8_41 N ((l, day, now, ride, 0, ()), (b, u, openL now, ()), ()) = some (.inr ((l, day, now, ride, ()), (b, u, openL now, ()), ())) := by
  have hol := openL_len now
  have e := loopF (L := L8_41) (fun i => ((l, day, now, ride, (i : Int), ()), (b, u, openL now, ()), ())) (.inr ((l, day, now, ride, ()), (b, u, openL now, ()), ())) 0 (openL now).length (N := N) (by omega)
    (fun N => by simp [L8_41, B8_41])
    (fun N i _ hi => by
      simp only [L8_41, B8_41]
      obtain ⟨j, hj, ho, hij⟩ := fil_mem (gd_mem (l := openL now) (i := (i : Int)) (by omega) (by omega))
      have g1 : ∀ {R : Type} (k : Int → Option R), getI (openL now) (i : Int) k = k (j : Int) := fun k => by rw [getI_gd (by omega) (by omega), hij]
      have g2 : ∀ {R : Type} (k : Ent → Option R), getI now (j : Int) k = k (gd now (j : Int)) := fun k => getI_gd (by omega) (by omega) k
      have g3 : ∀ {R : Type} (k : Option R), inR (i : Int) (openL now).length k = k := fun k => inR_in (by omega) (by omega) k
      simp only [g1, g2, g3]
      have ho2 : ((gd now (j : Int)).2.1 == 2) = true := by
        unfold openB at ho
        simp only [Bool.and_eq_true] at ho
        exact ho.1.2
      rw [dec_t (by omega), dec_f (p := (j : Int) < 0) (by omega), dec_f (p := (j : Int) ≥ (now.length : Int)) (by omega), wI (x := (i : Int) + 1) (by omega) (by omega)]
      unfold bne
      rw [ho2]
      cases h1 : (gd now (j : Int)).2.2.1 == ride with
      | false => rfl
      | true =>
        cases h2 : (gd now (j : Int)).2.2.2.1 == 3 with
        | false => rfl
        | true =>
          exfalso
          unfold soundB cntL at hs
          rw [Bool.and_eq_true, beq_iff_eq] at hs
          have hs1 := hs.1
          have hlen : ((openL now).filter fun i => (gd now i).2.2.1 == ride && (gd now i).2.2.2.1 == 3).length = 0 := by omega
          rw [List.length_eq_zero_iff] at hlen
          have hm : gd (openL now) (i : Int) ∈ (openL now).filter fun i => (gd now i).2.2.1 == ride && (gd now i).2.2.2.1 == 3 := List.mem_filter.2 ⟨gd_mem (by omega) (by omega), by rw [hij, h1, h2]; rfl⟩
          rw [hlen] at hm
          cases hm)
  exact e
theorem fil_sorted (p : Nat → Bool) (n : Nat) {i : Nat} (h : i + 1 < (fil p n).length) : gd (fil p n) (i : Int) < gd (fil p n) ((i : Int) + 1) := by
  have hp : (fil p n).Pairwise (· < ·) := by
    unfold fil
    rw [List.pairwise_map]
    refine (List.pairwise_lt_range.filter _).imp ?_
    intro a c h
    omega
  have := List.pairwise_iff_getElem.1 hp i (i + 1) (by omega) h (by omega)
  rw [gd_of (List.getElem?_eq_getElem (by omega)), show (i : Int) + 1 = ((i + 1 : Nat) : Int) by omega, gd_of (List.getElem?_eq_getElem h)]
  exact this
theorem L8_46_at (b : Book) (hb : Sized b) (p : Nat → Bool) : L8_46 fuel ((0, ()), (b, fil p b.2.2.length, ()), ()) = some (.inr ((), (), ())) := by
  have hs := hb.rides
  have hl := fil_len p b.2.2.length
  have e := loopF (L := L8_46) (fun i => (((i : Int), ()), (b, fil p b.2.2.length, ()), ())) (.inr ((), (), ())) 0 (fil p b.2.2.length).length (N := fuel) (by have := fuel_ge; omega)
    (fun N => by simp [L8_46, B8_46])
    (fun N i _ hi => by
      simp only [L8_46, B8_46]
      obtain ⟨j, hj, _, hij⟩ := fil_mem (gd_mem (l := fil p b.2.2.length) (i := (i : Int)) (by omega) (by omega))
      have g1 : ∀ {R : Type} (k : Int → Option R), getI (fil p b.2.2.length) (i : Int) k = k (gd (fil p b.2.2.length) (i : Int)) := fun k => getI_gd (by omega) (by omega) k
      have g3 : ∀ {R : Type} (k : Option R), inR (i : Int) (fil p b.2.2.length).length k = k := fun k => inR_in (by omega) (by omega) k
      simp only [g1, g3]
      rw [dec_t (by omega), dec_f (p := gd (fil p b.2.2.length) (i : Int) < 0) (by omega), dec_f (p := gd (fil p b.2.2.length) (i : Int) ≥ (b.2.2.length : Int)) (by omega), wI (x := (i : Int) + 1) (by omega) (by omega), cond_true, cond_false, cond_false]
      by_cases h0 : (i : Int) > 0
      · have h1 := fil_sorted p b.2.2.length (i := i - 1) (by omega)
        rw [show ((i - 1 : Nat) : Int) = (i : Int) - 1 by omega, show (i : Int) - 1 + 1 = (i : Int) by omega] at h1
        rw [dec_t h0, wI (x := (i : Int) - 1) (by omega) (by omega), inR_in (by omega) (by omega), getI_gd (i := (i : Int) - 1) (by omega) (by omega), dec_f (p := gd (fil p b.2.2.length) (i : Int) ≤ gd (fil p b.2.2.length) ((i : Int) - 1)) (by omega)]
        rfl
      · rw [dec_f h0]
        rfl)
  exact e
theorem law8 (b : Book) (l : List Ent) (day : Int) : g8 (b, l, day, ()) = some ((true, ()), ()) := by
  show F8 fuel b l day = _
  unfold F8
  rw [g16_eq, derefK_some, works_eq]
  simp only [derefK_some]
  cases decide (30 < l.length ∧ l.length ≤ 100) with
  | true => rfl
  | false =>
  rw [cond_false, g20_eq, derefK_some, g30_eq, derefK_some]
  by_cases hc : dayErr b l day = 0
  case neg =>
    show cond (dayErr b l day != 0) (cond (dayErr b l day == dayErr b l day) _ _) _ = _
    rw [neq_t hc, show (dayErr b l day == dayErr b l day) = true by simp]
    rfl
  obtain ⟨hg, hd⟩ := dayErr_ok hc
  have hlen := hg.len
  have hsz := sized_of hg.book
  have hs := hsz.rules
  have hr := hsz.rides
  have hgn := hg.upto day
  have hf := hgn.fit
  have hnl := hgn.len
  have v1 := rel_len b (upto l day) day
  rw [hc, g28_eq l day (by omega)]
  simp only [if_true, derefK_some]
  show derefK (L8_9 fuel ((l, day, upto l day, 0, ()), (b, relL b (upto l day) day, openL (upto l day), ()), ())) _ = _
  have e := loopF (L := L8_9) (fun i => ((l, day, upto l day, (i : Int), ()), (b, relL b (upto l day) day, openL (upto l day), ()), ())) (.inr ((), (b, relL b (upto l day) day, ()), ())) 1048900 b.2.2.length (N := fuel) (by have := fuel_ge; omega)
    (fun N => by simp [L8_9, B8_9])
    (fun N i hN hi => by
      simp only [L8_9, B8_9]
      rw [dec_t (by omega), cond_true, g22_eq, derefK_some, rideErr_good hg (rideB_of hi) hd.1 hd.2, if_pos rfl]
      dsimp only
      rw [g21_eq _ (by omega), derefK_some, has_rel _ _ _ hi, wI (x := (i : Int) + 1) (by omega) (by omega)]
      have er : relB b (upto l day) day i = (((whyL b (upto l day) (i : Int) day).length : Int) == 0) := rfl
      rw [← er, show (relB b (upto l day) day i == relB b (upto l day) day i) = true by simp]
      cases hrel : relB b (upto l day) day i with
      | false =>
        rw [hrel] at er
        have : ¬ ((whyL b (upto l day) (i : Int) day).length : Int) = 0 := fun h => by rw [h] at er; cases er
        rw [dec_t (p := ((whyL b (upto l day) (i : Int) day).length : Int) > 0) (by omega)]
        rfl
      | true =>
        have hrel' := hrel
        rw [hrel] at er
        have : ((whyL b (upto l day) (i : Int) day).length : Int) = 0 := eq_of_beq er.symm
        rw [dec_f (p := ((whyL b (upto l day) (i : Int) day).length : Int) > 0) (by omega)]
        rw [relB_iff] at hrel'
        simp only [Bool.and_eq_true] at hrel'
        obtain ⟨⟨⟨hchk, hsound⟩, htest⟩, _⟩ := hrel'
        have htest := eq_of_beq htest
        obtain ⟨q, hq, hqd⟩ := last_hit_all (want := wantT (i : Int)) (ride := (i : Int)) (l := upto l day) (by omega)
        have hy := hq.yes
        have h2 := hit_acc hq (by
          unfold wantT at hy
          rw [Bool.and_eq_true, beq_iff_eq] at hy
          unfold accB
          rw [hy.1]
          rfl)
        have hin := accF_in (upto l day) (i : Int) (upto l day).length
        obtain ⟨a, ha⟩ : ∃ a : Nat, (a : Int) = accF (upto l day) (i : Int) (upto l day).length + 1 := ⟨(accF (upto l day) (i : Int) (upto l day).length + 1).toNat, by omega⟩
        simp only [Bool.not_true, cond_false, bne_self_eq_false]
        rw [L8_17_at b l (upto l day) day (i : Int) _ _ hnl N (by omega), derefK_some]
        dsimp only
        rw [wI (x := accF (upto l day) (i : Int) (upto l day).length + 1) (by omega) (by omega), ← ha, L8_23_at b l (upto l day) day (i : Int) _ _ _ hnl a q (by omega) hq.lt hy (by rw [hqd, htest]) N (by have := hq.lt; omega), derefK_some]
        dsimp only
        rw [Bool.not_true, cond_false, L8_29_at b l (upto l day) hf day (i : Int) _ _ hnl hd hchk N (by omega), derefK_some, sumK_inr]
        dsimp only
        rw [L8_41_at b l (upto l day) day (i : Int) _ hnl hsound N (by omega), derefK_some, sumK_inr]
        dsimp only
        rw [wI (x := (i : Int) + 1) (by omega) (by omega)]
        rfl)
  have e' : L8_9 fuel ((l, day, upto l day, 0, ()), (b, relL b (upto l day) day, openL (upto l day), ()), ()) = _ := e
  rw [e', derefK_some, sumK_inr]
  show derefK (L8_46 fuel ((0, ()), (b, fil (relB b (upto l day) day) b.2.2.length, ()), ())) _ = _
  rw [L8_46_at b hsz]
  rfl
end Go.Proofs.Try.V
