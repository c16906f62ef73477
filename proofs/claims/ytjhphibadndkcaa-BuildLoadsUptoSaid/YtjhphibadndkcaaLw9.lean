/- Plain laws of layer 8, ninth part: the document's time, minute by minute, is the program's. No condition beyond those typed in each theorem. -/
import Derived.Test.YtjhphibadndkcaaLw7
namespace Go.Proofs.Try.V
open Go.Vi
set_option maxRecDepth 100000

/-! ## Tables -/
def tab (n : Nat) (f : Nat → Int) : List Int := (List.range n).map f
theorem tab_length (n : Nat) (f : Nat → Int) : (tab n f).length = n := by simp [tab]
theorem tab_get {n : Nat} {f : Nat → Int} {p : Nat} (h : p < n) : (tab n f)[p]? = some (f p) := by simp [tab, h]
theorem tab_congr {n : Nat} {f g : Nat → Int} (h : ∀ q, q < n → f q = g q) : tab n f = tab n g := by
  unfold tab
  exact List.map_congr_left fun q hq => h q (List.mem_range.1 hq)
theorem tab_set {n : Nat} {f g : Nat → Int} {p : Nat} {x : Int} (hp : p < n) (h1 : g p = x) (h2 : ∀ q, q < n → q ≠ p → g q = f q) : (tab n f).set p x = tab n g := by
  apply List.ext_getElem?
  intro i
  rw [List.getElem?_set]
  by_cases hi : i < n
  · rw [tab_get hi]
    by_cases e : p = i
    · subst e; rw [if_pos rfl, if_pos (by rw [tab_length]; exact hp), tab_get hp, h1]
    · rw [if_neg e, tab_get hi, h2 i hi (fun h => e h.symm)]
  · rw [List.getElem?_eq_none (by rw [tab_length]; omega)]
    rw [if_neg (by omega), List.getElem?_eq_none (by rw [tab_length]; omega)]
theorem getI_tab {R : Type} {n : Nat} {f : Nat → Int} {p : Nat} (h : p < n) (k : Int → Option R) : getI (tab n f) (p : Int) k = k (f p) := getI_some (by omega) (by rw [show ((p : Int)).toNat = p by omega]; exact tab_get h) k

/-! ## Maps -/
theorem lkI_del_other {kv : KV} {x q : Int} (h : q ≠ x) : lkI (delI kv x) q = lkI kv q := by
  induction kv with
  | nil => rfl
  | cons y r ih =>
    obtain ⟨n, u⟩ := y
    unfold delI
    cases hn : n == x with
    | true =>
      rw [cond_true]
      have : (n == q) = false := by
        simp only [beq_eq_false_iff_ne, ne_eq]
        intro e
        exact h (by rw [← e]; exact eq_of_beq hn)
      unfold lkI
      rw [this, cond_false]
      cases r <;> rfl
    | false =>
      rw [cond_false]
      unfold lkI
      rw [ih]
theorem lkI_del_self : ∀ {kv : KV} {x : Int}, (kv.map (·.1)).Nodup → lkI (delI kv x) x = none
  | [], _, _ => rfl
  | (n, u) :: r, x, h => by
    rw [List.map_cons, List.nodup_cons] at h
    unfold delI
    cases hn : n == x with
    | true =>
      rw [cond_true]
      cases hl : lkI r x with
      | none => rfl
      | some v =>
        have : x ∈ r.map (·.1) := List.mem_map.2 ⟨(x, v), lkI_mem hl, rfl⟩
        rw [← eq_of_beq hn] at this
        exact absurd this h.1
    | false =>
      rw [cond_false]
      unfold lkI
      rw [hn, cond_false]
      exact lkI_del_self h.2
theorem lkI_app : ∀ {kv : KV} {x v q : Int}, lkI kv x = none → lkI (kv ++ [(x, v)]) q = if q = x then some v else lkI kv q
  | [], x, v, q, _ => by
    show (bif x == q then some v else none) = _
    by_cases h : q = x
    · rw [if_pos h, h, beq_self_eq_true]; rfl
    · rw [if_neg h, show (x == q) = false by simp only [beq_eq_false_iff_ne, ne_eq]; exact fun e => h e.symm]; rfl
  | (n, u) :: r, x, v, q, h => by
    unfold lkI at h
    cases hn : n == x with
    | true => rw [hn, cond_true] at h; cases h
    | false =>
      rw [hn, cond_false] at h
      show (bif n == q then some u else lkI (r ++ [(x, v)]) q) = if q = x then some v else (bif n == q then some u else lkI r q)
      rw [lkI_app h]
      cases hq : n == q with
      | true =>
        have : q ≠ x := fun e => by rw [e] at hq; rw [hq] at hn; cases hn
        simp [this]
      | false => rfl

def lv (kv : KV) (t : Int) (q : Nat) : Int := match lkI kv (q : Int) with
  | some v => v - t
  | none => 0
def rd (n : Nat) (s : List Bool) : Int := (n : Int) - (s.count false : Nat)
def isBusy (kv : KV) (q : Nat) : Bool := (lkI kv (q : Int)).isSome
def cntB (kv : KV) (p d : Nat) : Nat := ((List.range' p d).filter (isBusy kv)).length

/-- What lies ahead: later than t, of parts that do not stand. -/
structure Ahead (n : Nat) (t : Int) (s : List Bool) (kv : KV) : Prop where
  nodup : (kv.map (·.1)).Nodup
  key : ∀ x v, (x, v) ∈ kv → 0 ≤ x ∧ x < n ∧ t + 1 ≤ v ∧ v ≤ 1048576 ∧ has s x = false

theorem has_set {s : List Bool} {p : Nat} {x : Int} (h : 0 ≤ x) (hx : x ≠ p) : has (s.set p true) x = has s x := by
  unfold has
  rw [List.getD_eq_getElem?_getD, List.getD_eq_getElem?_getD, List.getElem?_set_ne (by omega)]

theorem done1_other {now : Int} {p : Nat} {x : List Bool × KV} {q : Int} (h : q ≠ p) : lkI (done1 now p x).2 q = lkI x.2 q := by
  unfold done1
  split
  · rename_i u hu
    cases u == now with
    | true => exact lkI_del_other h
    | false => rfl
  · rfl
theorem doneGo_other {now : Int} {q : Int} : ∀ (d p : Nat) (x : List Bool × KV), (q < p ∨ (p : Int) + d ≤ q) → lkI (doneGo now d p x).2 q = lkI x.2 q
  | 0, _, _, _ => rfl
  | d + 1, p, x, h => by
    rw [doneGo, doneGo_other d (p + 1) _ (by omega), done1_other (by omega)]

theorem done1_ahead {n : Nat} {t : Int} {p : Nat} {s : List Bool} {kv : KV} (h : Ahead n t s kv) : Ahead n t (done1 (t + 1) p (s, kv)).1 (done1 (t + 1) p (s, kv)).2 := by
  unfold done1
  dsimp only
  split
  · rename_i u hu
    cases u == t + 1 with
    | false => exact h
    | true =>
      have hs := delI_sub (p : Int) kv
      refine ⟨(hs.map _).nodup h.nodup, fun a b hab => ?_⟩
      have hk := h.key a b (hs.subset hab)
      have hne : a ≠ p := by
        rintro rfl
        have h1 := lkI_of_mem ((hs.map _).nodup h.nodup) hab
        rw [lkI_del_self h.nodup] at h1
        cases h1
      exact ⟨hk.1, hk.2.1, hk.2.2.1, hk.2.2.2.1, by rw [cond_true]; rw [has_set hk.1 hne]; exact hk.2.2.2.2⟩
  · exact h

/-- A minute of the parts that are worked at. -/
theorem L23_15_eq' (k : Kit) (ord : List Int) (teams minute : Int) (n : Nat) (hn : n ≤ 16) (t : Int) (ht : 0 ≤ t + 1) : ∀ (d p : Nat) (s : List Bool) (kv : KV) (busy : Int) (N : Nat), s.length = n → p + d = n → d < N → 0 ≤ busy → busy ≤ p → Ahead n t s kv →
    L23_15 N ((teams, rd n s, minute, busy, (p : Int), ()), (k, s, tab n (fun q => if q < p then lv kv (t + 1) q else lv kv t q), ord, ()), ()) =
      some ((teams, rd n (doneGo (t + 1) d p (s, kv)).1, minute, busy + cntB (doneGo (t + 1) d p (s, kv)).2 p d, ()), (k, (doneGo (t + 1) d p (s, kv)).1, tab n (lv (doneGo (t + 1) d p (s, kv)).2 (t + 1)), ord, ()), ()) ∧
    Ahead n t (doneGo (t + 1) d p (s, kv)).1 (doneGo (t + 1) d p (s, kv)).2 ∧ (doneGo (t + 1) d p (s, kv)).1.length = n
  | 0, p, s, kv, busy, N, hs, hp, hN, hb0, hb, h => by
    obtain ⟨m, rfl⟩ := pos_of_lt hN
    refine ⟨?_, h, hs⟩
    simp only [L23_15, B23_15, tab_length]
    rw [dec_f (by omega), cond_false]
    simp only [doneGo, cntB, List.range'_zero, List.filter_nil, List.length_nil]
    rw [tab_congr (g := lv kv (t + 1)) (fun q hq => by rw [if_pos (by omega)])]
    simp
  | d + 1, p, s, kv, busy, N, hs, hp, hN, hb0, hb, h => by
    obtain ⟨m, rfl⟩ := pos_of_lt hN
    have hpn : p < n := by omega
    have hlen1 : (done1 (t + 1) p (s, kv)).1.length = n := by
      unfold done1
      dsimp only
      split
      · rename_i u hu
        cases u == t + 1 with
        | true => simp [hs]
        | false => exact hs
      · exact hs
    have hcnt : ∀ kv' : KV, cntB kv' p (d + 1) = (if isBusy kv' p = true then 1 else 0) + cntB kv' (p + 1) d := by
      intro kv'
      unfold cntB
      rw [List.range'_succ, List.filter_cons]
      split <;> simp <;> omega
    have hlast : lkI (doneGo (t + 1) d (p + 1) (done1 (t + 1) p (s, kv))).2 (p : Int) = lkI (done1 (t + 1) p (s, kv)).2 (p : Int) := doneGo_other d (p + 1) _ (by omega)
    have hcb : s.count false ≤ n := by rw [← hs]; exact List.count_le_length
    simp only [L23_15, B23_15, tab_length]
    rw [dec_t (by omega), cond_true]
    simp only [inR_in (show (0 : Int) ≤ (p : Int) by omega) (show (p : Int) < (n : Int) by omega), getI_tab hpn]
    rw [if_neg (Nat.lt_irrefl p), w64 (x := (p : Int) + 1) (by omega) (by omega), show (p : Int) + 1 = ((p + 1 : Nat) : Int) by omega]
    rw [doneGo, hcnt]
    unfold isBusy
    rw [hlast]
    cases hl : lkI kv (p : Int) with
    | none =>
      have hd1 : done1 (t + 1) p (s, kv) = (s, kv) := by unfold done1; dsimp only; rw [hl]
      have e0 : lv kv t p = 0 := by unfold lv; rw [hl]
      obtain ⟨ih, ih2⟩ := L23_15_eq' k ord teams minute n hn t ht d (p + 1) s kv busy m hs (by omega) (by omega) hb0 (by omega) h
      rw [hd1] at *
      refine ⟨?_, ih2⟩
      rw [e0, show ((0 : Int) == 0) = true from rfl, cond_true]
      rw [tab_congr (g := fun q => if q < p + 1 then lv kv (t + 1) q else lv kv t q) (fun q hq => by
        by_cases e : q = p
        · subst e
          rw [if_neg (Nat.lt_irrefl q), if_pos (Nat.lt_succ_self q)]
          unfold lv
          rw [hl]
        · by_cases hqp : q < p
          · rw [if_pos hqp, if_pos (by omega)]
          · rw [if_neg hqp, if_neg (by omega)])]
      rw [ih, hl]
      simp
    | some v =>
      have hk := h.key _ _ (lkI_mem hl)
      have e0 : lv kv t p = v - t := by unfold lv; rw [hl]
      have hne : (v - t == 0) = false := by simp only [beq_eq_false_iff_ne, ne_eq]; omega
      rw [e0, hne, cond_false, w64 (x := v - t - 1) (by omega) (by omega), show ((p : Int)).toNat = p by omega]
      have hset : ∀ (kv' : KV), (∀ q, q ≠ p → lkI kv' (q : Int) = lkI kv (q : Int)) → lv kv' (t + 1) p = v - t - 1 →
          (tab n (fun q => if q < p then lv kv (t + 1) q else lv kv t q)).set p (v - t - 1) = tab n (fun q => if q < p + 1 then lv kv' (t + 1) q else lv kv' t q) := by
        intro kv' h1 h2
        refine tab_set hpn (by rw [if_pos (Nat.lt_succ_self p)]; exact h2) (fun q _ hq => ?_)
        have : ∀ u, lv kv' u q = lv kv u q := fun u => by unfold lv; rw [h1 q hq]
        by_cases hqp : q < p
        · rw [if_pos hqp, if_pos (by omega), this]
        · rw [if_neg hqp, if_neg (by omega), this]
      by_cases hv : v = t + 1
      · have hd1 : done1 (t + 1) p (s, kv) = (s.set p true, delI kv (p : Int)) := by unfold done1; dsimp only; rw [hl]; dsimp only; rw [hv, beq_self_eq_true]; rfl
        have hah := done1_ahead (p := p) h
        rw [hd1] at hah hlen1 ⊢
        have hcs := count_set_false (by omega : p < s.length) hk.2.2.2.2
        have hset' := hset (delI kv (p : Int)) (fun q hq => lkI_del_other (by omega)) (by unfold lv; rw [lkI_del_self h.nodup]; dsimp only; omega)
        obtain ⟨ih, ih2⟩ := L23_15_eq' k ord teams minute n hn t ht d (p + 1) (s.set p true) (delI kv (p : Int)) busy m hlen1 (by omega) (by omega) hb0 (by omega) hah
        refine ⟨?_, ih2⟩
        rw [hset', tab_length, inR_in (by omega) (by omega), getI_tab hpn, if_pos (Nat.lt_succ_self p)]
        have e1 : lv (delI kv (p : Int)) (t + 1) p = 0 := by unfold lv; rw [lkI_del_self h.nodup]
        rw [e1, show ((0 : Int) == 0) = true from rfl, cond_true, inR_in (by omega) (by omega), getI_has (by omega) (by omega)]
        have e2 : IntKind.wrap .i64 (rd n s + 1) = rd n (s.set p true) := by
          unfold rd
          rw [w64 (by omega) (by omega)]
          omega
        rw [e2, ih, lkI_del_self h.nodup]
        simp
      · have hd1 : done1 (t + 1) p (s, kv) = (s, kv) := by
          unfold done1; dsimp only; rw [hl]; dsimp only
          rw [show (v == t + 1) = false by simp only [beq_eq_false_iff_ne, ne_eq]; exact hv]
          rfl
        rw [hd1] at hlen1 ⊢
        have hset' := hset kv (fun q hq => rfl) (by unfold lv; rw [hl]; dsimp only; omega)
        obtain ⟨ih, ih2⟩ := L23_15_eq' k ord teams minute n hn t ht d (p + 1) s kv (busy + 1) m hs (by omega) (by omega) (by omega) (by omega) h
        refine ⟨?_, ih2⟩
        rw [hset', tab_length, inR_in (by omega) (by omega), getI_tab hpn, if_pos (Nat.lt_succ_self p)]
        have e1 : lv kv (t + 1) p = v - (t + 1) := by unfold lv; rw [hl]
        rw [e1, show (v - (t + 1) == 0) = false by simp only [beq_eq_false_iff_ne, ne_eq]; omega, cond_false, w64 (x := busy + 1) (by omega) (by omega), ih, hl]
        simp
        omega

theorem cntB_all {n : Nat} {t : Int} {s : List Bool} {kv : KV} (h : Ahead n t s kv) : cntB kv 0 n = kv.length := by
  unfold cntB
  rw [← List.range_eq_range']
  have hp : (((List.range n).filter (isBusy kv)).map Int.ofNat).Perm (kv.map (·.1)) := by
    refine perm_of_nodup _ _ ?_ ?_ ?_ 
    · rw [List.Nodup, List.pairwise_map]
      exact List.Pairwise.imp (fun h e => h (Int.ofNat.inj e)) (List.nodup_range.filter _)
    · intro x hx
      obtain ⟨q, hq, rfl⟩ := List.mem_map.1 hx
      have := (List.mem_filter.1 hq).2
      unfold isBusy at this
      obtain ⟨v, hv⟩ := Option.isSome_iff_exists.1 this
      exact List.mem_map.2 ⟨_, lkI_mem hv, rfl⟩
    · have := List.Nodup.length_le_of_subset (l₁ := kv.map (·.1)) (l₂ := ((List.range n).filter (isBusy kv)).map Int.ofNat) h.nodup (fun x hx => by
        obtain ⟨z, hz, rfl⟩ := List.mem_map.1 hx
        have hk := h.key z.1 z.2 hz
        refine List.mem_map.2 ⟨z.1.toNat, List.mem_filter.2 ⟨List.mem_range.2 (by omega), ?_⟩, by simp; omega⟩
        unfold isBusy
        rw [show ((z.1.toNat : Nat) : Int) = z.1 by omega, lkI_of_mem h.nodup hz]
        rfl)
      exact this
  have := hp.length_eq
  simpa using this

/-- The parts that are begun. -/
theorem fill1_ahead {k : Kit} (hf : Fine k) {teams t : Int} (ht0 : -1 ≤ t) (ht1 : t + 100 ≤ 1048576) {s : List Bool} {p : Int} {kv : KV} (h0 : 0 ≤ p) (hp : p < k.1.length) (h : Ahead k.1.length t s kv) : Ahead k.1.length t s (fill1 k teams t s p kv) := by
  unfold fill1
  cases hl : lkI kv p with
  | some u => exact h
  | none =>
    dsimp only
    cases hc : decide ((kv.length : Int) < teams) && canB k s p with
    | false => exact h
    | true =>
      rw [cond_true]
      rw [Bool.and_eq_true] at hc
      obtain ⟨q, _, _, h1, h2⟩ := mins_in hf h0 hp
      refine ⟨?_, fun x v hx => ?_⟩
      · rw [List.map_append, List.nodup_append]
        exact ⟨h.nodup, by simp, fun a ha b hb e => by simp at hb; subst hb; subst e; exact lkI_none hl ha⟩
      · rcases List.mem_append.1 hx with hx | hx
        · exact h.key x v hx
        · simp at hx
          obtain ⟨rfl, rfl⟩ := hx
          exact ⟨h0, hp, by omega, by omega, canB_has hc.2⟩

theorem L23_26_eq' {k : Kit} (hk : Small k) (hf : Fine k) (ord : List Int) (teams ready minute : Int) (hte : teams ≤ 4) (t : Int) (ht0 : 0 ≤ t) (ht1 : t + 100 ≤ 1048576) (s : List Bool) (hs : s.length = k.1.length) : ∀ (d p : Nat) (kv : KV) (N : Nat), p + d = k.1.length → d < N → Ahead k.1.length t s kv →
    L23_26 N ((teams, ready, minute, (kv.length : Int), (p : Int), ()), (k, s, tab k.1.length (lv kv t), ord, ()), ()) = some ((teams, ready, minute, ()), (k, s, tab k.1.length (lv (fillGo k teams t s d p kv) t), ord, ()), ()) ∧ Ahead k.1.length t s (fillGo k teams t s d p kv)
  | 0, p, kv, N, hp, hN, h => by
    obtain ⟨m, rfl⟩ := pos_of_lt hN
    refine ⟨?_, h⟩
    simp only [L23_26, B23_26, tab_length]
    rw [dec_f (by omega)]
    rfl
  | d + 1, p, kv, N, hp, hN, h => by
    obtain ⟨m, rfl⟩ := pos_of_lt hN
    have h16 := hf.parts
    have hpn : p < k.1.length := by omega
    have hw := fill1_ahead hf (teams := teams) (p := (p : Int)) (by omega) ht1 (by omega) (by omega) h
    obtain ⟨ih1, ih2⟩ := L23_26_eq' hk hf ord teams ready minute hte t ht0 ht1 s hs d (p + 1) (fill1 k teams t s (p : Int) kv) m (by omega) (by omega) hw
    refine ⟨?_, ih2⟩
    simp only [L23_26, B23_26, tab_length]
    rw [dec_t (by omega), cond_true, w64 (x := (p : Int) + 1) (by omega) (by omega), show (p : Int) + 1 = ((p + 1 : Nat) : Int) by omega]
    simp only [inR_in (show (0 : Int) ≤ (p : Int) by omega) (show (p : Int) < (k.1.length : Int) by omega), getI_tab hpn]
    rw [fillGo]
    unfold fill1 at ih1 ⊢
    cases hl : lkI kv (p : Int) with
    | some v =>
      rw [hl] at ih1
      have hk' := h.key _ _ (lkI_mem hl)
      have e0 : lv kv t p = v - t := by unfold lv; rw [hl]
      rw [e0, show (v - t == 0) = false by simp only [beq_eq_false_iff_ne, ne_eq]; omega]
      by_cases hlen : (kv.length : Int) < teams
      · rw [dec_t hlen]; exact ih1
      · rw [dec_f hlen]; exact ih1
    | none =>
      rw [hl] at ih1
      have e0 : lv kv t p = 0 := by unfold lv; rw [hl]
      rw [e0, show ((0 : Int) == 0) = true from rfl]
      dsimp only at ih1 ⊢
      by_cases hlen : (kv.length : Int) < teams
      · rw [dec_t hlen] at ih1 ⊢
        rw [cond_true, cond_true, g58_eq hk hf hs (by omega) (by omega), derefK_some]
        cases hc : canB k s (p : Int) with
        | false => rw [hc] at ih1; exact ih1
        | true =>
          rw [hc] at ih1
          obtain ⟨q, hq, e, h1, h2⟩ := mins_in hf (p := (p : Int)) (by omega) (by omega)
          simp only [cond_true, Bool.and_true] at ih1 ⊢
          rw [getI_some (by omega) hq, ← e, show ((p : Int)).toNat = p by omega, w64 (x := (kv.length : Int) + 1) (by omega) (by omega)]
          have hset : (tab k.1.length (lv kv t)).set p (minsOf k (p : Int)) = tab k.1.length (lv (kv ++ [((p : Int), t + minsOf k (p : Int))]) t) := by
            refine tab_set hpn ?_ (fun q' _ hq' => ?_)
            · unfold lv; rw [lkI_app hl, if_pos rfl]; dsimp only; omega
            · unfold lv; rw [lkI_app hl, if_neg (by omega)]
          rw [hset]
          rw [show ((kv ++ [((p : Int), t + minsOf k (p : Int))]).length : Int) = (kv.length : Int) + 1 by simp] at ih1
          exact ih1
      · rw [dec_f hlen] at ih1 ⊢
        exact ih1
end Go.Proofs.Try.V
