/- Plain laws of layer 8, tenth part: Time returns what the document specifies. No condition beyond those typed in each theorem. -/
import Derived.Test.YtjhphibadndkcaaLw9
namespace Go.Proofs.Try.V
open Go.Vi
set_option maxRecDepth 100000

/-! ## While not all parts stand, one can be put up -/
theorem firstP_some {f : Nat → Bool} : ∀ {m p q : Nat}, firstP f m p = some q → p ≤ q ∧ q < p + m ∧ f q = true
  | 0, _, _, h => by cases h
  | m + 1, p, q, h => by
    rw [firstP] at h
    cases hf : f p with
    | true => rw [hf, cond_true] at h; cases h; exact ⟨Nat.le_refl _, by omega, hf⟩
    | false =>
      rw [hf, cond_false] at h
      have := firstP_some h
      exact ⟨by omega, by omega, this.2.2⟩
theorem canB_mono {k : Kit} {s s' : List Bool} (h : ∀ q, has s' q = true → has s q = true) {p : Int} (hp : has s p = false) (hc : canB k s' p = true) : canB k s p = true := by
  unfold canB at hc ⊢
  split at hc
  · rename_i q hq
    simp only [Bool.and_eq_true, Bool.not_eq_true', List.all_eq_true, Bool.or_eq_true, decide_eq_true_eq] at hc ⊢
    obtain ⟨⟨⟨_, h2⟩, h3⟩, h4⟩ := hc
    refine ⟨⟨⟨hp, fun x hx => h x (h2 x hx)⟩, h3⟩, fun x hx => ?_⟩
    rcases h4 x hx with h5 | h5
    · exact .inl h5
    · exact .inr (h x h5)
  · cases hc
theorem has_set' {s : List Bool} {p : Nat} {q : Int} (h : has (s.set p true) q = true) : has s q = true ∨ q.toNat = p := by
  by_cases e : q.toNat = p
  · exact .inr e
  · left
    unfold has at h ⊢
    rw [List.getD_eq_getElem?_getD, List.getElem?_set_ne (fun h => e h.symm)] at h
    rw [List.getD_eq_getElem?_getD]
    exact h
theorem runO_sub {k : Kit} {s : List Bool} (hno : ∀ p, p < k.1.length → canB k s (p : Int) = false) : ∀ (m : Nat) (x : OSt), (∀ q, has x.2 q = true → has s q = true) → ∀ q, has (runO k m x).2 q = true → has s q = true
  | 0, x, h, q, hq => h q hq
  | m + 1, x, h, q, hq => by
    rw [runO] at hq
    refine runO_sub hno m (stepO k x) ?_ q hq
    unfold stepO
    split
    · rename_i p hp
      obtain ⟨_, h2, h3⟩ := firstP_some hp
      intro q hq
      rcases has_set' hq with h4 | h4
      · exact h q h4
      · cases hs : has s (p : Int) with
        | true =>
          have : has s q = has s (p : Int) := by unfold has; rw [h4]; rfl
          rw [this, hs]
        | false =>
          have := canB_mono h hs h3
          rw [hno p (by omega)] at this
          cases this
    · exact h
theorem stepO_count {k : Kit} {x : OSt} (hx : x.2.length = k.1.length) : (stepO k x).1.length + (stepO k x).2.count false = x.1.length + x.2.count false := by
  unfold stepO
  split
  · rename_i p hp
    obtain ⟨_, h2, h3⟩ := firstP_some hp
    have := count_set_false (by omega : p < x.2.length) (canB_has h3)
    unfold putO
    simp only [List.length_append, List.length_cons, List.length_nil]
    omega
  · rfl
theorem runO_count {k : Kit} : ∀ (m : Nat) (x : OSt), x.2.length = k.1.length → (runO k m x).1.length + (runO k m x).2.count false = x.1.length + x.2.count false
  | 0, x, _ => rfl
  | m + 1, x, h => by
    rw [runO, runO_count m _ (by rw [(stepO_len (k := k) (x := x)).1]; exact h), stepO_count h]
theorem progress {k : Kit} (hw : k.1.length ≤ (finO k).1.length) {s : List Bool} (hs : s.length = k.1.length) (hf : false ∈ s) : ∃ p, p < k.1.length ∧ canB k s (p : Int) = true := by
  refine Classical.byContradiction fun hno => ?_
  have hno' : ∀ p, p < k.1.length → canB k s (p : Int) = false := by
    intro p hp
    cases h : canB k s (p : Int) with
    | false => rfl
    | true => exact absurd ⟨p, hp, h⟩ hno
  have hsub := runO_sub hno' k.1.length (startO k) (fun q hq => by
    unfold startO has at hq
    rw [List.getD_eq_getElem?_getD, List.getElem?_replicate] at hq
    split at hq <;> cases hq)
  have hc := runO_count (k := k) k.1.length (startO k) (by simp [startO])
  have h0 : (startO k).1.length + (startO k).2.count false = k.1.length := by simp [startO]
  have hcf : (finO k).2.count false = 0 := by
    have : (finO k).1.length + (finO k).2.count false = (startO k).1.length + (startO k).2.count false := hc
    omega
  obtain ⟨i, hi, he⟩ := List.mem_iff_getElem.1 hf
  have hfi : has (finO k).2 (i : Int) = true := by
    have hl := (finO_len k).1
    unfold has
    rw [List.getD_eq_getElem?_getD, List.getElem?_eq_getElem (by simp; omega)]
    have hm : (finO k).2[i]'(by omega) ∈ (finO k).2 := List.getElem_mem _
    cases h : (finO k).2[i]'(by omega) with
    | true => simpa using h
    | false =>
      rw [h] at hm
      have := List.count_pos_iff.2 hm
      omega
  have := hsub (i : Int) hfi
  unfold has at this
  rw [List.getD_eq_getElem?_getD, List.getElem?_eq_getElem (by simpa using hi)] at this
  simp [he] at this

/-! ## Nothing more can be begun -/
def Full (k : Kit) (teams : Int) (s : List Bool) (kv : KV) (q : Nat) : Prop := (lkI kv (q : Int)).isSome = true ∨ ¬ (kv.length : Int) < teams ∨ canB k s (q : Int) = false
theorem fill1_keep {k : Kit} {teams now : Int} {s : List Bool} {p : Int} {kv : KV} {q : Nat} (h : Full k teams s kv q) : Full k teams s (fill1 k teams now s p kv) q := by
  unfold fill1
  cases hl : lkI kv p with
  | some u => exact h
  | none =>
    dsimp only
    cases hc : decide ((kv.length : Int) < teams) && canB k s p with
    | false => exact h
    | true =>
      rw [cond_true]
      rcases h with h | h | h
      · left
        rw [lkI_app hl]
        split
        · rfl
        · exact h
      · right; left
        simp only [List.length_append, List.length_cons, List.length_nil]
        omega
      · exact .inr (.inr h)
theorem fill1_full {k : Kit} {teams now : Int} {s : List Bool} {p : Nat} {kv : KV} : Full k teams s (fill1 k teams now s (p : Int) kv) p := by
  unfold fill1
  cases hl : lkI kv (p : Int) with
  | some u => left; dsimp only; rw [hl]; rfl
  | none =>
    dsimp only
    cases hc : decide ((kv.length : Int) < teams) && canB k s (p : Int) with
    | false =>
      rw [cond_false]
      right
      by_cases h : (kv.length : Int) < teams
      · right
        rw [dec_t h, Bool.true_and] at hc
        exact hc
      · exact .inl h
    | true =>
      rw [cond_true]
      left
      rw [lkI_app hl, if_pos rfl]
      rfl
theorem fillGo_keep {k : Kit} {teams now : Int} {s : List Bool} {q : Nat} : ∀ (d p : Nat) (kv : KV), Full k teams s kv q → Full k teams s (fillGo k teams now s d p kv) q
  | 0, _, _, h => h
  | d + 1, p, _kv, h => fillGo_keep d (p + 1) _ (fill1_keep h)
theorem fillGo_full {k : Kit} {teams now : Int} {s : List Bool} {q : Nat} : ∀ (d p : Nat) (kv : KV), p ≤ q → q < p + d → Full k teams s (fillGo k teams now s d p kv) q
  | 0, _, _, h1, h2 => by omega
  | d + 1, p, kv, h1, h2 => by
    rw [fillGo]
    by_cases e : p = q
    · subst e; exact fillGo_keep d (p + 1) _ fill1_full
    · exact fillGo_full d (p + 1) _ (by omega) (by omega)
theorem fill1_id {k : Kit} {teams now : Int} {s : List Bool} {p : Nat} {kv : KV} (h : Full k teams s kv p) : fill1 k teams now s (p : Int) kv = kv := by
  unfold fill1
  cases hl : lkI kv (p : Int) with
  | some u => rfl
  | none =>
    dsimp only
    rcases h with h | h | h
    · rw [hl] at h; cases h
    · rw [dec_f h]; rfl
    · rw [h, Bool.and_false]; rfl
theorem fillGo_id {k : Kit} {teams now : Int} {s : List Bool} : ∀ (d p : Nat) (kv : KV), (∀ q, p ≤ q → q < p + d → Full k teams s kv q) → fillGo k teams now s d p kv = kv
  | 0, _, _, _ => rfl
  | d + 1, p, kv, h => by
    rw [fillGo, fill1_id (h p (Nat.le_refl _) (by omega))]
    exact fillGo_id d (p + 1) kv (fun q h1 h2 => h q (by omega) (by omega))
theorem fillGo_ne {k : Kit} (hw : k.1.length ≤ (finO k).1.length) {teams now : Int} (ht : 1 ≤ teams) {s : List Bool} (hs : s.length = k.1.length) (hf : false ∈ s) (kv : KV) : fillGo k teams now s k.1.length 0 kv ≠ [] := by
  obtain ⟨p, hp, hc⟩ := progress hw hs hf
  intro e
  have := fillGo_full (k := k) (teams := teams) (now := now) (s := s) (q := p) k.1.length 0 kv (by omega) (by omega)
  rw [e] at this
  rcases this with h | h | h
  · cases h
  · simp at h; omega
  · rw [hc] at h; cases h

/-! ## What is done -/
theorem doneGo_gone {n : Nat} {t : Int} {q : Nat} : ∀ (d p : Nat) (s : List Bool) (kv : KV), p ≤ q → q < p + d → Ahead n t s kv → lkI (doneGo (t + 1) d p (s, kv)).2 (q : Int) ≠ some (t + 1)
  | 0, _, _, _, h1, h2, _ => by omega
  | d + 1, p, s, kv, h1, h2, h => by
    rw [doneGo]
    by_cases e : p = q
    · subst e
      rw [doneGo_other d (p + 1) _ (by omega)]
      unfold done1
      dsimp only
      split
      · rename_i u hu
        cases hut : u == t + 1 with
        | true => rw [cond_true]; dsimp only; rw [lkI_del_self h.nodup]; simp
        | false =>
          rw [cond_false]
          dsimp only
          rw [hu]
          intro e
          rw [Option.some.inj e, beq_self_eq_true] at hut
          cases hut
      · rename_i hu
        dsimp only
        rw [hu]
        simp
    · exact doneGo_gone d (p + 1) (done1 (t + 1) p (s, kv)).1 (done1 (t + 1) p (s, kv)).2 (by omega) (by omega) (done1_ahead h)
theorem doneGo_idle {now : Int} {kv : KV} (h : ∀ x v, (x, v) ∈ kv → v ≠ now) : ∀ (d p : Nat) (s : List Bool), doneGo now d p (s, kv) = (s, kv)
  | 0, _, _ => rfl
  | d + 1, p, s => by
    have : done1 now p (s, kv) = (s, kv) := by
      unfold done1
      dsimp only
      split
      · rename_i u hu
        have := h _ _ (lkI_mem hu)
        rw [show (u == now) = false by simp only [beq_eq_false_iff_ne, ne_eq]; exact this]
        rfl
      · rfl
    rw [doneGo, this]
    exact doneGo_idle h d (p + 1) s
theorem delI_len : ∀ {kv : KV} {x v : Int}, lkI kv x = some v → (delI kv x).length + 1 = kv.length
  | [], _, _, h => by cases h
  | (n, u) :: r, x, v, h => by
    unfold lkI at h
    unfold delI
    cases hn : n == x with
    | true => rfl
    | false =>
      rw [hn, cond_false] at h
      rw [cond_false, List.length_cons, List.length_cons, delI_len h]
theorem done1_count {n : Nat} {t : Int} {p : Nat} {s : List Bool} {kv : KV} (hp : p < s.length) (h : Ahead n t s kv) : (done1 (t + 1) p (s, kv)).1.count false + kv.length = s.count false + (done1 (t + 1) p (s, kv)).2.length ∧ (done1 (t + 1) p (s, kv)).2.Sublist kv ∧ (done1 (t + 1) p (s, kv)).1.length = s.length := by
  unfold done1
  dsimp only
  split
  · rename_i u hu
    cases u == t + 1 with
    | true =>
      have hk := h.key _ _ (lkI_mem hu)
      have h1 := count_set_false hp hk.2.2.2.2
      have h2 := delI_len hu
      rw [cond_true]
      exact ⟨by dsimp only; omega, delI_sub _ _, by simp⟩
    | false => exact ⟨rfl, .refl _, rfl⟩
  · exact ⟨rfl, .refl _, rfl⟩
theorem doneGo_count {n : Nat} {t : Int} : ∀ (d p : Nat) (s : List Bool) (kv : KV), p + d ≤ s.length → Ahead n t s kv → (doneGo (t + 1) d p (s, kv)).1.count false + kv.length = s.count false + (doneGo (t + 1) d p (s, kv)).2.length ∧ (doneGo (t + 1) d p (s, kv)).2.Sublist kv ∧ (doneGo (t + 1) d p (s, kv)).1.length = s.length ∧ Ahead n t (doneGo (t + 1) d p (s, kv)).1 (doneGo (t + 1) d p (s, kv)).2
  | 0, p, s, kv, _, h => ⟨rfl, .refl _, rfl, h⟩
  | d + 1, p, s, kv, hp, h => by
    obtain ⟨h1, h2, h3⟩ := done1_count (by omega : p < s.length) h
    have kk := doneGo_count (n := n) (t := t) d (p + 1) (done1 (t + 1) p (s, kv)).1 (done1 (t + 1) p (s, kv)).2 (by omega) (done1_ahead h)
    rw [show ((done1 (t + 1) p (s, kv)).1, (done1 (t + 1) p (s, kv)).2) = done1 (t + 1) p (s, kv) from rfl] at kk
    obtain ⟨k1, k2, k3, k4⟩ := kk
    rw [doneGo]
    exact ⟨by omega, k2.trans h2, by omega, k4⟩

theorem Ahead.next {n : Nat} {t : Int} {s0 : List Bool} {kv0 : KV} (hs : s0.length = n) (h : Ahead n t s0 kv0) : Ahead n (t + 1) (doneGo (t + 1) n 0 (s0, kv0)).1 (doneGo (t + 1) n 0 (s0, kv0)).2 := by
  obtain ⟨_, _, _, k4⟩ := doneGo_count (n := n) (t := t) n 0 s0 kv0 (by omega) h
  refine ⟨k4.nodup, fun x v hx => ?_⟩
  have hk := k4.key x v hx
  have hg := doneGo_gone (n := n) (t := t) (q := x.toNat) n 0 s0 kv0 (by omega) (by omega) h
  rw [show ((x.toNat : Nat) : Int) = x by omega, lkI_of_mem k4.nodup hx] at hg
  have : v ≠ t + 1 := fun e => hg (by rw [e])
  exact ⟨hk.1, hk.2.1, by omega, hk.2.2.2⟩

/-! ## A minute of the document -/
theorem rd_all {n : Nat} {s : List Bool} (_hs : s.length = n) : (rd n s == (n : Int)) = !decide (false ∈ s) := by
  unfold rd
  by_cases h : false ∈ s
  · have := List.count_pos_iff.2 h
    rw [dec_t h]
    simp only [Bool.not_true, beq_eq_false_iff_ne, ne_eq]
    omega
  · rw [dec_f h, List.count_eq_zero_of_not_mem h]
    simp

theorem minute_eq {k : Kit} (hk : Small k) (hf : Fine k) (ord : List Int) (ho : ord.length = k.1.length) (teams : Int) (hte : teams ≤ 4) (u : Int) (hu : 0 ≤ u + 1) (hu1 : u + 1 + 100 ≤ 1048576) (s0 : List Bool) (hs : s0.length = k.1.length) (kv0 : KV) (h : Ahead k.1.length u s0 kv0) (N : Nat) (hN : 100 < N) :
    L23_13 (N + 1) ((teams, rd k.1.length s0, u + 1, ()), (k, s0, tab k.1.length (lv kv0 u), ord, ()), ()) =
      cond (decide (false ∈ (doneGo (u + 1) k.1.length 0 (s0, kv0)).1))
        (L23_13 N ((teams, rd k.1.length (doneGo (u + 1) k.1.length 0 (s0, kv0)).1, u + 1 + 1, ()), (k, (doneGo (u + 1) k.1.length 0 (s0, kv0)).1, tab k.1.length (lv (fillGo k teams (u + 1) (doneGo (u + 1) k.1.length 0 (s0, kv0)).1 k.1.length 0 (doneGo (u + 1) k.1.length 0 (s0, kv0)).2) (u + 1)), ord, ()), ()))
        (some ((u + 1, 0, ()), (), ())) ∧
    (doneGo (u + 1) k.1.length 0 (s0, kv0)).1.length = k.1.length ∧
    Ahead k.1.length (u + 1) (doneGo (u + 1) k.1.length 0 (s0, kv0)).1 (fillGo k teams (u + 1) (doneGo (u + 1) k.1.length 0 (s0, kv0)).1 k.1.length 0 (doneGo (u + 1) k.1.length 0 (s0, kv0)).2) := by
  have h16 := hf.parts
  obtain ⟨e1, _, w2⟩ := L23_15_eq' k ord teams (u + 1) k.1.length h16 u hu k.1.length 0 s0 kv0 0 N hs (by omega) (by omega) (Int.le_refl _) (by omega) h
  have hn := Ahead.next hs h
  obtain ⟨e2, w3⟩ := L23_26_eq' hk hf ord teams (rd k.1.length (doneGo (u + 1) k.1.length 0 (s0, kv0)).1) (u + 1) hte (u + 1) hu hu1 (doneGo (u + 1) k.1.length 0 (s0, kv0)).1 w2 k.1.length 0 (doneGo (u + 1) k.1.length 0 (s0, kv0)).2 N (by omega) (by omega) hn
  refine ⟨?_, w2, w3⟩
  have e1' : L23_15 N ((teams, rd k.1.length s0, u + 1, 0, 0, ()), (k, s0, tab k.1.length (lv kv0 u), ord, ()), ()) = _ := e1
  simp only [L23_13, B23_13]
  rw [e1', derefK_some]
  dsimp only
  rw [ho, rd_all w2]
  cases decide (false ∈ (doneGo (u + 1) k.1.length 0 (s0, kv0)).1) with
  | false => rfl
  | true =>
    rw [Bool.not_true, cond_false, cond_true, cntB_all hn, Int.zero_add]
    have e2' : L23_26 N ((teams, rd k.1.length (doneGo (u + 1) k.1.length 0 (s0, kv0)).1, u + 1, ((doneGo (u + 1) k.1.length 0 (s0, kv0)).2.length : Int), 0, ()), (k, (doneGo (u + 1) k.1.length 0 (s0, kv0)).1, tab k.1.length (lv (doneGo (u + 1) k.1.length 0 (s0, kv0)).2 (u + 1)), ord, ()), ()) = _ := e2
    rw [e2', derefK_some]
    dsimp only
    rw [w64 (x := u + 1 + 1) (by omega) (by omega)]

/-- The document's minutes from a time of the program's on. -/
theorem refT {k : Kit} (hk : Small k) (hf : Fine k) (hw : k.1.length ≤ (finO k).1.length) (ord : List Int) (ho : ord.length = k.1.length) (teams : Int) (ht1 : 1 ≤ teams) (hte : teams ≤ 4) : ∀ (m : Nat) (u hi r : Int) (s0 : List Bool) (kv0 : KV) (N : Nat), s0.length = k.1.length → Ahead k.1.length u s0 kv0 → WfKV k.1.length hi kv0 → -1 ≤ u → u + 1 ≤ hi → hi + 100 * m ≤ 1000000 → (u + 1).toNat + N > 2000000 → runT k teams m (u + 1, doneGo (u + 1) k.1.length 0 (s0, kv0)) = some r →
    L23_13 N ((teams, rd k.1.length s0, u + 1, ()), (k, s0, tab k.1.length (lv kv0 u), ord, ()), ()) = some ((r, 0, ()), (), ())
  | 0, u, hi, r, s0, kv0, N, hs, h, hwf, hu, huh, hhi, hN, hr => by
    obtain ⟨N, rfl⟩ := pos_of_lt (show 0 < N by omega)
    obtain ⟨e, _, _⟩ := minute_eq hk hf ord ho teams hte u (by omega) (by omega) s0 hs kv0 h N (by omega)
    rw [e]
    unfold runT at hr
    dsimp only at hr
    cases hb : decide (false ∈ (doneGo (u + 1) k.1.length 0 (s0, kv0)).1) with
    | true => rw [hb] at hr; cases hr
    | false => rw [hb] at hr; cases hr; rfl
  | m + 1, u, hi, r, s0, kv0, N, hs, h, hwf, hu, huh, hhi, hN, hr => by
    obtain ⟨N, rfl⟩ := pos_of_lt (show 0 < N by omega)
    have h16 := hf.parts
    obtain ⟨e, w1, w2⟩ := minute_eq hk hf ord ho teams hte u (by omega) (by omega) s0 hs kv0 h N (by omega)
    rw [e]
    unfold runT at hr
    dsimp only at hr
    cases hb : decide (false ∈ (doneGo (u + 1) k.1.length 0 (s0, kv0)).1) with
    | false => rw [hb] at hr; cases hr; rfl
    | true =>
      rw [hb, cond_true] at hr
      rw [cond_true]
      have hdc := doneGo_count (n := k.1.length) (t := u) k.1.length 0 s0 kv0 (by omega) h
      unfold roundT at hr
      dsimp only at hr
      generalize hs1 : (doneGo (u + 1) k.1.length 0 (s0, kv0)).1 = s at *
      generalize hk1 : (doneGo (u + 1) k.1.length 0 (s0, kv0)).2 = kv at *
      have hne := fillGo_ne hw (now := u + 1) ht1 w1 (of_decide_eq_true hb) kv
      have hfull : ∀ q, 0 ≤ q → q < 0 + k.1.length → Full k teams s (fillGo k teams (u + 1) s k.1.length 0 kv) q := fun q h1 h2 => fillGo_full k.1.length 0 kv h1 h2
      have hwf2 : WfKV k.1.length (hi + 100) (fillGo k teams (u + 1) s k.1.length 0 kv) := by
        have hwk : WfKV k.1.length (hi + 100) kv := ⟨(hdc.2.1.map _).nodup h.nodup, fun x v hx => by have := hwf.key x v (hdc.2.1.subset hx); omega⟩
        have : ∀ (d p : Nat) (kv' : KV), p + d = k.1.length → WfKV k.1.length (hi + 100) kv' → WfKV k.1.length (hi + 100) (fillGo k teams (u + 1) s d p kv') := by
          intro d
          induction d with
          | zero => intro p kv' _ h; exact h
          | succ d ih => intro p kv' hp h; rw [fillGo]; exact ih (p + 1) _ (by omega) (fill1_wf hf (by omega) (by omega) (by omega) (by omega) h)
        exact this k.1.length 0 kv (by omega) hwk
      generalize hk2 : fillGo k teams (u + 1) s k.1.length 0 kv = kv2 at *
      obtain ⟨⟨xm, hxm, hxe⟩, hmin⟩ := minV_spec kv2 hne
      have hmb := minV_bound hwf2 (by omega)
      have hmt := w2.key xm.1 xm.2 hxm
      rw [hxe] at hmt
      -- the minutes up to the next end
      have inner : ∀ (j : Nat) (w : Int) (N : Nat), w + 1 + j = minV kv2 → 0 ≤ w → Ahead k.1.length w s kv2 → (w + 1).toNat + N > 2000000 → L23_13 N ((teams, rd k.1.length s, w + 1, ()), (k, s, tab k.1.length (lv kv2 w), ord, ()), ()) = some ((r, 0, ()), (), ()) := by
        intro j
        induction j with
        | zero =>
          intro w N hj hw0 ha hN'
          refine refT hk hf hw ord ho teams ht1 hte m w (hi + 100) r s kv2 N w1 ha hwf2 (by omega) (by omega) (by omega) hN' ?_
          rw [show w + 1 = minV kv2 by omega]
          exact hr
        | succ j ih =>
          intro w N hj hw0 ha hN'
          obtain ⟨N, rfl⟩ := pos_of_lt (show 0 < N by omega)
          obtain ⟨e', _, w2'⟩ := minute_eq hk hf ord ho teams hte w (by omega) (by omega) s w1 kv2 ha N (by omega)
          have hidle : doneGo (w + 1) k.1.length 0 (s, kv2) = (s, kv2) := doneGo_idle (fun x v hx => by have := hmin (x, v) hx; dsimp only at this; omega) _ _ _
          rw [hidle] at e' w2'
          dsimp only at e' w2'
          have hfi : fillGo k teams (w + 1) s k.1.length 0 kv2 = kv2 := fillGo_id _ _ _ hfull
          rw [hfi] at e' w2'
          rw [e', hb, cond_true]
          exact ih (w + 1) N (by omega) (by omega) w2' (by omega)
      exact inner (minV kv2 - (u + 1 + 1)).toNat (u + 1) N (by omega) (by omega) w2 (by omega)

/-! ## The program's rounds end -/
theorem runT_some {k : Kit} (hf : Fine k) (hw : k.1.length ≤ (finO k).1.length) (teams : Int) (ht1 : 1 ≤ teams) : ∀ (m : Nat) (u hi : Int) (s : List Bool) (kv : KV), s.length = k.1.length → s.count false ≤ m → Ahead k.1.length u s kv → WfKV k.1.length hi kv → 0 ≤ u → u ≤ hi → hi + 100 * m ≤ 1000000 → ∃ r, runT k teams m (u, s, kv) = some r
  | 0, u, hi, s, kv, hs, hc, h, hwf, hu, huh, hhi => by
    refine ⟨u, ?_⟩
    unfold runT
    have : false ∉ s := fun hm => by have := List.count_pos_iff.2 hm; omega
    rw [dec_f this]
    rfl
  | m + 1, u, hi, s, kv, hs, hc, h, hwf, hu, huh, hhi => by
    unfold runT
    by_cases hb : false ∈ s
    case neg => exact ⟨u, by rw [dec_f hb]; rfl⟩
    rw [dec_t hb, cond_true]
    have hne := fillGo_ne hw (now := u) ht1 hs hb kv
    have hah : Ahead k.1.length u s (fillGo k teams u s k.1.length 0 kv) := by
      have : ∀ (d p : Nat) (kv' : KV), p + d = k.1.length → Ahead k.1.length u s kv' → Ahead k.1.length u s (fillGo k teams u s d p kv') := by
        intro d
        induction d with
        | zero => intro p kv' _ h; exact h
        | succ d ih => intro p kv' hp h; rw [fillGo]; exact ih (p + 1) _ (by omega) (fill1_ahead hf (by omega) (by omega) (by omega) (by omega) h)
      exact this k.1.length 0 kv (by omega) h
    have hwf2 : WfKV k.1.length (hi + 100) (fillGo k teams u s k.1.length 0 kv) := by
      have : ∀ (d p : Nat) (kv' : KV), p + d = k.1.length → WfKV k.1.length (hi + 100) kv' → WfKV k.1.length (hi + 100) (fillGo k teams u s d p kv') := by
        intro d
        induction d with
        | zero => intro p kv' _ h; exact h
        | succ d ih => intro p kv' hp h; rw [fillGo]; exact ih (p + 1) _ (by omega) (fill1_wf hf (by omega) (by omega) (by omega) (by omega) h)
      exact this k.1.length 0 kv (by omega) (hwf.mono (by omega))
    unfold roundT
    dsimp only
    generalize fillGo k teams u s k.1.length 0 kv = kv2 at *
    obtain ⟨⟨xm, hxm, hxe⟩, hmin⟩ := minV_spec kv2 hne
    have hmb := minV_bound hwf2 (by omega)
    have hmt := hah.key xm.1 xm.2 hxm
    rw [hxe] at hmt
    have ha2 : Ahead k.1.length (minV kv2 - 1) s kv2 := ⟨hah.nodup, fun x v hx => by have h1 := hah.key x v hx; have h2 := hmin (x, v) hx; dsimp only at h2; exact ⟨h1.1, h1.2.1, by omega, h1.2.2.2.1, h1.2.2.2.2⟩⟩
    have hdc := doneGo_count (n := k.1.length) (t := minV kv2 - 1) k.1.length 0 s kv2 (by omega) ha2
    have hnx := Ahead.next hs ha2
    rw [show minV kv2 - 1 + 1 = minV kv2 by omega] at hdc hnx
    have hlt : (doneGo (minV kv2) k.1.length 0 (s, kv2)).2.length < kv2.length := by
      refine Nat.lt_of_le_of_ne hdc.2.1.length_le (fun e => ?_)
      have hk := hnx.key xm.1 xm.2 (by rw [hdc.2.1.eq_of_length e]; exact hxm)
      omega
    exact runT_some hf hw teams ht1 m (minV kv2) (hi + 100) _ _ (by omega) (by omega) hnx ⟨hnx.nodup, fun x v hx => hwf2.key x v (hdc.2.1.subset hx)⟩ (by omega) (by omega) (by omega)

/-! ## Time -/
theorem orderR_cases (k : Kit) : (valid k = false ∧ orderR k = ([], 80)) ∨ (valid k = true ∧ (finO k).1.length < k.1.length ∧ orderR k = ([], 3)) ∨ (valid k = true ∧ (finO k).1.length = k.1.length ∧ orderR k = ((finO k).1, 0)) := by
  have hl := (finO_len k).2
  unfold orderR
  cases valid k with
  | false => exact .inl ⟨rfl, rfl⟩
  | true =>
    by_cases h : (finO k).1.length < k.1.length
    · rw [dec_t h]; exact .inr (.inl ⟨rfl, h, rfl⟩)
    · rw [dec_f h]; exact .inr (.inr ⟨rfl, by omega, rfl⟩)

theorem time_eq (k : Kit) (hk : Small k) (teams : Int) : ∃ r : Int × Int, g22 (k, teams, ()) = some ((r.1, r.2, ()), ()) ∧ g23 (k, teams, ()) = some ((r.1, r.2, ()), ()) := by
  have hF : g22 (k, teams, ()) = F22 fuel k teams := rfl
  have hG : g23 (k, teams, ()) = F23 fuel k teams := rfl
  rw [hF, hG]
  unfold F22 F23
  rw [g17_eq k hk, derefK_some]
  dsimp only
  rcases orderR_cases k with ⟨hv, ho⟩ | ⟨hv, hl, ho⟩ | ⟨hv, hl, ho⟩
  · refine ⟨(0, 80), ?_, ?_⟩
    · rcases g48_eq k hk with ⟨_, q, h⟩ | ⟨hv', _⟩
      · rw [h]; rfl
      · rw [hv'] at hv; cases hv
    · rw [ho]; rfl
  · rcases g48_eq k hk with ⟨hv', _⟩ | ⟨_, y, hy, h⟩
    · rw [hv'] at hv; cases hv
    rw [h, ho, derefK_some]
    simp only [Bool.not_true, cond_false, derefK_some]
    rw [g54_eq, g57_eq, show ((3 : Int) == 80) = false from rfl, cond_false, derefK_some, derefK_some]
    dsimp only
    cases rng teams 1 4 with
    | false => exact ⟨(0, 1), rfl, rfl⟩
    | true =>
      refine ⟨(0, 3), ?_, rfl⟩
      simp only [Bool.not_true, cond_false]
      rw [g49_eq hk (fine_of k hv) hy, derefK_some]
      rw [dec_t (by omega : (((finO k).1.length : Nat) : Int) < (k.1.length : Int))]
      rfl
  · rcases g48_eq k hk with ⟨hv', _⟩ | ⟨_, y, hy, h⟩
    · rw [hv'] at hv; cases hv
    have hf := fine_of k hv
    have h16 := hf.parts
    rw [h, ho, derefK_some]
    simp only [Bool.not_true, cond_false, derefK_some]
    rw [g54_eq, g57_eq, show ((0 : Int) == 80) = false from rfl, cond_false, derefK_some, derefK_some]
    dsimp only
    cases hr : rng teams 1 4 with
    | false => exact ⟨(0, 1), rfl, rfl⟩
    | true =>
      simp only [rng, Bool.and_eq_true, decide_eq_true_eq] at hr
      have hah : Ahead k.1.length 0 (List.replicate k.1.length false) [] := ⟨by simp, by simp⟩
      have hwf : WfKV k.1.length 0 [] := ⟨by simp, by simp⟩
      obtain ⟨r, hrun⟩ := runT_some hf (by omega) teams hr.1 k.1.length 0 0 (List.replicate k.1.length false) [] (by simp) (by simp) hah hwf (by omega) (by omega) (by omega)
      refine ⟨(r, 0), ?_, ?_⟩
      · simp only [Bool.not_true, cond_false]
        rw [g49_eq hk hf hy, derefK_some]
        rw [dec_f (by omega : ¬ (((finO k).1.length : Nat) : Int) < (k.1.length : Int)), cond_false, leK_in (by omega), leK_in (by omega), lenK_in (by omega) (by omega)]
        have hh := L22_12_eq' hk hf hy teams hr.2 k.1.length 0 0 (List.replicate k.1.length false) [] fuel r (by simp) (by omega) (by omega) (by omega) (by have := fuel_big; omega) hwf hrun
        have hh' : L22_12 fuel ((teams, some y, 0, ()), (k, List.replicate (k.1.length : Int).toNat false, ()), []) = _ := hh
        rw [hh', derefK_some]
      · simp only [Bool.not_true, cond_false]
        rw [show ((0 : Int) != 0) = false from rfl, cond_false, hl, leK_in (by omega), leK_in (by omega), lenK_in (by omega) (by omega), leK_in (by omega), leK_in (by omega), lenK_in (by omega) (by omega)]
        have ha0 : Ahead k.1.length (-1) (List.replicate k.1.length false) [] := ⟨by simp, by simp⟩
        have hh := refT hk hf (by omega) (finO k).1 hl teams hr.1 hr.2 k.1.length (-1) 0 r (List.replicate k.1.length false) [] fuel (by simp) ha0 hwf (by omega) (by omega) (by omega) (by have := fuel_big; omega) (by rw [doneGo_idle (by simp)]; exact hrun)
        have e1 : rd k.1.length (List.replicate k.1.length false) = 0 := by unfold rd; simp
        have e2 : tab k.1.length (lv [] (-1)) = List.replicate (k.1.length : Int).toNat 0 := by
          unfold tab
          apply List.ext_getElem?
          intro i
          by_cases hi : i < k.1.length
          · simp [hi, lv, lkI]
          · simp [hi]
        rw [e1, e2] at hh
        have hh' : L23_13 fuel ((teams, 0, 0, ()), (k, List.replicate (k.1.length : Int).toNat false, List.replicate (k.1.length : Int).toNat 0, (finO k).1, ()), ()) = _ := hh
        rw [hh', derefK_some]
end Go.Proofs.Try.V
