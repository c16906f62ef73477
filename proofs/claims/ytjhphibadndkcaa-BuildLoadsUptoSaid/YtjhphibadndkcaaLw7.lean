/- Plain laws of layer 8, seventh part: the program's time; the chapter's example. No condition beyond those typed in each theorem. -/
import Derived.Test.YtjhphibadndkcaaLw6
namespace Go.Proofs.Try.V
open Go.Vi
set_option maxRecDepth 100000

theorem inI_in {R : Type} {n : Int} (h1 : -9223372036854775808 ≤ n) (h2 : n ≤ 9223372036854775807) (k : Option R) : inI n k = k := by rw [inI_eq, if_pos ⟨h1, h2⟩]

abbrev KV := List (Int × Int)
theorem lkI_mem : ∀ {kv : KV} {x v : Int}, lkI kv x = some v → (x, v) ∈ kv
  | [], _, _, h => by cases h
  | (n, u) :: r, x, v, h => by
    unfold lkI at h
    cases hn : n == x with
    | true =>
      rw [hn, cond_true] at h
      rw [eq_of_beq hn, Option.some.inj h]
      exact List.mem_cons_self
    | false => rw [hn, cond_false] at h; exact List.mem_cons_of_mem _ (lkI_mem h)
theorem lkI_of_mem : ∀ {kv : KV} {x v : Int}, (kv.map (·.1)).Nodup → (x, v) ∈ kv → lkI kv x = some v
  | [], _, _, _, h => by cases h
  | (n, u) :: r, x, v, hn, h => by
    rw [List.map_cons, List.nodup_cons] at hn
    unfold lkI
    rcases List.mem_cons.1 h with h | h
    · cases h; rw [beq_self_eq_true, cond_true]
    · have : (n == x) = false := by
        simp only [beq_eq_false_iff_ne, ne_eq]
        rintro rfl
        exact hn.1 (List.mem_map.2 ⟨_, h, rfl⟩)
      rw [this, cond_false]
      exact lkI_of_mem hn.2 h
theorem lkI_none : ∀ {kv : KV} {x : Int}, lkI kv x = none → x ∉ kv.map (·.1)
  | [], _, _ => by simp
  | (n, u) :: r, x, h => by
    unfold lkI at h
    cases hn : n == x with
    | true => rw [hn, cond_true] at h; cases h
    | false =>
      rw [hn, cond_false] at h
      simp only [List.map_cons, List.mem_cons, not_or]
      exact ⟨(fun e => by rw [e, beq_self_eq_true] at hn; cases hn), lkI_none h⟩
theorem putI_none : ∀ {kv : KV} {x v : Int}, lkI kv x = none → putI kv x v = kv ++ [(x, v)]
  | [], _, _, _ => rfl
  | (n, u) :: r, x, v, h => by
    unfold lkI at h
    unfold putI
    cases hn : n == x with
    | true => rw [hn, cond_true] at h; cases h
    | false => rw [hn, cond_false] at h; rw [cond_false, putI_none h]; rfl
theorem delI_sub (x : Int) : ∀ (kv : KV), (delI kv x).Sublist kv
  | [] => .refl _
  | (n, u) :: r => by
    unfold delI
    cases n == x with
    | true => exact List.sublist_cons_self _ _
    | false => exact (delI_sub x r).cons_cons _
theorem dropI_mem {n x : Int} : ∀ {l : List Int}, x ∈ dropI n l ↔ x ∈ l ∧ x ≠ n
  | [] => by simp [dropI]
  | y :: l => by
    unfold dropI
    cases hy : y == n with
    | true =>
      have := eq_of_beq hy
      subst this
      rw [cond_true, dropI_mem (l := l), List.mem_cons]
      constructor
      · rintro ⟨h1, h2⟩; exact ⟨.inr h1, h2⟩
      · rintro ⟨h1 | h1, h2⟩
        · exact absurd h1 h2
        · exact ⟨h1, h2⟩
    | false =>
      rw [cond_false, List.mem_cons, dropI_mem (l := l), List.mem_cons]
      constructor
      · rintro (rfl | ⟨h1, h2⟩)
        · exact ⟨.inl rfl, by simpa using hy⟩
        · exact ⟨.inr h1, h2⟩
      · rintro ⟨h1 | h1, h2⟩
        · exact .inl h1
        · exact .inr ⟨h1, h2⟩
theorem dropI_len {n : Int} : ∀ {l : List Int}, (dropI n l).length ≤ l.length
  | [] => Nat.le_refl _
  | y :: l => by
    unfold dropI
    cases y == n with
    | true => exact Nat.le_succ_of_le dropI_len
    | false => exact Nat.succ_le_succ dropI_len
theorem dropI_lt {n : Int} : ∀ {l : List Int}, n ∈ l → (dropI n l).length < l.length
  | [], h => by cases h
  | y :: l, h => by
    unfold dropI
    cases hy : y == n with
    | true => exact Nat.lt_succ_of_le dropI_len
    | false =>
      rcases List.mem_cons.1 h with rfl | h
      · rw [beq_self_eq_true] at hy; cases hy
      · exact Nat.succ_lt_succ (dropI_lt h)

/-! ## The least end -/
def IsMin (v : Int → Int) (now : Int) (lf : List Int) (r : Int) : Prop :=
  (now < 0 ∧ lf = [] ∧ r = now) ∨ (((0 ≤ now ∧ r = now) ∨ ∃ x ∈ lf, v x = r) ∧ (0 ≤ now → r ≤ now) ∧ ∀ x ∈ lf, r ≤ v x)
def valI (kv : KV) (x : Int) : Int := (lkI kv x).getD 0

theorem L22_22_eq' (teams : Int) (y : Option Yard) (k : Kit) (s : List Bool) (kv : KV) (hv : ∀ x v, (x, v) ∈ kv → 0 ≤ v) : ∀ (m : Nat) (lf : List Int) (now r : Int) (N : Nat), lf.length ≤ m → m < N → (∀ x ∈ lf, ∃ v, lkI kv x = some v) → IsMin (valI kv) now lf r →
    L22_22 N ((teams, y, now, ()), (k, s, ()), (kv, lf)) = some ((teams, y, r, ()), (k, s, ()), kv)
  | m, [], now, r, N, _, hN, _, h => by
    obtain ⟨n, rfl⟩ := pos_of_lt hN
    have : r = now := by
      rcases h with ⟨_, _, h⟩ | ⟨h, _, _⟩
      · exact h
      · rcases h with ⟨_, h⟩ | ⟨x, hx, _⟩
        · exact h
        · cases hx
    subst this
    simp only [L22_22, B22_22]
  | 0, x :: l, _, _, _, h, _, _, _ => by simp at h
  | m + 1, x :: l, now, r, N, hm, hN, hlk, h => by
    obtain ⟨n, rfl⟩ := pos_of_lt hN
    simp only [L22_22, B22_22]
    refine dem_of x List.mem_cons_self fun i hi => ?_
    obtain ⟨v, hiv⟩ := hlk i hi
    rw [hiv]
    dsimp only
    have hvi : valI kv i = v := by unfold valI; rw [hiv]; rfl
    have hv0 := hv i v (lkI_mem hiv)
    have hlk' : ∀ x' ∈ dropI i (x :: l), ∃ v, lkI kv x' = some v := fun x' hx' => hlk x' (dropI_mem.1 hx').1
    have hm' : (dropI i (x :: l)).length ≤ m := by have := dropI_lt hi; omega
    have key : ∀ now', 0 ≤ now' → (now' = v ∧ (now < 0 ∨ v < now) ∨ now' = now ∧ 0 ≤ now ∧ now ≤ v) → IsMin (valI kv) now' (dropI i (x :: l)) r := by
      intro now' h0 hnow
      rcases h with ⟨_, h, _⟩ | ⟨h1, h2, h3⟩
      · cases h
      · have hri := h3 i hi
        rw [hvi] at hri
        right
        refine ⟨?_, fun _ => ?_, fun z hz => h3 z (dropI_mem.1 hz).1⟩
        · rcases h1 with ⟨ha, hb⟩ | ⟨z, hz, hb⟩
          · left
            have := h2 ha
            rcases hnow with ⟨e, e1 | e1⟩ | ⟨e, _, _⟩
            · omega
            · omega
            · omega
          · by_cases hzi : z = i
            · subst hzi
              rw [hvi] at hb
              left
              rcases hnow with ⟨e, _⟩ | ⟨e, e1, e2⟩
              · omega
              · have := h2 e1; omega
            · exact .inr ⟨z, dropI_mem.2 ⟨hz, hzi⟩, hb⟩
        · rcases hnow with ⟨e, _⟩ | ⟨e, e1, _⟩
          · omega
          · have := h2 e1; omega
    by_cases hnow : now < 0
    · rw [dec_t hnow, cond_true]
      exact L22_22_eq' teams y k s kv hv m _ _ _ n hm' (by omega) hlk' (key v hv0 (.inl ⟨rfl, .inl hnow⟩))
    · rw [dec_f hnow, cond_false]
      by_cases hlt : v < now
      · rw [dec_t hlt, cond_true]
        exact L22_22_eq' teams y k s kv hv m _ _ _ n hm' (by omega) hlk' (key v hv0 (.inl ⟨rfl, .inr hlt⟩))
      · rw [dec_f hlt, cond_false]
        exact L22_22_eq' teams y k s kv hv m _ _ _ n hm' (by omega) hlk' (key now (by omega) (.inr ⟨rfl, by omega, by omega⟩))

def minV : KV → Int
  | [] => -1
  | (_, v) :: r => r.foldl (fun a x => min a x.2) v
theorem foldl_min : ∀ (l : KV) (a : Int), (l.foldl (fun a x => min a x.2) a = a ∨ ∃ x ∈ l, x.2 = l.foldl (fun a x => min a x.2) a) ∧ l.foldl (fun a x => min a x.2) a ≤ a ∧ ∀ x ∈ l, l.foldl (fun a x => min a x.2) a ≤ x.2
  | [], a => by simp
  | y :: l, a => by
    obtain ⟨h1, h2, h3⟩ := foldl_min l (min a y.2)
    rw [List.foldl_cons]
    refine ⟨?_, by omega, fun x hx => ?_⟩
    · rcases h1 with h1 | ⟨x, hx, h1⟩
      · rw [h1]
        by_cases h : a ≤ y.2
        · left; omega
        · right; exact ⟨y, List.mem_cons_self, by omega⟩
      · exact .inr ⟨x, List.mem_cons_of_mem _ hx, h1⟩
    · rcases List.mem_cons.1 hx with rfl | hx
      · omega
      · exact h3 x hx
theorem minV_spec (kv : KV) (hkv : kv ≠ []) : (∃ x ∈ kv, x.2 = minV kv) ∧ ∀ x ∈ kv, minV kv ≤ x.2 := by
  match kv, hkv with
  | (n, v) :: r, _ =>
    obtain ⟨h1, h2, h3⟩ := foldl_min r v
    refine ⟨?_, fun x hx => ?_⟩
    · rcases h1 with h1 | ⟨x, hx, h1⟩
      · exact ⟨(n, v), List.mem_cons_self, h1.symm⟩
      · exact ⟨x, List.mem_cons_of_mem _ hx, h1⟩
    · rcases List.mem_cons.1 hx with rfl | hx
      · exact h2
      · exact h3 x hx
theorem minV_isMin (kv : KV) (hn : (kv.map (·.1)).Nodup) : IsMin (valI kv) (-1) (kv.map (·.1)) (minV kv) := by
  by_cases h : kv = []
  · subst h; exact .inl ⟨by omega, rfl, rfl⟩
  · obtain ⟨⟨x, hx, h1⟩, h2⟩ := minV_spec kv h
    have hval : ∀ x ∈ kv, valI kv x.1 = x.2 := fun x hx => by unfold valI; rw [lkI_of_mem hn hx]; rfl
    refine .inr ⟨.inr ⟨x.1, List.mem_map.2 ⟨x, hx, rfl⟩, by rw [hval x hx, h1]⟩, fun h => by omega, fun z hz => ?_⟩
    obtain ⟨u, hu, rfl⟩ := List.mem_map.1 hz
    rw [hval u hu]
    exact h2 u hu

/-! ## One round -/
def minsOf (k : Kit) (p : Int) : Int := match k.1[p.toNat]? with
  | some q => q.2.1
  | none => 0
def fill1 (k : Kit) (teams now : Int) (s : List Bool) (p : Int) (kv : KV) : KV := match lkI kv p with
  | some _ => kv
  | none => cond (decide ((kv.length : Int) < teams) && canB k s p) (kv ++ [(p, now + minsOf k p)]) kv
def fillGo (k : Kit) (teams now : Int) (s : List Bool) : Nat → Nat → KV → KV
  | 0, _, kv => kv
  | d + 1, p, kv => fillGo k teams now s d (p + 1) (fill1 k teams now s (p : Int) kv)
def done1 (now : Int) (p : Nat) (x : List Bool × KV) : List Bool × KV := match lkI x.2 (p : Int) with
  | some u => cond (u == now) (x.1.set p true, delI x.2 (p : Int)) x
  | none => x
def doneGo (now : Int) : Nat → Nat → List Bool × KV → List Bool × KV
  | 0, _, x => x
  | d + 1, p, x => doneGo now d (p + 1) (done1 now p x)
abbrev TSt := Int × (List Bool × KV)
def roundT (k : Kit) (teams : Int) (x : TSt) : TSt := (minV (fillGo k teams x.1 x.2.1 k.1.length 0 x.2.2), doneGo (minV (fillGo k teams x.1 x.2.1 k.1.length 0 x.2.2)) k.1.length 0 (x.2.1, fillGo k teams x.1 x.2.1 k.1.length 0 x.2.2))
def runT (k : Kit) (teams : Int) : Nat → TSt → Option Int
  | 0, x => cond (decide (false ∈ x.2.1)) none (some x.1)
  | m + 1, x => cond (decide (false ∈ x.2.1)) (runT k teams m (roundT k teams x)) (some x.1)

structure WfKV (n : Nat) (hi : Int) (kv : KV) : Prop where
  nodup : (kv.map (·.1)).Nodup
  key : ∀ x v, (x, v) ∈ kv → 0 ≤ x ∧ x < n ∧ 0 ≤ v ∧ v ≤ hi

theorem mins_in {k : Kit} (hf : Fine k) {p : Int} (h0 : 0 ≤ p) (hp : p < k.1.length) : ∃ q, k.1[p.toNat]? = some q ∧ minsOf k p = q.2.1 ∧ 1 ≤ minsOf k p ∧ minsOf k p ≤ 100 := by
  have hq : k.1[p.toNat]? = some (k.1[p.toNat]'(by omega)) := List.getElem?_eq_getElem (by omega)
  generalize k.1[p.toNat]'(by omega) = q at hq
  have h := (hf.each _ _ hq).2.1
  simp only [rng, Bool.and_eq_true, decide_eq_true_eq] at h
  have e : minsOf k p = q.2.1 := by unfold minsOf; rw [hq]
  exact ⟨q, hq, e, by omega, by omega⟩

theorem fill1_wf {k : Kit} (hf : Fine k) {teams now hi : Int} {s : List Bool} {p : Int} {kv : KV} (h0 : 0 ≤ p) (hp : p < k.1.length) (hnow : -1 ≤ now) (hnh : now + 100 ≤ hi) (h : WfKV k.1.length hi kv) : WfKV k.1.length hi (fill1 k teams now s p kv) := by
  unfold fill1
  cases hl : lkI kv p with
  | some u => exact h
  | none =>
    dsimp only
    cases decide ((kv.length : Int) < teams) && canB k s p with
    | false => exact h
    | true =>
      rw [cond_true]
      obtain ⟨q, _, _, h1, h2⟩ := mins_in hf h0 hp
      refine ⟨?_, fun x v hx => ?_⟩
      · rw [List.map_append, List.nodup_append]
        exact ⟨h.nodup, by simp, fun a ha b hb e => by simp at hb; subst hb; subst e; exact lkI_none hl ha⟩
      · rcases List.mem_append.1 hx with hx | hx
        · exact h.key x v hx
        · simp at hx
          obtain ⟨rfl, rfl⟩ := hx
          exact ⟨h0, hp, by omega, by omega⟩

theorem L22_14_eq' {k : Kit} (hk : Small k) (hf : Fine k) {y : Yard} (hy : Yards k y) (teams now hi : Int) (ht : teams ≤ 4) (hnow : -1 ≤ now) (hnh : now + 100 ≤ hi) (hhi : hi ≤ 1048576) (s : List Bool) (hs : s.length = k.1.length) : ∀ (d p : Nat) (kv : KV) (N : Nat), p + d = k.1.length → d < N → WfKV k.1.length hi kv →
    L22_14 N ((teams, some y, now, (k.1.length : Int), (p : Int), ()), (k, s, ()), kv) = some ((teams, some y, ()), (k, s, ()), fillGo k teams now s d p kv) ∧ WfKV k.1.length hi (fillGo k teams now s d p kv)
  | 0, p, kv, N, hp, hN, h => by
    obtain ⟨n, rfl⟩ := pos_of_lt hN
    refine ⟨?_, h⟩
    simp only [L22_14, B22_14]
    rw [dec_f (by omega)]
    rfl
  | d + 1, p, kv, N, hp, hN, h => by
    obtain ⟨n, rfl⟩ := pos_of_lt hN
    have h16 := hf.parts
    have hw := fill1_wf hf (teams := teams) (now := now) (s := s) (p := (p : Int)) (by omega) (by omega) hnow hnh h
    obtain ⟨ih1, ih2⟩ := L22_14_eq' hk hf hy teams now hi ht hnow hnh hhi s hs d (p + 1) (fill1 k teams now s (p : Int) kv) n (by omega) (by omega) hw
    refine ⟨?_, ih2⟩
    simp only [L22_14, B22_14]
    rw [dec_t (by omega), cond_true, inI_in (by omega) (by omega), w64 (x := (p : Int) + 1) (by omega) (by omega), show (p : Int) + 1 = ((p + 1 : Nat) : Int) by omega]
    rw [fillGo]
    unfold fill1 at ih1 ⊢
    cases hl : lkI kv (p : Int) with
    | some u => rw [hl] at ih1; exact ih1
    | none =>
      rw [hl] at ih1
      dsimp only at ih1 ⊢
      by_cases hlen : (kv.length : Int) < teams
      · rw [dec_t hlen] at ih1 ⊢
        rw [cond_true, derefK_some, g56_eq hk hf hy hs (by omega) (by omega), derefK_some]
        cases hc : canB k s (p : Int) with
        | false => rw [hc] at ih1; exact ih1
        | true =>
          rw [hc] at ih1
          obtain ⟨q, hq, e, h1, h2⟩ := mins_in hf (p := (p : Int)) (by omega) (by omega)
          simp only [cond_true, Bool.and_true] at ih1 ⊢
          rw [getI_some (by omega) hq, ← e, inI_in (by omega) (by omega), w64 (x := now + minsOf k (p : Int)) (by omega) (by omega), inI_in (by omega) (by omega), lenK_in (by omega) (by omega), putI_none hl]
          exact ih1
      · rw [dec_f hlen] at ih1 ⊢
        exact ih1

theorem done1_wf {n : Nat} {hi now : Int} {p : Nat} {x : List Bool × KV} (h : WfKV n hi x.2) : WfKV n hi (done1 now p x).2 ∧ (done1 now p x).1.length = x.1.length := by
  unfold done1
  cases lkI x.2 (p : Int) with
  | none => exact ⟨h, rfl⟩
  | some u =>
    dsimp only
    cases u == now with
    | false => exact ⟨h, rfl⟩
    | true =>
      have hs := delI_sub (p : Int) x.2
      exact ⟨⟨(hs.map _).nodup h.nodup, fun a b hab => h.key a b (hs.subset hab)⟩, by simp⟩

theorem L22_27_eq' (k : Kit) (teams now hi : Int) (y : Option Yard) (n : Nat) (hn : n ≤ 1048576) : ∀ (d p : Nat) (s : List Bool) (kv : KV) (N : Nat), s.length = n → p + d = n → d < N → WfKV n hi kv →
    L22_27 N ((teams, y, now, (n : Int), (p : Int), ()), (k, s, ()), kv) = some ((teams, y, now, ()), (k, (doneGo now d p (s, kv)).1, ()), (doneGo now d p (s, kv)).2) ∧ WfKV n hi (doneGo now d p (s, kv)).2 ∧ (doneGo now d p (s, kv)).1.length = n
  | 0, p, s, kv, N, hs, hp, hN, h => by
    obtain ⟨m, rfl⟩ := pos_of_lt hN
    refine ⟨?_, h, hs⟩
    simp only [L22_27, B22_27]
    rw [dec_f (by omega)]
    rfl
  | d + 1, p, s, kv, N, hs, hp, hN, h => by
    obtain ⟨m, rfl⟩ := pos_of_lt hN
    obtain ⟨hw, hlen⟩ := done1_wf (now := now) (p := p) (x := (s, kv)) h
    obtain ⟨ih1, ih2⟩ := L22_27_eq' k teams now hi y n hn d (p + 1) (done1 now p (s, kv)).1 (done1 now p (s, kv)).2 m (by rw [hlen]; exact hs) (by omega) (by omega) hw
    refine ⟨?_, ih2⟩
    simp only [L22_27, B22_27]
    rw [dec_t (by omega), cond_true, inI_in (by omega) (by omega), w64 (x := (p : Int) + 1) (by omega) (by omega), show (p : Int) + 1 = ((p + 1 : Nat) : Int) by omega]
    rw [doneGo]
    unfold done1 at ih1 ⊢
    dsimp only at ih1 ⊢
    cases hl : lkI kv (p : Int) with
    | none => rw [hl] at ih1; exact ih1
    | some u =>
      rw [hl] at ih1
      dsimp only at ih1 ⊢
      cases hu : u == now with
      | false => rw [hu] at ih1; exact ih1
      | true =>
        rw [hu] at ih1
        rw [cond_true, inR_in (by omega) (by omega), getI_has (by omega) (by omega), inI_in (by omega) (by omega)]
        exact ih1

theorem L86_2_eq' (s : List Bool) (hs : s.length ≤ 1048576) (b : Bool) : ∀ (r pre : List Bool) (N : Nat), s = pre ++ r → r.length < N →
    ∃ i : Int, 0 ≤ i ∧ L86_2 N ((s, b, (s.length : Int), (pre.length : Int), ()), (), ()) = some (cond (decide (b ∈ r)) (.inl ((i, ()), (), ())) (.inr ((), (), ())))
  | [], pre, N, hpr, hN => by
    obtain ⟨k, rfl⟩ := pos_of_lt hN
    refine ⟨0, Int.le_refl _, ?_⟩
    simp only [L86_2, B86_2]
    rw [hpr]
    simp
  | x :: r, pre, N, hpr, hN => by
    obtain ⟨k, rfl⟩ := pos_of_lt hN
    simp only [List.length_cons] at hN
    have hlt : ((pre.length : Nat) : Int) < (s.length : Int) := by rw [hpr]; exact lt_app pre x r
    have hget : ∀ {R : Type} (kk : Bool → Option R), getI s (pre.length : Int) kk = kk x := fun kk => by rw [hpr]; exact getI_app pre x r kk rfl
    obtain ⟨i, hi, ih⟩ := L86_2_eq' s hs b r (pre ++ [x]) k (by rw [hpr]; simp) (by omega)
    rw [len_app] at ih
    simp only [L86_2, B86_2]
    rw [dec_t hlt, cond_true, hget, w64 (by omega) (by omega)]
    cases hb : b == x with
    | true => exact ⟨pre.length, by omega, by rw [dec_t (by rw [eq_of_beq hb]; exact List.mem_cons_self)]; rfl⟩
    | false =>
      refine ⟨i, hi, ?_⟩
      have : decide (b ∈ x :: r) = decide (b ∈ r) := by
        have : b ≠ x := by simpa using hb
        simp [this]
      rw [cond_false, this]
      exact ih
theorem g55_eq {s : List Bool} (hs : s.length ≤ 1048576) (b : Bool) : g55 (s, b, ()) = some ((decide (b ∈ s), ()), ()) := by
  have hF : g55 (s, b, ()) = F55 fuel s b := rfl
  have hG : g86 (s, b, ()) = F86 fuel s b := rfl
  obtain ⟨i, hi, h⟩ := L86_2_eq' s hs b s [] fuel rfl (by have := fuel_big; omega)
  have h' : L86_2 fuel ((s, b, (s.length : Int), 0, ()), (), ()) = _ := h
  rw [hF]
  unfold F55
  rw [hG]
  unfold F86
  rw [h', derefK_some]
  by_cases hb : b ∈ s
  · rw [dec_t hb]
    simp only [cond_true, sumK_inl, derefK_some]
    rw [dec_t hi]
  · rw [dec_f hb]; rfl

theorem minV_bound {n : Nat} {hi : Int} {kv : KV} (h : WfKV n hi kv) (h1 : -1 ≤ hi) : -1 ≤ minV kv ∧ minV kv ≤ hi := by
  by_cases e : kv = []
  · subst e; exact ⟨by simp [minV], h1⟩
  · obtain ⟨⟨x, hx, h2⟩, _⟩ := minV_spec kv e
    have := h.key x.1 x.2 hx
    omega

theorem WfKV.mono {n : Nat} {hi hi' : Int} {kv : KV} (h : WfKV n hi kv) (hh : hi ≤ hi') : WfKV n hi' kv := ⟨h.nodup, fun x v hx => by have := h.key x v hx; omega⟩

theorem L22_12_eq' {k : Kit} (hk : Small k) (hf : Fine k) {y : Yard} (hy : Yards k y) (teams : Int) (ht : teams ≤ 4) : ∀ (m : Nat) (now hi : Int) (s : List Bool) (kv : KV) (N : Nat) (r : Int), s.length = k.1.length → -1 ≤ now → now ≤ hi → hi + 100 * m ≤ 1048576 → m + 1048576 < N → WfKV k.1.length hi kv → runT k teams m (now, s, kv) = some r →
    L22_12 N ((teams, some y, now, ()), (k, s, ()), kv) = some ((r, ()), (), ()) := by
  intro m
  induction m with
  | zero =>
    intro now hi s kv N r hs hnow hnh hhi hN h hr
    obtain ⟨n, rfl⟩ := pos_of_lt hN
    have h16 := hf.parts
    simp only [L22_12, B22_12]
    rw [g55_eq (by omega), derefK_some]
    unfold runT at hr
    dsimp only at hr ⊢
    cases hb : decide (false ∈ s) with
    | true => rw [hb] at hr; cases hr
    | false => rw [hb] at hr; cases hr; rfl
  | succ m ih =>
    intro now hi s kv N r hs hnow hnh hhi hN h hr
    obtain ⟨n, rfl⟩ := pos_of_lt hN
    have h16 := hf.parts
    simp only [L22_12, B22_12]
    rw [g55_eq (by omega), derefK_some]
    unfold runT at hr
    dsimp only at hr ⊢
    cases hb : decide (false ∈ s) with
    | false => rw [hb] at hr; cases hr; rfl
    | true =>
      rw [hb, cond_true] at hr
      rw [cond_true]
      obtain ⟨e1, w1⟩ := L22_14_eq' hk hf hy teams now (hi + 100) ht hnow (by omega) (by omega) s hs k.1.length 0 kv n (by omega) (by omega) (h.mono (by omega))
      have e1' : L22_14 n ((teams, some y, now, (s.length : Int), 0, ()), (k, s, ()), kv) = some ((teams, some y, ()), (k, s, ()), fillGo k teams now s k.1.length 0 kv) := by rw [hs]; exact e1
      rw [e1', derefK_some]
      dsimp only
      have hkl : (fillGo k teams now s k.1.length 0 kv).length ≤ 1048576 := by
        have hp := List.Nodup.length_le_of_subset (l₁ := (fillGo k teams now s k.1.length 0 kv).map (·.1)) (l₂ := rangeI k.1.length) w1.nodup (fun x hx => by
          obtain ⟨z, hz, rfl⟩ := List.mem_map.1 hx
          have := w1.key z.1 z.2 hz
          exact rangeI_mem.2 ⟨this.1, this.2.1⟩)
        rw [List.length_map, rangeI_length] at hp
        omega
      rw [L22_22_eq' teams (some y) k s _ (fun x v hx => (w1.key x v hx).2.2.1) 1048576 _ (-1) _ n (by rw [List.length_map]; exact hkl) (by omega) (fun x hx => by
        obtain ⟨z, hz, rfl⟩ := List.mem_map.1 hx
        exact ⟨z.2, lkI_of_mem w1.nodup hz⟩) (minV_isMin _ w1.nodup), derefK_some]
      dsimp only
      obtain ⟨e2, w2, w3⟩ := L22_27_eq' k teams (minV (fillGo k teams now s k.1.length 0 kv)) (hi + 100) (some y) k.1.length (by omega) k.1.length 0 s _ n hs (by omega) (by omega) w1
      have e2' : L22_27 n ((teams, some y, minV (fillGo k teams now s k.1.length 0 kv), (s.length : Int), 0, ()), (k, s, ()), fillGo k teams now s k.1.length 0 kv) = some ((teams, some y, minV (fillGo k teams now s k.1.length 0 kv), ()), (k, (doneGo (minV (fillGo k teams now s k.1.length 0 kv)) k.1.length 0 (s, fillGo k teams now s k.1.length 0 kv)).1, ()), (doneGo (minV (fillGo k teams now s k.1.length 0 kv)) k.1.length 0 (s, fillGo k teams now s k.1.length 0 kv)).2) := by rw [hs]; exact e2
      rw [e2', derefK_some]
      dsimp only
      obtain ⟨b1, b2⟩ := minV_bound w1 (by omega)
      exact ih _ (hi + 100) _ _ n r w3 b1 b2 (by omega) (by omega) w2 hr

/-! ## The example -/
def exKit : Kit := ([(50, 10, 2, ([] : List Int)), (30, 5, 1, [0]), (40, 8, 0, [0]), (60, 4, 0, [1, 2])], 60, [[3, 1], [2, 0]])
theorem g53_eq : g53 () = some ((exKit, ()), ()) := rfl
theorem exSmall : Small exKit := ⟨by decide, by decide, by decide, by decide, by decide⟩
theorem exValid : valid exKit = true := by decide
theorem exOrder : orderR exKit = ([0, 1, 2, 3], 0) := by decide
theorem exTime : runT exKit 2 10 (0, List.replicate 4 false, []) = some 22 := by decide

theorem works_eq : g21 () = some ((true, ()), ()) := by
  have hF : g21 () = F21 fuel := rfl
  rw [hF]
  unfold F21
  rw [g53_eq, derefK_some, g16_eq exKit exSmall, derefK_some, derefK_some]
  have hG : g22 (exKit, 2, ()) = F22 fuel exKit 2 := rfl
  have h22 : g22 (exKit, 2, ()) = some ((22, 0, ()), ()) := by
    rw [hG]
    unfold F22
    rcases g48_eq exKit exSmall with ⟨hv, _⟩ | ⟨hv, y, hy, h⟩
    · rw [exValid] at hv; cases hv
    · have hfine := fine_of exKit hv
      rw [h, derefK_some]
      simp only [Bool.not_true, cond_false]
      rw [g54_eq, derefK_some, derefK_some, g49_eq exSmall hfine hy, derefK_some]
      have hl : (finO exKit).1.length = 4 := by decide
      have hr : rng 2 1 4 = true := by decide
      simp only [hr, Bool.not_true, cond_false]
      rw [dec_f (by rw [hl]; decide), cond_false, leK_in (by decide), leK_in (by decide), lenK_in (by decide) (by decide)]
      have hh := L22_12_eq' exSmall hfine hy 2 (by omega) 10 0 0 (List.replicate 4 false) [] fuel 22 (by decide) (by omega) (by omega) (by omega) (by have := fuel_big; omega) ⟨by simp, by simp⟩ exTime
      have hh' : L22_12 fuel ((2, some y, 0, ()), (exKit, List.replicate (exKit.1.length : Int).toNat false, ()), []) = _ := hh
      rw [hh', derefK_some]
  rw [h22, derefK_some]
  simp only [exOrder]
  rw [show ((0 : Int) == 0) = true from rfl, show ((22 : Int) == 22) = true from rfl]
  simp only [cond_true]
  rw [g18_self _ (by decide)]
  rfl
end Go.Proofs.Try.V
