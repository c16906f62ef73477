/- The abstract interpreter 'Vi', twenty-fifth part: a function's contract from the interpreter's run. No condition beyond those typed in each theorem. -/
import Derived.Test.YtjhphibadndkcaaVi25
namespace Go.Vi
section
variable {P : Program} {C : Ctx} {cfg : Cfg} {R : Type} {r : R} {s : St} {a : Act} {w : World} {H : FH} {Φ : Nat → Info}

/-- Where the objects of the parameters lie. -/
def pinL : List PTy → List Info → Nat → List (Nat × Info)
  | .v _ :: ps, _ :: Φs, i => pinL ps Φs (i + 1)
  | .r _ :: ps, _ :: Φs, i => pinL ps Φs (i + 1)
  | .m _ :: ps, φ :: Φs, i => (pid i, φ) :: pinL ps Φs (i + 1)
  | .mr _ _ :: ps, φ :: Φs, i => (pid i, φ) :: pinL ps Φs (i + 1)
  | _, _, _ => []

theorem lk_in {α : Type} {n : Nat} {x : α} : ∀ {l : List (Nat × α)}, (l.map (·.1)).Nodup → (n, x) ∈ l → lk l n = some x
  | [], _, h => by cases h
  | (m, y) :: l, hnd, h => by
    simp only [List.map_cons, List.nodup_cons] at hnd
    rw [lk_cons]
    rcases List.mem_cons.1 h with e | h
    · cases e; simp [Nat.beq_refl]
    · have : Nat.beq m n = false := by
        cases hb : Nat.beq m n with
        | false => rfl
        | true => obtain rfl := Nat.eq_of_beq_eq_true hb; exact absurd (List.mem_map.2 ⟨_, h, rfl⟩) hnd.1
      rw [this]
      exact lk_in hnd.2 h

theorem pid_lt {i j : Nat} (h : i < j) : pid i < pid j := by unfold pid; omega

/-- The entry's objects, with their places. -/
theorem entry_ok : ∀ {ps : List PTy} {d : PDens ps} {vs : List Value} {Φs : List Info} (i : Nat), ArgsOK P w H ps d vs Φs →
    vs.length = ps.length ∧ fpsOf Φs = (pinL ps Φs i).flatMap (·.2.fp) ∧ (∀ x ∈ pinL ps Φs i, pid i ≤ x.1) ∧ ((pinL ps Φs i).map (·.1)).Nodup ∧ ((entryO ps i d).map (·.1)).Nodup ∧ (∀ x ∈ entryO ps i d, pid i ≤ x.1) ∧
      (∀ id x, (id, x) ∈ entryO ps i d → ∃ o φ, x = some o ∧ (id, φ) ∈ pinL ps Φs i ∧ ObjOK P w H o φ) ∧
      ∀ (Φ : Nat → Info) (os : Nat → Option Obj), (∀ x ∈ pinL ps Φs i, Φ x.1 = x.2) → (∀ id o, (id, some o) ∈ entryO ps i d → os id = some o) → ∀ t av, lk (entryT ps i d) t = some av → ∃ j v, t = i + j ∧ vs[j]? = some v ∧ RepA P C w H Φ os av v
  | [], d, vs, Φs, i, h => by
    obtain ⟨rfl, rfl⟩ := h
    exact ⟨rfl, rfl, by simp [pinL], by simp [pinL], by simp [entryO], by simp [entryO], by simp [entryO], fun _ _ _ _ t av ht => by cases ht⟩
  | .v τ :: ps, d, vs, Φs, i, h => by
    obtain ⟨v, vs', φ, Φs', rfl, rfl, hfz, hφ, hv, h⟩ := h
    obtain ⟨h1, h2, h3, h4, h5, h6, h7, h8⟩ := entry_ok (i + 1) h
    refine ⟨by simp [h1], by simpa [fpsOf, hφ, pinL] using h2, fun x hx => Nat.le_trans (Nat.le_of_lt (pid_lt (Nat.lt_succ_self i))) (h3 x hx), h4, h5, fun x hx => Nat.le_trans (Nat.le_of_lt (pid_lt (Nat.lt_succ_self i))) (h6 x hx), h7, ?_⟩
    intro Φ os hΦ hos t av ht
    rw [entryT, lk_cons] at ht
    cases hb : Nat.beq i t with
    | true =>
      rw [hb] at ht
      cases ht
      obtain rfl := Nat.eq_of_beq_eq_true hb
      exact ⟨0, v, rfl, rfl, hfz, hv⟩
    | false =>
      rw [hb] at ht
      obtain ⟨j, u, e, hu, hr⟩ := h8 Φ os hΦ hos t av ht
      exact ⟨j + 1, u, by omega, by simpa using hu, hr⟩
  | .r τ :: ps, d, vs, Φs, i, h => by
    obtain ⟨v, vs', φ, Φs', rfl, rfl, hfz, hφ, hv, h⟩ := h
    obtain ⟨h1, h2, h3, h4, h5, h6, h7, h8⟩ := entry_ok (i + 1) h
    refine ⟨by simp [h1], by simpa [fpsOf, hφ, pinL] using h2, fun x hx => Nat.le_trans (Nat.le_of_lt (pid_lt (Nat.lt_succ_self i))) (h3 x hx), h4, h5, fun x hx => Nat.le_trans (Nat.le_of_lt (pid_lt (Nat.lt_succ_self i))) (h6 x hx), h7, ?_⟩
    intro Φ os hΦ hos t av ht
    rw [entryT, lk_cons] at ht
    cases hb : Nat.beq i t with
    | true =>
      rw [hb] at ht
      cases ht
      obtain rfl := Nat.eq_of_beq_eq_true hb
      exact ⟨0, v, rfl, rfl, hfz, hv⟩
    | false =>
      rw [hb] at ht
      obtain ⟨j, u, e, hu, hr⟩ := h8 Φ os hΦ hos t av ht
      exact ⟨j + 1, u, by omega, by simpa using hu, hr⟩
  | .m τ :: ps, d, vs, Φs, i, h => by
    obtain ⟨v, vs', φ, Φs', rfl, rfl, hv, hok, h⟩ := h
    obtain ⟨h1, h2, h3, h4, h5, h6, h7, h8⟩ := entry_ok (i + 1) h
    have hlt : pid i < pid (i + 1) := pid_lt (Nat.lt_add_one i)
    refine ⟨by simp [h1], by simpa [fpsOf, pinL] using h2, ?_, ?_, ?_, ?_, ?_, ?_⟩
    · intro x hx
      rcases List.mem_cons.1 hx with rfl | hx
      · exact Nat.le_refl _
      · exact Nat.le_trans (Nat.le_of_lt hlt) (h3 x hx)
    · simp only [pinL, List.map_cons, List.nodup_cons]
      refine ⟨fun hm => ?_, h4⟩
      obtain ⟨x, hx, e⟩ := List.mem_map.1 hm
      have := h3 x hx
      omega
    · simp only [entryO, List.map_cons, List.nodup_cons]
      refine ⟨fun hm => ?_, h5⟩
      obtain ⟨x, hx, e⟩ := List.mem_map.1 hm
      have := h6 x hx
      omega
    · intro x hx
      rcases List.mem_cons.1 hx with rfl | hx
      · exact Nat.le_refl _
      · exact Nat.le_trans (Nat.le_of_lt hlt) (h6 x hx)
    · intro id x hx
      rcases List.mem_cons.1 hx with e | hx
      · cases e
        exact ⟨_, φ, rfl, List.mem_cons_self, hok⟩
      · obtain ⟨o, φ', e, hm, hok'⟩ := h7 id x hx
        exact ⟨o, φ', e, List.mem_cons_of_mem _ hm, hok'⟩
    · intro Φ os hΦ hos t av ht
      rw [entryT, lk_cons] at ht
      cases hb : Nat.beq i t with
      | true =>
        rw [hb] at ht
        cases ht
        obtain rfl := Nat.eq_of_beq_eq_true hb
        have e := hΦ (pid i, φ) List.mem_cons_self
        simp only at e
        refine ⟨0, v, rfl, rfl, ⟨false, τ, d.1⟩, ⟨τ, d.1⟩, φ.b, 0, hos _ _ List.mem_cons_self, rfl, getV_nil _ _, ?_, hv⟩
        rw [e]
        exact Loc_nil _ _ _ _
      | false =>
        rw [hb] at ht
        obtain ⟨j, u, e, hu, hr⟩ := h8 Φ os (fun x hx => hΦ x (List.mem_cons_of_mem _ hx)) (fun id o ho => hos id o (List.mem_cons_of_mem _ ho)) t av ht
        exact ⟨j + 1, u, by omega, by simpa using hu, hr⟩
  | .mr tid e :: ps, d, vs, Φs, i, h => by
    obtain ⟨v, vs', φ, Φs', rfl, rfl, hv, hok, h⟩ := h
    obtain ⟨h1, h2, h3, h4, h5, h6, h7, h8⟩ := entry_ok (i + 1) h
    have hlt : pid i < pid (i + 1) := pid_lt (Nat.lt_add_one i)
    refine ⟨by simp [h1], by simpa [fpsOf, pinL] using h2, ?_, ?_, ?_, ?_, ?_, ?_⟩
    · intro x hx
      rcases List.mem_cons.1 hx with rfl | hx
      · exact Nat.le_refl _
      · exact Nat.le_trans (Nat.le_of_lt hlt) (h3 x hx)
    · simp only [pinL, List.map_cons, List.nodup_cons]
      refine ⟨fun hm => ?_, h4⟩
      obtain ⟨x, hx, e⟩ := List.mem_map.1 hm
      have := h3 x hx
      omega
    · simp only [entryO, List.map_cons, List.nodup_cons]
      refine ⟨fun hm => ?_, h5⟩
      obtain ⟨x, hx, e⟩ := List.mem_map.1 hm
      have := h6 x hx
      omega
    · intro x hx
      rcases List.mem_cons.1 hx with rfl | hx
      · exact Nat.le_refl _
      · exact Nat.le_trans (Nat.le_of_lt hlt) (h6 x hx)
    · intro id x hx
      rcases List.mem_cons.1 hx with e | hx
      · cases e
        exact ⟨_, φ, rfl, List.mem_cons_self, hok⟩
      · obtain ⟨o, φ', e, hm, hok'⟩ := h7 id x hx
        exact ⟨o, φ', e, List.mem_cons_of_mem _ hm, hok'⟩
    · intro Φ os hΦ hos t av ht
      rw [entryT, lk_cons] at ht
      cases hb : Nat.beq i t with
      | true =>
        rw [hb] at ht
        cases ht
        obtain rfl := Nat.eq_of_beq_eq_true hb
        have e := hΦ (pid i, φ) List.mem_cons_self
        simp only at e
        refine ⟨0, v, rfl, rfl, ⟨true, .list true tid _, d.1⟩, ⟨.list true tid _, d.1⟩, hos _ _ List.mem_cons_self, getV_nil _ _, ?_⟩
        simp only [List.isEmpty_nil, Bool.and_self]
        rw [e]
        exact hv
      | false =>
        rw [hb] at ht
        obtain ⟨j, u, e, hu, hr⟩ := h8 Φ os (fun x hx => hΦ x (List.mem_cons_of_mem _ hx)) (fun id o ho => hos id o (List.mem_cons_of_mem _ ho)) t av ht
        exact ⟨j + 1, u, by omega, by simpa using hu, hr⟩

def entryC (w : World) (H : FH) (nt : Nat) (ps : List PTy) (Φs : List Info) : Ctx := ⟨w, (· ∈ fpsOf Φs), H, nt, lk (pinL ps Φs 0)⟩

/-- The state in which a call begins. -/
theorem entry_sim {ps : List PTy} {d : PDens ps} {vs : List Value} {Φs : List Info} (hok : HOk H w) (hargs : ArgsOK P w H ps d vs Φs) (hnd : (fpsOf Φs).Nodup) (hfr : ∀ b ∈ fpsOf Φs, H b = none ∧ b < w.heap.size) {nt : Nat} (hnt : ps.length ≤ nt) :
    SimB P (entryC w H nt ps Φs) (entrySt ps d) { tmps := vs.toArray ++ Array.replicate (nt - vs.toArray.size) undef, defers := [] } w H (fun id => (lk (pinL ps Φs 0) id).getD nilInfo) := by
  obtain ⟨h1, h2, h3, h4, h5, h6, h7, h8⟩ := entry_ok (C := entryC w H nt ps Φs) 0 hargs
  have hΦ : ∀ x ∈ pinL ps Φs 0, (lk (pinL ps Φs 0) x.1).getD nilInfo = x.2 := fun x hx => by rw [lk_in h4 hx]; rfl
  have hobj : ∀ id o, (entrySt ps d).obj id = some o → (id, some o) ∈ entryO ps 0 d := by
    intro id o ho
    have ho' : (lk (entryO ps 0 d) id).join = some o := ho
    cases hq : lk (entryO ps 0 d) id with
    | none => rw [hq] at ho'; cases ho'
    | some x => rw [hq] at ho'; simp only [Option.join_some] at ho'; rw [← ho']; exact lk_mem hq
  have hpin : ∀ id o, (entrySt ps d).obj id = some o → ∃ φ, (id, φ) ∈ pinL ps Φs 0 ∧ ObjOK P w H o φ := by
    intro id o ho
    obtain ⟨o', φ, e, hm, hok⟩ := h7 id _ (hobj id o ho)
    cases e
    exact ⟨φ, hm, hok⟩
  refine ⟨rfl, ?_, FH.le_refl _, hok, fun b c hb => .inl hb, Mod.refl _ _, ?_, ?_, ?_, ?_⟩
  · simp only [Array.size_append, List.size_toArray, Array.size_replicate, entryC]
    omega
  · intro t av ht
    obtain ⟨j, v, e, hv, hr⟩ := h8 (fun id => (lk (pinL ps Φs 0) id).getD nilInfo) (entrySt ps d).obj hΦ (fun id o ho => by
      show (lk (entryO ps 0 d) id).join = some o
      rw [lk_in h5 ho]; rfl) t av ht
    obtain rfl : t = j := by omega
    have : (vs.toArray ++ Array.replicate (nt - vs.toArray.size) undef).getD t undef = v := by
      have hlt := (List.getElem?_eq_some_iff.1 hv).1
      rw [Array.getD_eq_getD_getElem?, Array.getElem?_append_left (by simpa using hlt)]
      simp [hv]
    simp only [this]
    exact hr
  · intro id o ho
    obtain ⟨φ, hm, hok⟩ := hpin id o ho
    rw [hΦ _ hm]
    refine ⟨hok, fun b hb => ?_⟩
    have hb' : b ∈ fpsOf Φs := by rw [h2]; exact List.mem_flatMap.2 ⟨_, hm, hb⟩
    exact ⟨(hfr b hb').1, .inl hb', (hfr b hb').2⟩
  · intro i j o o' hij hi hj b hb
    obtain ⟨φ, hm, _⟩ := hpin i o hi
    obtain ⟨φ', hm', _⟩ := hpin j o' hj
    rw [hΦ _ hm] at hb
    rw [hΦ _ hm']
    rw [h2] at hnd
    exact flat_disj hnd _ hm _ hm' (by intro e; cases e; exact hij rfl) b hb
  · intro id φ hφ
    have : lk (pinL ps Φs 0) id = some φ := hφ
    rw [this]
    exact ⟨rfl, rfl⟩

theorem entry_ctx {ps : List PTy} {d : PDens ps} {vs : List Value} {Φs : List Info} (hargs : ArgsOK P w H ps d vs Φs) : CtxOK (entryC w H cfg.nt ps Φs) cfg := by
  obtain ⟨_, _, h3, _⟩ := entry_ok (C := entryC w H cfg.nt ps Φs) 0 hargs
  refine ⟨rfl, fun id hid => ?_⟩
  show lk (pinL ps Φs 0) id = none
  cases hq : lk (pinL ps Φs 0) id with
  | none => rfl
  | some φ =>
    have h := h3 _ (lk_mem hq)
    have h' : pid 0 ≤ id := h
    unfold pid at h'
    omega
end
end Go.Vi
