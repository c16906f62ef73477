/- Plain laws of layer 8 (for buildBounds). No condition beyond those typed in each theorem. -/
import Derived.Test.YtjhphibadndkcaaLw18
namespace Go.Proofs.Try.V
open Go.Vi
set_option maxRecDepth 100000

/-! ## Sums over the parts -/
theorem tab_succ (n : Nat) (f : Nat → Int) : tab (n + 1) f = tab n f ++ [f n] := by unfold tab; rw [List.range_succ, List.map_append]; rfl
theorem sumT_succ (n : Nat) (f : Nat → Int) : (tab (n + 1) f).sum = (tab n f).sum + f n := by
  rw [tab_succ, List.sum_append, List.sum_cons, List.sum_nil, Int.add_zero]
theorem sumT_add (f g : Nat → Int) : ∀ n, (tab n (fun q => f q + g q)).sum = (tab n f).sum + (tab n g).sum
  | 0 => rfl
  | n + 1 => by rw [sumT_succ, sumT_succ, sumT_succ, sumT_add f g n]; omega
theorem sumT_bound {f : Nat → Int} {B : Int} : ∀ n, (∀ q, q < n → 0 ≤ f q ∧ f q ≤ B) → 0 ≤ (tab n f).sum ∧ (tab n f).sum ≤ B * n
  | 0, _ => by simp [tab]
  | n + 1, h => by
    have := sumT_bound n (fun q hq => h q (by omega))
    have h2 := h n (by omega)
    have e : B * ((n + 1 : Nat) : Int) = B * (n : Int) + B := by rw [show ((n + 1 : Nat) : Int) = (n : Int) + 1 by omega, Int.mul_add, Int.mul_one]
    rw [sumT_succ, e]
    omega
theorem sumT_count (b : Nat → Bool) (c : Int) : ∀ n, (tab n (fun q => if b q = true then c else 0)).sum = (((List.range n).filter b).length : Int) * c
  | 0 => by simp [tab]
  | n + 1 => by
    rw [sumT_succ, sumT_count b c n, List.range_succ, List.filter_append, List.length_append]
    cases h : b n with
    | true =>
      have : [n].filter b = [n] := by simp [h]
      rw [this, if_pos rfl, show (((((List.range n).filter b).length + [n].length : Nat)) : Int) = (((List.range n).filter b).length : Int) + 1 by simp, Int.add_mul, Int.one_mul]
    | false =>
      have : [n].filter b = [] := by simp [h]
      rw [this]
      simp

/-! ## Work that has been done -/
def workOf (k : Kit) (u : Int) (s : List Bool) (kv : KV) (q : Nat) : Int := if has s (q : Int) = true then minsOf k (q : Int) else match lkI kv (q : Int) with
  | some v => minsOf k (q : Int) - (v - u)
  | none => 0
def workS (k : Kit) (u : Int) (s : List Bool) (kv : KV) : Int := (tab k.1.length (workOf k u s kv)).sum
theorem fill1_work {k : Kit} {teams u : Int} {s : List Bool} {p : Int} {kv : KV} (q : Nat) : workOf k u s (fill1 k teams u s p kv) q = workOf k u s kv q := by
  unfold fill1
  cases e : lkI kv p with
  | some v => rfl
  | none =>
    dsimp only
    cases hc : decide ((kv.length : Int) < teams) && canB k s p with
    | false => rfl
    | true =>
      have hs := canB_has (Bool.and_eq_true _ _ ▸ hc).2
      rw [cond_true]
      unfold workOf
      rw [lkI_app e]
      by_cases h : (q : Int) = p
      · rw [if_pos h, h, e, hs]
        simp only [Bool.false_eq_true, if_false]
        omega
      · rw [if_neg h]
theorem fill1_len {k : Kit} {teams u : Int} {s : List Bool} {p : Int} {kv : KV} (h : (kv.length : Int) ≤ teams) : ((fill1 k teams u s p kv).length : Int) ≤ teams := by
  unfold fill1
  cases e : lkI kv p with
  | some v => exact h
  | none =>
    dsimp only
    cases hc : decide ((kv.length : Int) < teams) && canB k s p with
    | false => exact h
    | true =>
      rw [Bool.and_eq_true, decide_eq_true_eq] at hc
      rw [cond_true, List.length_append]
      simp only [List.length_cons, List.length_nil]
      omega
theorem fillGo_work {k : Kit} {teams u : Int} {s : List Bool} : ∀ (d p : Nat) (kv : KV), (kv.length : Int) ≤ teams → (∀ q, workOf k u s (fillGo k teams u s d p kv) q = workOf k u s kv q) ∧ ((fillGo k teams u s d p kv).length : Int) ≤ teams
  | 0, _, _, h => ⟨fun _ => rfl, h⟩
  | d + 1, p, kv, h => by
    obtain ⟨h1, h2⟩ := fillGo_work (k := k) (teams := teams) (u := u) (s := s) d (p + 1) (fill1 k teams u s (p : Int) kv) (fill1_len h)
    exact ⟨fun q => by rw [fillGo, h1 q, fill1_work], h2⟩
theorem done1_work {k : Kit} {n : Nat} {t : Int} {p : Nat} {s : List Bool} {kv : KV} (hp : p < s.length) (h : Ahead n t s kv) (q : Nat) : workOf k (t + 1) (done1 (t + 1) p (s, kv)).1 (done1 (t + 1) p (s, kv)).2 q = workOf k (t + 1) s kv q := by
  unfold done1
  cases e : lkI (s, kv).2 (p : Int) with
  | none => rfl
  | some v =>
    dsimp only at e ⊢
    cases hv : v == t + 1 with
    | false => rfl
    | true =>
      obtain rfl : v = t + 1 := by simpa using hv
      have hk := h.key _ _ (lkI_mem e)
      rw [cond_true]
      unfold workOf
      by_cases hq : q = p
      · subst hq
        have e1 : has (s.set q true) (q : Int) = true := by
          have := has_set_self (s := s) (p := (q : Int)) (by omega) (by omega)
          rwa [Int.toNat_natCast] at this
        rw [e1, if_pos rfl, hk.2.2.2.2, e]
        simp
      · rw [has_set (by omega) (by omega), lkI_del_other (by omega)]
theorem doneGo_work {k : Kit} {n : Nat} {t : Int} : ∀ (d p : Nat) (s : List Bool) (kv : KV), p + d ≤ s.length → Ahead n t s kv → ∀ q, workOf k (t + 1) (doneGo (t + 1) d p (s, kv)).1 (doneGo (t + 1) d p (s, kv)).2 q = workOf k (t + 1) s kv q
  | 0, _, _, _, _, _, _ => rfl
  | d + 1, p, s, kv, hp, h, q => by
    have hl := (done1_count (n := n) (t := t) (p := p) (by omega) h).2.2
    rw [doneGo, doneGo_work d (p + 1) _ _ (by omega) (done1_ahead h), done1_work (by omega) h]

/-! ## The sums of the parts that wait for each other -/
structure Late (k : Kit) (F : Int → Int) (t : Int) (s : List Bool) (kv : KV) : Prop where
  up : ∀ q : Int, 0 ≤ q → q < k.1.length → has s q = true → F q ≤ t
  busy : ∀ x v, (x, v) ∈ kv → F x ≤ v
def Bef (k : Kit) (p x : Int) : Prop := (0 ≤ x ∧ x < k.1.length) ∧ (x ∈ needsOf k p ∨ aboveB k.2.2 x p = true)
theorem canB_bef {k : Kit} {s : List Bool} {p x : Int} (h : canB k s p = true) (hx : Bef k p x) : has s x = true := by
  rcases hx.2 with hn | ha
  · exact List.all_eq_true.1 (canB_needs h) x hn
  · unfold canB at h
    cases e : k.1[p.toNat]? with
    | none => rw [e] at h; cases h
    | some q =>
      rw [e] at h
      simp only [Bool.and_eq_true, List.all_eq_true] at h
      have := h.2 x (rangeI_mem.2 hx.1)
      rw [ha] at this
      simpa using this
def Waits (k : Kit) (F : Int → Int) : Prop := ∀ (p c : Int), 0 ≤ p → p < k.1.length → 0 ≤ c → (∀ x, Bef k p x → F x ≤ c) → F p ≤ c + minsOf k p
theorem Late.fill1 {k : Kit} {F : Int → Int} (hF : Waits k F) {teams t : Int} (ht : 0 ≤ t) {s : List Bool} {kv : KV} (h : Late k F t s kv) {p : Int} (h0 : 0 ≤ p) (hp : p < k.1.length) : Late k F t s (fill1 k teams t s p kv) := by
  unfold Go.Proofs.Try.V.fill1
  cases e : lkI kv p with
  | some v => exact h
  | none =>
    dsimp only
    cases hc : decide ((kv.length : Int) < teams) && canB k s p with
    | false => exact h
    | true =>
      rw [Bool.and_eq_true] at hc
      refine ⟨h.up, fun x v hx => ?_⟩
      rw [cond_true, List.mem_append, List.mem_singleton] at hx
      rcases hx with hx | hx
      · exact h.busy x v hx
      · cases hx
        exact hF p t h0 hp ht (fun x hx => h.up x hx.1.1 hx.1.2 (canB_bef hc.2 hx))
theorem Late.fill {k : Kit} {F : Int → Int} (hF : Waits k F) {teams t : Int} (ht : 0 ≤ t) {s : List Bool} : ∀ (d p : Nat) (kv : KV), p + d = k.1.length → Late k F t s kv → Late k F t s (fillGo k teams t s d p kv)
  | 0, _, _, _, h => h
  | d + 1, p, kv, hp, h => Late.fill hF ht d (p + 1) _ (by omega) (h.fill1 hF ht (by omega) (by omega))
theorem Late.done1 {k : Kit} {F : Int → Int} {t : Int} {s : List Bool} {kv : KV} (hs : s.length = k.1.length) (h : Late k F t s kv) {p : Nat} (hp : p < k.1.length) : Late k F t (done1 t p (s, kv)).1 (done1 t p (s, kv)).2 := by
  unfold Go.Proofs.Try.V.done1
  cases e : lkI (s, kv).2 (p : Int) with
  | none => exact h
  | some v =>
    dsimp only at e ⊢
    cases hv : v == t with
    | false => exact h
    | true =>
      obtain rfl : v = t := by simpa using hv
      rw [cond_true]
      refine ⟨fun q h0 hq hh => ?_, fun x w hx => h.busy x w ((delI_sub _ kv).subset hx)⟩
      have := has_set_up (s := s) (p := (p : Int)) (q := q) (by omega) h0 (by omega)
      rw [Int.toNat_natCast] at this
      dsimp only at hh
      rw [this, Bool.or_eq_true, decide_eq_true_eq] at hh
      rcases hh with hh | rfl
      · exact h.up q h0 hq hh
      · exact h.busy _ _ (lkI_mem e)
theorem done1_length (t : Int) (p : Nat) (x : List Bool × KV) : (done1 t p x).1.length = x.1.length := by
  unfold done1
  split
  · rename_i u _
    cases u == t <;> simp
  · rfl
theorem Late.doneAll {k : Kit} {F : Int → Int} {t : Int} : ∀ (d p : Nat) (s : List Bool) (kv : KV), p + d = k.1.length → s.length = k.1.length → Late k F t s kv → Late k F t (doneGo t d p (s, kv)).1 (doneGo t d p (s, kv)).2
  | 0, _, _, _, _, _, h => h
  | d + 1, p, s, kv, hp, hs, h => by
    rw [doneGo]
    exact Late.doneAll d (p + 1) _ _ (by omega) ((done1_length t p (s, kv)).trans hs) (h.done1 hs (by omega))

def total (k : Kit) : Int := (tab k.1.length fun q => minsOf k (q : Int)).sum
theorem runT_inv {k : Kit} (hf : Fine k) (hw : k.1.length ≤ (finO k).1.length) (teams : Int) (ht1 : 1 ≤ teams) (F : Int → Int) (hF : Waits k F) : ∀ (m : Nat) (u hi : Int) (s : List Bool) (kv : KV) (r : Int), s.length = k.1.length → Ahead k.1.length u s kv → WfKV k.1.length hi kv → 0 ≤ u → u ≤ hi → hi + 100 * m ≤ 1000000 → (kv.length : Int) ≤ teams → u ≤ workS k u s kv → workS k u s kv ≤ teams * u → Late k F u s kv → runT k teams m (u, s, kv) = some r →
    r ≤ total k ∧ total k ≤ teams * r ∧ 0 ≤ r ∧ ∀ q : Int, 0 ≤ q → q < k.1.length → F q ≤ r := by
  have last : ∀ (u : Int) (s : List Bool) (kv : KV), s.length = k.1.length → false ∉ s → 0 ≤ u → u ≤ workS k u s kv → workS k u s kv ≤ teams * u → Late k F u s kv → u ≤ total k ∧ total k ≤ teams * u ∧ 0 ≤ u ∧ ∀ q : Int, 0 ≤ q → q < k.1.length → F q ≤ u := by
    intro u s kv hs hb hu h1 h2 hL
    have hall : ∀ q : Int, 0 ≤ q → q < k.1.length → has s q = true := fun q h0 hq => count_zero_has (List.count_eq_zero.2 hb) h0 (by omega)
    have e : workS k u s kv = total k := by
      unfold workS total
      congr 1
      refine tab_congr fun q hq => ?_
      unfold workOf
      rw [hall (q : Int) (by omega) (by omega), if_pos rfl]
    rw [e] at h1 h2
    exact ⟨h1, h2, hu, fun q h0 hq => hL.up q h0 hq (hall q h0 hq)⟩
  intro m
  induction m with
  | zero =>
    intro u hi s kv r hs h hwf hu huh hhi hkv h1 h2 hL hr
    unfold runT at hr
    by_cases hb : false ∈ s
    · rw [dec_t hb] at hr; cases hr
    · rw [dec_f hb] at hr
      cases hr
      exact last u s kv hs hb hu h1 h2 hL
  | succ m ih =>
    intro u hi s kv r hs h hwf hu huh hhi hkv h1 h2 hL hr
    unfold runT at hr
    by_cases hb : false ∈ s
    case neg =>
      rw [dec_f hb] at hr
      cases hr
      exact last u s kv hs hb hu h1 h2 hL
    rw [dec_t hb, cond_true] at hr
    have hne := fillGo_ne hw (now := u) ht1 hs hb kv
    have hah : Ahead k.1.length u s (fillGo k teams u s k.1.length 0 kv) := by
      have : ∀ (d p : Nat) (kv' : KV), p + d = k.1.length → Ahead k.1.length u s kv' → Ahead k.1.length u s (fillGo k teams u s d p kv') := by
        intro d
        induction d with
        | zero => intro p kv' _ h; exact h
        | succ d ih => intro p kv' hp h; rw [fillGo]; exact ih (p + 1) _ (by omega) (fill1_ahead hf (by omega) (by omega) (by omega) (by omega) h)
      exact this k.1.length 0 kv (by omega) h
    have hwf2 : WfKV k.1.length (hi + 100) (fillGo k teams u s k.1.length 0 kv) := by
      have : ∀ (d p : Nat) (kv' : KV), p + d = k.1.length → WfKV k.1.length (hi + 100) kv' → WfKV k.1.length (hi + 100) (fillGo k teams u s d p kv') := by
        intro d
        induction d with
        | zero => intro p kv' _ h; exact h
        | succ d ih => intro p kv' hp h; rw [fillGo]; exact ih (p + 1) _ (by omega) (fill1_wf hf (by omega) (by omega) (by omega) (by omega) h)
      exact this k.1.length 0 kv (by omega) (hwf.mono (by omega))
    obtain ⟨hfw, hfl⟩ := fillGo_work (k := k) (teams := teams) (u := u) (s := s) k.1.length 0 kv hkv
    have hL2 := Late.fill hF (teams := teams) hu (s := s) k.1.length 0 kv (by omega) hL
    have hwk : workS k u s (fillGo k teams u s k.1.length 0 kv) = workS k u s kv := by
      unfold workS
      rw [tab_congr (fun q _ => hfw q)]
    unfold roundT at hr
    dsimp only at hr
    generalize fillGo k teams u s k.1.length 0 kv = kv2 at *
    obtain ⟨⟨xm, hxm, hxe⟩, hmin⟩ := minV_spec kv2 hne
    have hmb := minV_bound hwf2 (by omega)
    have hmt := hah.key xm.1 xm.2 hxm
    rw [hxe] at hmt
    have ha2 : Ahead k.1.length (minV kv2 - 1) s kv2 := ⟨hah.nodup, fun x v hx => by have h1 := hah.key x v hx; have h2 := hmin (x, v) hx; dsimp only at h2; exact ⟨h1.1, h1.2.1, by omega, h1.2.2.2.1, h1.2.2.2.2⟩⟩
    have hdc := doneGo_count (n := k.1.length) (t := minV kv2 - 1) k.1.length 0 s kv2 (by omega) ha2
    have hnx := Ahead.next hs ha2
    have hdw := doneGo_work (k := k) (n := k.1.length) (t := minV kv2 - 1) k.1.length 0 s kv2 (by omega) ha2
    rw [show minV kv2 - 1 + 1 = minV kv2 by omega] at hdc hnx hdw
    have hcnt := cntB_all hah
    unfold cntB at hcnt
    rw [← List.range_eq_range'] at hcnt
    have hstep : workS k (minV kv2) s kv2 = workS k u s kv2 + (kv2.length : Int) * (minV kv2 - u) := by
      unfold workS
      rw [← hcnt, ← sumT_count (isBusy kv2) (minV kv2 - u) k.1.length, ← sumT_add]
      congr 1
      refine tab_congr fun q hq => ?_
      unfold workOf isBusy
      cases e : lkI kv2 (q : Int) with
      | none => simp
      | some v =>
        have := (hah.key _ _ (lkI_mem e)).2.2.2.2
        rw [this]
        simp only [Bool.false_eq_true, if_false, Option.isSome_some, if_true]
        omega
    have hdone : workS k (minV kv2) (doneGo (minV kv2) k.1.length 0 (s, kv2)).1 (doneGo (minV kv2) k.1.length 0 (s, kv2)).2 = workS k (minV kv2) s kv2 := by
      unfold workS
      rw [tab_congr (fun q _ => hdw q)]
    have hpos : 0 ≤ minV kv2 - u := by omega
    have m1 : (kv2.length : Int) * (minV kv2 - u) ≤ teams * (minV kv2 - u) := Int.mul_le_mul_of_nonneg_right hfl hpos
    have m2 : 1 * (minV kv2 - u) ≤ (kv2.length : Int) * (minV kv2 - u) := Int.mul_le_mul_of_nonneg_right (by have := List.length_pos_iff.2 hne; omega) hpos
    have m3 : teams * minV kv2 = teams * u + teams * (minV kv2 - u) := by rw [← Int.mul_add]; congr 1; omega
    have hL3 : Late k F (minV kv2) s kv2 := ⟨fun q h0 hq hh => by have := hL2.up q h0 hq hh; omega, hL2.busy⟩
    have hL4 := Late.doneAll k.1.length 0 s kv2 (by omega) hs hL3
    exact ih (minV kv2) (hi + 100) _ _ r (by omega) hnx ⟨hnx.nodup, fun x v hx => hwf2.key x v (hdc.2.1.subset hx)⟩ (by omega) (by omega) (by omega) (by have := hdc.2.1.length_le; omega) (by omega) (by omega) hL4 hr

/-! ## The greatest sum -/
def lonS (k : Kit) : List Int → List Int → List Int → List Int
  | _, [], S => S
  | pre, p :: r, S => lonS k (pre ++ [p]) r (S.set p.toNat (best k pre p S + minsOf k p))
theorem lonS_other {k : Kit} {x : Int} (hx : 0 ≤ x) : ∀ (r pre S : List Int), (∀ p ∈ r, 0 ≤ p) → x ∉ r → val (lonS k pre r S) x = val S x
  | [], _, _, _, _ => rfl
  | p :: r, pre, S, hr, hn => by
    simp only [List.mem_cons, not_or] at hn
    rw [lonS, lonS_other hx r _ _ (fun q hq => hr q (List.mem_cons_of_mem _ hq)) hn.2, val_set_ne (hr p List.mem_cons_self) hx hn.1]
theorem lonS_fix {k : Kit} (hf : Fine k) {ord : List Int} (ho : OrdOK k ord) : ∀ (r pre S : List Int), ord = pre ++ r → S.length = k.1.length → ∀ p ∈ r, ∀ c : Int, 0 ≤ c → (∀ x, Bef k p x → val (lonS k pre r S) x ≤ c) → val (lonS k pre r S) p ≤ c + minsOf k p
  | [], _, _, _, _, p, hp, _, _, _ => by cases hp
  | p :: r, pre, S, hpr, hS, p', hp', c, hc, hb => by
    rw [lonS] at hb ⊢
    rcases List.mem_cons.1 hp' with rfl | hp'
    · have hnd := ho.nodup
      rw [hpr, List.nodup_append] at hnd
      have hpn := (List.nodup_cons.1 hnd.2.1).1
      have hrng : ∀ q ∈ p' :: r, 0 ≤ q ∧ q < k.1.length := fun q hq => ho.rng q (by rw [hpr]; exact List.mem_append_right _ hq)
      have hp0 := hrng p' List.mem_cons_self
      have hr0 : ∀ q ∈ r, 0 ≤ q := fun q hq => (hrng q (List.mem_cons_of_mem _ hq)).1
      rw [lonS_other hp0.1 r _ _ hr0 hpn, val_set_self hp0.1 (by omega)]
      obtain ⟨q, post, hd, hab, hpost, _⟩ := hf.spot hp0.1 hp0.2
      rw [best_eq hf ho hpr hd hpost S]
      have : mx S (needsOf k p' ++ post.head?.toList) 0 ≤ c := by
        refine mx_le _ 0 hc (fun x hx => ?_)
        have hbx : Bef k p' x := by
          rcases List.mem_append.1 hx with hx | hx
          · have := needs_in hf hp0.1 hp0.2 x hx
            exact ⟨⟨this.1, this.2.1⟩, .inl hx⟩
          · have hx' : x ∈ post := List.mem_of_mem_head? (Option.mem_toList.1 hx)
            exact ⟨hpost x hx', .inr (by rw [hab, dec_t hx'])⟩
        have hxp : x ∈ pre := by
          obtain ⟨h1, h2⟩ := ho.ok pre p' r hpr
          rcases hbx.2 with h | h
          · exact h1 x h
          · exact h2 x hbx.1.1 hbx.1.2 h
        have hxn : x ∉ p' :: r := fun h => hnd.2.2 x hxp x h rfl
        have h3 := hb x hbx
        simp only [List.mem_cons, not_or] at hxn
        rwa [lonS_other hbx.1.1 r _ _ hr0 hxn.2, val_set_ne hp0.1 hbx.1.1 hxn.1] at h3
      omega
    · exact lonS_fix hf ho r (pre ++ [p]) _ (by rw [hpr]; simp) (by simp [hS]) p' hp' c hc hb
theorem lon_le {k : Kit} {ord : List Int} (ho : OrdOK k ord) {c : Int} : ∀ (r pre : List Int) (most : Int) (S : List Int), ord = pre ++ r → S.length = k.1.length → most ≤ c → (∀ p ∈ r, val (lonS k pre r S) p ≤ c) → lon k pre r most S ≤ c
  | [], _, _, _, _, _, h, _ => h
  | p :: r, pre, most, S, hpr, hS, h, hv => by
    have hnd := ho.nodup
    rw [hpr, List.nodup_append] at hnd
    have hpn := (List.nodup_cons.1 hnd.2.1).1
    have hrng : ∀ q ∈ p :: r, 0 ≤ q ∧ q < k.1.length := fun q hq => ho.rng q (by rw [hpr]; exact List.mem_append_right _ hq)
    have hp0 := hrng p List.mem_cons_self
    have h1 := hv p List.mem_cons_self
    rw [lonS, lonS_other hp0.1 r _ _ (fun q hq => (hrng q (List.mem_cons_of_mem _ hq)).1) hpn, val_set_self hp0.1 (by omega)] at h1
    rw [lon]
    refine lon_le ho r (pre ++ [p]) _ _ (by rw [hpr]; simp) (by simp [hS]) (by omega) (fun q hq => ?_)
    have := hv q (List.mem_cons_of_mem _ hq)
    rwa [lonS] at this

/-! ## The law -/
theorem time_cases (k : Kit) (hk : Small k) (teams : Int) : (valid k = false ∧ g22 (k, teams, ()) = some ((0, 80, ()), ())) ∨ (valid k = true ∧ rng teams 1 4 = false ∧ g22 (k, teams, ()) = some ((0, 1, ()), ())) ∨ (valid k = true ∧ (finO k).1.length < k.1.length ∧ g22 (k, teams, ()) = some ((0, 3, ()), ())) ∨
    (valid k = true ∧ rng teams 1 4 = true ∧ (finO k).1.length = k.1.length ∧ ∃ r, runT k teams k.1.length (0, none0 k, []) = some r ∧ g22 (k, teams, ()) = some ((r, 0, ()), ())) := by
  have hF : g22 (k, teams, ()) = F22 fuel k teams := rfl
  rw [hF]
  unfold F22
  rcases g48_eq k hk with ⟨hv, q, h⟩ | ⟨hv, y, hy, h⟩
  · rw [h]; exact .inl ⟨hv, rfl⟩
  have hf := fine_of k hv
  have h16 := hf.parts
  rw [h, derefK_some]
  simp only [Bool.not_true, cond_false, derefK_some]
  rw [g54_eq, derefK_some]
  dsimp only
  cases hr : rng teams 1 4 with
  | false => exact .inr (.inl ⟨hv, rfl, rfl⟩)
  | true =>
    simp only [rng, Bool.and_eq_true, decide_eq_true_eq] at hr
    simp only [Bool.not_true, cond_false]
    rw [g49_eq hk hf hy, derefK_some]
    have hle := (finO_len k).2
    by_cases hl : (finO k).1.length < k.1.length
    · rw [dec_t (by omega : (((finO k).1.length : Nat) : Int) < (k.1.length : Int))]
      exact .inr (.inr (.inl ⟨hv, hl, rfl⟩))
    · have hah : Ahead k.1.length 0 (List.replicate k.1.length false) [] := ⟨by simp, by simp⟩
      have hwf : WfKV k.1.length 0 [] := ⟨by simp, by simp⟩
      obtain ⟨r, hrun⟩ := runT_some hf (by omega) teams hr.1 k.1.length 0 0 (List.replicate k.1.length false) [] (by simp) (by simp) hah hwf (by omega) (by omega) (by omega)
      refine .inr (.inr (.inr ⟨hv, trivial, by omega, r, hrun, ?_⟩))
      rw [dec_f (by omega : ¬ (((finO k).1.length : Nat) : Int) < (k.1.length : Int)), cond_false, leK_in (by omega), leK_in (by omega), lenK_in (by omega) (by omega)]
      have hh := L22_12_eq' hk hf hy teams hr.2 k.1.length 0 0 (List.replicate k.1.length false) [] fuel r (by simp) (by omega) (by omega) (by omega) (by have := fuel_big; omega) hwf hrun
      have hh' : L22_12 fuel ((teams, some y, 0, ()), (k, List.replicate (k.1.length : Int).toNat false, ()), []) = _ := hh
      rw [hh', derefK_some]
theorem longest_cases (k : Kit) (hk : Small k) : (valid k = false ∧ g24 (k, ()) = some ((0, 80, ()), ())) ∨ (valid k = true ∧ (finO k).1.length < k.1.length ∧ g24 (k, ()) = some ((0, 3, ()), ())) ∨
    (valid k = true ∧ (finO k).1.length = k.1.length ∧ OrdOK k (finO k).1 ∧ g24 (k, ()) = some ((lon k [] (finO k).1 0 (List.replicate k.1.length 0), 0, ()), ())) := by
  have hF : g24 (k, ()) = F24 fuel k := rfl
  rw [hF]
  unfold F24
  rcases g48_eq k hk with ⟨hv, q, h⟩ | ⟨hv, y, hy, h⟩
  · rw [h]; exact .inl ⟨hv, rfl⟩
  have hf := fine_of k hv
  have h16 := hf.parts
  have hle := (finO_len k).2
  rw [h, derefK_some]
  simp only [Bool.not_true, cond_false, derefK_some]
  rw [g49_eq hk hf hy, derefK_some]
  by_cases hl : (finO k).1.length < k.1.length
  · rw [dec_t (by omega : (((finO k).1.length : Nat) : Int) < (k.1.length : Int))]
    exact .inr (.inl ⟨hv, hl, rfl⟩)
  · have hok := finO_ok hf
    have hord : OrdOK k (finO k).1 := ⟨hok.nodup, hok.rng, hok.ok⟩
    have hS : ∀ x, 0 ≤ val (List.replicate k.1.length 0) x ∧ val (List.replicate k.1.length 0) x ≤ 0 := fun x => by
      have : val (List.replicate k.1.length 0) x = 0 := by
        unfold val
        rw [List.getD_eq_getElem?_getD, List.getElem?_replicate]
        split <;> rfl
      omega
    refine .inr (.inr ⟨hv, by omega, hord, ?_⟩)
    rw [dec_f (by omega : ¬ (((finO k).1.length : Nat) : Int) < (k.1.length : Int)), cond_false, leK_in (by omega), leK_in (by omega), lenK_in (by omega) (by omega)]
    have hh := L24_10_eq' hk hf hy (finO k).1 hord (by omega) (finO k).1 [] 0 0 (List.replicate k.1.length 0) fuel rfl (by simp) (Int.le_refl _) hS (by omega) (by have := fuel_big; omega)
    have hh' : L24_10 fuel ((some y, 0, ((finO k).1.length : Int), 0, ()), (k, List.replicate (k.1.length : Int).toNat 0, (finO k).1, ()), ()) = _ := hh
    rw [hh', derefK_some]

theorem L5_7_eq' {k : Kit} (hf : Fine k) (teams n longest : Int) {N : Nat} (hN : k.1.length + 0 < N) :
    L5_7 N ((teams, n, longest, 0, 0, ()), (k, ()), ()) = some ((teams, n, longest, total k, ()), (k, ()), ()) := by
  have h16 := hf.parts
  have hb : ∀ i, i ≤ k.1.length → 0 ≤ (tab i fun q => minsOf k (q : Int)).sum ∧ (tab i fun q => minsOf k (q : Int)).sum ≤ 100 * i := fun i hi => sumT_bound i (fun q hq => by
    obtain ⟨_, _, _, h1, h2⟩ := mins_in hf (p := (q : Int)) (by omega) (by omega)
    omega)
  exact loopF (L := L5_7) (fun i => ((teams, n, longest, (tab i fun q => minsOf k (q : Int)).sum, (i : Int), ()), (k, ()), ())) ((teams, n, longest, total k, ()), (k, ()), ()) 0 k.1.length hN
    (fun N => by
      simp only [L5_7, B5_7]
      rw [dec_f (by omega)]
      rfl)
    (fun N i _ hi => by
      have h1 := hb i (by omega)
      have h2 := hb (i + 1) (by omega)
      obtain ⟨q, hq, e, _, _⟩ := mins_in hf (p := (i : Int)) (by omega) (by omega)
      rw [Int.toNat_natCast] at hq
      rw [sumT_succ, e] at h2
      simp only [L5_7, B5_7]
      rw [dec_t (by omega), cond_true, getI_nat hq, w64 (by omega) (by omega), w64 (by omega) (by omega), sumT_succ, e]
      rfl)

theorem law5 (k : Kit) (hk : Small k) (teams : Int) : g5 (k, teams, ()) = some ((true, ()), ()) := by
  have hF : g5 (k, teams, ()) = F5 fuel k teams := rfl
  have hfu := fuel_big
  rw [hF]
  unfold F5
  rcases time_cases k hk teams with ⟨hv, ht⟩ | ⟨hv, hr, ht⟩ | ⟨hv, hl, ht⟩ | ⟨hv, hr, hl, n, hrun, ht⟩
  · rcases longest_cases k hk with ⟨_, hg⟩ | ⟨hv', _⟩ | ⟨hv', _⟩
    · rw [ht, hg, derefK_some, derefK_some]
      dsimp only
      rw [show ((80 : Int) != 0) = true from rfl, cond_true, show ((80 : Int) == 1) = false from rfl, cond_false, beq_self_eq_true, cond_true, works_eq]
      rfl
    · rw [hv'] at hv; cases hv
    · rw [hv'] at hv; cases hv
  · obtain ⟨x, hg⟩ : ∃ x, g24 (k, ()) = some x := by
      rcases longest_cases k hk with ⟨_, hg⟩ | ⟨_, _, hg⟩ | ⟨_, _, _, hg⟩ <;> exact ⟨_, hg⟩
    rw [ht, hg, derefK_some, derefK_some]
    dsimp only
    rw [show ((1 : Int) != 0) = true from rfl, cond_true, beq_self_eq_true, cond_true, works_eq]
    rfl
  · rcases longest_cases k hk with ⟨hv', _⟩ | ⟨_, _, hg⟩ | ⟨_, hl', _⟩
    · rw [hv'] at hv; cases hv
    · rw [ht, hg, derefK_some, derefK_some]
      dsimp only
      rw [show ((3 : Int) != 0) = true from rfl, cond_true, show ((3 : Int) == 1) = false from rfl, cond_false, beq_self_eq_true, cond_true, works_eq]
      rfl
    · omega
  · have hf := fine_of k hv
    have h16 := hf.parts
    rcases longest_cases k hk with ⟨hv', _⟩ | ⟨_, hl', _⟩ | ⟨_, _, hord, hg⟩
    · rw [hv'] at hv; cases hv
    · omega
    have hz : Late k (val (lonS k [] (finO k).1 (List.replicate k.1.length 0))) 0 (none0 k) [] := ⟨fun q _ _ h => (by rw [none0_has] at h; cases h), fun x v hx => (List.not_mem_nil hx).elim⟩
    have hmem : ∀ q : Int, 0 ≤ q → q < k.1.length → q ∈ (finO k).1 := by
      have hp := perm_of_nodup (finO k).1 (rangeI k.1.length) hord.nodup (fun x hx => rangeI_mem.2 (hord.rng x hx)) (by rw [rangeI_length]; omega)
      exact fun q h0 hq => hp.symm.subset (rangeI_mem.2 ⟨h0, hq⟩)
    have hW : Waits k (val (lonS k [] (finO k).1 (List.replicate k.1.length 0))) := fun p c h0 hp hc hb => lonS_fix hf hord (finO k).1 [] _ rfl (by simp) p (hmem p h0 hp) c hc hb
    have hah : Ahead k.1.length 0 (none0 k) [] := ⟨by simp, by simp⟩
    have hwf : WfKV k.1.length 0 [] := ⟨by simp, by simp⟩
    have hw0 : workS k 0 (none0 k) [] = 0 := by
      unfold workS
      have : ∀ n, (tab n (workOf k 0 (none0 k) [])).sum = 0 := by
        intro n
        induction n with
        | zero => rfl
        | succ n ih =>
          rw [sumT_succ, ih]
          unfold workOf
          rw [none0_has]
          rfl
      exact this _
    have main : ∀ (tm r : Int), 1 ≤ tm → runT k tm k.1.length (0, none0 k, []) = some r → r ≤ total k ∧ total k ≤ tm * r ∧ 0 ≤ r ∧ ∀ q : Int, 0 ≤ q → q < k.1.length → val (lonS k [] (finO k).1 (List.replicate k.1.length 0)) q ≤ r := fun tm r h1 hr =>
      runT_inv hf (by omega) tm h1 _ hW k.1.length 0 0 (none0 k) [] r (by simp) hah hwf (by omega) (by omega) (by omega) (by simp; omega) (by rw [hw0]; omega) (by rw [hw0]; omega) hz hr
    simp only [rng, Bool.and_eq_true, decide_eq_true_eq] at hr
    obtain ⟨a1, a2, a3, a4⟩ := main teams n hr.1 hrun
    have htot : 0 ≤ total k ∧ total k ≤ 100 * (k.1.length : Int) := sumT_bound k.1.length (fun q hq => by
      obtain ⟨_, _, _, h1, h2⟩ := mins_in hf (p := (q : Int)) (by omega) (by omega)
      omega)
    rw [ht, hg, derefK_some, derefK_some]
    dsimp only
    rw [show ((0 : Int) != 0) = false from rfl, cond_false, cond_false, L5_7_eq' hf teams n _ (by omega), derefK_some]
    dsimp only
    rcases time_cases k hk 1 with ⟨hv', _⟩ | ⟨_, hr', _⟩ | ⟨_, hl', _⟩ | ⟨_, _, _, n1, hrun1, ht1⟩
    · rw [hv'] at hv; cases hv
    · cases hr'
    · omega
    obtain ⟨b1, b2, _, _⟩ := main 1 n1 (by omega) hrun1
    rw [Int.one_mul] at b2
    have hlon := lon_le hord (c := n) (finO k).1 [] 0 (List.replicate k.1.length 0) rfl (by simp) a3 (fun p hp => a4 p (hord.rng p hp).1 (hord.rng p hp).2)
    have hmul : 0 ≤ n * teams ∧ n * teams ≤ 1600 * 4 := by
      refine ⟨Int.mul_nonneg a3 (by omega), ?_⟩
      have h1 : n * teams ≤ 1600 * teams := Int.mul_le_mul_of_nonneg_right (by omega) (by omega)
      omega
    rw [Int.mul_comm] at a2
    rw [ht1, derefK_some]
    dsimp only
    rw [beq_self_eq_true, cond_true, show (n1 == total k) = true by simp only [beq_iff_eq]; omega, cond_true, dec_t (by omega), cond_true, w64 (by omega) (by omega), dec_t (by omega), cond_true, dec_t (by omega), cond_true, works_eq]
    rfl
end Go.Proofs.Try.V
