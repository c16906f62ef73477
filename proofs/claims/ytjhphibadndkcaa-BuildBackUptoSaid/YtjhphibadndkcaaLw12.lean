/- Plain laws of layer 8 (for buildTimes). No condition beyond those typed in each theorem. -/
import Derived.Test.YtjhphibadndkcaaLw11
import Derived.Test.YtjhphibadndkcaaLw8
namespace Go.Proofs.Try.V
open Go.Vi
set_option maxRecDepth 100000

def val (S : List Int) (x : Int) : Int := S.getD x.toNat 0
def mx (S : List Int) (l : List Int) (b : Int) : Int := l.foldl (fun b x => max b (val S x)) b
theorem getI_val {R : Type} {S : List Int} {p : Int} (h0 : 0 ≤ p) (h : p < S.length) (k : Int → Option R) : getI S p k = k (val S p) := by
  rw [getI_in h0 h]
  unfold val
  rw [List.getD_eq_getElem?_getD, List.getElem?_eq_getElem (by omega)]
  rfl
theorem val_set_self {S : List Int} {p c : Int} (h0 : 0 ≤ p) (h : p < S.length) : val (S.set p.toNat c) p = c := by
  unfold val
  rw [List.getD_eq_getElem?_getD, List.getElem?_set_self (by omega)]
  rfl
theorem val_set_ne {S : List Int} {p x c : Int} (h0 : 0 ≤ p) (hx : 0 ≤ x) (h : x ≠ p) : val (S.set p.toNat c) x = val S x := by
  unfold val
  rw [List.getD_eq_getElem?_getD, List.getD_eq_getElem?_getD, List.getElem?_set_ne (by omega)]
theorem set_val {S : List Int} {p : Int} (h0 : 0 ≤ p) (h : p < S.length) : S.set p.toNat (val S p) = S := by
  apply List.ext_getElem?
  intro i
  rw [List.getElem?_set]
  by_cases e : p.toNat = i
  · subst e
    rw [if_pos rfl, if_pos (by omega)]
    unfold val
    rw [List.getD_eq_getElem?_getD, List.getElem?_eq_getElem (by omega)]
    rfl
  · rw [if_neg e]
theorem mx_ge (S : List Int) : ∀ (l : List Int) (b : Int), b ≤ mx S l b ∧ ∀ x ∈ l, val S x ≤ mx S l b
  | [], b => ⟨Int.le_refl _, fun x hx => by cases hx⟩
  | y :: l, b => by
    obtain ⟨h1, h2⟩ := mx_ge S l (max b (val S y))
    have e : mx S (y :: l) b = mx S l (max b (val S y)) := rfl
    rw [e]
    refine ⟨by omega, fun x hx => ?_⟩
    rcases List.mem_cons.1 hx with rfl | hx
    · omega
    · exact h2 x hx
theorem mx_le {S : List Int} {c : Int} : ∀ (l : List Int) (b : Int), b ≤ c → (∀ x ∈ l, val S x ≤ c) → mx S l b ≤ c
  | [], b, h, _ => h
  | y :: l, b, h, hl => mx_le l (max b (val S y)) (by have := hl y List.mem_cons_self; omega) (fun x hx => hl x (List.mem_cons_of_mem _ hx))
theorem mx_same {S : List Int} {l l' : List Int} {b : Int} (h : ∀ x, x ∈ l ↔ x ∈ l') : mx S l b = mx S l' b := by
  obtain ⟨h1, h2⟩ := mx_ge S l b
  obtain ⟨h3, h4⟩ := mx_ge S l' b
  exact Int.le_antisymm (mx_le l b h3 (fun x hx => h4 x ((h x).1 hx))) (mx_le l' b h1 (fun x hx => h2 x ((h x).2 hx)))
theorem mx_snoc (S l : List Int) (x b : Int) : mx S (l ++ [x]) b = max (mx S l b) (val S x) := by
  unfold mx
  rw [List.foldl_append]
  rfl

def best (k : Kit) (pre : List Int) (p : Int) (S : List Int) : Int := mx S (pre.filter (waitsB k p)) 0
def lon (k : Kit) : List Int → List Int → Int → List Int → Int
  | _, [], most, _ => most
  | pre, p :: r, most, S => lon k (pre ++ [p]) r (max most (best k pre p S + minsOf k p)) (S.set p.toNat (best k pre p S + minsOf k p))

theorem L24_14_eq' (y : Option Yard) (k : Kit) (most p t38 t39 : Int) (S ord : List Int) (l : List Int) (hl : l.length ≤ 1048576) (hr : ∀ x ∈ l, 0 ≤ x ∧ x < S.length) : ∀ (r pre : List Int) (b : Int) (N : Nat), l = pre ++ r → r.length < N →
    L24_14 N ((y, most, p, b, t38, t39, l, (l.length : Int), (pre.length : Int), ()), (k, S, ord, ()), ()) = some ((y, most, p, mx S r b, t38, t39, ()), (k, S, ord, ()), ())
  | [], pre, b, N, hpr, hN => by
    obtain ⟨n, rfl⟩ := pos_of_lt hN
    simp only [L24_14, B24_14]
    rw [hpr]
    simp [mx]
  | x :: r, pre, b, N, hpr, hN => by
    obtain ⟨n, rfl⟩ := pos_of_lt hN
    simp only [List.length_cons] at hN
    have hlt : ((pre.length : Nat) : Int) < (l.length : Int) := by rw [hpr]; exact lt_app pre x r
    have hget : ∀ {R : Type} (kk : Int → Option R), getI l (pre.length : Int) kk = kk x := fun kk => by rw [hpr]; exact getI_app pre x r kk rfl
    have ih := L24_14_eq' y k most p t38 t39 S ord l hl hr r (pre ++ [x]) (max b (val S x)) n (by rw [hpr]; simp) (by omega)
    rw [len_app] at ih
    have hx := hr x (by rw [hpr]; simp)
    simp only [L24_14, B24_14]
    rw [dec_t hlt, cond_true, hget, inR_in hx.1 hx.2, getI_val hx.1 hx.2, w64 (by omega) (by omega)]
    exact ih

/-- What an order has. -/
structure OrdOK (k : Kit) (ord : List Int) : Prop where
  nodup : ord.Nodup
  rng : ∀ p ∈ ord, 0 ≤ p ∧ p < k.1.length
  ok : ∀ pre p post, ord = pre ++ p :: post → (∀ y ∈ needsOf k p, y ∈ pre) ∧ ∀ i : Int, 0 ≤ i → i < k.1.length → aboveB k.2.2 i p = true → i ∈ pre

theorem best_eq {k : Kit} (hf : Fine k) {ord pre r : List Int} {p : Int} (ho : OrdOK k ord) (hpr : ord = pre ++ p :: r) {q post : List Int} (hd : (q, p, post) ∈ allSpots k.2.2) (hpost : ∀ x ∈ post, 0 ≤ x ∧ x < k.1.length) (S : List Int) : best k pre p S = mx S (needsOf k p ++ post.head?.toList) 0 := by
  obtain ⟨h1, h2⟩ := ho.ok pre p r hpr
  obtain ⟨h3, h4⟩ := hf.next hd
  refine mx_same fun x => ?_
  simp only [List.mem_filter, List.mem_append, waitsB, Bool.or_eq_true, List.any_eq_true, beq_iff_eq, h3, decide_eq_true_eq, Option.mem_toList]
  constructor
  · rintro ⟨_, ⟨z, hz, rfl⟩ | h⟩
    · exact .inl hz
    · exact .inr h
  · rintro (h | h)
    · exact ⟨h1 x h, .inl ⟨x, h, rfl⟩⟩
    · have hx : x ∈ post := List.mem_of_mem_head? h
      have hr := hpost x hx
      exact ⟨h2 x hr.1 hr.2 (by rw [h4, dec_t hx]), .inr h⟩

theorem best_bound {k : Kit} {pre : List Int} {p : Int} {S : List Int} {B : Int} (hB : 0 ≤ B) (hS : ∀ x, 0 ≤ val S x ∧ val S x ≤ B) : 0 ≤ best k pre p S ∧ best k pre p S ≤ B := ⟨(mx_ge S _ 0).1, mx_le _ 0 hB (fun x _ => (hS x).2)⟩
theorem val_set_bound {S : List Int} {p c B : Int} (h0 : 0 ≤ c) (hc : c ≤ B) (hS : ∀ x, 0 ≤ val S x ∧ val S x ≤ B) (hB : 0 ≤ B) : ∀ x, 0 ≤ val (S.set p.toNat c) x ∧ val (S.set p.toNat c) x ≤ B := by
  intro x
  unfold val
  rw [List.getD_eq_getElem?_getD, List.getElem?_set]
  split
  · split
    · exact ⟨h0, hc⟩
    · exact ⟨Int.le_refl _, hB⟩
  · rw [← List.getD_eq_getElem?_getD]
    exact hS x

theorem L24_10_eq' {k : Kit} (hk : Small k) (hf : Fine k) {y : Yard} (hy : Yards k y) (ord : List Int) (ho : OrdOK k ord) (hol : ord.length ≤ 1048576) : ∀ (r pre : List Int) (most B : Int) (S : List Int) (N : Nat), ord = pre ++ r → S.length = k.1.length → 0 ≤ B → (∀ x, 0 ≤ val S x ∧ val S x ≤ B) → B + 100 * r.length ≤ 1048576 → r.length + 1048577 < N →
    L24_10 N ((some y, most, (ord.length : Int), (pre.length : Int), ()), (k, S, ord, ()), ()) = some ((lon k pre r most S, ()), (), ())
  | [], pre, most, B, S, N, hpr, hSl, hB, hS, hBr, hN => by
    obtain ⟨n, rfl⟩ := pos_of_lt hN
    simp only [L24_10, B24_10]
    rw [hpr]
    simp [lon]
  | p :: r, pre, most, B, S, N, hpr, hSl, hB, hS, hBr, hN => by
    obtain ⟨n, rfl⟩ := pos_of_lt hN
    simp only [List.length_cons] at hN hBr
    have h16 := hf.parts
    have hlt : ((pre.length : Nat) : Int) < (ord.length : Int) := by rw [hpr]; exact lt_app pre p r
    have hget : ∀ {R : Type} (kk : Int → Option R), getI ord (pre.length : Int) kk = kk p := fun kk => by rw [hpr]; exact getI_app pre p r kk rfl
    have hp := ho.rng p (by rw [hpr]; simp)
    obtain ⟨q, hq, hqm, hm1, hm2⟩ := mins_in hf hp.1 hp.2
    obtain ⟨rfl, many, lies, hst⟩ := hy
    obtain ⟨pr, post, hd, _, hpost, _⟩ := hf.spot hp.1 hp.2
    obtain ⟨hsa, _⟩ := hst.spot _ hd
    have hbe := best_eq hf ho hpr hd hpost S
    obtain ⟨hb0, hb1⟩ := best_bound (k := y.1) (pre := pre) (p := p) hB hS
    have hneed : needsOf y.1 p = q.2.2.2 := by unfold needsOf; rw [hq]
    have hnl := hk.needs q (List.mem_of_getElem? hq)
    have hnin : ∀ x ∈ q.2.2.2, 0 ≤ x ∧ x < S.length := fun x hx => by have := needs_in hf hp.1 hp.2 x (by rw [hneed]; exact hx); omega
    have ih := L24_10_eq' hk hf ⟨rfl, many, lies, hst⟩ ord ho hol r (pre ++ [p]) (max most (best y.1 pre p S + minsOf y.1 p)) (B + 100) (S.set p.toNat (best y.1 pre p S + minsOf y.1 p)) n (by rw [hpr]; simp) (by simp [hSl]) (by omega) (val_set_bound (by omega) (by omega) (fun x => by have := hS x; omega) (by omega)) (by omega) (by omega)
    rw [len_app] at ih
    simp only [L24_10, B24_10]
    rw [dec_t hlt, cond_true, inR_in (by omega) hlt, hget, derefK_some, getI_some hp.1 hq]
    have h14 := L24_14_eq' (some y) y.1 most p (ord.length : Int) (pre.length : Int) S ord q.2.2.2 hnl hnin q.2.2.2 [] 0 n rfl (by omega)
    have h14' : L24_14 n ((some y, most, p, 0, (ord.length : Int), (pre.length : Int), q.2.2.2, (q.2.2.2.length : Int), 0, ()), (y.1, S, ord, ()), ()) = _ := h14
    rw [h14', derefK_some]
    dsimp only
    rw [derefK_some, getI_some hp.1 hsa, lon]
    have hpS : p < (S.length : Int) := by omega
    cases post with
    | nil =>
      rw [dec_f (by simp), cond_false, getI_some hp.1 hq, inR_in hp.1 hpS, getI_val hp.1 hpS, bindV_eq]
      simp only [List.head?_nil, Option.toList, List.append_nil, hneed] at hbe
      rw [← hbe, ← hqm, w64 (x := best y.1 pre p S + minsOf y.1 p) (by omega) (by omega), inR_in hp.1 (by simp; omega), getI_val hp.1 (by simp; omega), val_set_self hp.1 hpS, w64 (x := (pre.length : Int) + 1) (by omega) (by omega)]
      exact ih
    | cons z post =>
      have hz := hpost z List.mem_cons_self
      have hzS : z < (S.length : Int) := by omega
      rw [dec_t (by simp), cond_true, derefK_some, getI_some hp.1 hsa]
      rw [getI_some (l := z :: post) (i := 0) (x := z) (Int.le_refl _) rfl]
      rw [inR_in hz.1 hzS, getI_val hz.1 hzS, getI_some hp.1 hq, inR_in hp.1 hpS, getI_val hp.1 hpS, bindV_eq]
      simp only [List.head?_cons, Option.toList, hneed, mx_snoc] at hbe
      rw [← hbe, ← hqm, w64 (x := best y.1 pre p S + minsOf y.1 p) (by omega) (by omega), inR_in hp.1 (by simp; omega), getI_val hp.1 (by simp; omega), val_set_self hp.1 hpS, w64 (x := (pre.length : Int) + 1) (by omega) (by omega)]
      exact ih

theorem L25_11_eq' {k : Kit} (hk : Small k) (ord : List Int) (ho : OrdOK k ord) (hol : ord.length ≤ 1048576) (most : Int) (S : List Int) (hSl : S.length = k.1.length) (p : Int) (pre r : List Int) (hpr : ord = pre ++ p :: r) : ∀ (r2 q : List Int) (c : Int) (N : Nat), pre = q ++ r2 → r2.length < N →
    L25_11 N ((most, (pre.length : Int), p, (q.length : Int), ()), (k, S.set p.toNat c, ord, ()), ()) = some ((most, (pre.length : Int), p, ()), (k, S.set p.toNat (mx S (r2.filter (waitsB k p)) c), ord, ()), ())
  | [], q, c, N, hq, hN => by
    obtain ⟨n, rfl⟩ := pos_of_lt hN
    simp only [L25_11, B25_11]
    rw [hq]
    simp [mx]
  | x :: r2, q, c, N, hq, hN => by
    obtain ⟨n, rfl⟩ := pos_of_lt hN
    simp only [List.length_cons] at hN
    have hpl : pre.length < ord.length := by rw [hpr]; simp
    have hlt : ((q.length : Nat) : Int) < (pre.length : Int) := by rw [hq]; exact lt_app q x r2
    have hget : ∀ {R : Type} (kk : Int → Option R), getI ord (q.length : Int) kk = kk x := fun kk => by rw [hpr, hq, List.append_assoc]; exact getI_app q x _ kk rfl
    have hp := ho.rng p (by rw [hpr]; simp)
    have hx := ho.rng x (by rw [hpr, hq]; simp)
    have hne : x ≠ p := by
      have := ho.nodup
      rw [hpr, hq, List.nodup_append] at this
      exact fun e => this.2.2 x (by simp) p (by simp) e
    have ih : ∀ c, _ := fun c => L25_11_eq' hk ord ho hol most S hSl p pre r hpr r2 (q ++ [x]) c n (by rw [hq]; simp) (by omega)
    simp only [len_app] at ih
    simp only [L25_11, B25_11]
    have hps : p < ((S.set p.toNat c).length : Int) := by simp; omega
    rw [dec_t hlt, cond_true, inR_in (by omega) (by omega), hget, g59_eq k hk p x hp.1 hp.2, derefK_some, w64 (by omega) (by omega), List.filter_cons]
    cases hw : waitsB k p x with
    | false => exact ih c
    | true =>
      rw [cond_true, inR_in hp.1 hps, getI_val hp.1 hps, inR_in (by omega) (by omega), hget, inR_in hx.1 (by simp; omega), getI_val hx.1 (by simp; omega), inR_in hp.1 hps, getI_val hp.1 hps]
      rw [val_set_self hp.1 (by omega), val_set_ne hp.1 hx.1 hne, List.set_set]
      exact ih (max c (val S x))

theorem L25_7_eq' {k : Kit} (hk : Small k) (hf : Fine k) (ord : List Int) (ho : OrdOK k ord) (hol : ord.length ≤ 1048576) : ∀ (r pre : List Int) (most B : Int) (S : List Int) (N : Nat), ord = pre ++ r → S.length = k.1.length → 0 ≤ B → (∀ x, 0 ≤ val S x ∧ val S x ≤ B) → (∀ x ∈ r, val S x = 0) → B + 100 * r.length ≤ 1048576 → r.length + 1048577 < N →
    L25_7 N ((most, (pre.length : Int), ()), (k, S, ord, ()), ()) = some ((lon k pre r most S, ()), (), ())
  | [], pre, most, B, S, N, hpr, hSl, hB, hS, h0, hBr, hN => by
    obtain ⟨n, rfl⟩ := pos_of_lt hN
    simp only [L25_7, B25_7]
    rw [hpr]
    simp [lon]
  | p :: r, pre, most, B, S, N, hpr, hSl, hB, hS, h0, hBr, hN => by
    obtain ⟨n, rfl⟩ := pos_of_lt hN
    simp only [List.length_cons] at hN hBr
    have hlt : ((pre.length : Nat) : Int) < (ord.length : Int) := by rw [hpr]; exact lt_app pre p r
    have hget : ∀ {R : Type} (kk : Int → Option R), getI ord (pre.length : Int) kk = kk p := fun kk => by rw [hpr]; exact getI_app pre p r kk rfl
    have hp := ho.rng p (by rw [hpr]; simp)
    have hpS : p < (S.length : Int) := by omega
    obtain ⟨q, hq, hqm, hm1, hm2⟩ := mins_in hf hp.1 hp.2
    obtain ⟨hb0, hb1⟩ := best_bound (k := k) (pre := pre) (p := p) hB hS
    have hnd := ho.nodup
    rw [hpr, List.nodup_append] at hnd
    have hpr' := (List.nodup_cons.1 hnd.2.1).1
    have ih := L25_7_eq' hk hf ord ho hol r (pre ++ [p]) (max most (best k pre p S + minsOf k p)) (B + 100) (S.set p.toNat (best k pre p S + minsOf k p)) n (by rw [hpr]; simp) (by simp [hSl]) (by omega) (val_set_bound (by omega) (by omega) (fun x => by have := hS x; omega) (by omega)) (fun x hx => by
      have hxr := ho.rng x (by rw [hpr]; simp [hx])
      rw [val_set_ne hp.1 hxr.1 (fun e => hpr' (e ▸ hx))]
      exact h0 x (List.mem_cons_of_mem _ hx)) (by omega) (by omega)
    rw [len_app] at ih
    have h11 := L25_11_eq' hk ord ho hol most S hSl p pre r hpr pre [] (val S p) n rfl (by omega)
    rw [set_val hp.1 hpS, h0 p List.mem_cons_self] at h11
    have h11' : L25_11 n ((most, (pre.length : Int), p, 0, ()), (k, S, ord, ()), ()) = some ((most, (pre.length : Int), p, ()), (k, S.set p.toNat (best k pre p S), ord, ()), ()) := h11
    simp only [L25_7, B25_7]
    rw [dec_t hlt, cond_true, inR_in (by omega) hlt, hget, h11', derefK_some]
    dsimp only
    rw [lon]
    rw [inR_in hp.1 (by simp; omega), getI_val hp.1 (by simp; omega), getI_some hp.1 hq, val_set_self hp.1 hpS, inR_in hp.1 (by simp; omega), getI_val hp.1 (by simp; omega), ← hqm, w64 (x := best k pre p S + minsOf k p) (by omega) (by omega), List.set_set, inR_in hp.1 (by simp; omega), getI_val hp.1 (by simp; omega), val_set_self hp.1 hpS, w64 (x := (pre.length : Int) + 1) (by omega) (by omega)]
    exact ih

theorem longest_eq (k : Kit) (hk : Small k) : ∃ r : Int × Int, g24 (k, ()) = some ((r.1, r.2, ()), ()) ∧ g25 (k, ()) = some ((r.1, r.2, ()), ()) := by
  have hF : g24 (k, ()) = F24 fuel k := rfl
  have hG : g25 (k, ()) = F25 fuel k := rfl
  rw [hF, hG]
  unfold F24 F25
  rw [g17_eq k hk, derefK_some]
  dsimp only
  rcases orderR_cases k with ⟨hv, ho⟩ | ⟨hv, hl, ho⟩ | ⟨hv, hl, ho⟩
  · refine ⟨(0, 80), ?_, ?_⟩
    · rcases g48_eq k hk with ⟨_, q, h⟩ | ⟨hv', _⟩
      · rw [h]; rfl
      · rw [hv'] at hv; cases hv
    · rw [ho]; rfl
  · rcases g48_eq k hk with ⟨hv', _⟩ | ⟨_, y, hy, h⟩
    · rw [hv'] at hv; cases hv
    refine ⟨(0, 3), ?_, by rw [ho]; rfl⟩
    rw [h, derefK_some]
    simp only [Bool.not_true, cond_false, derefK_some]
    rw [g49_eq hk (fine_of k hv) hy, derefK_some]
    rw [dec_t (by omega : (((finO k).1.length : Nat) : Int) < (k.1.length : Int))]
    rfl
  · rcases g48_eq k hk with ⟨hv', _⟩ | ⟨_, y, hy, h⟩
    · rw [hv'] at hv; cases hv
    have hf := fine_of k hv
    have h16 := hf.parts
    have hok := finO_ok hf
    have hord : OrdOK k (finO k).1 := ⟨hok.nodup, hok.rng, hok.ok⟩
    have hz : ∀ x, val (List.replicate k.1.length 0) x = 0 := by
      intro x
      unfold val
      rw [List.getD_eq_getElem?_getD, List.getElem?_replicate]
      split <;> rfl
    have hS : ∀ x, 0 ≤ val (List.replicate k.1.length 0) x ∧ val (List.replicate k.1.length 0) x ≤ 0 := fun x => by rw [hz x]; omega
    refine ⟨(lon k [] (finO k).1 0 (List.replicate k.1.length 0), 0), ?_, ?_⟩
    · rw [h, derefK_some]
      simp only [Bool.not_true, cond_false, derefK_some]
      rw [g49_eq hk hf hy, derefK_some]
      rw [dec_f (by omega : ¬ (((finO k).1.length : Nat) : Int) < (k.1.length : Int)), cond_false, leK_in (by omega), leK_in (by omega), lenK_in (by omega) (by omega)]
      have hh := L24_10_eq' hk hf hy (finO k).1 hord (by omega) (finO k).1 [] 0 0 (List.replicate k.1.length 0) fuel rfl (by simp) (Int.le_refl _) hS (by omega) (by have := fuel_big; omega)
      have hh' : L24_10 fuel ((some y, 0, ((finO k).1.length : Int), 0, ()), (k, List.replicate (k.1.length : Int).toNat 0, (finO k).1, ()), ()) = _ := hh
      rw [hh', derefK_some]
    · rw [ho]
      dsimp only
      rw [show ((0 : Int) != 0) = false from rfl, cond_false, hl, leK_in (by omega), leK_in (by omega), lenK_in (by omega) (by omega)]
      have hh := L25_7_eq' hk hf (finO k).1 hord (by omega) (finO k).1 [] 0 0 (List.replicate k.1.length 0) fuel rfl (by simp) (Int.le_refl _) hS (fun x _ => hz x) (by omega) (by have := fuel_big; omega)
      have hh' : L25_7 fuel ((0, 0, ()), (k, List.replicate (k.1.length : Int).toNat 0, (finO k).1, ()), ()) = _ := hh
      rw [hh', derefK_some]

theorem law4 (k : Kit) (hk : Small k) (teams : Int) : g4 (k, teams, ()) = some ((true, ()), ()) := by
  have hF : g4 (k, teams, ()) = F4 fuel k teams := rfl
  obtain ⟨r, h1, h2⟩ := time_eq k hk teams
  obtain ⟨u, h3, h4⟩ := longest_eq k hk
  rw [hF]
  unfold F4
  rw [h1, h2, derefK_some, derefK_some]
  simp only [bne_self_eq_false, cond_false]
  rw [h3, h4, derefK_some, derefK_some]
  simp only [beq_self_eq_true, cond_true]
  rw [works_eq]
  rfl
end Go.Proofs.Try.V
