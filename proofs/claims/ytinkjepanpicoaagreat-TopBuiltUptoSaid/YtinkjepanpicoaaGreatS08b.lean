/- Plain laws: what the last text needs of the others, in one. No condition beyond those typed in each theorem. -/
import Derived.Test.YtinkjepanpicoaaGreatFn4
namespace Go.Proofs.Tryz.V.L08
open Go.Vi
set_option maxRecDepth 100000
abbrev Part := Int × (Int × (Int × (List Int)))
abbrev Kit := (List Part) × (Int × (List (List Int)))
theorem qb5 : 1099511627776 < fuel := by decide
theorem w64 {x : Int} (h1 : -9223372036854775808 ≤ x) (h2 : x ≤ 9223372036854775807) : IntKind.wrap .i64 x = x := IntWalk.i64_in x ⟨h1, h2⟩
theorem qbc {α R : Type} (pre : List α) (x : α) (r : List α) (k : α → Option R) {i : Int} (hi : i = pre.length) : qg (pre ++ x :: r) i k = k x := by
  subst hi
  unfold qg
  rw [if_pos (by omega)]
  simp
theorem qaR {α R : Type} {l : List α} {i : Int} {x : α} (h0 : 0 ≤ i) (h : l[i.toNat]? = some x) (k : α → Option R) : qg l i k = k x := by
  unfold qg
  rw [if_pos h0, h]
theorem qfc {α R : Type} {l : List α} {i : Int} (h0 : 0 ≤ i) (h : i < l.length) (k : α → Option R) : qg l i k = k (l[i.toNat]'(by omega)) := qaR h0 (List.getElem?_eq_getElem (by omega)) k
theorem qZ {R : Type} {i : Int} {n : Nat} (h0 : 0 ≤ i) (h : i < n) (k : Option R) : jL i n k = k := by unfold jL; rw [if_pos ⟨h0, h⟩]
theorem qb {α R : Type} (x : α) (k : α → Option R) : qa (some x) k = k x := rfl
theorem qc0 {α β R : Type} (x : α) (k : α → Option R) (l : β → Option R) : qaP (.inl x) k l = k x := rfl
theorem qaE {α β R : Type} (x : β) (k : α → Option R) (l : β → Option R) : qaP (.inr x) k l = l x := rfl
theorem j8 {R : Type} {a b : Int} (h : a ≤ b) (k : Option R) : leK a b k = k := by unfold leK; rw [if_pos h]
theorem jO {R : Type} {n : Int} (h0 : 0 ≤ n) (h : n ≤ 274877906944) (k : Option R) : qX n k = k := by rw [qdv, if_pos ⟨h0, h⟩]
theorem qbg {α R : Type} (x : α) (k : α → Option R) : qbu x k = k x := rfl
theorem qcC {α R : Type} (x : α) (k : α → Option R) : qgc x k = k x := rfl
theorem jI {m n : Nat} (h : m < n) : ∃ k, n = k + 1 := ⟨n - 1, by omega⟩
theorem qo {p : Prop} [Decidable p] (h : p) : decide p = true := decide_eq_true h
theorem qA {p : Prop} [Decidable p] (h : ¬ p) : decide p = false := decide_eq_false h
theorem qcz {α : Type} (pre : List α) (x : α) (r : List α) : (pre.length : Int) < ((pre ++ x :: r).length : Int) := by simp; omega
theorem qbM {α : Type} (pre : List α) (x : α) : (((pre ++ [x]).length : Nat) : Int) = (pre.length : Int) + 1 := by simp
theorem qgA {α : Type} (pre : List α) (x : α) (r : List α) : pre ++ [x] ++ r = pre ++ x :: r := by simp
def rng (x lo hi : Int) : Bool := decide (lo ≤ x) && decide (x ≤ hi)
theorem g74_eq (x lo hi : Int) : g74 (x, lo, hi, ()) = some ((rng x lo hi, ()), ()) := by
  show F74 fuel x lo hi = _
  unfold F74 rng
  by_cases h : lo ≤ x
  · rw [qo (p := x ≥ lo) h]; rfl
  · rw [qA (p := x ≥ lo) h]; rfl
theorem g41_eq (x lo hi : Int) : g41 (x, lo, hi, ()) = some ((rng x lo hi, ()), ()) := by
  show F41 fuel x lo hi = _
  unfold F41 rng
  by_cases h : lo ≤ x
  · rw [qo (p := x ≥ lo) h]; rfl
  · rw [qA (p := x ≥ lo) h]; rfl
def qaY (n i : Int) : Int → List Int → Bool
  | _, [] => true
  | last, x :: r => decide (last < x) && decide (x < n) && !(x == i) && qaY n i x r
theorem L72_11_eq' (n i t30 t29 : Int) (t28 : List Part) (o : Kit) : ∀ (r pre : List Int) (last : Int) (N : Nat), (pre ++ r).length ≤ 1048576 → r.length < N →
    L72_11 N ((n, i, last, t28, t29, t30, pre ++ r, ((pre ++ r).length : Int), (pre.length : Int), ()), (o, ()), ()) =
      some (cond (qaY n i last r) (.inr ((n, t28, t29, t30, ()), (o, ()), ())) (.inl ((none, false, ()), (), ())))
  | [], pre, last, N, _, hN => by
    obtain ⟨k, rfl⟩ := jI hN
    simp [L72_11, B72_11, qaY]
  | x :: r, pre, last, N, hl, hN => by
    obtain ⟨k, rfl⟩ := jI hN
    have ih := L72_11_eq' n i t30 t29 t28 o r (pre ++ [x]) x k (by simpa using hl) (by simp at hN; omega)
    rw [qgA, qbM] at ih
    have hl' : pre.length < 1048576 := by simp at hl; omega
    simp only [L72_11, B72_11]
    rw [qo (qcz pre x r), cond_true, qbc pre x r _ rfl, w64 (by omega) (by omega)]
    by_cases h1 : x ≤ last
    · rw [qo h1, cond_true, qaY, qA (by omega : ¬ last < x)]; rfl
    · rw [qA h1, cond_false, qaY, qo (by omega : last < x)]
      by_cases h2 : x ≥ n
      · rw [qo h2, cond_true, qA (by omega : ¬ x < n)]; rfl
      · rw [qA h2, cond_false, qo (by omega : x < n)]
        cases h3 : x == i with
        | true => rfl
        | false =>
          rw [cond_false]
          exact ih
def qiL (n i : Int) (p : Part) : Bool := rng p.1 1 1000000 && rng p.2.1 1 100 && rng p.2.2.1 0 9 && qaY n i (-1) p.2.2.2
def qa4 (n : Int) : Int → List Part → Bool
  | _, [] => true
  | i, p :: r => qiL n i p && qa4 n (i + 1) r
theorem L72_5_eq' (o : Kit) (n : Int) : ∀ (r pre : List Part) (N : Nat), (pre ++ r).length ≤ 1048576 → (∀ p ∈ r, p.2.2.2.length ≤ 1048576) → r.length + 1048576 < N →
    L72_5 N ((n, pre ++ r, ((pre ++ r).length : Int), (pre.length : Int), ()), (o, ()), ()) =
      some (cond (qa4 n pre.length r) (.inr ((), (o, ()), ())) (.inl ((none, false, ()), (), ())))
  | [], pre, N, _, _, hN => by
    obtain ⟨k, rfl⟩ := jI hN
    simp [L72_5, B72_5, qa4]
  | x :: r, pre, N, hl, hb, hN => by
    obtain ⟨k, rfl⟩ := jI hN
    have ih := L72_5_eq' o n r (pre ++ [x]) k (by simpa using hl) (fun p hp => hb p (List.mem_cons_of_mem _ hp)) (by simp at hN; omega)
    rw [qgA, qbM] at ih
    have hl' : pre.length < 1048576 := by simp at hl; omega
    have hx := hb x List.mem_cons_self
    have hin := L72_11_eq' n (pre.length : Int) (pre.length : Int) ((pre ++ x :: r).length : Int) (pre ++ x :: r) o x.2.2.2 [] (-1) k hx (by simp at hN; omega)
    simp only [List.nil_append, List.length_nil] at hin
    simp only [L72_5, B72_5]
    rw [qo (qcz pre x r), cond_true, qbc pre x r _ rfl, g74_eq, qb]
    simp only [qa4, qiL]
    cases h1 : rng x.1 1 1000000 with
    | false => simp
    | true =>
    simp only [Bool.not_true, cond_false, g74_eq, qb]
    cases h2 : rng x.2.1 1 100 with
    | false => simp
    | true =>
    simp only [Bool.not_true, cond_false]
    cases h3 : rng x.2.2.1 0 9 with
    | false => simp
    | true =>
    simp only [Bool.not_true, cond_false]
    have hin' : L72_11 k ((n, (pre.length : Int), -1, pre ++ x :: r, ((pre ++ x :: r).length : Int), (pre.length : Int), x.2.2.2, (x.2.2.2.length : Int), 0, ()), (o, ()), ()) = _ := hin
    rw [hin', qb]
    cases h4 : qaY n (pre.length : Int) (-1) x.2.2.2 with
    | false => simp [qc0]
    | true =>
      simp only [cond_true, qaE, Bool.true_and]
      rw [w64 (by omega) (by omega)]
      exact ih
abbrev Spot := List Int × (Int × List Int)
def qag : List Int → List Int → List Spot
  | _, [] => []
  | pre, x :: r => (pre, x, r) :: qag (pre ++ [x]) r
theorem qcE : ∀ (r pre : List Int), (qag pre r).map (·.2.1) = r
  | [], _ => rfl
  | x :: r, pre => by simp [qag, qcE r]
theorem qh4 : ∀ (r pre : List Int) {d : Spot}, d ∈ qag pre r → d.1 ++ d.2.1 :: d.2.2 = pre ++ r
  | [], _, d, h => by simp [qag] at h
  | x :: r, pre, d, h => by
    simp only [qag, List.mem_cons] at h
    rcases h with rfl | h
    · rfl
    · rw [qh4 r _ h]; simp
structure qeA (n : Nat) (done : List Spot) (many : Int) (ab be : List (List Int)) (lies : List Int) : Prop where
  nodup : (done.map (·.2.1)).Nodup
  rng : ∀ d ∈ done, 0 ≤ d.2.1 ∧ d.2.1 < n
  many : many = done.length
  la : ab.length = n
  lb : be.length = n
  ll : lies.length = n
  lie : ∀ i, i < n → lies[i]? = some (if (i : Int) ∈ done.map (·.2.1) then 1 else 0)
  spot : ∀ d ∈ done, ab[d.2.1.toNat]? = some d.2.2 ∧ be[d.2.1.toNat]? = some d.1.reverse
def jW (n : Nat) : List Int → List Int → Bool
  | _, [] => true
  | seen, x :: r => rng x 0 (n - 1) && !decide (x ∈ seen) && jW n (seen ++ [x]) r
theorem qeA.step {n : Nat} {done : List Spot} {many : Int} {ab be : List (List Int)} {lies : List Int} (h : qeA n done many ab be lies) {pre r : List Int} {x : Int} (hx0 : 0 ≤ x) (hx : x < n) (hn : x ∉ done.map (·.2.1)) :
    qeA n (done ++ [(pre, x, r)]) (many + 1) (ab.set x.toNat r) (be.set x.toNat pre.reverse) (lies.set x.toNat 1) where
  nodup := by
    rw [List.map_append, List.nodup_append]
    exact ⟨h.nodup, by simp, fun a ha b hb e => by simp at hb; subst hb; subst e; exact hn ha⟩
  rng := by
    intro d hd
    rcases List.mem_append.1 hd with hd | hd
    · exact h.rng d hd
    · simp at hd; subst hd; exact ⟨hx0, hx⟩
  many := by rw [h.many]; simp
  la := by simp [h.la]
  lb := by simp [h.lb]
  ll := by simp [h.ll]
  lie := by
    intro i hi
    rw [List.getElem?_set]
    by_cases e : x.toNat = i
    · subst e
      rw [if_pos rfl, if_pos (by rw [h.ll]; exact hi), if_pos]
      simp only [List.map_append, List.mem_append]
      right
      simp
      omega
    · rw [if_neg e, h.lie i hi]
      congr 1
      have : (i : Int) ∈ (done ++ [(pre, x, r)]).map (·.2.1) ↔ (i : Int) ∈ done.map (·.2.1) := by
        simp only [List.map_append, List.mem_append]
        constructor
        · rintro (h | h)
          · exact h
          · simp at h; omega
        · exact .inl
      simp only [this]
  spot := by
    intro d hd
    rcases List.mem_append.1 hd with hd | hd
    · have hne : x.toNat ≠ d.2.1.toNat := by
        intro e
        have := h.rng d hd
        have : x = d.2.1 := by omega
        exact hn (List.mem_map.2 ⟨d, hd, this.symm⟩)
      rw [List.getElem?_set_ne hne, List.getElem?_set_ne hne]
      exact h.spot d hd
    · simp at hd
      subst hd
      exact ⟨by rw [List.getElem?_set_self (by rw [h.la]; omega)], by rw [List.getElem?_set_self (by rw [h.lb]; omega)]⟩
theorem g116_eq {l : List Int} (h : l.length ≤ 1048576) : g116 (l, ()) = some ((l, ()), ()) := by
  show qX (l.length : Int) _ = _
  rw [jO (by omega) (by omega)]
theorem g117_eq (l : List Int) : g117 (l, ()) = some ((), l.reverse, ()) := rfl
theorem L98_10_eq' (n : Nat) (hn : n ≤ 16) (kit : Kit) (t31 : List (List Int)) (t32 t33 : Int) (van : List Int) (hv : van.length ≤ 1048576) : ∀ (r pre : List Int) (done : List Spot) (many : Int) (ab be : List (List Int)) (lies : List Int) (N : Nat), van = pre ++ r → r.length < N → done.length + r.length ≤ 1048576 → qeA n done many ab be lies →
    (jW n (done.map (·.2.1)) r = false ∧ L98_10 N ((n, many, van, t31, t32, t33, van, (van.length : Int), (pre.length : Int), ()), ((kit, (ab, be)), lies, ()), ()) = some (.inl ((none, false, ()), (), ()))) ∨
    (jW n (done.map (·.2.1)) r = true ∧ ∃ many' ab' be' lies', qeA n (done ++ qag pre r) many' ab' be' lies' ∧
      L98_10 N ((n, many, van, t31, t32, t33, van, (van.length : Int), (pre.length : Int), ()), ((kit, (ab, be)), lies, ()), ()) = some (.inr ((n, many', t31, t32, t33, ()), ((kit, (ab', be')), lies', ()), ())))
  | [], pre, done, many, ab, be, lies, N, hpr, hN, hb, h => by
    obtain ⟨k, rfl⟩ := jI hN
    refine .inr ⟨rfl, many, ab, be, lies, by simpa [qag] using h, ?_⟩
    subst hpr
    simp [L98_10, B98_10]
  | x :: r, pre, done, many, ab, be, lies, N, hpr, hN, hb, h => by
    obtain ⟨k, rfl⟩ := jI hN
    simp only [List.length_cons] at hN hb
    simp only [L98_10, B98_10]
    have hlt : ((pre.length : Nat) : Int) < (van.length : Int) := by rw [hpr]; exact qcz pre x r
    have hget : ∀ {R : Type} (kk : Int → Option R), qg van (pre.length : Int) kk = kk x := fun kk => by rw [hpr]; exact qbc pre x r kk rfl
    rw [qo hlt, cond_true, hget, w64 (by omega) (by omega), g74_eq, qb]
    simp only [jW]
    cases h1 : rng x 0 ((n : Int) - 1) with
    | false => exact .inl ⟨rfl, by simp⟩
    | true =>
    simp only [rng, Bool.and_eq_true, decide_eq_true_eq] at h1
    have hx0 := h1.1
    have hx : x < n := by omega
    simp only [Bool.not_true, cond_false, Bool.true_and]
    rw [qZ hx0 (by rw [h.ll]; omega), qaR hx0 (h.lie x.toNat (by omega))]
    rw [show ((x.toNat : Nat) : Int) = x by omega]
    by_cases hm : x ∈ done.map (·.2.1)
    · rw [if_pos hm, qo hm]
      exact .inl ⟨rfl, rfl⟩
    · rw [if_neg hm, qA hm, qA (by omega : ¬ (0 : Int) > 0), cond_false, qZ hx0 (by rw [h.ll]; omega), qfc hx0 (by rw [h.ll]; omega)]
      have htk : van.take (pre.length : Int).toNat = pre := by rw [hpr]; simp
      have hdr : van.drop ((pre.length : Int) + 1).toNat = r := by
        rw [hpr, show ((pre.length : Int) + 1).toNat = pre.length + 1 by omega, List.drop_append]
        simp
      have hmb : many = done.length := h.many
      rw [w64 (x := many + 1) (by omega) (by omega), w64 (x := (pre.length : Int) + 1) (by omega) (by omega)]
      have hpl : pre.length ≤ 1048576 := by omega
      simp only [htk, hdr, g116_eq hpl, qb, qbg, qcC, g117_eq, j8 (show (0 : Int) ≤ (pre.length : Int) + 1 by omega), j8 (show (pre.length : Int) + 1 ≤ (van.length : Int) by omega), j8 (show (0 : Int) ≤ (pre.length : Int) by omega), j8 (show (pre.length : Int) ≤ (van.length : Int) by omega)]
      have e1 : ∀ {R : Type} {l : List (List Int)} (hl : l.length = n) (kk : Option R), jL x l.length kk = kk := fun hl kk => qZ hx0 (by rw [hl]; exact hx) kk
      have e2 : ∀ {R : Type} {l : List (List Int)} (hl : l.length = n) (kk : List Int → Option R), qg l x kk = kk (l[x.toNat]'(by omega)) := fun hl kk => qfc hx0 (by rw [hl]; exact hx) kk
      have hs := h.step (pre := pre) (r := r) hx0 hx hm
      simp only [e1 h.la, e2 h.la, e1 h.lb, e2 h.lb, qb1, qb0]
      have hl2 : (be.set x.toNat pre).length = n := by simp [h.lb]
      simp only [e1 hl2, e2 hl2, List.getElem_set_self, List.set_set]
      have ih := L98_10_eq' n hn kit t31 t32 t33 van hv r (pre ++ [x]) (done ++ [(pre, x, r)]) (many + 1) _ _ _ k (by rw [hpr]; simp) (by omega) (by simp; omega) hs
      rw [qbM] at ih
      simp only [List.map_append, List.map_cons, List.map_nil, List.append_assoc] at ih
      simpa [qag] using ih
theorem qdH (n : Nat) : ∀ (a seen b : List Int), jW n seen (a ++ b) = (jW n seen a && jW n (seen ++ a) b)
  | [], seen, b => by simp [jW]
  | x :: a, seen, b => by simp [jW, qdH n a (seen ++ [x]) b, Bool.and_assoc]
def qbv (vans : List (List Int)) : List Spot := vans.flatMap (qag [])
theorem qhD (vans : List (List Int)) : (qbv vans).map (·.2.1) = vans.flatten := by
  induction vans with
  | nil => rfl
  | cons v vs ih => 
    unfold qbv at *
    simp only [List.flatMap_cons, List.map_append, ih, qcE, List.flatten_cons]
theorem qjo : ∀ (pre q : List Int) (p : Int) (post : List Int), (q ++ pre, p, post) ∈ qag q (pre ++ p :: post)
  | [], q, p, post => by simp [qag]
  | x :: pre, q, p, post => by
    have := qjo pre (q ++ [x]) p post
    simp only [List.append_assoc, List.singleton_append] at this
    exact List.mem_cons_of_mem _ this
theorem L98_7_eq' (n : Nat) (hn : n ≤ 16) (kit : Kit) (vans : List (List Int)) (hv : vans.length ≤ 1048576) (hv2 : ∀ v ∈ vans, v.length ≤ 1048576) : ∀ (r pre : List (List Int)) (done : List Spot) (many : Int) (ab be : List (List Int)) (lies : List Int) (N : Nat), vans = pre ++ r → r.length + 1048576 < N → done.length + r.flatten.length ≤ 1048576 → qeA n done many ab be lies →
    (jW n (done.map (·.2.1)) r.flatten = false ∧ L98_7 N ((n, many, vans, (vans.length : Int), (pre.length : Int), ()), ((kit, (ab, be)), lies, ()), ()) = some (.inl ((none, false, ()), (), ()))) ∨
    (jW n (done.map (·.2.1)) r.flatten = true ∧ ∃ many' ab' be' lies', qeA n (done ++ qbv r) many' ab' be' lies' ∧
      L98_7 N ((n, many, vans, (vans.length : Int), (pre.length : Int), ()), ((kit, (ab, be)), lies, ()), ()) = some (.inr ((n, many', ()), ((kit, (ab', be')), ()), ())))
  | [], pre, done, many, ab, be, lies, N, hpr, hN, hb, h => by
    obtain ⟨k, rfl⟩ := jI hN
    refine .inr ⟨rfl, many, ab, be, lies, by simpa [qbv] using h, ?_⟩
    subst hpr
    simp [L98_7, B98_7]
  | x :: r, pre, done, many, ab, be, lies, N, hpr, hN, hb, h => by
    obtain ⟨k, rfl⟩ := jI hN
    simp only [List.length_cons, List.flatten_cons, List.length_append] at hN hb
    have hlt : ((pre.length : Nat) : Int) < (vans.length : Int) := by rw [hpr]; exact qcz pre x r
    have hget : ∀ {R : Type} (kk : List Int → Option R), qg vans (pre.length : Int) kk = kk x := fun kk => by rw [hpr]; exact qbc pre x r kk rfl
    simp only [L98_7, B98_7]
    rw [qo hlt, cond_true, hget, List.flatten_cons, qdH]
    have hin := L98_10_eq' n hn kit vans (vans.length : Int) (pre.length : Int) x (hv2 x (by rw [hpr]; simp)) x [] done many ab be lies k rfl (by have := hv2 x (by rw [hpr]; simp); omega) (by omega) h
    rcases hin with ⟨hg, he⟩ | ⟨hg, many', ab', be', lies', hs, he⟩
    · have he' : L98_10 k ((n, many, x, vans, (vans.length : Int), (pre.length : Int), x, (x.length : Int), 0, ()), ((kit, (ab, be)), lies, ()), ()) = _ := he
      rw [hg, he']
      exact .inl ⟨rfl, rfl⟩
    · have he' : L98_10 k ((n, many, x, vans, (vans.length : Int), (pre.length : Int), x, (x.length : Int), 0, ()), ((kit, (ab, be)), lies, ()), ()) = _ := he
      rw [hg, he', qb, qaE, Bool.true_and]
      dsimp only
      rw [w64 (x := (pre.length : Int) + 1) (by omega) (by omega)]
      have ih := L98_7_eq' n hn kit vans hv hv2 r (pre ++ [x]) (done ++ qag [] x) many' ab' be' lies' k (by rw [hpr]; simp) (by omega) (by
        have := congrArg List.length (qcE x [])
        rw [List.length_map] at this
        simp only [List.length_append]
        omega) hs
      rw [qbM] at ih
      simp only [List.map_append, qcE, List.append_assoc] at ih
      have e : qag [] x ++ qbv r = qbv (x :: r) := rfl
      rw [e] at ih
      exact ih
theorem g98_eq (k : Kit) (vans : List (List Int)) (hn : k.1.length ≤ 16) (hv : vans.length ≤ 1048576) (hv2 : ∀ v ∈ vans, v.length ≤ 1048576) (hf : vans.flatten.length ≤ 1048576) :
    (jW k.1.length [] vans.flatten = false ∧ g98 (k, vans, ()) = some ((none, false, ()), ())) ∨
    (jW k.1.length [] vans.flatten = true ∧ ∃ many ab be lies, qeA k.1.length (qbv vans) many ab be lies ∧
      g98 (k, vans, ()) = some ((some ((k.1, (k.2.1, vans)), (ab, be)), decide (vans.flatten.length = k.1.length), ()), ())) := by
  have hF : g98 (k, vans, ()) = F98 fuel k vans := rfl
  rw [hF]
  unfold F98
  simp only [qcC, qbg, j8 (show (0 : Int) ≤ (k.1.length : Int) by omega), j8 (Int.le_refl (k.1.length : Int)), jO (show (0 : Int) ≤ (k.1.length : Int) by omega) (by omega), qb1, qb0]
  have h0 : qeA k.1.length [] 0 (List.replicate (k.1.length : Int).toNat ([] : List Int)) (List.replicate (k.1.length : Int).toNat ([] : List Int)) (List.replicate (k.1.length : Int).toNat 0) :=
    ⟨by simp, by simp, rfl, by simp, by simp, by simp, fun i hi => by simp [hi], by simp⟩
  have := L98_7_eq' k.1.length hn (k.1, (k.2.1, vans)) vans hv hv2 vans [] [] 0 _ _ _ fuel rfl (by have := qb5; omega) (by simpa using hf) h0
  rcases this with ⟨hg, he⟩ | ⟨hg, many, ab, be, lies, hs, he⟩
  · refine .inl ⟨hg, ?_⟩
    have he' : L98_7 fuel ((k.1.length, 0, vans, (vans.length : Int), 0, ()), (((k.1, (k.2.1, vans)), (List.replicate (k.1.length : Int).toNat ([] : List Int), List.replicate (k.1.length : Int).toNat ([] : List Int))), (List.replicate (k.1.length : Int).toNat 0), ()), ()) = _ := he
    rw [he']
    rfl
  · refine .inr ⟨hg, many, ab, be, lies, hs, ?_⟩
    have he' : L98_7 fuel ((k.1.length, 0, vans, (vans.length : Int), 0, ()), (((k.1, (k.2.1, vans)), (List.replicate (k.1.length : Int).toNat ([] : List Int), List.replicate (k.1.length : Int).toNat ([] : List Int))), (List.replicate (k.1.length : Int).toNat 0), ()), ()) = _ := he
    rw [he', qb, qaE]
    have hm : many = vans.flatten.length := by
      rw [hs.many, List.nil_append, ← qhD, List.length_map]
    have e : (many == (k.1.length : Int)) = decide (vans.flatten.length = k.1.length) := by
      rw [hm]
      by_cases h : vans.flatten.length = k.1.length
      · simp [h]
      · rw [decide_eq_false h]
        simp only [beq_eq_false_iff_ne, ne_eq]
        omega
    simp only [e]
def valid (k : Kit) : Bool := decide (k.1.length ≤ 16) && decide (k.2.2.length ≤ 6) && rng k.2.1 1 1000000 && qa4 k.1.length 0 k.1 && jW k.1.length [] k.2.2.flatten && decide (k.2.2.flatten.length = k.1.length)
structure Small (k : Kit) : Prop where
  parts : k.1.length ≤ 1048576
  needs : ∀ p ∈ k.1, p.2.2.2.length ≤ 1048576
  vans : k.2.2.length ≤ 1048576
  van : ∀ v ∈ k.2.2, v.length ≤ 1048576
  flat : k.2.2.flatten.length ≤ 1048576
abbrev Yard := Kit × ((List (List Int)) × (List (List Int)))
def Yards (k : Kit) (y : Yard) : Prop := y.1 = k ∧ ∃ many lies, qeA k.1.length (qbv k.2.2) many y.2.1 y.2.2 lies
theorem g72_eq (k : Kit) (hk : Small k) : (valid k = false ∧ ∃ q, g72 (k, ()) = some ((q, false, ()), ())) ∨ (valid k = true ∧ ∃ y, Yards k y ∧ g72 (k, ()) = some ((some y, true, ()), ())) := by
  have hF : g72 (k, ()) = F72 fuel k := rfl
  rw [hF]
  unfold F72 valid
  by_cases h1 : k.1.length ≤ 16
  case neg => rw [qo (by omega : (k.1.length : Int) > 16), qA h1]; exact .inl ⟨rfl, _, rfl⟩
  rw [qA (by omega : ¬ (k.1.length : Int) > 16), qo h1, cond_false]
  by_cases h2 : k.2.2.length ≤ 6
  case neg => rw [qo (by omega : (k.2.2.length : Int) > 6), qA h2]; exact .inl ⟨rfl, _, rfl⟩
  rw [qA (by omega : ¬ (k.2.2.length : Int) > 6), qo h2, cond_false, g74_eq, qb]
  cases h3 : rng k.2.1 1 1000000 with
  | false => exact .inl ⟨rfl, _, rfl⟩
  | true =>
  simp only [Bool.not_true, cond_false, Bool.true_and]
  have hp := L72_5_eq' k k.1.length k.1 [] fuel (by simpa using hk.parts) hk.needs (by have := qb5; omega)
  have hp' : L72_5 fuel (((k.1.length : Int), k.1, (k.1.length : Int), 0, ()), (k, ()), ()) = some (cond (qa4 (k.1.length : Int) 0 k.1) (.inr ((), (k, ()), ())) (.inl ((none, false, ()), (), ()))) := hp
  rw [hp', qb]
  cases h4 : qa4 (k.1.length : Int) 0 k.1 with
  | false => exact .inl ⟨rfl, _, rfl⟩
  | true =>
  simp only [cond_true, qaE, Bool.true_and]
  rcases g98_eq k k.2.2 h1 hk.vans hk.van hk.flat with ⟨h5, h6⟩ | ⟨h5, many, ab, be, lies, hs, h6⟩
  · rw [h5, h6]
    exact .inl ⟨rfl, _, rfl⟩
  · rw [h5, h6, qb]
    by_cases h7 : k.2.2.flatten.length = k.1.length
    · rw [qo h7]
      exact .inr ⟨rfl, _, ⟨rfl, many, lies, hs⟩, rfl⟩
    · rw [qA h7]
      exact .inl ⟨rfl, _, rfl⟩
theorem qch (n : Nat) : ∀ (l seen : List Int), jW n seen l = true ↔ (∀ x ∈ l, 0 ≤ x ∧ x < n) ∧ l.Nodup ∧ ∀ x ∈ l, x ∉ seen
  | [], seen => by simp [jW]
  | x :: l, seen => by
    simp only [jW, Bool.and_eq_true, qch n l, rng, decide_eq_true_eq, Bool.not_eq_true', decide_eq_false_iff_not, List.mem_cons, List.nodup_cons, List.mem_append]
    constructor
    · rintro ⟨⟨⟨h1, h2⟩, h3⟩, h4, h5, h6⟩
      refine ⟨?_, ⟨fun hx => (h6 x hx) (.inr (.inl rfl)), h5⟩, ?_⟩
      · rintro y (rfl | hy)
        · exact ⟨h1, by omega⟩
        · exact h4 y hy
      · rintro y (rfl | hy)
        · exact h3
        · exact fun h => h6 y hy (.inl h)
    · rintro ⟨h1, ⟨h2, h3⟩, h4⟩
      have := h1 x (.inl rfl)
      refine ⟨⟨⟨this.1, by omega⟩, h4 x (.inl rfl)⟩, fun y hy => h1 y (.inr hy), h3, ?_⟩
      rintro y hy (h | h | h)
      · exact h4 y (.inr hy) h
      · subst h; exact h2 hy
      · cases h
theorem qeu {α : Type} [DecidableEq α] : ∀ (l r : List α), l.Nodup → (∀ x ∈ l, x ∈ r) → r.length ≤ l.length → l.Perm r
  | [], r, _, _, hl => by
    have : r = [] := List.eq_nil_of_length_eq_zero (by simpa using hl)
    subst this
    exact .refl _
  | x :: l, r, hn, hm, hl => by
    rw [List.nodup_cons] at hn
    have hx := hm x List.mem_cons_self
    have hp := List.perm_cons_erase hx
    refine List.Perm.trans (List.Perm.cons x (qeu l (r.erase x) hn.2 (fun y hy => ?_) ?_)) hp.symm
    · exact (List.mem_erase_of_ne (fun e => hn.1 (by rw [← e]; exact hy))).2 (hm y (List.mem_cons_of_mem _ hy))
    · rw [List.length_erase_of_mem hx]
      simp at hl
      omega
def qcR (n : Nat) : List Int := (List.range n).map Int.ofNat
theorem qa7 {n : Nat} {x : Int} : x ∈ qcR n ↔ 0 ≤ x ∧ x < n := by
  simp only [qcR, List.mem_map, List.mem_range]
  constructor
  · rintro ⟨a, h, rfl⟩; exact ⟨by simp, by simpa using h⟩
  · rintro ⟨h0, h1⟩; exact ⟨x.toNat, by omega, by simp; omega⟩
theorem qdm (n : Nat) : (qcR n).Nodup := by
  unfold qcR
  rw [List.Nodup, List.pairwise_map]
  exact List.Pairwise.imp (fun h e => h (Int.ofNat.inj e)) List.nodup_range
theorem qet (n : Nat) : (qcR n).length = n := by simp [qcR]
theorem qhw {n : Nat} {l : List Int} (hr : ∀ x ∈ l, 0 ≤ x ∧ x < n) : (∀ i, i < n → l.count (i : Int) = 1) ↔ l.Nodup ∧ l.length = n := by
  constructor
  · intro h
    have hp : l.Perm (qcR n) := by
      rw [List.perm_iff_count]
      intro a
      by_cases ha : 0 ≤ a ∧ a < n
      · rw [(qdm n).count, if_pos (qa7.2 ha)]
        have := h a.toNat (by omega)
        rwa [show ((a.toNat : Nat) : Int) = a by omega] at this
      · rw [List.count_eq_zero_of_not_mem (fun hm => ha (hr a hm)), List.count_eq_zero_of_not_mem (fun hm => ha (qa7.1 hm))]
    exact ⟨hp.nodup_iff.2 (qdm n), by rw [hp.length_eq, qet]⟩
  · rintro ⟨h1, h2⟩ i hi
    have hp := qeu l (qcR n) h1 (fun x hx => qa7.2 (hr x hx)) (by rw [qet]; omega)
    rw [hp.count_eq, (qdm n).count, if_pos (qa7.2 ⟨by omega, by omega⟩)]
theorem L15_10_eq' (o : Kit) (ho : o.1.length ≤ 16) (i : Int) (p : Part) (hp : p.2.2.2.length ≤ 1048576) : ∀ (r pre : List Int) (last : Int) (N : Nat), p.2.2.2 = pre ++ r → r.length < N → (pre = [] ∧ last = -1) ∨ (∃ q, pre = q ++ [last] ∧ 0 ≤ last) →
    L15_10 N ((i, (pre.length : Int), ()), (o, p, ()), ()) = some (cond (qaY o.1.length i last r) (.inr ((i, ()), (o, ()), ())) (.inl ((80, ()), (), ())))
  | [], pre, last, N, hpr, hN, _ => by
    obtain ⟨k, rfl⟩ := jI hN
    simp only [L15_10, B15_10]
    rw [hpr]
    simp [qaY]
  | x :: r, pre, last, N, hpr, hN, hlast => by
    obtain ⟨k, rfl⟩ := jI hN
    simp only [List.length_cons] at hN
    have hlt : ((pre.length : Nat) : Int) < (p.2.2.2.length : Int) := by rw [hpr]; exact qcz pre x r
    have hget : ∀ {R : Type} (kk : Int → Option R), qg p.2.2.2 (pre.length : Int) kk = kk x := fun kk => by rw [hpr]; exact qbc pre x r kk rfl
    have hl1 : -1 ≤ last := by rcases hlast with ⟨_, h⟩ | ⟨_, _, h⟩ <;> omega
    simp only [L15_10, B15_10]
    simp only [qo hlt, cond_true, hget, g41_eq, qb]
    rw [w64 (x := (o.1.length : Int) - 1) (by omega) (by omega), w64 (x := (pre.length : Int) + 1) (by omega) (by omega)]
    simp only [qaY]
    cases h1 : rng x 0 ((o.1.length : Int) - 1) with
    | false =>
      have h1' : ¬ (0 ≤ x ∧ x ≤ (o.1.length : Int) - 1) := by
        intro h
        rw [rng, qo h.1, qo h.2] at h1
        cases h1
      by_cases h2 : last < x
      · rw [qA (by omega : ¬ x < (o.1.length : Int))]; simp
      · rw [qA h2]; simp
    | true =>
    simp only [rng, Bool.and_eq_true, decide_eq_true_eq] at h1
    rw [qo (by omega : x < (o.1.length : Int))]
    simp only [Bool.not_true, cond_false, Bool.and_true]
    cases h3 : x == i with
    | true => simp
    | false =>
    simp only [cond_false, Bool.not_false, Bool.and_true]
    have ih := L15_10_eq' o ho i p hp r (pre ++ [x]) x k (by rw [hpr]; simp) (by omega) (.inr ⟨pre, rfl, h1.1⟩)
    rw [qbM] at ih
    rcases hlast with ⟨rfl, rfl⟩ | ⟨q, rfl, hq⟩
    · rw [qA (by simp), qo (by omega : -1 < x), cond_false, Bool.true_and]
      exact ih
    · have hget2 : ∀ {R : Type} (kk : Int → Option R), qg p.2.2.2 (IntKind.wrap .i64 (((q ++ [last]).length : Int) - 1)) kk = kk last := fun kk => by
        have hb : (q ++ [last]).length ≤ 1048576 := by
          have := congrArg List.length hpr
          simp only [List.length_append, List.length_cons] at this
          simp only [List.length_append, List.length_cons, List.length_nil]
          omega
        rw [w64 (by omega) (by omega), hpr, qgA]
        exact qbc q last (x :: r) kk (by simp)
      rw [qo (by simp), cond_true]
      simp only [hget2]
      by_cases h2 : x ≤ last
      · rw [qo h2, qA (by omega : ¬ last < x)]; rfl
      · rw [qA h2, qo (by omega : last < x), cond_false, Bool.true_and]
        exact ih
theorem L15_4_eq' (o : Kit) (ho : o.1.length ≤ 16) (hb : ∀ p ∈ o.1, p.2.2.2.length ≤ 1048576) : ∀ (r pre : List Part) (N : Nat), o.1 = pre ++ r → r.length + 1048576 < N →
    L15_4 N (((pre.length : Int), ()), (o, ()), ()) = some (cond (qa4 o.1.length pre.length r) (.inr ((), (o, ()), ())) (.inl ((80, ()), (), ())))
  | [], pre, N, hpr, hN => by
    obtain ⟨k, rfl⟩ := jI hN
    simp only [L15_4, B15_4]
    rw [hpr]
    simp [qa4]
  | x :: r, pre, N, hpr, hN => by
    obtain ⟨k, rfl⟩ := jI hN
    simp only [List.length_cons] at hN
    have hlt : ((pre.length : Nat) : Int) < (o.1.length : Int) := by rw [hpr]; exact qcz pre x r
    have hget : ∀ {R : Type} (kk : Part → Option R), qg o.1 (pre.length : Int) kk = kk x := fun kk => by rw [hpr]; exact qbc pre x r kk rfl
    have hx := hb x (by rw [hpr]; simp)
    have ih := L15_4_eq' o ho hb r (pre ++ [x]) k (by rw [hpr]; simp) (by omega)
    rw [qbM] at ih
    have hin := L15_10_eq' o ho (pre.length : Int) x hx x.2.2.2 [] (-1) k rfl (by omega) (.inl ⟨rfl, rfl⟩)
    have hin' : L15_10 k (((pre.length : Int), 0, ()), (o, x, ()), ()) = _ := hin
    simp only [L15_4, B15_4]
    simp only [qo hlt, cond_true, hget, g41_eq, qb, hin', qa4, qiL]
    cases h1 : rng x.1 1 1000000 with
    | false => simp
    | true =>
    cases h2 : rng x.2.1 1 100 with
    | false => simp
    | true =>
    cases h3 : rng x.2.2.1 0 9 with
    | false => simp
    | true =>
    cases h4 : qaY o.1.length (pre.length : Int) (-1) x.2.2.2 with
    | false => simp [qc0]
    | true =>
      simp only [Bool.not_true, cond_false, cond_true, qaE, Bool.true_and]
      rw [w64 (x := (pre.length : Int) + 1) (by omega) (by omega)]
      exact ih
structure qcQ (n : Nat) (done : List Int) (lies : List Int) : Prop where
  ll : lies.length = n
  cnt : ∀ i, i < n → lies[i]? = some ((done.count (i : Int) : Nat) : Int)
theorem qcQ.step {n : Nat} {done lies : List Int} (h : qcQ n done lies) {x : Int} (hx0 : 0 ≤ x) (_hx : x < n) : qcQ n (done ++ [x]) (lies.set x.toNat ((done.count x : Nat) + 1)) where
  ll := by simp [h.ll]
  cnt := by
    intro i hi
    rw [List.getElem?_set, List.count_append, List.count_singleton]
    by_cases e : x.toNat = i
    · subst e
      rw [if_pos rfl, if_pos (by rw [h.ll]; exact hi), show ((x.toNat : Nat) : Int) = x by omega]
      simp
    · rw [if_neg e, h.cnt i hi]
      have : ¬ (x = (i : Int)) := by omega
      simp [this]
theorem L15_19_eq' (o : Kit) (ho : o.1.length ≤ 16) (v : Int) (van : List Int) (hv0 : 0 ≤ v) (hv : o.2.2[v.toNat]? = some van) (hl : van.length ≤ 1048576) : ∀ (r pre done lies : List Int) (N : Nat), van = pre ++ r → r.length < N → done.length + r.length ≤ 1048576 → qcQ o.1.length done lies →
    (r.all (fun x => rng x 0 ((o.1.length : Int) - 1)) = false ∧ L15_19 N ((v, (pre.length : Int), ()), (o, lies, ()), ()) = some (.inl ((80, ()), (), ()))) ∨
    (r.all (fun x => rng x 0 ((o.1.length : Int) - 1)) = true ∧ ∃ lies', qcQ o.1.length (done ++ r) lies' ∧ L15_19 N ((v, (pre.length : Int), ()), (o, lies, ()), ()) = some (.inr ((v, ()), (o, lies', ()), ())))
  | [], pre, done, lies, N, hpr, hN, hb, h => by
    obtain ⟨k, rfl⟩ := jI hN
    refine .inr ⟨rfl, lies, by simpa using h, ?_⟩
    simp only [L15_19, B15_19, qaR hv0 hv]
    rw [hpr]
    simp
  | x :: r, pre, done, lies, N, hpr, hN, hb, h => by
    obtain ⟨k, rfl⟩ := jI hN
    simp only [List.length_cons] at hN hb
    have hlt : ((pre.length : Nat) : Int) < (van.length : Int) := by rw [hpr]; exact qcz pre x r
    have hget : ∀ {R : Type} (kk : Int → Option R), qg van (pre.length : Int) kk = kk x := fun kk => by rw [hpr]; exact qbc pre x r kk rfl
    simp only [L15_19, B15_19, qaR hv0 hv]
    simp only [qo hlt, cond_true, hget, g41_eq, qb, List.all_cons]
    rw [w64 (x := (o.1.length : Int) - 1) (by omega) (by omega), w64 (x := (pre.length : Int) + 1) (by omega) (by omega)]
    cases h1 : rng x 0 ((o.1.length : Int) - 1) with
    | false => exact .inl ⟨rfl, by simp⟩
    | true =>
    simp only [rng, Bool.and_eq_true, decide_eq_true_eq] at h1
    simp only [Bool.not_true, cond_false, Bool.true_and]
    have hc : done.count x ≤ done.length := List.count_le_length
    rw [qZ h1.1 (by rw [h.ll]; omega), qaR h1.1 (h.cnt x.toNat (by omega)), qZ h1.1 (by rw [h.ll]; omega), qfc h1.1 (by rw [h.ll]; omega),
      show ((x.toNat : Nat) : Int) = x by omega, w64 (by omega) (by omega)]
    have ih := L15_19_eq' o ho v van hv0 hv hl r (pre ++ [x]) (done ++ [x]) _ k (by rw [hpr]; simp) (by omega) (by simp; omega) (h.step h1.1 (by omega))
    rw [qbM, qgA] at ih
    exact ih
theorem L15_16_eq' (o : Kit) (ho : o.1.length ≤ 16) (hvl : o.2.2.length ≤ 1048576) (hl : ∀ v ∈ o.2.2, v.length ≤ 1048576) : ∀ (r pre : List (List Int)) (done lies : List Int) (N : Nat), o.2.2 = pre ++ r → r.length + 1048576 < N → done.length + r.flatten.length ≤ 1048576 → qcQ o.1.length done lies →
    (r.flatten.all (fun x => rng x 0 ((o.1.length : Int) - 1)) = false ∧ L15_16 N (((pre.length : Int), ()), (o, lies, ()), ()) = some (.inl ((80, ()), (), ()))) ∨
    (r.flatten.all (fun x => rng x 0 ((o.1.length : Int) - 1)) = true ∧ ∃ lies', qcQ o.1.length (done ++ r.flatten) lies' ∧ L15_16 N (((pre.length : Int), ()), (o, lies, ()), ()) = some (.inr ((), (lies', ()), ())))
  | [], pre, done, lies, N, hpr, hN, hb, h => by
    obtain ⟨k, rfl⟩ := jI hN
    refine .inr ⟨rfl, lies, by simpa using h, ?_⟩
    simp only [L15_16, B15_16]
    rw [hpr]
    simp
  | x :: r, pre, done, lies, N, hpr, hN, hb, h => by
    obtain ⟨k, rfl⟩ := jI hN
    simp only [List.length_cons, List.flatten_cons, List.length_append] at hN hb
    have hlt : ((pre.length : Nat) : Int) < (o.2.2.length : Int) := by rw [hpr]; exact qcz pre x r
    have hx := hl x (by rw [hpr]; simp)
    have hin := L15_19_eq' o ho (pre.length : Int) x (by omega) (by rw [hpr]; simp) hx x [] done lies k rfl (by omega) (by omega) h
    simp only [L15_16, B15_16, qo hlt, cond_true, List.flatten_cons, List.all_append]
    rcases hin with ⟨hg, he⟩ | ⟨hg, lies', hs, he⟩
    · have he' : L15_19 k (((pre.length : Int), 0, ()), (o, lies, ()), ()) = _ := he
      rw [hg, he']
      exact .inl ⟨rfl, rfl⟩
    · have he' : L15_19 k (((pre.length : Int), 0, ()), (o, lies, ()), ()) = _ := he
      rw [hg, he', qb, qaE, Bool.true_and]
      dsimp only
      rw [w64 (x := (pre.length : Int) + 1) (by omega) (by omega)]
      have ih := L15_16_eq' o ho hvl hl r (pre ++ [x]) (done ++ x) lies' k (by rw [hpr]; simp) (by omega) (by simp only [List.length_append]; omega) hs
      rw [qbM, List.append_assoc] at ih
      exact ih
theorem L15_25_eq' (lies : List Int) (hl : lies.length ≤ 1048576) : ∀ (r pre : List Int) (N : Nat), lies = pre ++ r → r.length < N →
    L15_25 N (((pre.length : Int), ()), (lies, ()), ()) = some (cond (r.all (· == 1)) (.inr ((), (), ())) (.inl ((80, ()), (), ())))
  | [], pre, N, hpr, hN => by
    obtain ⟨k, rfl⟩ := jI hN
    simp only [L15_25, B15_25]
    rw [hpr]
    simp
  | x :: r, pre, N, hpr, hN => by
    obtain ⟨k, rfl⟩ := jI hN
    simp only [List.length_cons] at hN
    have hlt : ((pre.length : Nat) : Int) < (lies.length : Int) := by rw [hpr]; exact qcz pre x r
    have hget : ∀ {R : Type} (kk : Int → Option R), qg lies (pre.length : Int) kk = kk x := fun kk => by rw [hpr]; exact qbc pre x r kk rfl
    simp only [L15_25, B15_25, qo hlt, cond_true, hget, qZ (show (0 : Int) ≤ (pre.length : Int) by omega) hlt, List.all_cons]
    rw [w64 (x := (pre.length : Int) + 1) (by omega) (by omega)]
    cases h : x == 1 with
    | false =>
      have : (x != 1) = true := by simp [bne, h]
      rw [this]; rfl
    | true =>
      have : (x != 1) = false := by simp [bne, h]
      rw [this, cond_false, Bool.true_and]
      have ih := L15_25_eq' lies hl r (pre ++ [x]) k (by rw [hpr]; simp) (by omega)
      rw [qbM] at ih
      exact ih
theorem g15_eq (k : Kit) (hk : Small k) : g15 (k, ()) = some ((cond (valid k) 0 80, ()), ()) := by
  have hF : g15 (k, ()) = F15 fuel k := rfl
  rw [hF]
  unfold F15 valid
  by_cases h1 : k.1.length ≤ 16
  case neg => rw [qo (by omega : (k.1.length : Int) > 16), qA h1]; rfl
  rw [qA (by omega : ¬ (k.1.length : Int) > 16), qo h1, cond_false]
  by_cases h2 : k.2.2.length ≤ 6
  case neg => rw [qo (by omega : (k.2.2.length : Int) > 6), qA h2]; rfl
  rw [qA (by omega : ¬ (k.2.2.length : Int) > 6), qo h2, cond_false, g41_eq, qb]
  cases h3 : rng k.2.1 1 1000000 with
  | false => rfl
  | true =>
  simp only [Bool.not_true, cond_false, Bool.true_and]
  have hp := L15_4_eq' k h1 hk.needs k.1 [] fuel rfl (by have := qb5; omega)
  have hp' : L15_4 fuel ((0, ()), (k, ()), ()) = some (cond (qa4 (k.1.length : Int) 0 k.1) (.inr ((), (k, ()), ())) (.inl ((80, ()), (), ()))) := hp
  rw [hp', qb]
  cases h4 : qa4 (k.1.length : Int) 0 k.1 with
  | false => rfl
  | true =>
  simp only [cond_true, qaE, Bool.true_and, j8 (show (0 : Int) ≤ (k.1.length : Int) by omega), j8 (Int.le_refl (k.1.length : Int)), jO (show (0 : Int) ≤ (k.1.length : Int) by omega) (by omega)]
  have h0 : qcQ k.1.length [] (List.replicate (k.1.length : Int).toNat 0) := ⟨by simp, fun i hi => by simp [hi]⟩
  rcases L15_16_eq' k h1 hk.vans hk.van k.2.2 [] [] _ fuel rfl (by have := qb5; omega) (by simpa using hk.flat) h0 with ⟨h5, h6⟩ | ⟨h5, lies, hs, h6⟩
  · have h6' : L15_16 fuel ((0, ()), (k, (List.replicate (k.1.length : Int).toNat 0), ()), ()) = _ := h6
    rw [h6', qb, qc0]
    have : jW k.1.length [] k.2.2.flatten = false := by
      cases hg : jW k.1.length [] k.2.2.flatten with
      | false => rfl
      | true =>
        have hg' := ((qch _ _ _).1 hg).1
        have : k.2.2.flatten.all (fun x => rng x 0 ((k.1.length : Int) - 1)) = true := by
          rw [List.all_eq_true]
          intro x hx
          have := hg' x hx
          simp only [rng, Bool.and_eq_true, decide_eq_true_eq]
          omega
        rw [this] at h5
        cases h5
    rw [this]
    rfl
  · have h6' : L15_16 fuel ((0, ()), (k, (List.replicate (k.1.length : Int).toNat 0), ()), ()) = _ := h6
    rw [h6', qb, qaE]
    dsimp only
    have h7 := L15_25_eq' lies (by rw [hs.ll]; omega) lies [] fuel rfl (by rw [hs.ll]; have := qb5; omega)
    have h7' : L15_25 fuel ((0, ()), (lies, ()), ()) = some (cond (lies.all (· == 1)) (.inr ((), (), ())) (.inl ((80, ()), (), ()))) := h7
    rw [h7', qb]
    have hr : ∀ x ∈ k.2.2.flatten, 0 ≤ x ∧ x < k.1.length := by
      intro x hx
      have := List.all_eq_true.1 h5 x hx
      simp only [rng, Bool.and_eq_true, decide_eq_true_eq] at this
      omega
    have e : lies.all (· == 1) = (jW k.1.length [] k.2.2.flatten && decide (k.2.2.flatten.length = k.1.length)) := by
      rw [Bool.eq_iff_iff]
      have e1 : (lies.all (· == 1)) = true ↔ ∀ i, i < k.1.length → (k.2.2.flatten).count (i : Int) = 1 := by
        rw [List.all_eq_true]
        constructor
        · intro h i hi
          have hc := hs.cnt i hi
          have := h _ (List.mem_of_getElem? hc)
          have t : ((k.2.2.flatten.count (i : Int) : Nat) : Int) = 1 := by simpa using this
          omega
        · intro h x hx
          obtain ⟨i, hi, rfl⟩ := List.mem_iff_getElem.1 hx
          have hc := hs.cnt i (by rw [← hs.ll]; exact hi)
          rw [List.getElem?_eq_getElem hi] at hc
          rw [Option.some.inj hc, List.nil_append, h i (by rw [← hs.ll]; exact hi)]
          rfl
      rw [e1, qhw hr, Bool.and_eq_true, qch, decide_eq_true_eq]
      constructor
      · rintro ⟨h8, h9⟩; exact ⟨⟨hr, h8, by simp⟩, h9⟩
      · rintro ⟨⟨_, h8, _⟩, h9⟩; exact ⟨h8, h9⟩
    rw [e]
    cases jW k.1.length [] k.2.2.flatten && decide (k.2.2.flatten.length = k.1.length) <;> rfl
def has (s : List Bool) (p : Int) : Bool := s.getD p.toNat false
theorem qfd {R : Type} {s : List Bool} {p : Int} (h0 : 0 ≤ p) (h : p < s.length) (k : Bool → Option R) : qg s p k = k (has s p) := by
  rw [qfc h0 h]
  unfold has
  rw [List.getD_eq_getElem?_getD, List.getElem?_eq_getElem (by omega)]
  rfl
theorem L54_2_eq' (s : List Int) (hs : s.length ≤ 1048576) (f : Int → Option Bool) (b : Int → Bool) (hf : ∀ x ∈ s, f x = some (b x)) : ∀ (r pre : List Int) (N : Nat), s = pre ++ r → r.length < N →
    ∃ i : Int, 0 ≤ i ∧ L54_2 N ((s, f, (s.length : Int), (pre.length : Int), ()), (), ()) = some (cond (r.any b) (.inl ((i, ()), (), ())) (.inr ((), (), ())))
  | [], pre, N, hpr, hN => by
    obtain ⟨k, rfl⟩ := jI hN
    refine ⟨0, Int.le_refl _, ?_⟩
    simp only [L54_2, B54_2]
    rw [hpr]
    simp
  | x :: r, pre, N, hpr, hN => by
    obtain ⟨k, rfl⟩ := jI hN
    simp only [List.length_cons] at hN
    have hlt : ((pre.length : Nat) : Int) < (s.length : Int) := by rw [hpr]; exact qcz pre x r
    have hget : ∀ {R : Type} (kk : Int → Option R), qg s (pre.length : Int) kk = kk x := fun kk => by rw [hpr]; exact qbc pre x r kk rfl
    obtain ⟨i, hi, ih⟩ := L54_2_eq' s hs f b hf r (pre ++ [x]) k (by rw [hpr]; simp) (by omega)
    rw [qbM] at ih
    simp only [L54_2, B54_2]
    rw [qo hlt, cond_true, hget, hf x (by rw [hpr]; simp), qb, w64 (by omega) (by omega), List.any_cons]
    cases b x with
    | true => exact ⟨pre.length, by omega, rfl⟩
    | false => exact ⟨i, hi, by rw [cond_false, Bool.false_or]; exact ih⟩
theorem g26_eq {s : List Int} (hs : s.length ≤ 1048576) {f : Int → Option Bool} {b : Int → Bool} (hf : ∀ x ∈ s, f x = some (b x)) : g26 (s, f, ()) = some ((s.any b, ()), ()) := by
  have hF : g26 (s, f, ()) = qa (g54 (s, f, ())) fun y1 => some (((decide (y1.1.1 ≥ 0)), ()), ()) := rfl
  have hG : g54 (s, f, ()) = F54 fuel s f := rfl
  obtain ⟨i, hi, h⟩ := L54_2_eq' s hs f b hf s [] fuel rfl (by have := qb5; omega)
  have h' : L54_2 fuel ((s, f, (s.length : Int), 0, ()), (), ()) = _ := h
  rw [hF, hG]
  unfold F54
  rw [h', qb]
  cases s.any b with
  | true => simp only [cond_true, qc0, qb]; rw [qo hi]
  | false => rfl
theorem g99_eq {s : List Bool} {l : List Int} (hl : l.length ≤ 1048576) (hr : ∀ x ∈ l, 0 ≤ x ∧ x < s.length) : g99 (s, l, ()) = some ((l.all (has s), ()), ()) := by
  have hF : g99 (s, l, ()) = F99 fuel s l := rfl
  rw [hF]
  unfold F99
  rw [g26_eq hl (b := fun x => !has s x) (fun x hx => ?_), qb]
  · have : (!l.any fun x => !has s x) = l.all (has s) := by rw [← List.not_all_eq_any_not, Bool.not_not]
    simp only [this]
  · have hG : g118 (x, s, ()) = F118 fuel x s := rfl
    rw [hG]
    unfold F118
    rw [qfd (hr x hx).1 (hr x hx).2]
    rfl
def qbU (high low : Int) : Bool → List Int → Bool
  | _, [] => false
  | seen, x :: r => (seen && x == high) || qbU high low (seen || x == low) r
theorem qfn (high low : Int) : ∀ r : List Int, qbU high low true r = decide (high ∈ r)
  | [] => rfl
  | x :: r => by
    simp only [qbU, Bool.true_and, Bool.true_or, qfn high low r]
    rw [Bool.eq_iff_iff]
    simp only [Bool.or_eq_true, beq_iff_eq, decide_eq_true_eq, List.mem_cons]
    constructor
    · rintro (h | h); exact .inl h.symm; exact .inr h
    · rintro (h | h); exact .inl h.symm; exact .inr h
theorem qdB (high low : Int) : ∀ (r : List Int), low ∉ r → qbU high low false r = false
  | [], _ => rfl
  | x :: r, h => by
    simp only [List.mem_cons, not_or] at h
    simp only [qbU, Bool.false_and, Bool.false_or]
    rw [show (x == low) = false by simp; exact fun e => h.1 e.symm]
    exact qdB high low r h.2
theorem qhF (high low : Int) (r : List Int) : ∀ (pre : List Int), low ∉ pre → qbU high low false (pre ++ low :: r) = decide (high ∈ r)
  | [], _ => by
    simp only [List.nil_append, qbU, Bool.false_and, Bool.false_or, beq_self_eq_true]
    exact qfn high low r
  | x :: pre, h => by
    simp only [List.mem_cons, not_or] at h
    simp only [List.cons_append, qbU, Bool.false_and, Bool.false_or]
    rw [show (x == low) = false by simp; exact fun e => h.1 e.symm]
    exact qhF high low r pre h.2
def qkV (vans : List (List Int)) (high low : Int) : Bool := vans.any fun v => qbU high low false v
structure qbq (k : Kit) : Prop where
  parts : k.1.length ≤ 16
  each : ∀ (i : Nat) p, k.1[i]? = some p → rng p.1 1 1000000 = true ∧ rng p.2.1 1 100 = true ∧ rng p.2.2.1 0 9 = true ∧ qaY k.1.length i (-1) p.2.2.2 = true
  crane : rng k.2.1 1 1000000 = true
  flat : ∀ x ∈ k.2.2.flatten, 0 ≤ x ∧ x < k.1.length
  nodup : k.2.2.flatten.Nodup
  all : ∀ i, i < k.1.length → (i : Int) ∈ k.2.2.flatten
theorem qe1 {n : Int} : ∀ {l : List Part} {j : Int}, qa4 n j l = true → ∀ (i : Nat) p, l[i]? = some p → rng p.1 1 1000000 = true ∧ rng p.2.1 1 100 = true ∧ rng p.2.2.1 0 9 = true ∧ qaY n (j + i) (-1) p.2.2.2 = true
  | [], _, _, i, p, h => by simp at h
  | q :: l, j, hq, i, p, h => by
    simp only [qa4, qiL, Bool.and_eq_true] at hq
    obtain ⟨⟨⟨⟨h1, h2⟩, h3⟩, h4⟩, h5⟩ := hq
    cases i with
    | zero => simp at h; subst h; exact ⟨h1, h2, h3, by simpa using h4⟩
    | succ i =>
      simp at h
      have := qe1 h5 i p h
      rw [show j + ((i + 1 : Nat) : Int) = j + 1 + (i : Int) by omega]
      exact this
theorem qi6 (k : Kit) (h : valid k = true) : qbq k := by
  unfold valid at h
  simp only [Bool.and_eq_true, decide_eq_true_eq] at h
  obtain ⟨⟨⟨⟨⟨h1, h2⟩, h3⟩, h4⟩, h5⟩, h6⟩ := h
  obtain ⟨h7, h8, _⟩ := (qch _ _ _).1 h5
  refine ⟨h1, fun i p hp => by simpa using qe1 h4 i p hp, h3, h7, h8, fun i hi => ?_⟩
  have := (qhw h7).2 ⟨h8, h6⟩ i hi
  exact List.count_pos_iff.1 (by omega)
theorem qeD {n i : Int} : ∀ {l : List Int} {last : Int}, -1 ≤ last → qaY n i last l = true → ∀ x ∈ l, 0 ≤ x ∧ x < n ∧ x ≠ i
  | [], _, _, _, x, hx => by cases hx
  | y :: l, last, hl, h, x, hx => by
    simp only [qaY, Bool.and_eq_true, decide_eq_true_eq, Bool.not_eq_true', beq_eq_false_iff_ne, ne_eq] at h
    obtain ⟨⟨⟨h1, h2⟩, h3⟩, h4⟩ := h
    rcases List.mem_cons.1 hx with rfl | hx
    · exact ⟨by omega, h2, h3⟩
    · exact qeD (by omega) h4 x hx
theorem qbq.spot {k : Kit} (h : qbq k) {p : Int} (h0 : 0 ≤ p) (hp : p < k.1.length) : ∃ pre post, (pre, p, post) ∈ qbv k.2.2 ∧ (∀ high, qkV k.2.2 high p = decide (high ∈ post)) ∧ (∀ x ∈ post, 0 ≤ x ∧ x < k.1.length) ∧ (∀ x ∈ pre, 0 ≤ x ∧ x < k.1.length) := by
  have hm := h.all p.toNat (by omega)
  rw [show ((p.toNat : Nat) : Int) = p by omega] at hm
  obtain ⟨van, hvan, hpv⟩ := List.mem_flatten.1 hm
  obtain ⟨A, B, hAB⟩ := List.append_of_mem hvan
  obtain ⟨pre, post, hpp⟩ := List.append_of_mem hpv
  have hn := h.nodup
  rw [hAB, List.flatten_append, List.flatten_cons, hpp, List.nodup_append] at hn
  obtain ⟨_, hn2, hd⟩ := hn
  rw [List.nodup_append] at hn2
  obtain ⟨hn3, _, hd2⟩ := hn2
  rw [List.nodup_append] at hn3
  obtain ⟨_, _, hd3⟩ := hn3
  have hA : ∀ v ∈ A, p ∉ v := fun v hv hpv => hd p (List.mem_flatten.2 ⟨v, hv, hpv⟩) p (by simp) rfl
  have hB : ∀ v ∈ B, p ∉ v := fun v hv hpv => hd2 p (by simp) p (List.mem_flatten.2 ⟨v, hv, hpv⟩) rfl
  have hpre : p ∉ pre := fun hq => hd3 p hq p List.mem_cons_self rfl
  have hin : ∀ x ∈ van, 0 ≤ x ∧ x < k.1.length := fun x hx => h.flat x (List.mem_flatten.2 ⟨van, hvan, hx⟩)
  refine ⟨pre, post, ?_, fun high => ?_, fun x hx => hin x (by rw [hpp]; simp [hx]), fun x hx => hin x (by rw [hpp]; simp [hx])⟩
  · unfold qbv
    rw [List.mem_flatMap]
    exact ⟨van, hvan, by rw [hpp]; exact qjo pre [] p post⟩
  · unfold qkV
    rw [hAB, List.any_append, List.any_cons, hpp, qhF high p post pre hpre]
    have e1 : A.any (fun v => qbU high p false v) = false := by
      rw [List.any_eq_false]
      intro v hv
      rw [qdB high p v (hA v hv)]
      simp
    have e2 : B.any (fun v => qbU high p false v) = false := by
      rw [List.any_eq_false]
      intro v hv
      rw [qdB high p v (hB v hv)]
      simp
    rw [e1, e2]
    simp
def canB (k : Kit) (s : List Bool) (p : Int) : Bool :=
  match k.1[p.toNat]? with
  | some q => !has s p && q.2.2.2.all (has s) && decide (q.1 ≤ k.2.1) && (qcR k.1.length).all fun i => !qkV k.2.2 i p || has s i
  | none => false
theorem g75_eq {k : Kit} (hk : Small k) (h : qbq k) {y : Yard} (hy : Yards k y) {s : List Bool} (hs : s.length = k.1.length) {p : Int} (h0 : 0 ≤ p) (hp : p < k.1.length) : g75 (y, s, p, ()) = some ((canB k s p, ()), ()) := by
  obtain ⟨rfl, many, lies, hst⟩ := hy
  obtain ⟨pre, post, hd, hab, hpost, _⟩ := h.spot h0 hp
  obtain ⟨hsa, _⟩ := hst.spot _ hd
  have hq : y.1.1[p.toNat]? = some (y.1.1[p.toNat]'(by omega)) := List.getElem?_eq_getElem (by omega)
  generalize y.1.1[p.toNat]'(by omega) = q at hq
  obtain ⟨_, _, _, hne⟩ := h.each _ _ hq
  have hnl := hk.needs q (List.mem_of_getElem? hq)
  have hne' := qeD (by omega) hne
  have hpl : post.length ≤ 1048576 := by
    obtain ⟨v, hv, hdv⟩ := List.mem_flatMap.1 hd
    have := congrArg List.length (qh4 v [] hdv)
    have := hk.van v hv
    simp at *
    omega
  have hF : g75 (y, s, p, ()) = F75 fuel y s p := rfl
  rw [hF]
  unfold F75 canB
  rw [hq, qfd h0 (by omega)]
  simp only [qaR h0 hq, qaR h0 hsa]
  cases has s p with
  | true => rfl
  | false =>
  simp only [Bool.not_false, cond_true, Bool.true_and]
  rw [g99_eq hnl (fun x hx => by have := hne' x hx; omega), qb]
  cases q.2.2.2.all (has s) with
  | false => rfl
  | true =>
  simp only [cond_true, Bool.true_and]
  by_cases hw : q.1 ≤ y.1.2.1
  · rw [qo hw, cond_true, g99_eq hpl (fun x hx => by have := hpost x hx; omega), qb, Bool.true_and]
    congr 3
    rw [Bool.eq_iff_iff, List.all_eq_true, List.all_eq_true]
    constructor
    · intro hh i hi
      rw [hab i]
      by_cases hm : i ∈ post
      · rw [hh i hm]; simp
      · rw [qA hm]; rfl
    · intro hh x hx
      have := hh x (qa7.2 (hpost x hx))
      rw [hab x, qo hx] at this
      simpa using this
  · rw [qA hw]; rfl
theorem L76_2_eq' (s : List Bool) (hs : s.length ≤ 1048576) (b : Bool) : ∀ (r pre : List Bool) (N : Nat), s = pre ++ r → r.length < N →
    ∃ i : Int, 0 ≤ i ∧ L76_2 N ((s, b, (s.length : Int), (pre.length : Int), ()), (), ()) = some (cond (decide (b ∈ r)) (.inl ((i, ()), (), ())) (.inr ((), (), ())))
  | [], pre, N, hpr, hN => by
    obtain ⟨k, rfl⟩ := jI hN
    refine ⟨0, Int.le_refl _, ?_⟩
    simp only [L76_2, B76_2]
    rw [hpr]
    simp
  | x :: r, pre, N, hpr, hN => by
    obtain ⟨k, rfl⟩ := jI hN
    simp only [List.length_cons] at hN
    have hlt : ((pre.length : Nat) : Int) < (s.length : Int) := by rw [hpr]; exact qcz pre x r
    have hget : ∀ {R : Type} (kk : Bool → Option R), qg s (pre.length : Int) kk = kk x := fun kk => by rw [hpr]; exact qbc pre x r kk rfl
    obtain ⟨i, hi, ih⟩ := L76_2_eq' s hs b r (pre ++ [x]) k (by rw [hpr]; simp) (by omega)
    rw [qbM] at ih
    simp only [L76_2, B76_2]
    rw [qo hlt, cond_true, hget, w64 (by omega) (by omega)]
    cases hb : b == x with
    | true => exact ⟨pre.length, by omega, by rw [qo (by rw [eq_of_beq hb]; exact List.mem_cons_self)]; rfl⟩
    | false =>
      refine ⟨i, hi, ?_⟩
      have : decide (b ∈ x :: r) = decide (b ∈ r) := by
        have : b ≠ x := by simpa using hb
        simp [this]
      rw [cond_false, this]
      exact ih
theorem g43_eq {s : List Bool} (hs : s.length ≤ 1048576) (b : Bool) : g43 (s, b, ()) = some ((decide (b ∈ s), ()), ()) := by
  have hF : g43 (s, b, ()) = F43 fuel s b := rfl
  have hG : g76 (s, b, ()) = F76 fuel s b := rfl
  obtain ⟨i, hi, h⟩ := L76_2_eq' s hs b s [] fuel rfl (by have := qb5; omega)
  have h' : L76_2 fuel ((s, b, (s.length : Int), 0, ()), (), ()) = _ := h
  rw [hF]
  unfold F43
  rw [hG]
  unfold F76
  rw [h', qb]
  by_cases hb : b ∈ s
  · rw [qo hb]
    simp only [cond_true, qc0, qb]
    rw [qo hi]
  · rw [qA hb]; rfl
def qee (k : Kit) (p : Int) : List Int := match k.1[p.toNat]? with
  | some q => q.2.2.2
  | none => []
theorem needs_in {k : Kit} (hf : qbq k) {p : Int} (h0 : 0 ≤ p) (_hp : p < k.1.length) : ∀ y ∈ qee k p, 0 ≤ y ∧ y < k.1.length ∧ y ≠ p := by
  unfold qee
  split
  · rename_i q hq
    have := qeD (by omega) (hf.each _ _ hq).2.2.2
    intro y hy
    have := this y hy
    omega
  · simp
def val (S : List Int) (x : Int) : Int := S.getD x.toNat 0
theorem qhh {R : Type} {S : List Int} {p : Int} (h0 : 0 ≤ p) (h : p < S.length) (k : Int → Option R) : qg S p k = k (val S p) := by
  rw [qfc h0 h]
  unfold val
  rw [List.getD_eq_getElem?_getD, List.getElem?_eq_getElem (by omega)]
  rfl
theorem qiC {S : List Int} {p c : Int} (h0 : 0 ≤ p) (h : p < S.length) : val (S.set p.toNat c) p = c := by
  unfold val
  rw [List.getD_eq_getElem?_getD, List.getElem?_set_self (by omega)]
  rfl
theorem qkd {S : List Int} {p x c : Int} (h0 : 0 ≤ p) (hx : 0 ≤ x) (h : x ≠ p) : val (S.set p.toNat c) x = val S x := by
  unfold val
  rw [List.getD_eq_getElem?_getD, List.getD_eq_getElem?_getD, List.getElem?_set_ne (by omega)]
abbrev LSt := List Int × List Bool
abbrev Stp := Int × Int
def qcx (k : Kit) : List Int := k.1.map (·.2.2.1)
def qgK (k : Kit) (x : Stp) (st : LSt) : Option LSt :=
  bif rng x.2 0 ((k.1.length : Int) - 1) then
    bif x.1 == 1 then (bif canB k st.2 x.2 && (qee k x.2).all (fun q => val st.1 q == 0) then some (st.1, st.2.set x.2.toNat true) else none)
    else bif x.1 == 2 then (bif has st.2 x.2 && !(val st.1 x.2 == 0) then some (st.1.set x.2.toNat (val st.1 x.2 - 1), st.2) else none)
    else none
  else none
def qew (k : Kit) : Nat → List Stp → LSt → Option Nat × LSt
  | _, [], st => (none, st)
  | i, x :: r, st => match qgK k x st with
    | some st' => qew k (i + 1) r st'
    | none => (some i, st)
def qdX (k : Kit) (l : List Stp) : Option Nat × LSt := qew k 0 l (qcx k, List.replicate k.1.length false)
structure LInv (k : Kit) (st : LSt) : Prop where
  p : st.1.length = k.1.length
  s : st.2.length = k.1.length
  v : ∀ q : Int, 0 ≤ q → q < k.1.length → 0 ≤ val st.1 q ∧ val st.1 q ≤ 9
theorem qh2 {k : Kit} {x : Stp} {st st' : LSt} (h : LInv k st) (e : qgK k x st = some st') : LInv k st' := by
  unfold qgK at e
  cases h1 : rng x.2 0 ((k.1.length : Int) - 1) with
  | false => rw [h1] at e; cases e
  | true =>
  rw [h1, cond_true] at e
  simp only [rng, Bool.and_eq_true, decide_eq_true_eq] at h1
  cases h2 : x.1 == 1 with
  | true =>
    rw [h2, cond_true] at e
    cases h3 : canB k st.2 x.2 && (qee k x.2).all (fun q => val st.1 q == 0) with
    | false => rw [h3] at e; cases e
    | true =>
      rw [h3, cond_true] at e
      cases e
      exact ⟨h.p, by simp [h.s], h.v⟩
  | false =>
    rw [h2, cond_false] at e
    cases h4 : x.1 == 2 with
    | false => rw [h4] at e; cases e
    | true =>
      rw [h4, cond_true] at e
      cases h3 : has st.2 x.2 && !(val st.1 x.2 == 0) with
      | false => rw [h3] at e; cases e
      | true =>
        rw [h3, cond_true] at e
        cases e
        simp only [Bool.and_eq_true, Bool.not_eq_true', beq_eq_false_iff_ne, ne_eq] at h3
        refine ⟨by simp [h.p], h.s, fun q h0 hq => ?_⟩
        have hx := h.v x.2 h1.1 (by omega)
        by_cases e : q = x.2
        · rw [e]
          show 0 ≤ val (st.1.set x.2.toNat (val st.1 x.2 - 1)) x.2 ∧ val (st.1.set x.2.toNat (val st.1 x.2 - 1)) x.2 ≤ 9
          rw [qiC h1.1 (by rw [h.p]; omega)]
          omega
        · show 0 ≤ val (st.1.set x.2.toNat (val st.1 x.2 - 1)) q ∧ val (st.1.set x.2.toNat (val st.1 x.2 - 1)) q ≤ 9
          rw [qkd h1.1 h0 e]
          exact h.v q h0 hq
theorem qh3 {k : Kit} (hf : qbq k) : LInv k (qcx k, List.replicate k.1.length false) := by
  refine ⟨by simp [qcx], by simp, fun q h0 hq => ?_⟩
  have hq' : k.1[q.toNat]? = some (k.1[q.toNat]'(by omega)) := List.getElem?_eq_getElem (by omega)
  generalize k.1[q.toNat]'(by omega) = p at hq'
  have := (hf.each _ _ hq').2.2.1
  simp only [rng, Bool.and_eq_true, decide_eq_true_eq] at this
  have e : val (qcx k) q = p.2.2.1 := by
    unfold val qcx
    rw [List.getD_eq_getElem?_getD, List.getElem?_map, hq']
    rfl
  show 0 ≤ val (qcx k) q ∧ val (qcx k) q ≤ 9
  rw [e]
  omega
theorem qij {k : Kit} : ∀ (l : List Stp) (i : Nat) (st : LSt), LInv k st → LInv k (qew k i l st).2
  | [], _, _, h => h
  | x :: r, i, st, h => by
    unfold qew
    cases e : qgK k x st with
    | none => exact h
    | some st' => exact qij r (i + 1) st' (qh2 h e)
theorem L42_8_eq' {k : Kit} (hf : qbq k) (l : List Stp) (y : Option Yard) (s : List Bool) {N : Nat} (hN : k.1.length + 0 < N) :
    L42_8 N ((l, y, k.1, (k.1.length : Int), 0, ()), ([], s, ()), ()) = some ((l, y, ()), (qcx k, s, ()), ()) := by
  have h16 := hf.parts
  exact qii (L := L42_8) (fun i => ((l, y, k.1, (k.1.length : Int), (i : Int), ()), ((k.1.take i).map (·.2.2.1), s, ()), ())) (((l, y, ()), (qcx k, s, ()), ())) 0 k.1.length hN
    (fun N => by
      simp only [L42_8, B42_8]
      rw [qA (by omega), List.take_length]
      rfl)
    (fun N i _ hi => by
      simp only [L42_8, B42_8]
      rw [qo (by omega), cond_true, qjW (qfK hi), jO (by simp; omega) (by simp; omega), w64 (by omega) (by omega), qdM hi, List.map_append]
      rfl)
theorem g73_eq {pins : List Int} {p : Int} (h0 : 0 ≤ p) (h : p < pins.length) : g73 (p, pins, ()) = some ((decide (val pins p > 0), ()), ()) := by
  have hF : g73 (p, pins, ()) = F73 fuel p pins := rfl
  rw [hF]
  unfold F73
  rw [qhh h0 h]
theorem qiz {pins : List Int} : ∀ {l : List Int}, (∀ q ∈ l, 0 ≤ val pins q) → (!l.any fun q => decide (val pins q > 0)) = l.all fun q => val pins q == 0
  | [], _ => rfl
  | q :: l, h => by
    rw [List.any_cons, List.all_cons, Bool.not_or, qiz (fun q hq => h q (List.mem_cons_of_mem _ hq))]
    congr 1
    have := h q List.mem_cons_self
    by_cases e : val pins q = 0
    · rw [e]; rfl
    · rw [qo (by omega), show (val pins q == 0) = false by simpa using e]; rfl
def out61 (x : Option Nat × LSt) : ((Int × Int × Unit) × ((List Bool) × (List Int) × Unit) × Unit) ⊕ ((Unit) × ((List Int) × (List Bool) × Unit) × Unit) := match x.1 with
  | some j => .inl (((j : Int), 81, ()), ([], [], ()), ())
  | none => .inr ((), (x.2.1, x.2.2, ()), ())
theorem L42_14_eq' {k : Kit} (hk : Small k) (hf : qbq k) {y : Yard} (hy : Yards k y) (l : List Stp) (hl : l.length ≤ 1048576) {st : LSt} (hst : LInv k st) {N : Nat} (hN : l.length + 0 < N) :
    L42_14 N ((some y, l, (l.length : Int), 0, ()), (st.1, st.2, ()), ()) = some (out61 (qew k 0 l st)) := by
  have h16 := hf.parts
  obtain ⟨_, h, rfl⟩ := qf6 (L := L42_14) (fun i (st : LSt) => ((some y, l, (l.length : Int), (i : Int), ()), (st.1, st.2, ()), ())) (fun i s => LInv k s ∧ qew k i (l.drop i) s = qew k 0 l st) (fun r => r = out61 (qew k 0 l st)) 0 l.length (s := st) ⟨hst, rfl⟩ hN
    (by
      rintro N s ⟨hs, e⟩
      simp only [L42_14, B42_14]
      rw [qA (by omega)]
      refine ⟨_, rfl, ?_⟩
      rw [← e, List.drop_length]
      rfl)
    (by
      rintro N i s - hi ⟨hs, e⟩
      rw [qdb hi] at e
      simp only [L42_14, B42_14]
      rw [qo (by omega), cond_true, qjW (qfK hi)]
      generalize gd l (i : Int) = x at e
      obtain ⟨kd, p⟩ := x
      simp only [qew, qgK] at e
      simp only [g74_eq, qb]
      have hsl := hs.s
      have hpl := hs.p
      rw [w64 (x := (s.2.length : Int) - 1) (by omega) (by omega), w64 (x := (i : Int) + 1) (by omega) (by omega), hs.s]
      cases h1 : rng p 0 ((k.1.length : Int) - 1) with
      | false =>
        rw [h1] at e
        exact .inr ⟨_, rfl, by rw [← e]; rfl⟩
      | true =>
      have h1' := h1
      simp only [rng, Bool.and_eq_true, decide_eq_true_eq] at h1'
      have hp : p < k.1.length := by omega
      rw [h1, cond_true] at e
      simp only [cond_true]
      cases h2 : kd == 1 with
      | true =>
        obtain rfl : kd = 1 := by simpa using h2
        simp only [h2, cond_true] at e
        simp only [cond_true, show ((1 : Int) == 2) = false from rfl, cond_false]
        rw [g75_eq hk hf hy hs.s h1'.1 hp, qb]
        cases hc : canB k s.2 p with
        | false =>
          rw [hc] at e
          exact .inr ⟨_, rfl, by rw [← e]; rfl⟩
        | true =>
          rw [hc] at e
          have hyk := hy.1
          have hq : k.1[p.toNat]? = some (k.1[p.toNat]'(by omega)) := List.getElem?_eq_getElem (by omega)
          generalize k.1[p.toNat]'(by omega) = q at hq
          have hnl := hk.needs q (List.mem_of_getElem? hq)
          have hnq : qee k p = q.2.2.2 := by unfold qee; rw [hq]
          have hni := needs_in hf h1'.1 hp
          rw [hnq] at hni e
          simp only [cond_true]
          rw [hyk, qaR h1'.1 hq, g26_eq hnl (b := fun v => decide (val s.1 v > 0)) (fun v hv => by
            have := hni v hv
            rw [g73_eq this.1 (by omega)]; rfl), qb]
          simp only
          rw [qiz (fun v hv => (hs.v v (hni v hv).1 (hni v hv).2.1).1)]
          cases hz : q.2.2.2.all fun v => val s.1 v == 0 with
          | false =>
            rw [hz] at e
            exact .inr ⟨_, rfl, by rw [← e]; rfl⟩
          | true =>
            rw [hz] at e
            refine .inl ⟨(s.1, s.2.set p.toNat true), ⟨⟨hs.p, by simp [hs.s], hs.v⟩, e⟩, ?_⟩
            rw [cond_true, qZ h1'.1 (by omega), qfd h1'.1 (by omega)]
            rfl
      | false =>
        simp only [h2, cond_false] at e
        simp only [cond_false]
        cases h3 : kd == 2 with
        | false =>
          rw [h3] at e
          exact .inr ⟨_, rfl, by rw [← e]; rfl⟩
        | true =>
          rw [h3, cond_true] at e
          rw [cond_true, qZ h1'.1 (by omega), qfd h1'.1 (by omega)]
          cases h4 : has s.2 p with
          | false =>
            rw [h4] at e
            exact .inr ⟨_, rfl, by rw [← e]; rfl⟩
          | true =>
            have hv := hs.v p h1'.1 hp
            rw [h4] at e
            rw [cond_true, g73_eq h1'.1 (by omega), qb]
            by_cases h5 : val s.1 p = 0
            · rw [show (val s.1 p == 0) = true by simpa using h5] at e
              rw [qA (by omega)]
              exact .inr ⟨_, rfl, by rw [← e]; rfl⟩
            · rw [show (val s.1 p == 0) = false by simpa using h5] at e
              rw [qo (by omega)]
              have hnew : qgK k (kd, p) s = some (s.1.set p.toNat (val s.1 p - 1), s.2) := by
                simp only [qgK, h1, h2, h3, h4, cond_true, cond_false, show (val s.1 p == 0) = false by simpa using h5, Bool.not_false, Bool.and_true]
              refine .inl ⟨(s.1.set p.toNat (val s.1 p - 1), s.2), ⟨qh2 hs hnew, e⟩, ?_⟩
              rw [cond_true, qZ h1'.1 (by omega), qhh h1'.1 (by omega), qZ h1'.1 (by omega), qhh h1'.1 (by omega), w64 (by omega) (by omega)]
              rfl)
  exact h
def out61f (k : Kit) (l : List Stp) : List Bool × List Int × Int × Int := bif valid k then (bif decide ((l.length : Int) > 300) then ([], [], 0, 2) else match (qdX k l).1 with
  | some j => ([], [], (j : Int), 81)
  | none => ((qdX k l).2.2, (qdX k l).2.1, 0, 0)) else ([], [], 0, 80)
theorem g42_eq (k : Kit) (hk : Small k) (l : List Stp) (hl : l.length ≤ 1048576) : g42 (k, l, ()) = some (((out61f k l).1, (out61f k l).2.1, (out61f k l).2.2.1, (out61f k l).2.2.2, ()), ()) := by
  have hF : g42 (k, l, ()) = F42 fuel k l := rfl
  have hfu := qb5
  rw [hF]
  unfold F42 out61f
  rcases g72_eq k hk with ⟨hv, q, h⟩ | ⟨hv, y, hy, h⟩
  · rw [h, hv]; rfl
  · have hf := qi6 k hv
    have h16 := hf.parts
    rw [h, hv, qb]
    simp only [Bool.not_true, cond_false, cond_true]
    cases decide ((l.length : Int) > 300) with
    | true => rfl
    | false =>
      simp only [cond_false]
      rw [j8 (by omega), j8 (by omega), jO (by omega) (by omega), L42_8_eq' hf l (some y) _ (by omega), qb]
      simp only [Int.toNat_natCast]
      rw [L42_14_eq' hk hf hy l hl (st := (qcx k, List.replicate k.1.length false)) (qh3 hf) (by omega), qb]
      unfold out61 qdX
      cases (qew k 0 l (qcx k, List.replicate k.1.length false)).1 <;> rfl
def qkk (k : Kit) (st : LSt) : Bool := (qcR k.1.length).all fun p => has st.2 p && val st.1 p == 0
def readyR (k : Kit) (l : List Stp) : Bool × List Int := bif (out61f k l).2.2.2 != 0 then (false, []) else (qkk k (qdX k l).2, (qdX k l).2.1)
theorem qlt {k : Kit} {l : List Stp} (h : ((out61f k l).2.2.2 != 0) = false) : valid k = true ∧ (qdX k l).1 = none ∧ out61f k l = ((qdX k l).2.2, (qdX k l).2.1, 0, 0) ∧ LInv k (qdX k l).2 := by
  unfold out61f at *
  cases hv : valid k with
  | false => rw [hv] at h; cases h
  | true =>
    rw [hv] at h
    rw [cond_true] at h ⊢
    cases hd : decide ((l.length : Int) > 300) with
    | true => rw [hd] at h; cases h
    | false =>
      rw [hd] at h
      rw [cond_false] at h ⊢
      cases hl : (qdX k l).1 with
      | some j => rw [hl] at h; cases h
      | none => exact ⟨rfl, rfl, rfl, qij l 0 _ (qh3 (qi6 k hv))⟩
theorem has_mem {s : List Bool} : false ∈ s ↔ ∃ i : Nat, i < s.length ∧ has s (i : Int) = false := by
  constructor
  · intro h
    obtain ⟨i, hi, e⟩ := List.mem_iff_getElem.1 h
    refine ⟨i, hi, ?_⟩
    unfold has
    rw [List.getD_eq_getElem?_getD, show ((i : Int)).toNat = i by omega, List.getElem?_eq_getElem hi, e]
    rfl
  · rintro ⟨i, hi, e⟩
    unfold has at e
    rw [List.getD_eq_getElem?_getD, show ((i : Int)).toNat = i by omega, List.getElem?_eq_getElem hi] at e
    have e : s[i] = false := e
    rw [← e]
    exact List.getElem_mem hi
theorem any_val {S : List Int} (b : Int → Bool) : S.any b = true ↔ ∃ i : Nat, i < S.length ∧ b (val S (i : Int)) = true := by
  have e : ∀ (i : Nat) (hi : i < S.length), val S (i : Int) = S[i] := fun i hi => by
    unfold val
    rw [List.getD_eq_getElem?_getD, show ((i : Int)).toNat = i by omega, List.getElem?_eq_getElem hi]
    rfl
  rw [List.any_eq_true]
  constructor
  · rintro ⟨x, hx, hb⟩
    obtain ⟨i, hi, rfl⟩ := List.mem_iff_getElem.1 hx
    exact ⟨i, hi, by rw [e i hi]; exact hb⟩
  · rintro ⟨i, hi, hb⟩
    exact ⟨S[i], List.getElem_mem hi, by rw [← e i hi]; exact hb⟩
theorem g16_eq (k : Kit) (hk : Small k) (l : List Stp) (hl : l.length ≤ 1048576) : g16 (k, l, ()) = some (((readyR k l).1, (readyR k l).2, (out61f k l).2.2.2, ()), ()) := by
  have hF : g16 (k, l, ()) = F16 fuel k l := rfl
  rw [hF]
  unfold F16 readyR
  rw [g42_eq k hk l hl, qb]
  simp only
  cases h : (out61f k l).2.2.2 != 0 with
  | true => rfl
  | false =>
    obtain ⟨hv, hn, ho, hi⟩ := qlt h
    have h16 := (qi6 k hv).parts
    have hs := hi.s
    have hp := hi.p
    rw [ho]
    simp only [cond_false]
    rw [g43_eq (by omega), qb]
    simp only
    have key : qkk k (qdX k l).2 = (!decide (false ∈ (qdX k l).2.2) && !(qdX k l).2.1.any fun v => decide (v > 0)) := by
      rw [Bool.eq_iff_iff]
      unfold qkk
      simp only [List.all_eq_true, Bool.and_eq_true, Bool.not_eq_true', decide_eq_false_iff_not, beq_iff_eq]
      rw [has_mem, ← Bool.not_eq_true, any_val]
      constructor
      · intro hh
        refine ⟨?_, ?_⟩
        · rintro ⟨i, hi', e⟩
          have := (hh (i : Int) (qa7.2 ⟨by omega, by omega⟩)).1
          rw [e] at this
          cases this
        · rintro ⟨i, hi', e⟩
          have := (hh (i : Int) (qa7.2 ⟨by omega, by omega⟩)).2
          rw [decide_eq_true_eq] at e
          omega
      · rintro ⟨h1, h2⟩ p hp'
        have hp2 := qa7.1 hp'
        have hv' := hi.v p hp2.1 hp2.2
        have e : ((p.toNat : Nat) : Int) = p := by omega
        refine ⟨?_, ?_⟩
        · cases hf : has (qdX k l).2.2 p with
          | true => rfl
          | false => exact absurd ⟨p.toNat, by omega, by rw [e]; exact hf⟩ h1
        · rcases Int.lt_or_le 0 (val (qdX k l).2.1 p) with h3 | h3
          · exact absurd ⟨p.toNat, by omega, by rw [e]; exact decide_eq_true h3⟩ h2
          · omega
    rw [key]
    cases hd : decide (false ∈ (qdX k l).2.2) with
    | true => rfl
    | false =>
      simp only [Bool.not_false, cond_true, Bool.true_and]
      rw [g26_eq (f := fun v3 => qa (g44 (v3, ())) fun y4 => some y4.1.1) (by omega) (b := fun v => decide (v > 0)) (fun v _ => rfl), qb]
theorem root08 : (∀ k : Kit, Small k → g15 (k, ()) = some ((cond (valid k) 0 80, ()), ())) ∧ (∀ (k : Kit) (l : List Stp), Small k → l.length ≤ 1048576 → g16 (k, l, ()) = some (((readyR k l).1, (readyR k l).2, (out61f k l).2.2.2, ()), ())) := ⟨fun k hk => g15_eq k hk, fun k l hk hl => g16_eq k hk l hl⟩
end Go.Proofs.Tryz.V.L08
