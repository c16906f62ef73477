/- An evening's queues, plain: the whole play, the check, the copies. No condition beyond those typed in each theorem. -/
import Derived.Test.YtncngmcojppmgaaGreatB9
namespace Go.Proofs.Tryz.V.Bd
open Go.Vi
open L01 (j9 qK qbQ qfq qdi qdr)
set_option maxRecDepth 100000
def mkB (e : Rd) : Bo := (e, (([] : List Int), ((0 : Int), ((-1 : Int), (([] : List (Int × Int)), ((0 : Int), (0 : Int)))))))
def mkP (e : Gp) : Pa := (e, ((0 : Int), (e.2.2.1, ((-1 : Int), (-1 : Int)))))
theorem loop3 {w : Int} (l : List Gp) (R : List Rd) (hR : R.length ≤ 1000) : ∀ (suf pre : List Rd) (N0 : Nat), pre ++ suf = R → suf.length < N0 →
  L14_3 N0 ((l, R, (R.length : Int), (pre.length : Int), ()), (N w (pre.map mkB) [] 0 [], ()), ()) = some ((l, ()), (N w (R.map mkB) [] 0 [], ()), ())
 | [], pre, N0, he, hN => by
  obtain ⟨q, rfl⟩ : ∃ q, N0 = q + 1 := ⟨N0 - 1, by omega⟩
  simp only [L14_3, B14_3]
  rw [jC (by rw [← he]; simp), cond_false, ← he, List.append_nil]
 | x :: suf, pre, N0, he, hN => by
  obtain ⟨q, rfl⟩ : ∃ q, N0 = q + 1 := ⟨N0 - 1, by omega⟩
  simp only [List.length_cons] at hN
  have hlen : R.length = pre.length + suf.length + 1 := by rw [← he]; simp; omega
  have hx : gd R (pre.length : Int) = x := qco (by rw [← he, List.getElem?_append_right (Nat.le_refl _), Nat.sub_self]; rfl)
  have ih := loop3 (w := w) l R hR suf (pre ++ [x]) q (by rw [← he]; simp) (by omega)
  rw [← ih]
  have hl : ∀ {X : Type} (z : Option Bo) (k : Option X), qB ((((N w (pre.map mkB) [] 0 []).2.1.length : Nat) : Int) + [z].length) k = k := fun z k => jR (by simp only [List.length_singleton]; omega) (by
   show (((((pre.map mkB).map some).length : Nat) : Int)) + _ ≤ _
   simp only [List.length_singleton, List.length_map]; omega) k
  simp only [L14_3, B14_3]
  rw [qX (by omega), cond_true, qp (by omega) (by omega), hx]
  simp only [qa8, hl, qag, qaf]
  rw [jE (by omega), show ((pre.length + 1 : Nat) : Int) = ((pre ++ [x]).length : Int) by simp]
  have e : N w ((pre ++ [x]).map mkB) [] 0 [] = ((N w (pre.map mkB) [] 0 []).1, (((N w (pre.map mkB) [] 0 []).2.1 ++ [some (x, ([] : List Int), (0 : Int), (-1), ([] : List (Int × Int)), (0 : Int), (0 : Int))]), (N w (pre.map mkB) [] 0 []).2.2)) := by
   show (w, ((pre ++ [x]).map mkB).map some, _, _, _) = (w, (pre.map mkB).map some ++ [some (mkB x)], _, _, _)
   rw [List.map_append, List.map_append]
   rfl
  rw [e]
theorem loop8 {w : Int} (rs : List Bo) (G : List Gp) (hG : G.length ≤ 1000) : ∀ (suf pre : List Gp) (N0 : Nat), pre ++ suf = G → suf.length < N0 →
  L14_8 N0 ((G, (G.length : Int), (pre.length : Int), ()), (N w rs (pre.map mkP) 0 [], ()), ()) = some ((), (N w rs (G.map mkP) 0 [], ()), ())
 | [], pre, N0, he, hN => by
  obtain ⟨q, rfl⟩ : ∃ q, N0 = q + 1 := ⟨N0 - 1, by omega⟩
  simp only [L14_8, B14_8]
  rw [jC (by rw [← he]; simp), cond_false, ← he, List.append_nil]
 | x :: suf, pre, N0, he, hN => by
  obtain ⟨q, rfl⟩ : ∃ q, N0 = q + 1 := ⟨N0 - 1, by omega⟩
  simp only [List.length_cons] at hN
  have hlen : G.length = pre.length + suf.length + 1 := by rw [← he]; simp; omega
  have hx : gd G (pre.length : Int) = x := qco (by rw [← he, List.getElem?_append_right (Nat.le_refl _), Nat.sub_self]; rfl)
  have ih := loop8 (w := w) rs G hG suf (pre ++ [x]) q (by rw [← he]; simp) (by omega)
  rw [← ih]
  have hl : ∀ {X : Type} (z : Option Pa) (k : Option X), qB ((((N w rs (pre.map mkP) 0 []).2.2.1.length : Nat) : Int) + [z].length) k = k := fun z k => jR (by simp only [List.length_singleton]; omega) (by
   show (((((pre.map mkP).map some).length : Nat) : Int)) + _ ≤ _
   simp only [List.length_singleton, List.length_map]; omega) k
  simp only [L14_8, B14_8]
  rw [qX (by omega), cond_true, qp (by omega) (by omega), hx]
  simp only [qa8, hl, qag, qaf]
  rw [jE (by omega), show ((pre.length + 1 : Nat) : Int) = ((pre ++ [x]).length : Int) by simp]
  have e : N w rs ((pre ++ [x]).map mkP) 0 [] = ((N w rs (pre.map mkP) 0 []).1, ((N w rs (pre.map mkP) 0 []).2.1, (((N w rs (pre.map mkP) 0 []).2.2.1 ++ [some (x, (0 : Int), x.2.2.1, (-1), (-1))]), (N w rs (pre.map mkP) 0 []).2.2.2))) := by
   show (w, _, ((pre ++ [x]).map mkP).map some, _, _) = (w, _, (pre.map mkP).map some ++ [some (mkP x)], _, _)
   rw [List.map_append, List.map_append]
   rfl
  rw [e]
theorem qgu {α : Type} (f : α → Nat) : ∀ l : List α, (∀ x ∈ l, f x = 0) → (l.map f).sum = 0
 | [], _ => rfl
 | a :: l, h => by rw [List.map_cons, List.sum_cons, h a (by simp), qgu f l (fun x hx => h x (by simp [hx]))]
theorem qhZ {α : Type} (f : α → Int) : ∀ l : List α, (∀ x ∈ l, f x = 0) → (l.map f).sum = 0
 | [], _ => rfl
 | a :: l, h => by rw [List.map_cons, List.sum_cons, h a (by simp), qhZ f l (fun x hx => h x (by simp [hx]))]; rfl
theorem qli {G : List Gp} {g : Int} (h0 : 0 ≤ g) (h1 : g < G.length) : gd (G.map mkP) g = mkP (gd G g) := by
 have := qcw h0 h1
 unfold gd at this ⊢
 rw [List.getD_eq_getElem?_getD, List.getElem?_map, this]
 rfl
theorem init_inv {G : List Gp} {R : List Rd} (_hG : Gd G R.length) : Inv G R.length (R.map mkB) (G.map mkP) [] 0 [] (fut G 0 0) := by
 have e1 : ∀ g, cq (R.map mkB) g = 0 := fun g => qgu _ _ fun x hx => by
  obtain ⟨e, _, rfl⟩ := List.mem_map.1 hx
  rfl
 have e2 : ∀ g, co (R.map mkB) g = 0 := fun g => qgu _ _ fun x hx => by
  obtain ⟨e, _, rfl⟩ := List.mem_map.1 hx
  rfl
 have e3 : ∀ g, cw (G.map mkP) g = 0 := fun g => by
  unfold cw
  rw [if_neg]
  rintro ⟨h0, h1, h2⟩
  rw [List.length_map] at h1
  rw [qli h0 h1] at h2
  exact h2 rfl
 have e4 : ∀ g, fut G 0 0 g ≤ 1 := fun g => by unfold fut; split <;> omega
 refine ⟨by rw [List.length_map], by rw [List.map_map]; exact List.map_id' G, fun g => by rw [e1, e2, e3, List.count_nil]; have := e4 g; omega, fun g hg => ?_, fun g h0 h1 => ?_, fun g hg => by rw [e1, e3] at hg; omega, ?_, (fun v hv => by cases hv), List.Pairwise.nil⟩
 ·rw [e1, e2, List.count_nil] at hg
  have hg : 0 < fut G 0 0 g := by omega
  unfold fut at hg
  split at hg
  ·rename_i h; exact ⟨h.1, h.2.1⟩
  ·omega
 ·rw [qli h0 h1]
  exact ⟨Int.le_refl _, by show (0 : Int) ≤ _; omega⟩
 ·symm
  exact qhZ _ _ fun x hx => by
   obtain ⟨e, _, rfl⟩ := List.mem_map.1 hx
   rfl
structure VOK (G : List Gp) (n : Nat) (vs : List Vis) : Prop where
 all : ∀ v ∈ vs, 0 ≤ v.1 ∧ v.1 < G.length ∧ 0 ≤ v.2.2.1 ∧ v.2.2.1 < n ∧ 0 ≤ v.2.2.2.2.2
 up : vs.Pairwise fun a b => a.2.2.2.2.2 ≤ b.2.2.2.2.2
 len : vs.length ≤ 600
theorem play_ok {G : List Gp} {R : List Rd} {w : Int} (hG : Gd G R.length) (hw0 : 0 ≤ w) (hw1 : w ≤ 100) : ∃ o : Nt, g14 ((R, w), G, ()) = some ((o, ()), ()) ∧ VOK G R.length o.2.2.2.2 := by
 show ∃ o : Nt, F14 qi (R, w) G = some ((o, ()), ()) ∧ _
 unfold F14
 have hn8 := hG.rides
 have hg60 := hG.len
 rw [qY]
 have h1 := loop3 (w := w) G R (by omega) R [] qi rfl (qbw (by omega))
 have h1' : L14_3 qi ((G, R, (R.length : Int), 0, ()), ((w, ([] : List (Option Bo)), ([] : List (Option Pa)), (0 : Int), ([] : List Vis)), ()), ()) = _ := h1
 have h2 := loop8 (w := w) (R.map mkB) G (by omega) G [] qi rfl (qbw (by omega))
 have h2' : L14_8 qi ((G, (G.length : Int), 0, ()), (N w (R.map mkB) [] 0 [], ()), ()) = _ := h2
 obtain ⟨rs, ps, vs, h3, h4⟩ := qk9 hG (w := w) hw0 hw1 4001 0 qi (by omega) (Nat.lt_of_lt_of_le (show 4001 + 10000 < 100000 by decide) (Nat.le_of_lt (qbw (Nat.le_refl _)))) (init_inv hG)
 have h3' : L14_13 qi ((), (N w (R.map mkB) (G.map mkP) 0 [], ()), ()) = _ := h3
 have hv := h4.vlen hG
 obtain ⟨l', s1, s2, s3⟩ := qj5 (l := vs) (by omega) (fun v hv => by
  obtain ⟨v1, v2, v3, v4, v5, v6, v7, v8⟩ := h4.vis v hv
  have := (h4.wish v.1 v1 v2).2
  have := h4.wlen hG v1 v2
  omega) h4.dist
 refine ⟨(w, (rs.map some, (ps.map some, (4001, l')))), ?_, fun v hv => ?_, s3, by rw [s2.length_eq]; exact hv⟩
 ·show qa (L14_3 qi ((G, R, (R.length : Int), 0, ()), ((w, ([] : List (Option Bo)), ([] : List (Option Pa)), (0 : Int), ([] : List Vis)), ()), ())) _ = _
  rw [h1', qb]
  simp only []
  rw [h2', qb]
  show qa (L14_13 qi ((), (N w (R.map mkB) (G.map mkP) 0 [], ()), ())) _ = _
  rw [h3', qb]
  show qa (g30 (vs, (), ())) _ = _
  rw [s1, qb]
  rfl
 ·obtain ⟨v1, v2, v3, v4, v5, v6, v7, v8⟩ := h4.vis v (s2.mem_iff.1 hv)
  exact ⟨v1, v2, v5, v6, v7⟩
end Go.Proofs.Tryz.V.Bd
