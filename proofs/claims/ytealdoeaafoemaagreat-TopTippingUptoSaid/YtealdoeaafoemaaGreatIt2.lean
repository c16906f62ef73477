/- The contract of the boards' own iterator, and of the functions that make closures. No condition beyond those typed in each theorem. -/
import Derived.Test.YtealdoeaafoemaaGreatIt1
namespace Go.Proofs.Tryz.It
open Go.RowKit Go.Shelf Go.Proofs Go.Vi
def tB : Ty := .str (.pair (.int .i64) (.pair (.int .i64) (.pair (.int .i64) (.int .i64))))
def tS : Ty := .str (.pair (.list false 102 tB) (.pair (.list false 104 tB) (.pair (.int .i64) (.pair (.int .i64) (.int .i64)))))
def upL : Nat → List (Int × Int × Int × Int) → Int → Option (List Int)
  | 0, _, _ => none
  | n + 1, l, b => bif decide (b < 0) then some [-1] else qi l b fun x => bif decide (x.1 < b) then qa (upL n l x.1) fun r => some (b :: r) else none
def it131 : Iter := ⟨[.gm (.int .i64), .r tS], .int .i64, fun d => jE (d.2.1.1.length : Int) (upL (d.2.1.1.length + 1) d.2.1.1 d.1)⟩
def zB (l : List (Int × Int × Int × Int)) (j : Nat) : Int := match l[j]? with
  | some x => x.1
  | none => 0
theorem qhR {l : List (Int × Int × Int × Int)} : ∀ {n : Nat} {b : Int} {xs : List Int}, upL n l b = some xs → qdN (zB l) l.length b xs
  | 0, _, _, h => by cases h
  | n + 1, b, xs, h => by
    unfold upL at h
    by_cases hb : b < 0
    · rw [decide_eq_true hb, cond_true] at h
      cases h
      exact .stop hb
    · rw [decide_eq_false hb, cond_false] at h
      unfold qi at h
      rw [if_pos (by omega)] at h
      split at h
      case h_2 => cases h
      rename_i x hx
      simp only at h
      cases hd : decide (x.1 < b) with
      | false => rw [hd] at h; cases h
      | true =>
      rw [hd, cond_true, qo] at h
      obtain ⟨r, hr, h⟩ := Option.bind_eq_some_iff.1 h
      cases h
      have hz : zB l b.toNat = x.1 := by unfold zB; rw [hx]
      have hlt := (List.getElem?_eq_some_iff.1 hx).1
      exact .go (by omega) (by omega) (by rw [hz]; exact of_decide_eq_true hd) (by rw [hz]; exact qhR hr)
theorem qe2 {c : Array Value} {o n i : Nat} {v : Value} (h : (seg c o n)[i]? = some v) : c[o + i]? = some v := by
  unfold seg at h
  rw [List.getElem?_take] at h
  split at h
  · rw [List.getElem?_drop] at h
    simpa using h
  · cases h
theorem qdk {P : Program} {w : World} {H : FH} : ∀ {l : List tB.den} {xs fp}, qg (qx P tB w H) l xs fp → ∀ j, j < l.length → xs[j * 4]? = some (.int .i64 (zB l j))
  | [], _, _, _, j, h => absurd h (by simp)
  | x :: l, xs, fp, ⟨c, xs', f, fp', e1, _, h1, h2⟩, j, hj => by
    have hl : c.length = 4 := qx.length tB h1
    obtain ⟨c1, c2, f1, f2, e2, _, ⟨e3, _⟩, _⟩ := h1
    subst e1
    cases j with
    | zero =>
      rw [e2, e3]
      rfl
    | succ j =>
      have := qdk h2 j (by simpa using hj)
      rw [List.getElem?_append_right (by omega), hl, show (j + 1) * 4 - 4 = j * 4 by omega, this]
      rfl
set_option maxRecDepth 100000 in
theorem it131_ok : qeg Tryz.prog 131 it131 := by
  refine ⟨qab Tryz.func131 rfl (by kernel_rfl), rfl, ?_⟩
  rintro ⟨b0, ⟨⟨l, ld⟩, ⟨⟩⟩⟩ xs hg w H vs Φs hok ⟨v, vs', φ, Φs', rfl, rfl, hv, hobj, ⟨v2, vs2, φ2, Φs2, rfl, rfl, _, hφ2, ⟨Sb, so, blk, rfl, hb, hrep⟩, rfl, rfl⟩⟩ hnd hfr
  change List tB.den at l
  change List Int at xs
  have hg : jE (l.length : Int) (upL (l.length + 1) l b0) = some xs := hg
  rw [qgp] at hg
  split at hg
  case isFalse => cases hg
  rename_i hlen
  have hch := qhR hg
  obtain ⟨_, _, bk, t, fp', hbk, ⟨hbv, hfp'⟩, hfp⟩ := hobj
  have hfps : qf [φ, φ2] = [φ.b] := by simp [qf, hφ2, hfp, hfp']
  have hbk' : Boxed w φ.b t (.int .i64 b0) := by
    have e : bk = #[.int .i64 b0] := by
      apply Array.ext'
      exact hbv
    show w.heap[φ.b]? = _
    rw [hbk, e]
  have hbl : φ.b ∈ qf [φ, φ2] := by rw [hfps]; simp
  obtain ⟨c1, c2, f1, f2, hc, hf, ⟨_, sa, cap, hsa, hcap, hl⟩, _⟩ := hrep
  have hS : w.cell? ⟨Sb, so, none⟩ = some (.slice sa l.length cap) := by
    obtain ⟨t, f, hh⟩ := hok Sb blk hb
    rw [qQ hh]
    have : (seg blk so tS.size)[0]? = some (.slice sa l.length cap) := by
      rw [hc, hsa]
      rfl
    exact qe2 this
  have hent : l.length = 0 ∨ ∃ b off c, sa = some ⟨b, off, none⟩ ∧ H b = some c ∧ ∀ j, j < l.length → w.cell? ⟨b, off + j * 4, none⟩ = some (.int .i64 (zB l j)) := by
    rcases hl with rfl | ⟨b, off, c, e, hbb, hch⟩
    · exact .inl rfl
    · refine .inr ⟨b, off, c, e, hbb, fun j hj => ?_⟩
      obtain ⟨t, f, hh⟩ := hok b c hbb
      rw [qQ hh]
      exact qe2 (qdk hch j hj)
  refine ⟨fun i => [.int .i64 (xs.getD i 0)], ?_, ?_⟩
  · intro i x hi
    change Int at x
    have hi' : xs[i]? = some x := hi
    have : xs.getD i 0 = x := by rw [List.getD_eq_getElem?_getD, hi']; rfl
    show ([Value.int .i64 (xs.getD i 0)] = [Value.int .i64 x]) ∧ ([] : List Nat) = []
    exact ⟨by rw [this], rfl⟩
  · rw [hv]
    exact up_seq φ.b Sb so l.length cap sa (zB l) xs b0 hch (by omega) hok hbk' (hfr _ hbl).1 hb hS hent hbl (fun b hb => (hfr b hb).2)
def tyM : List (Nat × Ty) := [(3, .int .i64), (30, .list false 102 tB), (31, .list false 104 tB), (33, tS), (102, tB), (104, tB)]
set_option maxRecDepth 100000
theorem qfr : tysB Tryz.prog tyM = true := by kernel_rfl
theorem qcL : Tryz.prog.follows .mixedOrders = true := by kernel_rfl
def m123 : qdn := ⟨⟨[.v tS, .v (.int .i64)], [.optr (.int .i64), .v (.ptr tS)], fun d => some ((d.2.1, some d.1, ()), ())⟩, 131⟩
def c123 : qS := ⟨6, tyM, [], [], [], [], [], [], [], [], [], [], [], [], none⟩
theorem F123_eq (n : Nat) (d) : qj3 c123 n Tryz.f123 (body Tryz.f123) [.v tS, .v (.int .i64)] 131 [.optr (.int .i64), .v (.ptr tS)] d = some ((d.2.1, some d.1, ()), ()) := by kernel_rfl
theorem d123 : ql c123 (body Tryz.f123) = true := by kernel_rfl
theorem k123 : jJ Tryz.prog 123 ∧ qc6 Tryz.prog 123 m123 := ⟨qab Tryz.func123 rfl (by kernel_rfl), qe9 qcL (qp qfr qh rfl (by kernel_rfl)) Tryz.func123 (c := body Tryz.f123) rfl rfl (qam (qr (by kernel_rfl))) d123 (by decide) fun d y h => ⟨0, (F123_eq 0 d).trans h⟩⟩
end Go.Proofs.Tryz.It
