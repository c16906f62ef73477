/- The contract of the log's own iterator, and of the function that makes it. No condition beyond those typed in each theorem. -/
import Derived.Test.YtealdoeaafoemaaGreatIb1
namespace Go.Proofs.Tryz.Ib
open Go.RowKit Go.Shelf Go.Proofs Go.Vi
def tE : Ty := .str (.pair (.int .i64) (.pair (.int .i64) (.pair (.int .i64) (.pair (.int .i64) (.int .i64)))))
def tR : Ty := .str (.pair (.int .i64) (.pair (.int .i64) (.pair (.int .i64) .bool)))
def tLog : Ty := .str (.pair (.str (.pair (.list false 120 tR) (.pair (.list false 3 (.int .i64)) (.list false 3 (.int .i64))))) (.list false 74 tE))
def it129 : Iter := ⟨[.r tLog], tE, fun d => jE (d.1.2.length : Int) (some (d.1.2.reverse : List tE.den))⟩
def zE (l : List tE.den) (j q : Nat) : Int := match l[j]? with
  | none => 0
  | some x => match q with
    | 0 => x.1
    | 1 => x.2.1
    | 2 => x.2.2.1
    | 3 => x.2.2.2.1
    | _ => x.2.2.2.2
theorem rep_E {P : Program} {w : World} {H : FH} {x : tE.den} {cs : List Value} {fp : List Nat} : qx P tE w H x cs fp ↔ cs = [.int .i64 x.1, .int .i64 x.2.1, .int .i64 x.2.2.1, .int .i64 x.2.2.2.1, .int .i64 x.2.2.2.2] ∧ fp = [] := by
  constructor
  · rintro ⟨_, _, _, _, rfl, rfl, ⟨rfl, rfl⟩, _, _, _, _, rfl, rfl, ⟨rfl, rfl⟩, _, _, _, _, rfl, rfl, ⟨rfl, rfl⟩, _, _, _, _, rfl, rfl, ⟨rfl, rfl⟩, ⟨rfl, rfl⟩⟩
    exact ⟨rfl, rfl⟩
  · rintro ⟨rfl, rfl⟩
    exact ⟨[_], _, [], [], rfl, rfl, ⟨rfl, rfl⟩, [_], _, [], [], rfl, rfl, ⟨rfl, rfl⟩, [_], _, [], [], rfl, rfl, ⟨rfl, rfl⟩, [_], _, [], [], rfl, rfl, ⟨rfl, rfl⟩, ⟨rfl, rfl⟩⟩
theorem qe2 {c : Array Value} {o n i : Nat} {v : Value} (h : (seg c o n)[i]? = some v) : c[o + i]? = some v := by
  unfold seg at h
  rw [List.getElem?_take] at h
  split at h
  · rw [List.getElem?_drop] at h
    simpa using h
  · cases h
theorem rev_at {α : Type} (l : List α) (i : Nat) (x : α) (h : l.reverse[i]? = some x) : i < l.length ∧ l[l.length - 1 - i]? = some x := by
  have hi : i < l.length := by
    have := (List.getElem?_eq_some_iff.1 h).1
    rwa [List.length_reverse] at this
  rw [List.getElem?_reverse hi] at h
  exact ⟨hi, h⟩
theorem zE_at {l : List tE.den} {j : Nat} {x : tE.den} (h : l[j]? = some x) : ([.int .i64 (zE l j 0), .int .i64 (zE l j 1), .int .i64 (zE l j 2), .int .i64 (zE l j 3), .int .i64 (zE l j 4)] : List Value) = [.int .i64 x.1, .int .i64 x.2.1, .int .i64 x.2.2.1, .int .i64 x.2.2.2.1, .int .i64 x.2.2.2.2] := by
  unfold zE
  rw [h]
  rfl
theorem qdk {P : Program} {w : World} {H : FH} : ∀ {l : List tE.den} {xs fp}, qg (qx P tE w H) l xs fp → ∀ j i, j < l.length → i < 5 → xs[j * 5 + i]? = some (.int .i64 (zE l j i))
  | [], _, _, _, j, _, h, _ => absurd h (by simp)
  | x :: l, xs, fp, ⟨c, xs', f, fp', e1, _, h1, h2⟩, j, i, hj, hi => by
    obtain ⟨rfl, _⟩ := rep_E.1 h1
    subst e1
    cases j with
    | zero =>
      match i, hi with
      | 0, _ => rfl
      | 1, _ => rfl
      | 2, _ => rfl
      | 3, _ => rfl
      | 4, _ => rfl
    | succ j =>
      have := qdk h2 j i (by simpa using hj) hi
      rw [List.getElem?_append_right (by simp; omega)]
      simp only [List.length_cons, List.length_nil]
      rw [show (j + 1) * 5 + i - (0 + 1 + 1 + 1 + 1 + 1) = j * 5 + i by omega, this]
      rfl
set_option maxRecDepth 100000 in
theorem it129_ok : qeg Tryz.prog 129 it129 := by
  refine ⟨qab Tryz.func129 rfl (by kernel_rfl), rfl, ?_⟩
  rintro ⟨⟨bk, l⟩, ⟨⟩⟩ xs hg w H vs Φs hok ⟨v, vs', φ, Φs', rfl, rfl, _, hφ, ⟨Lb, o, blk, rfl, hb, hrep⟩, rfl, rfl⟩ _ _
  change List tE.den at l
  have hg : jE (l.length : Int) (some (l.reverse : List tE.den)) = some xs := hg
  rw [qgp] at hg
  split at hg
  case isFalse => cases hg
  rename_i hlen
  obtain rfl : l.reverse = xs := Option.some.inj hg
  obtain ⟨c1, c2, f1, f2, hc, hf, ⟨c3, c4, f3, f4, rfl, rfl, ⟨_, a3, n3, rfl, _⟩, ⟨c5, c6, f5, f6, rfl, rfl, ⟨_, a5, n5, rfl, _⟩, ⟨_, a6, n6, rfl, _⟩⟩⟩, ⟨_, sa, cap, rfl, hcap, hl⟩⟩ := hrep
  obtain ⟨t, f, hh⟩ := hok Lb blk hb
  have hLl := (Array.getElem?_eq_some_iff.1 hh).1
  have hL : w.cell? ⟨Lb, o + 3, none⟩ = some (.slice sa l.length cap) := by
    rw [qQ hh]
    refine qe2 (i := 3) (n := 4) ?_
    show (seg blk o tLog.size)[3]? = _
    rw [hc]
    rfl
  have hent : l.length = 0 ∨ ∃ b off c, sa = some ⟨b, off, none⟩ ∧ H b = some c ∧ ∀ j i, j < l.length → i < 5 → w.cell? ⟨b, off + j * 5 + i, none⟩ = some (.int .i64 (zE l j i)) := by
    rcases hl with rfl | ⟨b, off, c, e, hbb, hch⟩
    · exact .inl rfl
    · refine .inr ⟨b, off, c, e, hbb, fun j i hj hi => ?_⟩
      obtain ⟨t, f, hh⟩ := hok b c hbb
      rw [qQ hh, Nat.add_assoc]
      exact qe2 (qdk hch j i hj hi)
  refine ⟨fun i => [.int .i64 (zE l (l.length - 1 - i) 0), .int .i64 (zE l (l.length - 1 - i) 1), .int .i64 (zE l (l.length - 1 - i) 2), .int .i64 (zE l (l.length - 1 - i) 3), .int .i64 (zE l (l.length - 1 - i) 4)], ?_, ?_⟩
  · intro i x hi
    obtain ⟨_, h2⟩ := rev_at (l : List tE.den) i x hi
    exact rep_E.2 ⟨zE_at h2, rfl⟩
  · have := bk129 Lb o l.length sa cap (zE l) (by omega) hok hLl hL hent
    have e : List.length (α := it129.a.den) (List.reverse (α := tE.den) l) = List.length l := List.length_reverse
    rw [e, show (fun x => x ∈ qf [φ]) = (fun _ => False) by funext x; simp [qf, hφ]]
    exact this
def m122 : qdn := ⟨⟨[.v tLog], [.v (.ptr tLog)], fun d => some ((some d.1, ()), ())⟩, 129⟩
def tyM : List (Nat × Ty) := [(3, .int .i64), (74, tE), (120, tR), (137, tLog)]
set_option maxRecDepth 100000
theorem qfr : tysB Tryz.prog tyM = true := by kernel_rfl
theorem qcL : Tryz.prog.follows .mixedOrders = true := by kernel_rfl
def c122 : qS := ⟨4, tyM, [], [], [], [], [], [], [], [], [], [], [], [], none⟩
theorem F122_eq (n : Nat) (d) : qj3 c122 n Tryz.f122 (body Tryz.f122) [.v tLog] 129 [.v (.ptr tLog)] d = some ((some d.1, ()), ()) := by kernel_rfl
theorem d122 : ql c122 (body Tryz.f122) = true := by kernel_rfl
theorem k122 : jJ Tryz.prog 122 ∧ qc6 Tryz.prog 122 m122 := ⟨qab Tryz.func122 rfl (by kernel_rfl), qe9 qcL (qp qfr qh rfl (by kernel_rfl)) Tryz.func122 (c := body Tryz.f122) rfl rfl (qam (qr (by kernel_rfl))) d122 (by decide) fun d y h => ⟨0, (F122_eq 0 d).trans h⟩⟩
end Go.Proofs.Tryz.Ib
