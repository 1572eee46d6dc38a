/- slices.Reverse at bytes. -/
import Derived.Test.YtkinapdfmgfdfaaProg
import Derived.Test.YtkinapdfmgfdfaaMem
import Derived.Test.YtkinapdfmgfdfaaWord
import Derived.Test.YtkinapdfmgfdfaaBig7
namespace Go.Proofs.Ytkinapdfmgfdfaa
open Go.RowKit
namespace Nm
/-- the block b is the call's own row of bytes, with whatever spare cells behind them -/
def OwnB (w : World) (b : Nat) (l : List UInt8) : Prop := ∃ cur rest, w.heap[b]? = some (.cells cur 5 (0, 0)) ∧ cur.toList = bcells l ++ rest
theorem OwnB.lt {w : World} {b : Nat} {l : List UInt8} (h : OwnB w b l) : b < w.heap.size := by
  obtain ⟨cur, rest, h, _⟩ := h
  rcases Nat.lt_or_ge b w.heap.size with hlt | hge
  · exact hlt
  · rw [Array.getElem?_eq_none hge] at h; cases h
theorem OwnB.cell {w : World} {b : Nat} {l : List UInt8} (h : OwnB w b l) {i : Nat} (hi : i < l.length) : w.cell? ⟨b, i, none⟩ = some (.int .u8 (l[i].toNat : Int)) := by
  obtain ⟨cur, rest, h, hc⟩ := h
  have := cell_of_row w b i _ _ (0, 0) h
  rw [this, ← Array.getElem?_toList, hc, List.getElem?_append_left (by rw [bcells_length]; exact hi), bcells_get _ _ hi]
theorem OwnB.frozen {w : World} {b : Nat} {l : List UInt8} (h : OwnB w b l) (i : Nat) : w.frozen? ⟨b, i, none⟩ = false := by
  obtain ⟨cur, rest, h, hc⟩ := h; simp [World.frozen?, h]
theorem OwnB.set {w : World} {b : Nat} {l : List UInt8} (h : OwnB w b l) {i : Nat} (hi : i < l.length) (x : UInt8) : OwnB (w.setCell ⟨b, i, none⟩ (.int .u8 (x.toNat : Int))) b (l.set i x) := by
  obtain ⟨cur, rest, h, hc⟩ := h
  refine ⟨cur.setIfInBounds i (.int .u8 (x.toNat : Int)), rest, ?_, ?_⟩
  · simp only [World.setCell, Array.getElem?_modify, h]; simp
  · rw [Array.toList_setIfInBounds, hc, List.set_append_left _ _ (by rw [bcells_length]; exact hi)]
    simp [bcells, List.map_set]
theorem OwnB.sl {w : World} {b : Nat} {l : List UInt8} (h : OwnB w b l) {c : Nat} (h1 : l.length ≤ c) (h2 : c ≤ maxLen) : Sl w (.slice (some ⟨b, 0, none⟩) l.length c) l.length (bcells l) := by
  refine ⟨_, c, rfl, h1, h2, (fun h => by cases h), fun i x hx => ⟨b, 0, rfl, ?_⟩⟩
  have hi : i < l.length := by have := (List.getElem?_eq_some_iff.1 hx).1; rwa [bcells_length] at this
  rw [bcells_get _ _ hi] at hx
  rw [Nat.zero_add, h.cell hi, hx]
theorem OwnB.ofRow {w : World} {base n : Nat} {v : Value} {l : List UInt8} (h : w.ownsRow base 5 1 v n (bcells l)) (hn : 0 < n) : ∃ g cap, v = .slice (some ⟨g, 0, none⟩) n cap ∧ base ≤ g ∧ n ≤ cap ∧ cap ≤ maxLen ∧ OwnB w g l := by
  obtain ⟨h1, ⟨_, h2⟩ | ⟨g, cap, cur, rfl, hb, hg, hn, hm, hs, ht⟩⟩ := h
  · omega
  · refine ⟨g, cap, rfl, hb, hn, hm, cur, cur.toList.drop (n * 1), hg, ?_⟩
    rw [← ht, List.take_append_drop]
theorem OwnB.take {w : World} {b : Nat} {l : List UInt8} (h : OwnB w b l) (k : Nat) : OwnB w b (l.take k) := by
  obtain ⟨cur, rest, h, hc⟩ := h
  refine ⟨cur, bcells (l.drop k) ++ rest, h, ?_⟩
  rw [hc, ← List.append_assoc, ← bcells_append, List.take_append_drop]
/-- half turned round -/
def Half (l S : List UInt8) (i : Nat) : Prop := S.length = l.length ∧ ∀ k (h : k < l.length), S[k]? = some (if k < i ∨ l.length - i ≤ k then l[l.length - 1 - k]'(by omega) else l[k])
theorem Half.start (l : List UInt8) : Half l l 0 := ⟨rfl, fun k h => by rw [List.getElem?_eq_getElem h, if_neg (by omega)]⟩
theorem Half.step {l S : List UInt8} {i j : Nat} (h : Half l S i) (hij : i < j) (hs : i + j + 1 = l.length) (h1 : i < S.length) (h2 : j < S.length) : Half l ((S.set i S[j]).set j S[i]) (i + 1) := by
  obtain ⟨hl, hk⟩ := h
  refine ⟨by simp [hl], fun k hkl => ?_⟩
  have ej : S[j] = l[j]'(by omega) := by
    have := hk j (by omega)
    rw [List.getElem?_eq_getElem h2, if_neg (by omega)] at this
    exact Option.some.inj this
  have ei : S[i] = l[i]'(by omega) := by
    have := hk i (by omega)
    rw [List.getElem?_eq_getElem h1, if_neg (by omega)] at this
    exact Option.some.inj this
  rw [List.getElem?_set]
  by_cases hkj : j = k
  · subst hkj
    rw [if_pos rfl, if_pos (by simp; omega), if_pos (by omega), ei]
    congr 2; omega
  · rw [if_neg hkj, List.getElem?_set]
    by_cases hki : i = k
    · subst hki
      rw [if_pos rfl, if_pos (by omega), if_pos (by omega), ej]
      congr 2; omega
    · rw [if_neg hki, hk k hkl]
      congr 1
      by_cases hc : k < i ∨ l.length - i ≤ k
      · rw [if_pos hc, if_pos (by omega)]
      · rw [if_neg hc, if_neg (by omega)]
theorem Half.done {l S : List UInt8} {i j : Nat} (h : Half l S i) (hij : j ≤ i) (hs : i + j + 1 = l.length) : S = l.reverse := by
  obtain ⟨hl, hk⟩ := h
  apply List.ext_getElem?
  intro k
  by_cases hkl : k < l.length
  · rw [hk k hkl, List.getElem?_reverse hkl]
    by_cases hc : k < i ∨ l.length - i ≤ k
    · rw [if_pos hc, List.getElem?_eq_getElem (by omega)]
    · rw [if_neg hc, List.getElem?_eq_getElem (by omega)]
      congr 2; omega
  · rw [List.getElem?_eq_none (by omega), List.getElem?_eq_none (by simp; omega)]
def RevPost (w : World) (b : Nat) (l : List UInt8) (e : Ending) (w' : World) : Prop := e = .returned (.tuple #[]) ∧ OwnB w' b l.reverse ∧ w.grownBy w' (some b)
theorem only_drewN {a w : World} {row : Option Nat} (h : a.grownBy w row) (n : Nat) : a.grownBy (w.drewN n) row := ⟨h.os, h.tape, h.output, h.size, h.block⟩
set_option maxHeartbeats 8000000 in
theorem reverse_at (l : List UInt8) (hl : 0 < l.length) (hl2 : l.length ≤ 1000000000000) (b c : Nat) (w : World) (hO : OwnB w b l) : Calls Try.prog 49 #[.slice (some ⟨b, 0, none⟩) l.length c] w (RevPost w b l) := by
  go_enter Try.func49, Try.ntmps49
  go_wp2
  go_loopw [2, 3] (fun iv jv wr => ∃ (i : Nat) (S : List UInt8), i ≤ l.length ∧ 2 * i ≤ l.length ∧ iv = .int .i64 i ∧ jv = .int .i64 ((l.length : Int) - 1 - i) ∧ Hid (Half l S i) ∧ OwnB wr b S ∧ w.grownBy wr (some b)) (fun iv _ _ => l.length - (intOf iv).toNat)
  case atStart => exact ⟨0, l, by omega, by omega, rfl, by simp, Half.start l, hO, World.grownBy.refl w _⟩
  case round =>
    obtain ⟨i, S, hi, hi2, rfl, rfl, HH, hOS, hg⟩ := hrel
    by_cases hlt : 2 * i + 1 < l.length
    · obtain ⟨j, hj⟩ : ∃ j, j = l.length - 1 - i := ⟨_, rfl⟩
      have hij : i < j := by omega
      have hs : i + j + 1 = l.length := by omega
      have hS : S.length = l.length := HH.out.1
      have h1 : i < S.length := by omega
      have h2 : j < S.length := by omega
      have HN := Lib.hid (HH.out.step hij hs h1 h2)
      have c1 := hOS.cell h1
      have c2 := hOS.cell h2
      have d1 := hOS.frozen i
      have d2 := hOS.frozen j
      have hO1 := hOS.set h1 S[j]
      have hO2 := hO1.set (i := j) (by rw [List.length_set]; exact h2) S[i]
      have hg2 := only_setCell (only_setCell hg (i := i) (.int .u8 (S[j].toNat : Int))) (i := j) (.int .u8 (S[i].toNat : Int))
      rw [show ((l.length : Int) - 1 - (i : Int)) = (j : Int) by omega]
      have HSS := Lib.hid hs
      have hjl : j < l.length := by omega
      have hil : i < l.length := by omega
      have hne1 : ¬ (i = j) := by omega
      have hne2 : ¬ (j = i) := by omega
      clear hj hS hs
      generalize S[i] = x at *
      generalize S[j] = y at *
      go_wp2
      go_region
      have hO3 : OwnB ((wr.setCell ⟨b, i, none⟩ (.int .u8 (y.toNat : Int))).setCell ⟨b, j, none⟩ (.int .u8 (x.toNat : Int))).drew b ((S.set i y).set j x) := hO2
      have hg3 : w.grownBy ((wr.setCell ⟨b, i, none⟩ (.int .u8 (y.toNat : Int))).setCell ⟨b, j, none⟩ (.int .u8 (x.toNat : Int))).drew (some b) := ⟨hg2.os, hg2.tape, hg2.output, hg2.size, hg2.block⟩
      clear hO1 hO2 hg2 c1 c2 d1 d2
      go_wp2
      go_roundw
      case rel => exact ⟨i + 1, _, by omega, by have := HSS.out; omega, by go_num, congrArg (Value.int .i64) (by have := HSS.out; omega), HN, hO3, hg3⟩
      case measure => simp [intOf]; omega
    · have HD : Hid (S = l.reverse) := HH.out.done (j := l.length - 1 - i) (by omega) (by omega)
      have hle : (l.length : Int) - 1 - (i : Int) ≤ (i : Int) := by omega
      go_wp2
      go_end0
      exact ⟨rfl, by rw [← HD.out]; exact hOS, hg⟩
end Nm
end Go.Proofs.Ytkinapdfmgfdfaa
