/- Events and strings that are read as data. -/
import Derived.Test.YtbbfdkjamjmbmaaDoorRead
import Derived.Test.YtbbfdkjamjmbmaaDoorProg
namespace Go.Proofs.YtbbfdkjamjmbmaaDoor
open Go.RowKit
theorem read_Event {H : Type} {enc : TypeId × Value → H} {W : World} {spare : Nat → Bool} {held : Bool} (fuel : Nat) (cs : List Value) (x : DataW H × List MemPlace) (h : DataW.trod enc Tryd.prog W 0 spare held fuel 29 cs = some x) :
    ∃ (x0 : ByteArray) (x1 : Int) (x2 : Int) (x3 : Int) (x4 : ByteArray) (x5 : ByteArray) (x6 : Int) (x7 : Int), cs = [.string x0, .int .i64 x1, .int .i64 x2, .int .i64 x3, .string x4, .string x5, .int .i64 x6, .int .i64 x7] ∧ x0.size ≤ maxLen ∧ i64ok x1 ∧ i64ok x2 ∧ i64ok x3 ∧ x4.size ≤ maxLen ∧ x5.size ≤ maxLen ∧ i64ok x6 ∧ i64ok x7 := by
  obtain ⟨xs, n, rfl, _, hlen, hxl, hf⟩ := DataW.trod_struct Tryd.underlying29 h
  rw [show Tryd.prog.cellsOf 29 = 8 by kernel_rfl] at hlen
  obtain ⟨c0, r0, rfl, l0⟩ := uncons hlen
  obtain ⟨c1, r1, rfl, l1⟩ := uncons l0
  obtain ⟨c2, r2, rfl, l2⟩ := uncons l1
  obtain ⟨c3, r3, rfl, l3⟩ := uncons l2
  obtain ⟨c4, r4, rfl, l4⟩ := uncons l3
  obtain ⟨c5, r5, rfl, l5⟩ := uncons l4
  obtain ⟨c6, r6, rfl, l6⟩ := uncons l5
  obtain ⟨c7, r7, rfl, l7⟩ := uncons l6
  obtain rfl := List.length_eq_zero_iff.1 l7
  have hx : ∀ i, i < 8 → ∃ y, xs[i]? = some y := fun i hi => ⟨_, List.getElem?_eq_getElem (by rw [hxl]; exact hi)⟩
  have f0 : DataW.trod enc Tryd.prog W 0 spare held n 9 (List.take (Tryd.prog.cellsOf 9) (List.drop 0 [c0, c1, c2, c3, c4, c5, c6, c7])) = xs[0]? := hf 0 _ rfl
  rw [show Tryd.prog.cellsOf 9 = 1 by kernel_rfl] at f0
  simp only [List.drop, List.take] at f0
  obtain ⟨y0, e0⟩ := hx 0 (by omega)
  rw [e0] at f0
  obtain ⟨x0, h0, _, w0⟩ := DataW.trod_string Tryd.underlying9 f0
  have f1 : DataW.trod enc Tryd.prog W 0 spare held n 3 (List.take (Tryd.prog.cellsOf 3) (List.drop 1 [c0, c1, c2, c3, c4, c5, c6, c7])) = xs[1]? := hf 1 _ rfl
  rw [show Tryd.prog.cellsOf 3 = 1 by kernel_rfl] at f1
  simp only [List.drop, List.take] at f1
  obtain ⟨y1, e1⟩ := hx 1 (by omega)
  rw [e1] at f1
  obtain ⟨x1, h1, _, w1⟩ := DataW.trod_int Tryd.underlying3 f1
  have f2 : DataW.trod enc Tryd.prog W 0 spare held n 3 (List.take (Tryd.prog.cellsOf 3) (List.drop 2 [c0, c1, c2, c3, c4, c5, c6, c7])) = xs[2]? := hf 2 _ rfl
  rw [show Tryd.prog.cellsOf 3 = 1 by kernel_rfl] at f2
  simp only [List.drop, List.take] at f2
  obtain ⟨y2, e2⟩ := hx 2 (by omega)
  rw [e2] at f2
  obtain ⟨x2, h2, _, w2⟩ := DataW.trod_int Tryd.underlying3 f2
  have f3 : DataW.trod enc Tryd.prog W 0 spare held n 3 (List.take (Tryd.prog.cellsOf 3) (List.drop 3 [c0, c1, c2, c3, c4, c5, c6, c7])) = xs[3]? := hf 3 _ rfl
  rw [show Tryd.prog.cellsOf 3 = 1 by kernel_rfl] at f3
  simp only [List.drop, List.take] at f3
  obtain ⟨y3, e3⟩ := hx 3 (by omega)
  rw [e3] at f3
  obtain ⟨x3, h3, _, w3⟩ := DataW.trod_int Tryd.underlying3 f3
  have f4 : DataW.trod enc Tryd.prog W 0 spare held n 9 (List.take (Tryd.prog.cellsOf 9) (List.drop 4 [c0, c1, c2, c3, c4, c5, c6, c7])) = xs[4]? := hf 4 _ rfl
  rw [show Tryd.prog.cellsOf 9 = 1 by kernel_rfl] at f4
  simp only [List.drop, List.take] at f4
  obtain ⟨y4, e4⟩ := hx 4 (by omega)
  rw [e4] at f4
  obtain ⟨x4, h4, _, w4⟩ := DataW.trod_string Tryd.underlying9 f4
  have f5 : DataW.trod enc Tryd.prog W 0 spare held n 9 (List.take (Tryd.prog.cellsOf 9) (List.drop 5 [c0, c1, c2, c3, c4, c5, c6, c7])) = xs[5]? := hf 5 _ rfl
  rw [show Tryd.prog.cellsOf 9 = 1 by kernel_rfl] at f5
  simp only [List.drop, List.take] at f5
  obtain ⟨y5, e5⟩ := hx 5 (by omega)
  rw [e5] at f5
  obtain ⟨x5, h5, _, w5⟩ := DataW.trod_string Tryd.underlying9 f5
  have f6 : DataW.trod enc Tryd.prog W 0 spare held n 3 (List.take (Tryd.prog.cellsOf 3) (List.drop 6 [c0, c1, c2, c3, c4, c5, c6, c7])) = xs[6]? := hf 6 _ rfl
  rw [show Tryd.prog.cellsOf 3 = 1 by kernel_rfl] at f6
  simp only [List.drop, List.take] at f6
  obtain ⟨y6, e6⟩ := hx 6 (by omega)
  rw [e6] at f6
  obtain ⟨x6, h6, _, w6⟩ := DataW.trod_int Tryd.underlying3 f6
  have f7 : DataW.trod enc Tryd.prog W 0 spare held n 3 (List.take (Tryd.prog.cellsOf 3) (List.drop 7 [c0, c1, c2, c3, c4, c5, c6, c7])) = xs[7]? := hf 7 _ rfl
  rw [show Tryd.prog.cellsOf 3 = 1 by kernel_rfl] at f7
  simp only [List.drop, List.take] at f7
  obtain ⟨y7, e7⟩ := hx 7 (by omega)
  rw [e7] at f7
  obtain ⟨x7, h7, _, w7⟩ := DataW.trod_int Tryd.underlying3 f7
  cases h0
  cases h1
  cases h2
  cases h3
  cases h4
  cases h5
  cases h6
  cases h7
  exact ⟨x0, x1, x2, x3, x4, x5, x6, x7, rfl, w0, i64ok_of w1, i64ok_of w2, i64ok_of w3, w4, w5, i64ok_of w6, i64ok_of w7⟩
end Go.Proofs.YtbbfdkjamjmbmaaDoor
