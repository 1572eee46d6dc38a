/- Versions that are read as data. -/
import Derived.Test.YtepgibhgjhjjaaaDoorRead
import Derived.Test.YtepgibhgjhjjaaaDoorVer
import Derived.Test.YtepgibhgjhjjaaaDoorProg
namespace Go.Proofs.YtepgibhgjhjjaaaDoor
open Go.RowKit
namespace Rv
theorem cells_Version : Tryd.prog.cellsOf 24 = 4 := by kernel_rfl
theorem cells_int : Tryd.prog.cellsOf 3 = 1 := by kernel_rfl
theorem cells_string : Tryd.prog.cellsOf 9 = 1 := by kernel_rfl
theorem cells_strings : Tryd.prog.cellsOf 22 = 1 := by kernel_rfl
theorem len4 {l : List Value} (h : l.length = 4) : ∃ a b c d, l = [a, b, c, d] := by
  match l, h with
  | [a, b, c, d], _ => exact ⟨a, b, c, d, rfl⟩
def RStr (s : ByteArray) (cs : List Value) : Prop := cs = [.string s] ∧ s.size ≤ maxLen
theorem RStr.len (s : ByteArray) (cs : List Value) (h : RStr s cs) : cs.length = 1 := by rw [h.1]; rfl
theorem reps_str : ∀ {l : List ByteArray} {cs : List Value}, Reps RStr l cs → cs = strs l ∧ ∀ s ∈ l, s.size ≤ maxLen
  | [], _, h => by cases h; exact ⟨rfl, fun _ h => by cases h⟩
  | x :: l, _, ⟨c, r, e, h1, h2⟩ => by
    obtain ⟨h3, h4⟩ := reps_str h2
    obtain ⟨h5, h6⟩ := h1
    subst e; subst h3; subst h5
    exact ⟨rfl, fun s hs => by rcases List.mem_cons.1 hs with rfl | hs; exact h6; exact h4 s hs⟩
section
variable {H : Type} {enc : TypeId × Value → H} {W : World} {spare : Nat → Bool} {held : Bool}
theorem read_string (fuel : Nat) (cs : List Value) (x : DataW H × List MemPlace) (h : DataW.trod enc Tryd.prog W 0 spare held fuel 9 cs = some x) : ∃ s, RStr s cs := by
  obtain ⟨s, h2, _, w2⟩ := DataW.trod_string Tryd.underlying9 h
  exact ⟨s, h2, w2⟩
theorem read_Ver (fuel : Nat) (cs : List Value) (x : DataW H × List MemPlace) (h : DataW.trod enc Tryd.prog W 0 spare held fuel 24 cs = some x) : ∃ v, RepVer W v cs := by
  obtain ⟨xs, n, rfl, _, hlen, _, hf⟩ := DataW.trod_struct Tryd.underlying24 h
  rw [cells_Version] at hlen
  obtain ⟨c0, c1, c2, c3, rfl⟩ := len4 hlen
  have f0 : DataW.trod enc Tryd.prog W 0 spare held n 3 (List.take (Tryd.prog.cellsOf 3) (List.drop 0 [c0, c1, c2, c3])) = xs[0]? := hf 0 _ rfl
  have f1 : DataW.trod enc Tryd.prog W 0 spare held n 3 (List.take (Tryd.prog.cellsOf 3) (List.drop 1 [c0, c1, c2, c3])) = xs[1]? := hf 1 _ rfl
  have f2 : DataW.trod enc Tryd.prog W 0 spare held n 3 (List.take (Tryd.prog.cellsOf 3) (List.drop 2 [c0, c1, c2, c3])) = xs[2]? := hf 2 _ rfl
  have f3 : DataW.trod enc Tryd.prog W 0 spare held n 22 (List.take (Tryd.prog.cellsOf 22) (List.drop 3 [c0, c1, c2, c3])) = xs[3]? := hf 3 _ rfl
  rw [cells_int] at f0 f1 f2
  rw [cells_strings] at f3
  simp only [List.drop, List.take] at f0 f1 f2 f3
  have hx : ∀ i, i < 4 → ∃ y, xs[i]? = some y := fun i hi => ⟨_, List.getElem?_eq_getElem (by simp_all)⟩
  obtain ⟨y0, e0⟩ := hx 0 (by omega)
  obtain ⟨y1, e1⟩ := hx 1 (by omega)
  obtain ⟨y2, e2⟩ := hx 2 (by omega)
  obtain ⟨y3, e3⟩ := hx 3 (by omega)
  rw [e0] at f0
  rw [e1] at f1
  rw [e2] at f2
  rw [e3] at f3
  obtain ⟨k, h0, _, w0⟩ := DataW.trod_int Tryd.underlying3 f0
  obtain ⟨m, h1, _, w1⟩ := DataW.trod_int Tryd.underlying3 f1
  obtain ⟨p, h2, _, w2⟩ := DataW.trod_int Tryd.underlying3 f2
  obtain ⟨a3, is, q3, ics, h3, s3, r3⟩ := read_slice (R := RStr) RStr.len Tryd.underlying22 cells_string (by omega) (fun j cs' y hj ht => read_string j cs' y ht) f3
  obtain ⟨rfl, hr⟩ := reps_str r3
  cases h0
  cases h1
  cases h2
  cases h3
  exact ⟨⟨k, m, p, is⟩, _, _, rfl, s3, hr⟩
end
end Rv
end Go.Proofs.YtepgibhgjhjjaaaDoor
