/- Values that are read as data. -/
import Derived.Test.YtepgibhgjhjjaaaRead
import Derived.Test.YtepgibhgjhjjaaaVal
import Derived.Test.YtepgibhgjhjjaaaProg
namespace Go.Proofs.Ytepgibhgjhjjaaa
open Go.RowKit
theorem cells_api_Value : Try.prog.cellsOf 27 = 5 := by kernel_rfl
theorem cells_api_Field : Try.prog.cellsOf 47 = 6 := by kernel_rfl
theorem cells_int : Try.prog.cellsOf 3 = 1 := by kernel_rfl
theorem cells_string : Try.prog.cellsOf 9 = 1 := by kernel_rfl
theorem cells_api_Values : Try.prog.cellsOf 24 = 1 := by kernel_rfl
theorem cells_api_Fields : Try.prog.cellsOf 25 = 1 := by kernel_rfl

theorem i64ok_of {n : Int} (h : (Lit.int .i64 n).wf = true) : i64ok n := by
  simpa [Lit.wf, IntKind.min, IntKind.max, IntKind.signed, IntKind.bits, i64ok] using h

theorem repL_of {W : World} : ∀ {l : List V} {cs : List Value}, Reps (RepV W) l cs → RepL W l cs
  | [], _, h => by simp only [RepL]; exact h
  | _ :: _, _, ⟨c, r, e, h1, h2⟩ => by simp only [RepL]; exact ⟨c, r, e, h1, repL_of h2⟩
theorem repFs_of {W : World} : ∀ {l : List F} {cs : List Value}, Reps (RepF W) l cs → RepFs W l cs
  | [], _, h => by simp only [RepFs]; exact h
  | _ :: _, _, ⟨c, r, e, h1, h2⟩ => by simp only [RepFs]; exact ⟨c, r, e, h1, repFs_of h2⟩

theorem len5 {l : List Value} (h : l.length = 5) : ∃ a b c d e, l = [a, b, c, d, e] := by
  match l, h with
  | [a, b, c, d, e], _ => exact ⟨a, b, c, d, e, rfl⟩
theorem len6 {l : List Value} (h : l.length = 6) : ∃ a r, l = a :: r ∧ r.length = 5 := by
  match l, h with
  | a :: r, h => exact ⟨a, r, rfl, by simpa using h⟩

section
variable {H : Type} {enc : TypeId × Value → H} {W : World} {spare : Nat → Bool} {held : Bool}
theorem read_V : ∀ (fuel : Nat) (cs : List Value) (x : DataW H × List MemPlace), DataW.trod enc Try.prog W 0 spare held fuel 27 cs = some x → ∃ v, RepV W v cs := by
  intro fuel
  induction fuel using Nat.strongRecOn with
  | _ fuel ih =>
  intro cs x h
  obtain ⟨xs, n, rfl, _, hlen, _, hf⟩ := DataW.trod_struct Try.underlying27 h
  rw [cells_api_Value] at hlen
  obtain ⟨c0, c1, c2, c3, c4, rfl⟩ := len5 hlen
  have f0 : DataW.trod enc Try.prog W 0 spare held n 3 (List.take (Try.prog.cellsOf 3) (List.drop 0 [c0, c1, c2, c3, c4])) = xs[0]? := hf 0 _ rfl
  rw [cells_int] at f0
  have f1 : DataW.trod enc Try.prog W 0 spare held n 3 (List.take (Try.prog.cellsOf 3) (List.drop 1 [c0, c1, c2, c3, c4])) = xs[1]? := hf 1 _ rfl
  rw [cells_int] at f1
  have f2 : DataW.trod enc Try.prog W 0 spare held n 9 (List.take (Try.prog.cellsOf 9) (List.drop 2 [c0, c1, c2, c3, c4])) = xs[2]? := hf 2 _ rfl
  rw [cells_string] at f2
  have f3 : DataW.trod enc Try.prog W 0 spare held n 24 (List.take (Try.prog.cellsOf 24) (List.drop 3 [c0, c1, c2, c3, c4])) = xs[3]? := hf 3 _ rfl
  rw [cells_api_Values] at f3
  have f4 : DataW.trod enc Try.prog W 0 spare held n 25 (List.take (Try.prog.cellsOf 25) (List.drop 4 [c0, c1, c2, c3, c4])) = xs[4]? := hf 4 _ rfl
  rw [cells_api_Fields] at f4
  simp only [List.drop, List.take] at f0 f1 f2 f3 f4
  have hx : ∀ i, i < 5 → ∃ y, xs[i]? = some y := fun i hi => ⟨_, List.getElem?_eq_getElem (by simp_all)⟩
  obtain ⟨y0, e0⟩ := hx 0 (by omega)
  obtain ⟨y1, e1⟩ := hx 1 (by omega)
  obtain ⟨y2, e2⟩ := hx 2 (by omega)
  obtain ⟨y3, e3⟩ := hx 3 (by omega)
  obtain ⟨y4, e4⟩ := hx 4 (by omega)
  rw [e0] at f0
  rw [e1] at f1
  rw [e2] at f2
  rw [e3] at f3
  rw [e4] at f4
  obtain ⟨k, h0, _, w0⟩ := DataW.trod_int Try.underlying3 f0
  obtain ⟨m, h1, _, w1⟩ := DataW.trod_int Try.underlying3 f1
  obtain ⟨s, h2, _, w2⟩ := DataW.trod_string Try.underlying9 f2
  obtain ⟨a3, is, q3, ics, h3, s3, r3⟩ := read_slice (R := RepV W) (fun _ _ => RepV.len) Try.underlying24 cells_api_Value (by omega) (fun j cs' y hj ht => ih j (by omega) cs' y ht) f3
  obtain ⟨a4, fs, q4, fcs, h4, s4, r4⟩ := read_slice (R := RepF W) (fun _ _ => RepF.len) Try.underlying25 cells_api_Field (by omega) (fun j cs' y hj ht => by
    obtain ⟨xs', n', rfl, _, hlen', _, hf'⟩ := DataW.trod_struct Try.underlying47 ht
    rw [cells_api_Field] at hlen'
    obtain ⟨d0, r, rfl, hr⟩ := len6 hlen'
    have g0 : DataW.trod enc Try.prog W 0 spare held n' 9 (List.take (Try.prog.cellsOf 9) (List.drop 0 (d0 :: r))) = xs'[0]? := hf' 0 _ rfl
    have g1 : DataW.trod enc Try.prog W 0 spare held n' 27 (List.take (Try.prog.cellsOf 27) (List.drop 1 (d0 :: r))) = xs'[1]? := hf' 1 _ rfl
    rw [cells_string] at g0
    rw [cells_api_Value] at g1
    simp only [List.drop, List.take] at g0
    rw [List.drop_succ_cons, List.drop_zero] at g1
    have hx' : ∀ i, i < 2 → ∃ y, xs'[i]? = some y := fun i hi => ⟨_, List.getElem?_eq_getElem (by simp_all)⟩
    obtain ⟨z0, k0⟩ := hx' 0 (by omega)
    obtain ⟨z1, k1⟩ := hx' 1 (by omega)
    rw [k0] at g0
    rw [k1, List.take_of_length_le (by omega)] at g1
    obtain ⟨nm, l0, _, wn⟩ := DataW.trod_string Try.underlying9 g0
    obtain ⟨v, hv⟩ := ih n' (by omega) r _ g1
    cases l0
    exact ⟨.mk nm v, by simp only [RepF]; exact ⟨r, rfl, wn, hv⟩⟩) f4
  cases h0
  cases h1
  cases h2
  cases h3
  cases h4
  exact ⟨.mk k m s is fs, by simp only [RepV]; exact ⟨_, _, ics, fcs, rfl, i64ok_of w0, i64ok_of w1, w2, s3, repL_of r3, s4, repFs_of r4⟩⟩
end
end Go.Proofs.Ytepgibhgjhjjaaa
