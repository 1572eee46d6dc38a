/- Sums and products of ratios do not hang on their order, a product with a sum is the sum of the products, and what is inverted twice is as it was: for all three ratios the law returns true. No condition. -/
import Derived.Test.YtepgibhgjhjjaaaFrame
import Derived.Test.YtepgibhgjhjjaaaRead
import Derived.Test.YtepgibhgjhjjaaaRatB
namespace Go.Proofs.Ytepgibhgjhjjaaa.lawRatios
open Go.ChangeShapes Go.WideShapes Go.ChangeAt Go.RowKit
theorem cells_Ratio : Try.prog.cellsOf 31 = 2 := by kernel_rfl
theorem cells_string : Try.prog.cellsOf 9 = 1 := by kernel_rfl
theorem len2 {l : List Value} (h : l.length = 2) : ∃ a b, l = [a, b] := by
  match l, h with
  | [a, b], _ => exact ⟨a, b, rfl⟩
theorem read_Ratio {H : Type} {enc : TypeId × Value → H} {W : World} {spare : Nat → Bool} {held : Bool} (fuel : Nat) (cs : List Value) (x : DataW H × List MemPlace) (h : DataW.trod enc Try.prog W 0 spare held fuel 31 cs = some x) : ∃ n d : ByteArray, cs = [.string n, .string d] ∧ n.size ≤ maxLen ∧ d.size ≤ maxLen := by
  obtain ⟨xs, n, rfl, _, hlen, _, hf⟩ := DataW.trod_struct Try.underlying31 h
  rw [cells_Ratio] at hlen
  obtain ⟨c0, c1, rfl⟩ := len2 hlen
  have f0 : DataW.trod enc Try.prog W 0 spare held n 9 (List.take (Try.prog.cellsOf 9) (List.drop 0 [c0, c1])) = xs[0]? := hf 0 _ rfl
  have f1 : DataW.trod enc Try.prog W 0 spare held n 9 (List.take (Try.prog.cellsOf 9) (List.drop 1 [c0, c1])) = xs[1]? := hf 1 _ rfl
  rw [cells_string] at f0 f1
  simp only [List.drop, List.take] at f0 f1
  have hx : ∀ i, i < 2 → ∃ y, xs[i]? = some y := fun i hi => ⟨_, List.getElem?_eq_getElem (by simp_all)⟩
  obtain ⟨y0, e0⟩ := hx 0 (by omega)
  obtain ⟨y1, e1⟩ := hx 1 (by omega)
  rw [e0] at f0
  rw [e1] at f1
  obtain ⟨s0, h0, _, w0⟩ := DataW.trod_string Try.underlying9 f0
  obtain ⟨s1, h1, _, w1⟩ := DataW.trod_string Try.underlying9 f1
  cases h0
  cases h1
  exact ⟨s0, s1, rfl, w0, w1⟩
set_option maxRecDepth 100000 in
theorem lifted (os : Os) (started : os.Started) (H : Type) (enc : TypeId × Value → H) :
    ReturnsInHanded {} Try.checked os 5 .any (Rows.ratiosAddUpSpec.pre6 enc Try.prog Try.f5 Rows.ratiosAddUpRow.domain false) (Rows.ratiosAddUpSpec.post enc Try.prog Try.f5 false true false false) := by
  refine returnsInHanded_of_change_sized (C := Try.checked) own started (by kernel_rfl) Try.func5
    (ChangeSpec.witness6 (enc := enc) (C := Try.checked) false ⟨#[], #[.agg #[.string ByteArray.empty, .string ByteArray.empty], .agg #[.string ByteArray.empty, .string ByteArray.empty], .agg #[.string ByteArray.empty, .string ByteArray.empty]], []⟩ 8 (by kernel_rfl) (by kernel_rfl) (by kernel_rfl) (by kernel_rfl)) ?_
  intro W base args ds gs before hval0 hW hcnd hsz0 _
  have hW' := hW
  obtain ⟨p, q, hA0, hV, rfl, hfz, hnd⟩ := hW
  have hA : DataW.TrodAll enc Try.prog W 0 (fun _ => true) true Try.f5.params.toList args.toList ds p := hA0
  rw [Try.params5] at hA
  obtain ⟨v0, vs0, d0, ds0, p0, q0, hargs, rfl, rfl, h0, r0⟩ := trodAll_cons hA
  obtain ⟨v1, vs1, d1, ds1, p1, q1, rfl, rfl, rfl, h1, r1⟩ := trodAll_cons r0
  obtain ⟨v2, vs2, d2, ds2, p2, q2, rfl, rfl, rfl, h2, r2⟩ := trodAll_cons r1
  obtain ⟨rfl, rfl, rfl⟩ := trodAll_nil r2
  obtain rfl : args = #[v0, v1, v2] := by cases args; simp_all
  obtain ⟨rfl, rfl⟩ := trodVars_none hV
  obtain ⟨n0, g0⟩ := h0
  obtain ⟨n1, g1⟩ := h1
  obtain ⟨n2, g2⟩ := h2
  obtain ⟨a0, b0, e0, k1, k2⟩ := read_Ratio _ _ _ g0
  obtain ⟨a1, b1, e1, k3, k4⟩ := read_Ratio _ _ _ g1
  obtain ⟨a2, b2, e2, k5, k6⟩ := read_Ratio _ _ _ g2
  have hv0 : v0 = .agg #[.string a0, .string b0] := by rw [agg_of_cells (v := v0) (by rw [e0]; simp), e0]
  have hv1 : v1 = .agg #[.string a1, .string b1] := by rw [agg_of_cells (v := v1) (by rw [e1]; simp), e1]
  have hv2 : v2 = .agg #[.string a2, .string b2] := by rw [agg_of_cells (v := v2) (by rw [e2]; simp), e2]
  have k := Nm.law_walk a0 b0 a1 b1 a2 b2 k1 k2 k3 k4 k5 k6 W
  rw [← hv0, ← hv1, ← hv2] at k
  refine k.mono fun e W' ⟨he, hg⟩ => ?_
  subst he
  exact ⟨_, rfl, law_post laidOut rfl hW' hg (by kernel_rfl) (by kernel_rfl) Try.underlying4 rfl⟩
theorem over : Rows.ratiosAddUpRow.holds Try.pinned (OpenSpec.ofChange Rows.ratiosAddUpSpec) :=
  OpenClaim.holds_of_wide 5 Try.f5 rfl rfl rfl rfl rfl rfl rfl ⟨rfl, rfl, rfl, rfl, rfl⟩ rfl rfl rfl rfl rfl (by kernel_rfl) Try.func5 (by kernel_rfl)
    (of_decide_eq_true (by kernel_rfl)) (by unfold Func.isWrapper; first | (rw [if_pos (by decide +kernel)]; kernel_rfl) | (rw [if_neg (by decide +kernel)]; exact ⟨rfl, rfl⟩))
    (fun os started H enc _ => lifted os started H enc)
theorem proved : Rows.RatiosAddUpSaid := over
end Go.Proofs.Ytepgibhgjhjjaaa.lawRatios
