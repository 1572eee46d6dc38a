/- Value and Sample are as specified, with all errors: for every metric, list of subjects and arm the law returns true. No condition. -/
import Derived.Test.YtbbfdkjamjmbmaaSample4
import Derived.Deep.QuietTactic
import Derived.BigQuiet
import Derived.Test.YtbbfdkjamjmbmaaFrame
import Derived.Test.YtbbfdkjamjmbmaaReadM
namespace Go.Proofs.Ytbbfdkjamjmbmaa.lawSamples
open Go.ChangeShapes Go.WideShapes Go.ChangeAt Go.RowKit

def pL {α : Type} (px py : α → Int) (x : α) : List Value := [.int .i64 (px x), .int .i64 (py x)]
set_option maxHeartbeats 2000000 in
theorem equal_pairs {α : Type} (px py : α → Int) (l : List α) (a a' : Option Addr) (c c' : Nat) (w : World) (s1 : Sl w (.slice a l.length c) l.length (l.flatMap (pL px py))) (s2 : Sl w (.slice a' l.length c') l.length (l.flatMap (pL px py))) :
    Calls Try.prog 11 #[.slice a l.length c, .slice a' l.length c'] w fun e w' => e = .returned (.bool true) ∧ Below w.heap.size w w' := by
  have hl : l.length ≤ 9223372036854775807 := by obtain ⟨_, _, hv, h1, h2, _⟩ := s1; cases hv; unfold maxLen at h2; omega
  have hne : ((l.length : Int) != (l.length : Int)) = false := by simp
  go_enter Try.func11, Try.ntmps11
  go_wp2
  go_loopw [13] (fun i wr => ∃ k : Nat, k ≤ l.length ∧ i = .int .i64 k ∧ Below w.heap.size w wr) (fun i _ => l.length - (intOf i).toNat)
  case atStart => exact ⟨0, by omega, rfl, Below.refl _ _⟩
  case round =>
    obtain ⟨k, hk, rfl, hb⟩ := hrel
    by_cases hlt : k < l.length
    · have hgk := List.getElem?_eq_getElem hlt
      generalize l[k] = s at hgk
      obtain ⟨b, o, rfl, hcs⟩ := (s1.ext hb).elem (fun _ => rfl) (by omega : 0 < 2) hgk
      obtain ⟨b', o', rfl, hcs'⟩ := (s2.ext hb).elem (fun _ => rfl) (by omega : 0 < 2) hgk
      have e0 := hcs 0 _ rfl
      have e1 := hcs 1 _ rfl
      have f0 := hcs' 0 _ rfl
      have f1 := hcs' 1 _ rfl
      rw [Nat.add_zero] at e0 f0
      clear hcs hcs' hgk
      have hi0 : (0 : Int) ≤ (k : Int) := Int.natCast_nonneg _
      have hi1 : (k : Int) < (l.length : Int) := by omega
      go_wp2_with fail
      go_quiet (fail)
      go_wp2
      exact ⟨⟨k + 1, by omega, by go_num, below_drewN hb _⟩, by simp [intOf]; omega⟩
    · go_wp2
      go_ret
      exact ⟨rfl, hb⟩

set_option maxHeartbeats 4000000 in
theorem walk (m : Met) (hm : m.ok) (l : List Sub) (a : Option Addr) (c : Nat) (arm : Int) (w : World) (hs : Sl w (.slice a l.length c) l.length (l.flatMap subL)) :
    Calls Try.prog 3 #[.agg (metC m), .slice a l.length c, .int .i64 arm] w fun e w' => e = .returned (.bool true) ∧ Below w.heap.size w w' := by
  have hl : l.length ≤ 9223372036854775807 := by obtain ⟨_, _, hv, h1, h2, _⟩ := hs; cases hv; unfold maxLen at h2; omega
  go_enter Try.func3, Try.ntmps3
  go_upto_region 1 with (fail)
  refine wp_box1 fun W hsz hbW hA => ?_
  go_wp2
  go_loopw [19] (fun i wr => ∃ k : Nat, k ≤ l.length ∧ i = .int .i64 k ∧ Below W.heap.size W wr) (fun i _ => l.length - (intOf i).toNat)
  case atStart => exact ⟨0, by omega, rfl, Below.refl _ _⟩
  case round =>
    obtain ⟨k, hk, rfl, hb⟩ := hrel
    by_cases hlt : k < l.length
    · have hgk := List.getElem?_eq_getElem hlt
      generalize l[k] = s at hgk
      obtain ⟨b, o, rfl, hcs⟩ := (hs.ext (ext_trans hbW hb)).elem subL_len (by omega) hgk
      have e0 := hcs 0 _ rfl
      have e1 := hcs 1 _ rfl
      have e2 := hcs 2 _ rfl
      have e3 := hcs 3 _ rfl
      have e4 := hcs 4 _ rfl
      have e5 := hcs 5 _ rfl
      have e6 := hcs 6 _ rfl
      have e7 := hcs 7 _ rfl
      rw [Nat.add_zero] at e0
      clear hcs hgk
      go_upto_region 4 with (fail)
      clear e0 e1 e2 e3 e4 e5 e6 e7
      refine wp_box1 fun X hszX hbX hS => ?_
      have hA1 := (hA.ext hb).ext hbX
      obtain ⟨_, hA2⟩ := id hA1
      obtain ⟨_, hS2⟩ := id hS
      go_wp2_with fail
      refine (metric_Value m hm s _).mono ?_
      rintro e w2 ⟨rfl, hb2⟩
      have hb3 := ext_trans (ext_trans hb hbX) hb2
      have hA3 := hA1.ext hb2
      have hS3 := hS.ext hb2
      clear hA2 hS2 hA1 hS hbX hb2 hszX
      go_upto_region 5 with (fail)
      refine wp_box1 fun Y hszY hbY hP => ?_
      have hA4 := hA3.ext hbY
      have hS4 := hS3.ext hbY
      have hb4 := ext_trans hb3 hbY
      obtain ⟨_, hA5⟩ := id hA4
      obtain ⟨_, hS5⟩ := id hS4
      clear hA3 hS3 hbY hb3
      go_wp2_with fail
      refine (ref8_Value m hm s _).mono ?_
      rintro e w5 ⟨rfl, hb5⟩
      have hP5 := hP.ext hb5
      have hb6 := ext_trans hb4 hb5
      clear hA5 hS5 hA4 hS4 hP hb5 hb4 hszY
      go_upto_region 6 with (fail)
      refine wp_box1 fun Z hszZ hbZ hQ => ?_
      have hP6 := hP5.ext hbZ
      have hb7 := ext_trans hb6 hbZ
      obtain ⟨_, hP7⟩ := id hP6
      obtain ⟨_, hQ7⟩ := id hQ
      have hne : (valF m s != valF m s) = false := by simp
      go_wp2
      go_roundw
      case rel => exact ⟨k + 1, by omega, by go_num, hb7⟩
      case measure => simp [intOf]; omega
    · have hA1 := hA.ext hb
      have hbw := ext_trans hbW hb
      obtain ⟨_, hA2⟩ := id hA1
      go_wp2_with fail
      refine (metric_Sample m hm l a c arm _ (hs.ext hbw)).mono ?_
      rintro e w2 ⟨v, rfl, hs2, hb2⟩
      have hbw2 := ext_trans hbw hb2
      have hA3 := hA1.ext hb2
      clear hA2
      obtain ⟨_, hA4⟩ := id hA3
      obtain ⟨a3, c3, rfl, _⟩ := id hs2
      go_wp2_with fail
      refine (ref8_Sample m hm l a c arm _ (hs.ext hbw2)).mono ?_
      rintro e w3 ⟨v, rfl, hs3, hb3⟩
      have hbw3 := ext_trans hbw2 hb3
      have hs4 := hs2.ext hb3
      obtain ⟨a4, c4, rfl, _⟩ := id hs3
      go_wp2_with fail
      refine (equal_pairs (pairX m) (pairY m) (sampL m l arm) a3 a4 c3 c4 _ hs4 hs3).mono ?_
      rintro e w4 ⟨rfl, hb4⟩
      have hbw4 := ext_trans hbw3 hb4
      have heq : (sampF m l arm == sampF m l arm) = true := by simp
      go_wp2
      go_ret
      exact ⟨rfl, hbw4⟩

theorem flat_of_reps {W : World} : ∀ {l : List Sub} {cs : List Value}, Reps (fun s c => c = subL s) l cs → cs = l.flatMap subL
  | [], _, h => h
  | _ :: _, _, ⟨c, r, e, h1, h2⟩ => by subst e; subst h1; rw [List.flatMap_cons, flat_of_reps (W := W) h2]

set_option maxRecDepth 100000 in
theorem lifted (os : Os) (started : os.Started) (H : Type) (enc : TypeId × Value → H) :
    ReturnsInHanded {} Try.checked os 3 .any (Rows.metricSamplesMatchSpecSpec.pre6 enc Try.prog Try.f3 Rows.metricSamplesMatchSpecRow.domain false) (Rows.metricSamplesMatchSpecSpec.post enc Try.prog Try.f3 false true false false) := by
  refine returnsInHanded_of_change_sized (C := Try.checked) own started (by kernel_rfl) Try.func3
    (ChangeSpec.witness6 (enc := enc) (C := Try.checked) false ⟨#[], #[.agg #[.string ByteArray.empty, .int .i64 0, .string ByteArray.empty, .int .i64 0, .int .i64 0, .int .i64 0], .slice none 0 0, .int .i64 0], []⟩ 8 (by kernel_rfl) (by kernel_rfl) (by kernel_rfl) (by kernel_rfl)) ?_
  intro W base args ds gs before hval0 hW hcnd hsz0 _
  have hval : ∀ (j : Nat) t v, Try.f3.params[j]? = some t → args[j]? = some v → Value.okWide Try.prog W .any base t v := hval0
  have hW' := hW
  obtain ⟨p, q, hA0, hV, rfl, hfz, hnd⟩ := hW
  have hA : DataW.TrodAll enc Try.prog W 0 (fun _ => true) true Try.f3.params.toList args.toList ds p := hA0
  rw [Try.params3] at hA hval
  obtain ⟨v0, vs0, d0, ds0, p0, q0, hargs, rfl, rfl, h0, r0⟩ := trodAll_cons hA
  obtain ⟨v1, vs1, d1, ds1, p1, q1, rfl, rfl, rfl, h1, r1⟩ := trodAll_cons r0
  obtain ⟨v2, vs2, d2, ds2, p2, q2, rfl, rfl, rfl, h2, r2⟩ := trodAll_cons r1
  obtain ⟨rfl, rfl, rfl⟩ := trodAll_nil r2
  obtain rfl : args = #[v0, v1, v2] := by cases args; simp_all
  obtain ⟨rfl, rfl⟩ := trodVars_none hV
  obtain ⟨n0, g0⟩ := h0
  obtain ⟨n1, g1⟩ := h1
  obtain ⟨arm, rfl, rfl, rfl, _⟩ := open_int Try.underlying3 (hval 2 3 v2 rfl rfl) h2
  obtain ⟨a', n', c', rfl⟩ := okWide_slice Try.underlying24 (hval 1 24 v1 rfl rfl)
  obtain ⟨x0, x1, x2, x3, x4, x5, e0, z0, _, z2, _, _, _⟩ := read_Metric _ _ _ g0
  obtain ⟨a, l, cap, cells, e1, s1, rp⟩ := read_slice (R := fun (s : Sub) c => c = subL s) (sz := 8) (by rintro x c rfl; rfl) Try.underlying24 (by kernel_rfl) (by omega)
    (fun n cs' y _ ht => by obtain ⟨k0, k1, k2, k3, k4, k5, k6, k7, e, _⟩ := read_Subject _ _ _ ht; exact ⟨⟨k0, k1, k2, k3, k4, k5, k6, k7⟩, e⟩) g1
  have hv0 : v0 = .agg (metC ⟨x0, x1, x2, x3, x4, x5⟩) := by rw [agg_of_cells (v := v0) (by rw [e0]; simp), e0]
  have hv1 : Value.slice a' n' c' = .slice a l.length cap := by simpa [Value.cells] using e1
  rw [flat_of_reps (W := W) rp] at s1
  subst hv0
  rw [hv1]
  rw [hv1] at hW'
  refine (walk ⟨x0, x1, x2, x3, x4, x5⟩ ⟨z0, z2⟩ l a cap arm W s1).mono fun e W' ⟨he, hg⟩ => ?_
  subst he
  exact ⟨_, rfl, law_post laidOut rfl hW' hg (by kernel_rfl) (by kernel_rfl) Try.underlying4 rfl⟩

theorem over : Rows.metricSamplesMatchSpecRow.holds Try.pinned (OpenSpec.ofChange Rows.metricSamplesMatchSpecSpec) :=
  OpenClaim.holds_of_wide 3 Try.f3 rfl rfl rfl rfl rfl rfl rfl ⟨rfl, rfl, rfl, rfl, rfl⟩ rfl rfl rfl rfl rfl (by kernel_rfl) Try.func3 (by kernel_rfl)
    (of_decide_eq_true (by kernel_rfl)) (by unfold Func.isWrapper; first | (rw [if_pos (by decide +kernel)]; kernel_rfl) | (rw [if_neg (by decide +kernel)]; exact ⟨rfl, rfl⟩))
    (fun os started H enc _ => lifted os started H enc)

theorem proved : Rows.MetricSamplesMatchSpecSaid := over
end Go.Proofs.Ytbbfdkjamjmbmaa.lawSamples
