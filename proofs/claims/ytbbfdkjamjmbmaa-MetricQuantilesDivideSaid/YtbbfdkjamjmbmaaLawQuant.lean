/- So many thousandths of a list are not greater than a quantile, and fewer are less: for every list and number the law returns true. No condition. -/
import Derived.Test.YtbbfdkjamjmbmaaQuantP
import Derived.Test.YtbbfdkjamjmbmaaFrame
import Derived.Test.YtbbfdkjamjmbmaaRead
namespace Go.Proofs.Ytbbfdkjamjmbmaa.lawQuant
open Go.ChangeShapes Go.WideShapes Go.ChangeAt Go.RowKit

set_option maxHeartbeats 2000000 in
theorem walk (l : List Int) (a : Option Addr) (c : Nat) (mille : Int) (w : World) (hs : Sl w (.slice a l.length c) l.length (icells l)) :
    Calls Try.prog 6 #[.slice a l.length c, .int .i64 mille] w fun e w' => e = .returned (.bool true) ∧ Below w.heap.size w w' := by
  go_enter Try.func6, Try.ntmps6
  go_wp2_with fail
  refine (metric_Quantile l a c mille w hs).mono ?_
  rintro e w1 ⟨rfl, hb1⟩
  by_cases hf : quantF l mille = 0
  · have hne : (quantF l mille != 0) = false := by simp [hf]
    have hv : quantV l mille = (sortI l).getD (rankQ (l.length * mille.toNat)) 0 := by simp [quantV, hf]
    have h0 : 0 < l.length := by
      rcases Nat.eq_zero_or_pos l.length with h | h
      · simp [quantF, h] at hf
      · exact h
    have hl : l.length ≤ 20000 := by
      rcases Nat.lt_or_ge 20000 l.length with h | h
      · simp [quantF, h, Nat.ne_of_gt h0] at hf
      · exact h
    have hm : 1 ≤ mille ∧ mille ≤ 1000 := by
      apply Classical.byContradiction
      intro h
      have : ¬ 20000 < l.length := by omega
      simp [quantF, Nat.ne_of_gt h0, this, h] at hf
    obtain ⟨m, rfl⟩ : ∃ m : Nat, mille = (m : Int) := ⟨mille.toNat, by omega⟩
    have hq := quant_divides l m h0 (by omega) (by omega)
    rw [Int.toNat_natCast] at hv
    rw [← hv] at hq
    generalize quantV l m = n at hq hv ⊢
    have HQ := Lib.hid hq
    have hp1 : l.length * m ≤ 20000000 := by
      have := Nat.mul_le_mul hl (show m ≤ 1000 by omega); omega
    obtain ⟨p, hp⟩ : ∃ p, l.length * m = p := ⟨_, rfl⟩
    have hpi : (l.length : Int) * (m : Int) = (p : Int) := by rw [← hp]; push_cast; rfl
    rw [hp] at hp1 hq
    clear hv hf hm hp HQ
    have HQ := Lib.hid hq
    clear hq
    obtain ⟨b, o, rfl, hc⟩ := sl_cells hs (by simp [icells]; omega)
    have HC := Lib.hid hc
    clear hc
    go_wp2
    go_loop [7, 8, 23, 10] (fun x y i _ => ∃ k : Nat, k ≤ l.length ∧ i = .int .i64 k ∧ x = .int .i64 (nLess n (l.take k)) ∧ y = .int .i64 (nMost n (l.take k))) (fun _ _ i _ => l.length - (intOf i).toNat)
    case atStart => exact ⟨0, by omega, rfl, rfl, rfl⟩
    case round =>
      obtain ⟨k, hk, rfl, rfl, rfl⟩ := hrel
      have b1 := Nat.le_trans (nLess_le n (l.take k)) (List.length_take_le _ _)
      have b2 := Nat.le_trans (nMost_le n (l.take k)) (List.length_take_le _ _)
      by_cases hlt : k < l.length
      · have hcell := cell_later hb1 (HC.out k _ (icells_get hlt))
        have HL := Lib.hid (show nLess n (l.take (k + 1)) = nLess n (l.take k) + if l[k] < n then 1 else 0 by rw [take_succ_int hlt, nLess_snoc])
        have HM := Lib.hid (show nMost n (l.take (k + 1)) = nMost n (l.take k) + if l[k] ≤ n then 1 else 0 by rw [take_succ_int hlt, nMost_snoc])
        generalize l[k] = x at hcell HL HM
        by_cases h1 : x < n
        · have h2 : x ≤ n := by omega
          have HL2 : Hid (nLess n (l.take (k + 1)) = nLess n (l.take k) + 1) := by have := HL.out; rw [if_pos h1] at this; exact this
          have HM2 : Hid (nMost n (l.take (k + 1)) = nMost n (l.take k) + 1) := by have := HM.out; rw [if_pos h2] at this; exact this
          clear HL HM
          go_wp2
          go_round
          case rel => exact ⟨k + 1, by omega, by go_num, by rw [HL2.out]; go_num, by rw [HM2.out]; go_num⟩
          case measure => simp [intOf]; omega
        · have HL2 : Hid (nLess n (l.take (k + 1)) = nLess n (l.take k)) := by have := HL.out; rw [if_neg h1] at this; exact this
          by_cases h2 : x ≤ n
          · have HM2 : Hid (nMost n (l.take (k + 1)) = nMost n (l.take k) + 1) := by have := HM.out; rw [if_pos h2] at this; exact this
            clear HL HM
            go_wp2
            go_round
            case rel => exact ⟨k + 1, by omega, by go_num, by rw [HL2.out], by rw [HM2.out]; go_num⟩
            case measure => simp [intOf]; omega
          · have HM2 : Hid (nMost n (l.take (k + 1)) = nMost n (l.take k)) := by have := HM.out; rw [if_neg h2] at this; exact this
            clear HL HM
            go_wp2
            go_round
            case rel => exact ⟨k + 1, by omega, by go_num, by rw [HL2.out], by rw [HM2.out]⟩
            case measure => simp [intOf]; omega
      · have hkk : k = l.length := by omega
        subst hkk
        have ht : l.take l.length = l := List.take_of_length_le (Nat.le_refl _)
        rw [ht] at b1 b2 ⊢
        have hq := HQ.out
        generalize nLess n l = x at *
        generalize nMost n l = y at *
        have hq1 : (p : Int) ≤ (y : Int) * 1000 := by omega
        have hq2 : (x : Int) * 1000 < (p : Int) := by omega
        clear ht HQ hq
        go_wp2
        go_ret
        exact ⟨rfl, hb1⟩
  · have hne : (quantF l mille != 0) = true := by simp [hf]
    have hv : quantV l mille = 0 := by simp [quantV, hf]
    rw [hv]
    clear hf hv
    go_wp2
    go_ret
    exact ⟨rfl, hb1⟩

theorem ints_of_reps : ∀ {l : List Int} {cs : List Value}, Reps (fun (s : Int) c => c = [Value.int .i64 s] ∧ i64ok s) l cs → cs = l.map (Value.int .i64) ∧ ∀ e ∈ l, i64ok e
  | [], _, h => ⟨h, fun _ h => by cases h⟩
  | _ :: _, _, ⟨c, r, e, h1, h2⟩ => by
    subst e; obtain ⟨h1, ho⟩ := h1; subst h1
    obtain ⟨i1, i2⟩ := ints_of_reps h2
    exact ⟨by rw [List.map_cons, i1]; rfl, fun x hx => (List.mem_cons.1 hx).elim (fun h => h ▸ ho) (i2 x)⟩
theorem flats_of_reps {α : Type} {cellsF : α → List Value} {okF : α → Prop} : ∀ {l : List α} {cs : List Value}, Reps (fun s c => c = cellsF s ∧ okF s) l cs → cs = l.flatMap cellsF ∧ ∀ e ∈ l, okF e
  | [], _, h => ⟨h, fun _ h => by cases h⟩
  | _ :: _, _, ⟨c, r, e, h1, h2⟩ => by
    subst e; obtain ⟨h1, ho⟩ := h1; subst h1
    obtain ⟨i1, i2⟩ := flats_of_reps h2
    exact ⟨by rw [List.flatMap_cons, i1], fun x hx => (List.mem_cons.1 hx).elim (fun h => h ▸ ho) (i2 x)⟩
set_option maxRecDepth 100000 in
theorem lifted (os : Os) (started : os.Started) (H : Type) (enc : TypeId × Value → H) :
    ReturnsInHanded {} Try.checked os 6 .any (Rows.metricQuantilesDivideSpec.pre6 enc Try.prog Try.f6 Rows.metricQuantilesDivideRow.domain false) (Rows.metricQuantilesDivideSpec.post enc Try.prog Try.f6 false true false false) := by
  refine returnsInHanded_of_change_sized (C := Try.checked) own started (by kernel_rfl) Try.func6
    (ChangeSpec.witness6 (enc := enc) (C := Try.checked) false ⟨#[], #[.slice none 0 0, .int .i64 0], []⟩ 8 (by kernel_rfl) (by kernel_rfl) (by kernel_rfl) (by kernel_rfl)) ?_
  intro W base args ds gs before hval0 hW hcnd hsz0 _
  have hval : ∀ (j : Nat) t v, Try.f6.params[j]? = some t → args[j]? = some v → Value.okWide Try.prog W .any base t v := hval0
  have hW' := hW
  obtain ⟨p, q, hA0, hV, rfl, hfz, hnd⟩ := hW
  have hA : DataW.TrodAll enc Try.prog W 0 (fun _ => true) true Try.f6.params.toList args.toList ds p := hA0
  rw [Try.params6] at hA hval
  obtain ⟨v0, vs0, d0, ds0, p0, q0, hargs, rfl, rfl, h0, r0⟩ := trodAll_cons hA
  obtain ⟨v1, vs1, d1, ds1, p1, q1, rfl, rfl, rfl, h1, r1⟩ := trodAll_cons r0
  obtain ⟨rfl, rfl, rfl⟩ := trodAll_nil r1
  obtain rfl : args = #[v0, v1] := by cases args; simp_all
  obtain ⟨rfl, rfl⟩ := trodVars_none hV
  obtain ⟨n0, g0⟩ := h0
  obtain ⟨a'0, n'0, c'0, rfl⟩ := okWide_slice Try.underlying54 (hval 0 54 v0 rfl rfl)
  obtain ⟨a_l, l, c_l, cells0, e0, s_l, rp0⟩ := read_slice (R := fun (s : Int) c => c = [Value.int .i64 s] ∧ i64ok s) (sz := 1) (by rintro x c ⟨rfl, _⟩; rfl) Try.underlying54 (by kernel_rfl) (by omega)
    (fun n cs' y _ ht => by obtain ⟨x0, h0, _, w0⟩ := DataW.trod_int Try.underlying3 ht; exact ⟨x0, h0, i64ok_of w0⟩) g0
  have hv0 : Value.slice a'0 n'0 c'0 = .slice a_l l.length c_l := by simpa [Value.cells] using e0
  obtain ⟨hc0, ok_l⟩ := ints_of_reps rp0
  rw [hc0] at s_l
  obtain ⟨mille, rfl, rfl, rfl, wf_mille⟩ := open_int Try.underlying3 (hval 1 3 v1 rfl rfl) h1
  rw [hv0]
  rw [hv0] at hW'
  refine (walk l a_l c_l mille W s_l).mono fun e W' ⟨he, hg⟩ => ?_
  subst he
  exact ⟨_, rfl, law_post laidOut rfl hW' hg (by kernel_rfl) (by kernel_rfl) Try.underlying4 rfl⟩

theorem over : Rows.metricQuantilesDivideRow.holds Try.pinned (OpenSpec.ofChange Rows.metricQuantilesDivideSpec) :=
  OpenClaim.holds_of_wide 6 Try.f6 rfl rfl rfl rfl rfl rfl rfl ⟨rfl, rfl, rfl, rfl, rfl⟩ rfl rfl rfl rfl rfl (by kernel_rfl) Try.func6 (by kernel_rfl)
    (of_decide_eq_true (by kernel_rfl)) (by unfold Func.isWrapper; first | (rw [if_pos (by decide +kernel)]; kernel_rfl) | (rw [if_neg (by decide +kernel)]; exact ⟨rfl, rfl⟩))
    (fun os started H enc _ => lifted os started H enc)

theorem proved : Rows.MetricQuantilesDivideSaid := over
end Go.Proofs.Ytbbfdkjamjmbmaa.lawQuant
