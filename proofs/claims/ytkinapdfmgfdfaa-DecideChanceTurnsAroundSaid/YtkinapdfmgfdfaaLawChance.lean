/- What is decided one way is decided the other way with the arms exchanged: for every test, all numbers of pairs and all thousandths the law returns true. No condition. -/
import Derived.Test.YtkinapdfmgfdfaaChanceL
import Derived.Test.YtkinapdfmgfdfaaAwake9
import Derived.Test.YtkinapdfmgfdfaaFrame
import Derived.Test.YtkinapdfmgfdfaaReadD
namespace Go.Proofs.Ytkinapdfmgfdfaa.lawChance
open Go.ChangeShapes Go.WideShapes Go.ChangeAt Go.RowKit Nm Ch

set_option maxRecDepth 100000 in
set_option maxHeartbeats 16000000 in
theorem walk (d k : Int) (n m : ByteArray) (hn : n.size ≤ maxLen) (hm : m.size ≤ maxLen) (p z o : Int) (w : World) :
    Calls Try.prog 4 #[.agg #[.int .i64 d, .int .i64 k, .string n, .string m], .int .i64 p, .int .i64 z, .int .i64 o] w fun e w' => e = .returned (.bool true) ∧ Below w.heap.size w w' := by
  go_enter Try.func4, Try.ntmps4
  go_upto_region 1 with (fail)
  refine wp_box1 fun w0 hsz hbw0 hA0 => ?_
  clear hsz
  go_wp2_with fail
  refine (awake_at _).mono ?_
  rintro e w1 ⟨rfl, hb1⟩
  have hA1 := hA0.ext hb1
  have hbw1 := ext_trans hbw0 hb1
  clear hA0 hb1 hbw0
  have t0 : w1.cell? ⟨w.heap.size, 0, none⟩ = some (.int .i64 d) := hA1.2 0
  have t1 : w1.cell? ⟨w.heap.size, 1, none⟩ = some (.int .i64 k) := hA1.2 1
  have t2 : w1.cell? ⟨w.heap.size, 2, none⟩ = some (.string n) := hA1.2 2
  have t3 : w1.cell? ⟨w.heap.size, 3, none⟩ = some (.string m) := hA1.2 3
  go_upto_region 4 with (fail)
  refine wp_box1r fun w2 hsz hb2 hB2 hF2 => ?_
  clear hsz t0 t1 t2 t3
  have hA2 := hA1.ext hb2
  have hbw2 := ext_trans hbw1 hb2
  have hlt : w.heap.size < w1.heap.size := hA1.1
  have hle : w.heap.size ≤ w1.heap.size := Nat.le_of_lt hlt
  clear hA1 hb2 hbw1
  generalize w1.heap.size = bu at *
  have t0 : w2.cell? ⟨w.heap.size, 0, none⟩ = some (.int .i64 d) := hA2.2 0
  have t1 : w2.cell? ⟨w.heap.size, 1, none⟩ = some (.int .i64 k) := hA2.2 1
  have t2 : w2.cell? ⟨w.heap.size, 2, none⟩ = some (.string n) := hA2.2 2
  have t3 : w2.cell? ⟨w.heap.size, 3, none⟩ = some (.string m) := hA2.2 3
  have u0 : w2.cell? ⟨bu, 0, none⟩ = some (.int .i64 d) := hB2.2 0
  have v0 := hF2 0
  by_cases h1 : d = 1
  · subst h1
    go_upto_region 9 with (fail)
    clear t0 t1 t2 t3 u0 v0
    obtain ⟨X, hX⟩ : ∃ X, X = w2.setCell ⟨bu, 0, none⟩ (.int .i64 2) := ⟨_, rfl⟩
    rw [← hX]
    have hBX : Box X bu #[.int .i64 2, .int .i64 k, .string n, .string m] := by rw [hX]; exact box_cell hB2 (j := 0) (by simp) (.int .i64 2)
    have hAX : Box X w.heap.size #[.int .i64 1, .int .i64 k, .string n, .string m] := by rw [hX]; exact box_other hA2 (Nat.ne_of_lt hlt) 0 _
    have hbX : Below w.heap.size w X := by rw [hX]; exact hbw2.setCell hle _
    clear hX hA2 hB2 hF2 hbw2
    have HT9 := Lib.hid (chan_turn (1) k n m p z o)
    have t0 : X.cell? ⟨w.heap.size, 0, none⟩ = some (.int .i64 (1)) := hAX.2 0
    have t1 : X.cell? ⟨w.heap.size, 1, none⟩ = some (.int .i64 k) := hAX.2 1
    have t2 : X.cell? ⟨w.heap.size, 2, none⟩ = some (.string n) := hAX.2 2
    have t3 : X.cell? ⟨w.heap.size, 3, none⟩ = some (.string m) := hAX.2 3
    go_wp2_with fail
    refine (chance_at (1) k n m hn hm p z o _).mono ?_
    rintro e w4 ⟨rfl, hb4⟩
    have hBX4 := hBX.ext hb4
    have hbw4 := ext_trans hbX hb4
    clear t0 t1 t2 t3 hAX hBX hbX hb4
    go_upto_region 10 with (fail)
    refine wp_box1 fun w5 hsz hb5 hC5 => ?_
    clear hsz
    have hBX5 := hBX4.ext hb5
    have hbw5 := ext_trans hbw4 hb5
    clear hBX4 hbw4 hb5
    generalize w4.heap.size = ba at *
    have t0 : w5.cell? ⟨bu, 0, none⟩ = some (.int .i64 (2)) := hBX5.2 0
    have t1 : w5.cell? ⟨bu, 1, none⟩ = some (.int .i64 k) := hBX5.2 1
    have t2 : w5.cell? ⟨bu, 2, none⟩ = some (.string n) := hBX5.2 2
    have t3 : w5.cell? ⟨bu, 3, none⟩ = some (.string m) := hBX5.2 3
    go_wp2_with fail
    refine (chance_at (2) k n m hn hm p o z _).mono ?_
    rintro e w6 ⟨rfl, hb6⟩
    rw [show (2 : Int) = turnD (1) from rfl]
    have h9 := HT9.out
    rw [h9.1, h9.2.1, h9.2.2]
    have hC6 := hC5.ext hb6
    have hbw6 := ext_trans hbw5 hb6
    clear t0 t1 t2 t3 hBX5 hC5 hbw5 hb6 h9 HT9
    generalize chanN (1) k n m p z o = RN at *
    generalize chanD (1) k n m p z o = RD at *
    generalize chanF (1) k n m p z o = RF at *
    go_upto_region 11 with (fail)
    refine wp_box1 fun w7 hsz hb7 hD7 => ?_
    clear hsz
    have hC7 := hC6.ext hb7
    have hbw7 := ext_trans hbw6 hb7
    generalize w6.heap.size = bb at *
    have a0 : w7.cell? ⟨ba, 0, none⟩ = some (.string RN) := hC7.2 0
    have a1 : w7.cell? ⟨ba, 1, none⟩ = some (.string RD) := hC7.2 1
    have b0 : w7.cell? ⟨bb, 0, none⟩ = some (.string RN) := hD7.2 0
    have b1 : w7.cell? ⟨bb, 1, none⟩ = some (.string RD) := hD7.2 1
    have hq : (RF == RF) = true := by simp
    clear hC6 hC7 hD7 hb7 hbw6
    go_wp2
    go_ret
    exact ⟨rfl, hbw7⟩
  · by_cases h2 : d = 2
    · subst h2
      go_upto_region 9 with (fail)
      clear t0 t1 t2 t3 u0 v0
      obtain ⟨X, hX⟩ : ∃ X, X = w2.setCell ⟨bu, 0, none⟩ (.int .i64 1) := ⟨_, rfl⟩
      rw [← hX]
      have hBX : Box X bu #[.int .i64 1, .int .i64 k, .string n, .string m] := by rw [hX]; exact box_cell hB2 (j := 0) (by simp) (.int .i64 1)
      have hAX : Box X w.heap.size #[.int .i64 2, .int .i64 k, .string n, .string m] := by rw [hX]; exact box_other hA2 (Nat.ne_of_lt hlt) 0 _
      have hbX : Below w.heap.size w X := by rw [hX]; exact hbw2.setCell hle _
      clear hX hA2 hB2 hF2 hbw2
      have HT9 := Lib.hid (chan_turn (2) k n m p z o)
      have t0 : X.cell? ⟨w.heap.size, 0, none⟩ = some (.int .i64 (2)) := hAX.2 0
      have t1 : X.cell? ⟨w.heap.size, 1, none⟩ = some (.int .i64 k) := hAX.2 1
      have t2 : X.cell? ⟨w.heap.size, 2, none⟩ = some (.string n) := hAX.2 2
      have t3 : X.cell? ⟨w.heap.size, 3, none⟩ = some (.string m) := hAX.2 3
      go_wp2_with fail
      refine (chance_at (2) k n m hn hm p z o _).mono ?_
      rintro e w4 ⟨rfl, hb4⟩
      have hBX4 := hBX.ext hb4
      have hbw4 := ext_trans hbX hb4
      clear t0 t1 t2 t3 hAX hBX hbX hb4
      go_upto_region 10 with (fail)
      refine wp_box1 fun w5 hsz hb5 hC5 => ?_
      clear hsz
      have hBX5 := hBX4.ext hb5
      have hbw5 := ext_trans hbw4 hb5
      clear hBX4 hbw4 hb5
      generalize w4.heap.size = ba at *
      have t0 : w5.cell? ⟨bu, 0, none⟩ = some (.int .i64 (1)) := hBX5.2 0
      have t1 : w5.cell? ⟨bu, 1, none⟩ = some (.int .i64 k) := hBX5.2 1
      have t2 : w5.cell? ⟨bu, 2, none⟩ = some (.string n) := hBX5.2 2
      have t3 : w5.cell? ⟨bu, 3, none⟩ = some (.string m) := hBX5.2 3
      go_wp2_with fail
      refine (chance_at (1) k n m hn hm p o z _).mono ?_
      rintro e w6 ⟨rfl, hb6⟩
      rw [show (1 : Int) = turnD (2) from rfl]
      have h9 := HT9.out
      rw [h9.1, h9.2.1, h9.2.2]
      have hC6 := hC5.ext hb6
      have hbw6 := ext_trans hbw5 hb6
      clear t0 t1 t2 t3 hBX5 hC5 hbw5 hb6 h9 HT9
      generalize chanN (2) k n m p z o = RN at *
      generalize chanD (2) k n m p z o = RD at *
      generalize chanF (2) k n m p z o = RF at *
      go_upto_region 11 with (fail)
      refine wp_box1 fun w7 hsz hb7 hD7 => ?_
      clear hsz
      have hC7 := hC6.ext hb7
      have hbw7 := ext_trans hbw6 hb7
      generalize w6.heap.size = bb at *
      have a0 : w7.cell? ⟨ba, 0, none⟩ = some (.string RN) := hC7.2 0
      have a1 : w7.cell? ⟨ba, 1, none⟩ = some (.string RD) := hC7.2 1
      have b0 : w7.cell? ⟨bb, 0, none⟩ = some (.string RN) := hD7.2 0
      have b1 : w7.cell? ⟨bb, 1, none⟩ = some (.string RD) := hD7.2 1
      have hq : (RF == RF) = true := by simp
      clear hC6 hC7 hD7 hb7 hbw6
      go_wp2
      go_ret
      exact ⟨rfl, hbw7⟩
    · have hq1 : (d == 1) = false := by simpa using h1
      have hq2 : (d == 2) = false := by simpa using h2
      have HT : Hid (d = turnD d) := by
        have : d = turnD d := by unfold turnD; rw [if_neg h1, if_neg h2]
        exact this
      clear h1 h2
      go_upto_region 9 with (fail)
      clear t0 t1 t2 t3 u0 v0
      obtain ⟨X, hX⟩ : ∃ X, X = w2 := ⟨_, rfl⟩
      rw [← hX]
      rw [← hX] at hB2 hA2 hbw2
      have hBX := hB2
      have hAX := hA2
      have hbX := hbw2
      clear hX hA2 hB2 hF2 hbw2 hq1 hq2
      have HT9 := Lib.hid (chan_turn (d) k n m p z o)
      have t0 : X.cell? ⟨w.heap.size, 0, none⟩ = some (.int .i64 (d)) := hAX.2 0
      have t1 : X.cell? ⟨w.heap.size, 1, none⟩ = some (.int .i64 k) := hAX.2 1
      have t2 : X.cell? ⟨w.heap.size, 2, none⟩ = some (.string n) := hAX.2 2
      have t3 : X.cell? ⟨w.heap.size, 3, none⟩ = some (.string m) := hAX.2 3
      go_wp2_with fail
      refine (chance_at (d) k n m hn hm p z o _).mono ?_
      rintro e w4 ⟨rfl, hb4⟩
      have hBX4 := hBX.ext hb4
      have hbw4 := ext_trans hbX hb4
      clear t0 t1 t2 t3 hAX hBX hbX hb4
      go_upto_region 10 with (fail)
      refine wp_box1 fun w5 hsz hb5 hC5 => ?_
      clear hsz
      have hBX5 := hBX4.ext hb5
      have hbw5 := ext_trans hbw4 hb5
      clear hBX4 hbw4 hb5
      generalize w4.heap.size = ba at *
      have t0 : w5.cell? ⟨bu, 0, none⟩ = some (.int .i64 (d)) := hBX5.2 0
      have t1 : w5.cell? ⟨bu, 1, none⟩ = some (.int .i64 k) := hBX5.2 1
      have t2 : w5.cell? ⟨bu, 2, none⟩ = some (.string n) := hBX5.2 2
      have t3 : w5.cell? ⟨bu, 3, none⟩ = some (.string m) := hBX5.2 3
      go_wp2_with fail
      refine (chance_at (d) k n m hn hm p o z _).mono ?_
      rintro e w6 ⟨rfl, hb6⟩
      have h9 := HT9.out
      rw [← HT.out] at h9
      rw [h9.1, h9.2.1, h9.2.2]
      have hC6 := hC5.ext hb6
      have hbw6 := ext_trans hbw5 hb6
      clear t0 t1 t2 t3 hBX5 hC5 hbw5 hb6 h9 HT9
      generalize chanN (d) k n m p z o = RN at *
      generalize chanD (d) k n m p z o = RD at *
      generalize chanF (d) k n m p z o = RF at *
      go_upto_region 11 with (fail)
      refine wp_box1 fun w7 hsz hb7 hD7 => ?_
      clear hsz
      have hC7 := hC6.ext hb7
      have hbw7 := ext_trans hbw6 hb7
      generalize w6.heap.size = bb at *
      have a0 : w7.cell? ⟨ba, 0, none⟩ = some (.string RN) := hC7.2 0
      have a1 : w7.cell? ⟨ba, 1, none⟩ = some (.string RD) := hC7.2 1
      have b0 : w7.cell? ⟨bb, 0, none⟩ = some (.string RN) := hD7.2 0
      have b1 : w7.cell? ⟨bb, 1, none⟩ = some (.string RD) := hD7.2 1
      have hq : (RF == RF) = true := by simp
      clear hC6 hC7 hD7 hb7 hbw6
      go_wp2
      go_ret
      exact ⟨rfl, hbw7⟩

theorem ints_of_reps : ∀ {l : List Int} {cs : List Value}, Reps (fun (s : Int) c => c = [Value.int .i64 s] ∧ i64ok s) l cs → cs = l.map (Value.int .i64) ∧ ∀ e ∈ l, i64ok e
  | [], _, h => ⟨h, fun _ h => by cases h⟩
  | _ :: _, _, ⟨c, r, e, h1, h2⟩ => by
    subst e; obtain ⟨h1, ho⟩ := h1; subst h1
    obtain ⟨i1, i2⟩ := ints_of_reps h2
    exact ⟨by rw [List.map_cons, i1]; rfl, fun x hx => (List.mem_cons.1 hx).elim (fun h => h ▸ ho) (i2 x)⟩
theorem flats_of_reps {α : Type} {cellsF : α → List Value} {okF : α → Prop} : ∀ {l : List α} {cs : List Value}, Reps (fun s c => c = cellsF s ∧ okF s) l cs → cs = l.flatMap cellsF ∧ ∀ e ∈ l, okF e
  | [], _, h => ⟨h, fun _ h => by cases h⟩
  | _ :: _, _, ⟨c, r, e, h1, h2⟩ => by
    subst e; obtain ⟨h1, ho⟩ := h1; subst h1
    obtain ⟨i1, i2⟩ := flats_of_reps h2
    exact ⟨by rw [List.flatMap_cons, i1], fun x hx => (List.mem_cons.1 hx).elim (fun h => h ▸ ho) (i2 x)⟩
set_option maxRecDepth 100000 in
theorem lifted (os : Os) (started : os.Started) (H : Type) (enc : TypeId × Value → H) :
    ReturnsInHanded {} Try.checked os 4 .any (Rows.decideChanceTurnsAroundSpec.pre6 enc Try.prog Try.f4 Rows.decideChanceTurnsAroundRow.domain false) (Rows.decideChanceTurnsAroundSpec.post enc Try.prog Try.f4 false true false false) := by
  refine returnsInHanded_of_change_sized (C := Try.checked) own started (by kernel_rfl) Try.func4
    (ChangeSpec.witness6 (enc := enc) (C := Try.checked) false ⟨#[], #[.agg #[.int .i64 0, .int .i64 0, .string ByteArray.empty, .string ByteArray.empty], .int .i64 0, .int .i64 0, .int .i64 0], []⟩ 8 (by kernel_rfl) (by kernel_rfl) (by kernel_rfl) (by kernel_rfl)) ?_
  intro W base args ds gs before hval0 hW hcnd hsz0 _
  have hval : ∀ (j : Nat) t v, Try.f4.params[j]? = some t → args[j]? = some v → Value.okWide Try.prog W .any base t v := hval0
  have hsz : (DataW.weightsEach Try.prog (Try.f4.params.toList ++ Rows.decideChanceTurnsAroundSpec.plain.varTypes Try.prog) (ds ++ gs)).all (· ≤ reachBytes) = true := hsz0
  have hW' := hW
  obtain ⟨p, q, hA0, hV, rfl, hfz, hnd⟩ := hW
  have hA : DataW.TrodAll enc Try.prog W 0 (fun _ => true) true Try.f4.params.toList args.toList ds p := hA0
  rw [Try.params4] at hA hval hsz
  obtain ⟨v0, vs0, d0, ds0, p0, q0, hargs, rfl, rfl, h0, r0⟩ := trodAll_cons hA
  obtain ⟨v1, vs1, d1, ds1, p1, q1, rfl, rfl, rfl, h1, r1⟩ := trodAll_cons r0
  obtain ⟨v2, vs2, d2, ds2, p2, q2, rfl, rfl, rfl, h2, r2⟩ := trodAll_cons r1
  obtain ⟨v3, vs3, d3, ds3, p3, q3, rfl, rfl, rfl, h3, r3⟩ := trodAll_cons r2
  obtain ⟨rfl, rfl, rfl⟩ := trodAll_nil r3
  obtain rfl : args = #[v0, v1, v2, v3] := by cases args; simp_all
  obtain ⟨rfl, rfl⟩ := trodVars_none hV
  obtain ⟨n0, g0⟩ := h0
  obtain ⟨d, k, n, m, e0, _, _, zn, zm⟩ := read_Test _ _ _ g0
  have hv0 : v0 = .agg #[.int .i64 d, .int .i64 k, .string n, .string m] := by rw [agg_of_cells (v := v0) (by rw [e0]; simp), e0]
  subst hv0
  obtain ⟨p, rfl, rfl, rfl, wf_p⟩ := open_int Try.underlying3 (hval 1 3 v1 rfl rfl) h1
  obtain ⟨z, rfl, rfl, rfl, wf_z⟩ := open_int Try.underlying3 (hval 2 3 v2 rfl rfl) h2
  obtain ⟨o, rfl, rfl, rfl, wf_o⟩ := open_int Try.underlying3 (hval 3 3 v3 rfl rfl) h3
  refine (walk d k n m zn zm p z o W).mono fun e W' ⟨he, hg⟩ => ?_
  subst he
  exact ⟨_, rfl, law_post laidOut rfl hW' hg (by kernel_rfl) (by kernel_rfl) Try.underlying4 rfl⟩

theorem over : Rows.decideChanceTurnsAroundRow.holds Try.pinned (OpenSpec.ofChange Rows.decideChanceTurnsAroundSpec) :=
  OpenClaim.holds_of_wide 4 Try.f4 rfl rfl rfl rfl rfl rfl rfl ⟨rfl, rfl, rfl, rfl, rfl⟩ rfl rfl rfl rfl rfl (by kernel_rfl) Try.func4 (by kernel_rfl)
    (of_decide_eq_true (by kernel_rfl)) (by unfold Func.isWrapper; first | (rw [if_pos (by decide +kernel)]; kernel_rfl) | (rw [if_neg (by decide +kernel)]; exact ⟨rfl, rfl⟩))
    (fun os started H enc _ => lifted os started H enc)

theorem proved : Rows.DecideChanceTurnsAroundSaid := over
end Go.Proofs.Ytkinapdfmgfdfaa.lawChance
