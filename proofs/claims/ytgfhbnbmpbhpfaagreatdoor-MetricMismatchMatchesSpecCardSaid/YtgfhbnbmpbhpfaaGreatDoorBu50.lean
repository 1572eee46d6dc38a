/- Mismatch is as specified, with all errors: for all counts and weights the law returns true. No condition but the card's own tables. Printed by gen_lawmis.py. -/
import Derived.Test.YtgfhbnbmpbhpfaaGreatDoorCards
import Derived.Test.YtgfhbnbmpbhpfaaGreatDoorTie
import Derived.Test.YtgfhbnbmpbhpfaaGreatDoorBu00
import Derived.Test.YtgfhbnbmpbhpfaaGreatDoorBu49
import Derived.Deep.DeepHandedRow
import Derived.Lib.LaidTab
import Derived.LaidMore
import Derived.LaidSub
import Derived.MakeChecks
namespace Go.Proofs.YtgfhbnbmpbhpfaaGreatDoor.lawMis
open Go.ChangeShapes Go.WideShapes Go.ChangeAt Go.RowKit _root_.Go.Proofs.YtgfhbnbmpbhpfaaGreatDoor.Nm
open _root_.Go.Proofs.YtgfhbnbmpbhpfaaGreatDoor.Nt (Tab Tab.ext)
set_option maxRecDepth 100000 in
set_option maxHeartbeats 8000000 in
theorem walk (cs xs : List Int) (a b : Option Addr) (c d : Nat) (w : World) (hs : Sl w (.slice a cs.length c) cs.length (cs.map (Value.int .i64))) (hs2 : Sl w (.slice b xs.length d) xs.length (xs.map (Value.int .i64))) (ht : Tab w) :
    Calls Tryz.prog 7 #[.slice a cs.length c, .slice b xs.length d] w fun e w' => e = .returned (.bool true) ∧ Below w.heap.size w w' := by
  obtain ⟨an, h1⟩ : ∃ z, misN cs xs = z := ⟨_, rfl⟩
  obtain ⟨ad, h2⟩ : ∃ z, misD cs xs = z := ⟨_, rfl⟩
  obtain ⟨af, h3⟩ : ∃ z, misF cs xs = z := ⟨_, rfl⟩
  have H_a := Lib.hid (And.intro h1 (And.intro h2 h3))
  have H := Lib.hid (And.intro hs hs2)
  clear h1 h2 h3 hs hs2
  go_enter Tryz.func7, Tryz.ntmps7
  have HT0 := Lib.hid ht
  clear ht
  go_wp2_with fail
  refine (mism_at cs xs a b c d w H.out.1 H.out.2).mono ?_
  rintro e w1' ⟨rfl, hbz⟩
  rw [H_a.out.1, H_a.out.2.1, H_a.out.2.2]
  have HW := Lib.hid hbz
  clear hbz
  go_upto_region 2 with (fail)
  refine wp_box1 fun w2' hsz hbz hC => ?_
  clear hsz
  have le_x : w.heap.size ≤ w1'.heap.size := HW.out.size
  replace HW := Lib.hid (ext_trans HW.out hbz)
  clear hbz
  have HB_x := Lib.hid hC
  clear hC
  generalize w1'.heap.size = b_x at *
  go_wp2_with fail
  refine (Nt.refMism_at cs xs a b c d w2' (H.out.1.ext HW.out) (H.out.2.ext HW.out) (HT0.out.ext HW.out)).mono ?_
  rintro e w3' ⟨rfl, hbz⟩
  rw [H_a.out.1, H_a.out.2.1, H_a.out.2.2]
  replace HB_x := Lib.hid (HB_x.out.ext hbz)
  replace HW := Lib.hid (ext_trans HW.out hbz)
  clear hbz
  go_upto_region 3 with (fail)
  refine wp_box1 fun w4' hsz hbz hC => ?_
  clear hsz
  have lt_x_y : b_x < w3'.heap.size := HB_x.out.1
  have le_y : w.heap.size ≤ w3'.heap.size := HW.out.size
  replace HB_x := Lib.hid (HB_x.out.ext hbz)
  replace HW := Lib.hid (ext_trans HW.out hbz)
  clear hbz
  have HB_y := Lib.hid hC
  clear hC
  generalize w3'.heap.size = b_y at *
  have c_x_0 : w4'.cell? ⟨b_x, 0, none⟩ = some (.string an) := HB_x.out.2 0
  have c_x_1 : w4'.cell? ⟨b_x, 1, none⟩ = some (.string ad) := HB_x.out.2 1
  have c_y_0 : w4'.cell? ⟨b_y, 0, none⟩ = some (.string an) := HB_y.out.2 0
  have c_y_1 : w4'.cell? ⟨b_y, 1, none⟩ = some (.string ad) := HB_y.out.2 1
  go_wp2
  go_ret
  exact ⟨by simp, HW.out⟩

theorem ints_of_reps : ∀ {l : List Int} {cs : List Value}, Reps (fun (s : Int) c => c = [Value.int .i64 s] ∧ i64ok s) l cs → cs = l.map (Value.int .i64) ∧ ∀ e ∈ l, i64ok e
  | [], _, h => ⟨h, fun _ h => by cases h⟩
  | _ :: _, _, ⟨c, r, e, h1, h2⟩ => by
    subst e; obtain ⟨h1, ho⟩ := h1; subst h1
    obtain ⟨i1, i2⟩ := ints_of_reps h2
    exact ⟨by rw [List.map_cons, i1]; rfl, fun x hx => (List.mem_cons.1 hx).elim (fun h => h ▸ ho) (i2 x)⟩
theorem flats_of_reps {α : Type} {cellsF : α → List Value} {okF : α → Prop} : ∀ {l : List α} {cs : List Value}, Reps (fun s c => c = cellsF s ∧ okF s) l cs → cs = l.flatMap cellsF ∧ ∀ e ∈ l, okF e
  | [], _, h => ⟨h, fun _ h => by cases h⟩
  | _ :: _, _, ⟨c, r, e, h1, h2⟩ => by
    subst e; obtain ⟨h1, ho⟩ := h1; subst h1
    obtain ⟨i1, i2⟩ := flats_of_reps h2
    exact ⟨by rw [List.flatMap_cons, i1], fun x hx => (List.mem_cons.1 hx).elim (fun h => h ▸ ho) (i2 x)⟩

/-- the table of strconv, off the row's list -/
theorem tab_of {W : World} (h : laidMetH Tryz.prog Rows.metricMismatchMatchesSpecRow.laid W) : Nt.Tab W := by
  rw [MakeChecks.laidMetH_plain _ _ _ (by kernel_rfl)] at h
  have h2 := h.filter (fun x => x.1 == "internal/strconv.uint64pow10")
  rw [show List.filter (fun x : String × DataW Unit => x.1 == "internal/strconv.uint64pow10") Rows.metricMismatchMatchesSpecRow.laid = [("internal/strconv.uint64pow10", Lib.tabData .u64 Lib.pow10Tab)] by kernel_rfl] at h2
  exact Lib.tabIs_of_head (g := 3) (t := 312) (e := 218) (n := 20) (by kernel_rfl) (by kernel_rfl) (by kernel_rfl) (by kernel_rfl) (by kernel_rfl) (by kernel_rfl) h2

set_option maxRecDepth 100000 in
/-- what the walk gives, for all arguments -/
theorem contract (H : Type) (enc : TypeId × Value → H) (W : World) (base : Nat) (args : Array Value) (ds gs : List (DataW H)) (before : List MemPlace)
    (hval0 : ∀ (j : Nat) t v, Tryz.f7.params[j]? = some t → args[j]? = some v → Value.okWide Tryz.prog W .any base t v)
    (hW : DataW.Whole enc Tryz.prog Tryz.f7.params.toList Rows.metricMismatchMatchesSpecSpec.vars false W args.toList ds gs before)
    (hsz0 : (DataW.weightsEach Tryz.prog (Tryz.f7.params.toList ++ Rows.metricMismatchMatchesSpecSpec.plain.varTypes Tryz.prog) (ds ++ gs)).all (· ≤ reachBytes) = true)
    (hlaid : laidMetH Tryz.prog Rows.metricMismatchMatchesSpecRow.laid W) (_hshape : W.ShapedOpen Tryz.prog) :
    Calls Tryz.prog 7 args W fun e W' => ∃ v, e = .returned v ∧ Rows.metricMismatchMatchesSpecSpec.post enc Tryz.prog Tryz.f7 false true false false W args v W' := by
  have hval : ∀ (j : Nat) t v, Tryz.f7.params[j]? = some t → args[j]? = some v → Value.okWide Tryz.prog W .any base t v := hval0
  have hsz : (DataW.weightsEach Tryz.prog (Tryz.f7.params.toList ++ Rows.metricMismatchMatchesSpecSpec.plain.varTypes Tryz.prog) (ds ++ gs)).all (· ≤ reachBytes) = true := hsz0
  clear hval0 hsz0
  have hW' := hW
  obtain ⟨p, q, hA0, hV, rfl, hfz, hnd⟩ := hW
  have hA : DataW.TrodAll enc Tryz.prog W 0 (fun _ => true) true Tryz.f7.params.toList args.toList ds p := hA0
  rw [Tryz.params7] at hA hval hsz
  obtain ⟨v0, vs0, d0, ds0, p0, q0, hargs, rfl, rfl, h0, r0⟩ := trodAll_cons hA
  obtain ⟨v1, vs1, d1, ds1, p1, q1, rfl, rfl, rfl, h1, r1⟩ := trodAll_cons r0
  obtain ⟨rfl, rfl, rfl⟩ := trodAll_nil r1
  obtain rfl : args = #[v0, v1] := by cases args; simp_all
  obtain ⟨rfl, rfl⟩ := trodVars_none hV
  obtain ⟨n0, g0⟩ := h0
  obtain ⟨a'0, n'0, c'0, rfl⟩ := okWide_slice Tryz.underlying35 (hval 0 35 v0 rfl rfl)
  obtain ⟨a_cs, cs, c_cs, cells0, e0, s_cs, rp0⟩ := read_slice (R := fun (s : Int) c => c = [Value.int .i64 s] ∧ i64ok s) (sz := 1) (by rintro x c ⟨rfl, _⟩; rfl) Tryz.underlying35 (by kernel_rfl) (by omega)
    (fun n cs' y _ ht => by obtain ⟨x0, h0, _, w0⟩ := DataW.trod_int Tryz.underlying3 ht; exact ⟨x0, h0, i64ok_of w0⟩) g0
  have hv0 : Value.slice a'0 n'0 c'0 = .slice a_cs cs.length c_cs := by simpa [Value.cells] using e0
  obtain ⟨hc0, ok_cs⟩ := ints_of_reps rp0
  rw [hc0] at s_cs
  obtain ⟨n1, g1⟩ := h1
  obtain ⟨a'1, n'1, c'1, rfl⟩ := okWide_slice Tryz.underlying35 (hval 1 35 v1 rfl rfl)
  obtain ⟨a_xs, xs, c_xs, cells1, e1, s_xs, rp1⟩ := read_slice (R := fun (s : Int) c => c = [Value.int .i64 s] ∧ i64ok s) (sz := 1) (by rintro x c ⟨rfl, _⟩; rfl) Tryz.underlying35 (by kernel_rfl) (by omega)
    (fun n cs' y _ ht => by obtain ⟨x0, h0, _, w0⟩ := DataW.trod_int Tryz.underlying3 ht; exact ⟨x0, h0, i64ok_of w0⟩) g1
  have hv1 : Value.slice a'1 n'1 c'1 = .slice a_xs xs.length c_xs := by simpa [Value.cells] using e1
  obtain ⟨hc1, ok_xs⟩ := ints_of_reps rp1
  rw [hc1] at s_xs
  rw [hv0, hv1]
  rw [hv0, hv1] at hW'
  refine (walk cs xs a_cs a_xs c_cs c_xs W s_cs s_xs (tab_of hlaid)).mono fun e W' ⟨he, hg⟩ => ?_
  subst he
  exact ⟨_, rfl, law_post laidOut rfl hW' hg (by kernel_rfl) (by kernel_rfl) Tryz.underlying4 rfl⟩


/-- A world for the witness: the settled one, its heap the one that the door's own run leaves. -/
noncomputable def laidWorld (os : Os) : World := World.doorLaid Tryz.prog 4000 os
set_option maxRecDepth 100000 in
theorem laid_met (os : Os) : laidMet Tryz.prog Rows.metricMismatchMatchesSpecRow.laid ((laidWorld os).forCall (fun _ _ => 0) ⟨#[], #[.slice none 0 0, .slice none 0 0], []⟩).memory :=
  laidMet_of_run' 8 (by kernel_rfl) (by kernel_rfl)
theorem reads (os : Os) {H : Type} (enc : TypeId × Value → H) : ∃ places, DataW.whole enc Tryz.prog ((laidWorld os).forCall (fun _ _ => 0) ⟨#[], #[.slice none 0 0, .slice none 0 0], []⟩).memory Tryz.f7.params.toList Rows.metricMismatchMatchesSpecSpec.vars false #[.slice none 0 0, .slice none 0 0].toList 8 = some ([.nil, .nil], [], places) :=
  ⟨[], by kernel_rfl⟩
set_option maxRecDepth 100000 in
theorem lifted (os : Os) (started : os.Started) (H : Type) (enc : TypeId × Value → H) (F : Stop.Interp) :
    ReturnsInHanded {} Tryz.checked os 7 .any ((OpenSpec.ofChange Rows.metricMismatchMatchesSpecSpec).preRow enc Tryz.prog Tryz.f7 Rows.metricMismatchMatchesSpecRow.domain false Rows.metricMismatchMatchesSpecRow.laid) (((OpenSpec.ofChange Rows.metricMismatchMatchesSpecSpec).at F).post enc Tryz.prog Tryz.f7 false true false false) := by
  obtain ⟨places, hx⟩ := reads os enc
  refine returnsInHanded_of_row (C := Tryz.checked) (s := OpenSpec.ofChange Rows.metricMismatchMatchesSpecSpec) own started (by kernel_rfl) Tryz.func7
    (witness_row_at (enc := enc) (C := Tryz.checked) false (laidWorld os) #[.slice none 0 0, .slice none 0 0] rfl (by kernel_rfl) (by kernel_rfl) (by kernel_rfl)
      (OpenSpec.preRow_of_cond 8 hx (by kernel_rfl) (fun k hk => by cases hk) (by kernel_rfl) (laid_met os))) ?_
  intro W base args ds gs before hval hW _ _ hsz hlaid hshape _
  exact contract H enc W base args ds gs before hval hW hsz hlaid hshape
theorem and2 {a b : Bool} (h : a = true) (k : b = true) : (a && b) = true := by rw [h, k]; rfl
set_option maxRecDepth 100000 in
set_option maxHeartbeats 8000000 in
/-- the row's closed facts, one after the other (all at once they are too much for the kernel) -/
theorem closed : joinedFacts Tryz.checked.prog 7 Tryz.f7 (OpenSpec.ofChange Rows.metricMismatchMatchesSpecSpec).bare Rows.metricMismatchMatchesSpecRow = true := by
  unfold joinedFacts
  repeat' with_reducible refine and2 ?_ ?_
  all_goals as_aux_lemma => kernel_rfl
theorem said : Rows.MetricMismatchMatchesSpecSaid :=
  OpenClaim.holds_of_cond 7 Tryz.f7 rfl rfl rfl rfl rfl rfl rfl ⟨rfl, rfl, rfl, rfl, rfl⟩ rfl rfl rfl rfl rfl (by kernel_rfl) Tryz.func7 closed
    (of_decide_eq_true (by kernel_rfl)) (by unfold Func.isWrapper; first | (rw [if_pos (by decide +kernel)]; kernel_rfl) | (rw [if_neg (by decide +kernel)]; exact ⟨rfl, rfl⟩))
    (fun os started H enc _ F => by rw [OpenClaim.pre_eq_preRow]; exact lifted os started H enc F)
/-- No parameter wants a stand-in; the program's own looks are off. -/
theorem plain (f : FuncId) (fn : Func) (hf : Tryz.pinned.checked.prog.funcNamed "burgee/burgeelaw8.MetricMismatchMatchesSpec" = some f) (hfn : Tryz.pinned.checked.prog.funcs[f]? = some fn) :
    true = Tryz.pinned.checked.prog.looks [] ∧ ∀ (j : Nat) t, fn.params[j]? = some t → Tryz.pinned.checked.prog.wantsStandIn t = false := by
  obtain rfl : f = 7 := Option.some.inj ((show Tryz.prog.funcNamed "burgee/burgeelaw8.MetricMismatchMatchesSpec" = some 7 by kernel_rfl).symm.trans hf) |>.symm
  obtain rfl : fn = Tryz.f7 := (Option.some.inj (Tryz.func7.symm.trans hfn)).symm
  refine ⟨by kernel_rfl, fun j t ht => ?_⟩
  have hall : (Tryz.f7.params.toList.all fun t => !(Tryz.prog.wantsStandIn t)) = true := by kernel_rfl
  have h1 := List.all_eq_true.1 hall t (Array.mem_toList_iff.2 (Array.mem_of_getElem? ht))
  have h2 : Tryz.prog.wantsStandIn t = false := by simpa using h1
  exact h2
theorem proved : Rows.MetricMismatchMatchesSpecCardSaid :=
  Claim7.holds_tied_plain_at .later [] _ _ _ _ said (fun _ h => by cases h) (by kernel_rfl) (fun _ h => by cases h) metricMismatchMatchesSpec_row_tie rfl ⟨rfl, rfl⟩ (by kernel_rfl) rfl plain (by kernel_rfl)
end Go.Proofs.YtgfhbnbmpbhpfaaGreatDoor.lawMis
