/- The mismatch is 0 just if all counts have their shares, and it does not change if all weights are doubled: for all counts and weights the law returns true. No condition but the card's own tables. Printed by gen_lawshr.py. -/
import Derived.Test.YtilolnjbpokdnaaDoorCards
import Derived.Test.YtilolnjbpokdnaaDoorTie
import Derived.Test.YtilolnjbpokdnaaDoorBh00
import Derived.Test.YtilolnjbpokdnaaDoorProg
import Derived.Test.YtilolnjbpokdnaaDoorBh22
import Derived.Deep.DeepHandedRow
import Derived.Lib.LaidTab
import Derived.LaidMore
import Derived.LaidSub
import Derived.MakeChecks
namespace Go.Proofs.YtilolnjbpokdnaaDoor.lawShr
open Go.ChangeShapes Go.WideShapes Go.ChangeAt Go.RowKit _root_.Go.Proofs.YtilolnjbpokdnaaDoor.Nm
open _root_.Go.Proofs.YtilolnjbpokdnaaDoor.Nt (Tab Tab.ext)

theorem ints_of_reps : ∀ {l : List Int} {cs : List Value}, Reps (fun (s : Int) c => c = [Value.int .i64 s] ∧ i64ok s) l cs → cs = l.map (Value.int .i64) ∧ ∀ e ∈ l, i64ok e
 | [], _, h => ⟨h, fun _ h => by cases h⟩
 | _ :: _, _, ⟨c, r, e, h1, h2⟩ => by
  subst e; obtain ⟨h1, ho⟩ := h1; subst h1
  obtain ⟨i1, i2⟩ := ints_of_reps h2
  exact ⟨by rw [List.map_cons, i1]; rfl, fun x hx => (List.mem_cons.1 hx).elim (fun h => h ▸ ho) (i2 x)⟩
theorem flats_of_reps {α : Type} {cellsF : α → List Value} {okF : α → Prop} : ∀ {l : List α} {cs : List Value}, Reps (fun s c => c = cellsF s ∧ okF s) l cs → cs = l.flatMap cellsF ∧ ∀ e ∈ l, okF e
 | [], _, h => ⟨h, fun _ h => by cases h⟩
 | _ :: _, _, ⟨c, r, e, h1, h2⟩ => by
  subst e; obtain ⟨h1, ho⟩ := h1; subst h1
  obtain ⟨i1, i2⟩ := flats_of_reps h2
  exact ⟨by rw [List.flatMap_cons, i1], fun x hx => (List.mem_cons.1 hx).elim (fun h => h ▸ ho) (i2 x)⟩

/-- the table of strconv, off the row's list -/
theorem tab_of {W : World} (h : laidMetH Tryd.prog Rows.metricMismatchIsOfSharesRow.laid W) : Nt.Tab W := by
 rw [MakeChecks.laidMetH_plain _ _ _ (by kernel_rfl)] at h
 have h2 := h.filter (fun x => x.1 == "internal/strconv.uint64pow10")
 rw [show List.filter (fun x : String × DataW Unit => x.1 == "internal/strconv.uint64pow10") Rows.metricMismatchIsOfSharesRow.laid = [("internal/strconv.uint64pow10", Lib.tabData .u64 Lib.pow10Tab)] by kernel_rfl] at h2
 exact Lib.tabIs_of_head (g := 0) (t := 111) (e := 53) (n := 20) (by kernel_rfl) (by kernel_rfl) (by kernel_rfl) (by kernel_rfl) (by kernel_rfl) (by kernel_rfl) h2

set_option maxRecDepth 100000 in
/-- what the walk gives, for all arguments -/
theorem contract (H : Type) (enc : TypeId × Value → H) (W : World) (base : Nat) (args : Array Value) (ds gs : List (DataW H)) (before : List MemPlace)
  (hval0 : ∀ (j : Nat) t v, Tryd.f3.params[j]? = some t → args[j]? = some v → Value.okWide Tryd.prog W .any base t v)
  (hW : DataW.Whole enc Tryd.prog Tryd.f3.params.toList Rows.metricMismatchIsOfSharesSpec.vars false W args.toList ds gs before)
  (hsz0 : (DataW.weightsEach Tryd.prog (Tryd.f3.params.toList ++ Rows.metricMismatchIsOfSharesSpec.plain.varTypes Tryd.prog) (ds ++ gs)).all (· ≤ reachBytes) = true)
  (hlaid : laidMetH Tryd.prog Rows.metricMismatchIsOfSharesRow.laid W) (_hshape : W.ShapedOpen Tryd.prog) :
  Calls Tryd.prog 3 args W fun e W' => ∃ v, e = .returned v ∧ Rows.metricMismatchIsOfSharesSpec.post enc Tryd.prog Tryd.f3 false true false false W args v W' := by
 have hval : ∀ (j : Nat) t v, Tryd.f3.params[j]? = some t → args[j]? = some v → Value.okWide Tryd.prog W .any base t v := hval0
 have hsz : (DataW.weightsEach Tryd.prog (Tryd.f3.params.toList ++ Rows.metricMismatchIsOfSharesSpec.plain.varTypes Tryd.prog) (ds ++ gs)).all (· ≤ reachBytes) = true := hsz0
 clear hval0 hsz0
 have hW' := hW
 obtain ⟨p, q, hA0, hV, rfl, hfz, hnd⟩ := hW
 have hA : DataW.TrodAll enc Tryd.prog W 0 (fun _ => true) true Tryd.f3.params.toList args.toList ds p := hA0
 rw [Tryd.params3] at hA hval hsz
 obtain ⟨v0, vs0, d0, ds0, p0, q0, hargs, rfl, rfl, h0, r0⟩ := trodAll_cons hA
 obtain ⟨v1, vs1, d1, ds1, p1, q1, rfl, rfl, rfl, h1, r1⟩ := trodAll_cons r0
 obtain ⟨rfl, rfl, rfl⟩ := trodAll_nil r1
 obtain rfl : args = #[v0, v1] := by cases args; simp_all
 obtain ⟨rfl, rfl⟩ := trodVars_none hV
 obtain ⟨n0, g0⟩ := h0
 obtain ⟨a'0, n'0, c'0, rfl⟩ := okWide_slice Tryd.underlying22 (hval 0 22 v0 rfl rfl)
 obtain ⟨a_cs, cs, c_cs, cells0, e0, s_cs, rp0⟩ := read_slice (R := fun (s : Int) c => c = [Value.int .i64 s] ∧ i64ok s) (sz := 1) (by rintro x c ⟨rfl, _⟩; rfl) Tryd.underlying22 (by kernel_rfl) (by omega)
  (fun n cs' y _ ht => by obtain ⟨x0, h0, _, w0⟩ := DataW.trod_int Tryd.underlying3 ht; exact ⟨x0, h0, i64ok_of w0⟩) g0
 have hv0 : Value.slice a'0 n'0 c'0 = .slice a_cs cs.length c_cs := by simpa [Value.cells] using e0
 obtain ⟨hc0, ok_cs⟩ := ints_of_reps rp0
 rw [hc0] at s_cs
 obtain ⟨n1, g1⟩ := h1
 obtain ⟨a'1, n'1, c'1, rfl⟩ := okWide_slice Tryd.underlying22 (hval 1 22 v1 rfl rfl)
 obtain ⟨a_xs, xs, c_xs, cells1, e1, s_xs, rp1⟩ := read_slice (R := fun (s : Int) c => c = [Value.int .i64 s] ∧ i64ok s) (sz := 1) (by rintro x c ⟨rfl, _⟩; rfl) Tryd.underlying22 (by kernel_rfl) (by omega)
  (fun n cs' y _ ht => by obtain ⟨x0, h0, _, w0⟩ := DataW.trod_int Tryd.underlying3 ht; exact ⟨x0, h0, i64ok_of w0⟩) g1
 have hv1 : Value.slice a'1 n'1 c'1 = .slice a_xs xs.length c_xs := by simpa [Value.cells] using e1
 obtain ⟨hc1, ok_xs⟩ := ints_of_reps rp1
 rw [hc1] at s_xs
 rw [hv0, hv1]
 rw [hv0, hv1] at hW'
 refine (shr_walk cs xs a_cs a_xs c_cs c_xs W s_cs s_xs (tab_of hlaid)).mono fun e W' ⟨he, hg⟩ => ?_
 subst he
 exact ⟨_, rfl, law_post laidOut rfl hW' hg (by kernel_rfl) (by kernel_rfl) Tryd.underlying4 rfl⟩


/-- A world for the witness: the settled one, its heap the one that the door's own run leaves. -/
noncomputable def laidWorld (os : Os) : World := World.doorLaid Tryd.prog 4000 os
set_option maxRecDepth 100000 in
theorem laid_met (os : Os) : laidMet Tryd.prog Rows.metricMismatchIsOfSharesRow.laid ((laidWorld os).forCall (fun _ _ => 0) ⟨#[], #[.slice none 0 0, .slice none 0 0], []⟩).memory :=
 laidMet_of_run' 8 (by kernel_rfl) (by kernel_rfl)
theorem reads (os : Os) {H : Type} (enc : TypeId × Value → H) : ∃ places, DataW.whole enc Tryd.prog ((laidWorld os).forCall (fun _ _ => 0) ⟨#[], #[.slice none 0 0, .slice none 0 0], []⟩).memory Tryd.f3.params.toList Rows.metricMismatchIsOfSharesSpec.vars false #[.slice none 0 0, .slice none 0 0].toList 8 = some ([.nil, .nil], [], places) :=
 ⟨[], by kernel_rfl⟩
set_option maxRecDepth 100000 in
theorem lifted (os : Os) (started : os.Started) (H : Type) (enc : TypeId × Value → H) (F : Stop.Interp) :
  ReturnsInHanded {} Tryd.checked os 3 .any ((OpenSpec.ofChange Rows.metricMismatchIsOfSharesSpec).preRow enc Tryd.prog Tryd.f3 Rows.metricMismatchIsOfSharesRow.domain false Rows.metricMismatchIsOfSharesRow.laid) (((OpenSpec.ofChange Rows.metricMismatchIsOfSharesSpec).at F).post enc Tryd.prog Tryd.f3 false true false false) := by
 obtain ⟨places, hx⟩ := reads os enc
 refine returnsInHanded_of_row (C := Tryd.checked) (s := OpenSpec.ofChange Rows.metricMismatchIsOfSharesSpec) own started (by kernel_rfl) Tryd.func3
  (witness_row_at (enc := enc) (C := Tryd.checked) false (laidWorld os) #[.slice none 0 0, .slice none 0 0] rfl (by kernel_rfl) (by kernel_rfl) (by kernel_rfl)
   (OpenSpec.preRow_of_cond 8 hx (by kernel_rfl) (fun k hk => by cases hk) (by kernel_rfl) (laid_met os))) ?_
 intro W base args ds gs before hval hW _ _ hsz hlaid hshape _
 exact contract H enc W base args ds gs before hval hW hsz hlaid hshape
theorem and2 {a b : Bool} (h : a = true) (k : b = true) : (a && b) = true := by rw [h, k]; rfl
set_option maxRecDepth 100000 in
set_option maxHeartbeats 8000000 in
/-- the row's closed facts, one after the other (all at once they are too much for the kernel) -/
theorem closed : joinedFacts Tryd.checked.prog 3 Tryd.f3 (OpenSpec.ofChange Rows.metricMismatchIsOfSharesSpec).bare Rows.metricMismatchIsOfSharesRow = true := by
 unfold joinedFacts
 repeat' with_reducible refine and2 ?_ ?_
 all_goals as_aux_lemma => kernel_rfl
theorem said : Rows.MetricMismatchIsOfSharesSaid :=
 OpenClaim.holds_of_cond 3 Tryd.f3 rfl rfl rfl rfl rfl rfl rfl ⟨rfl, rfl, rfl, rfl, rfl⟩ rfl rfl rfl rfl rfl (by kernel_rfl) Tryd.func3 closed
  (of_decide_eq_true (by kernel_rfl)) (by unfold Func.isWrapper; first | (rw [if_pos (by decide +kernel)]; kernel_rfl) | (rw [if_neg (by decide +kernel)]; exact ⟨rfl, rfl⟩))
  (fun os started H enc _ F => by rw [OpenClaim.pre_eq_preRow]; exact lifted os started H enc F)
/-- No parameter wants a stand-in; the program's own looks are off. -/
theorem plain (f : FuncId) (fn : Func) (hf : Tryd.pinned.checked.prog.funcNamed "burgee/burgeelaw8.MetricMismatchIsOfShares" = some f) (hfn : Tryd.pinned.checked.prog.funcs[f]? = some fn) :
  false = Tryd.pinned.checked.prog.looks [] ∧ ∀ (j : Nat) t, fn.params[j]? = some t → Tryd.pinned.checked.prog.wantsStandIn t = false := by
 obtain rfl : f = 3 := Option.some.inj ((show Tryd.prog.funcNamed "burgee/burgeelaw8.MetricMismatchIsOfShares" = some 3 by kernel_rfl).symm.trans hf) |>.symm
 obtain rfl : fn = Tryd.f3 := (Option.some.inj (Tryd.func3.symm.trans hfn)).symm
 refine ⟨by kernel_rfl, fun j t ht => ?_⟩
 have hall : (Tryd.f3.params.toList.all fun t => !(Tryd.prog.wantsStandIn t)) = true := by kernel_rfl
 have h1 := List.all_eq_true.1 hall t (Array.mem_toList_iff.2 (Array.mem_of_getElem? ht))
 have h2 : Tryd.prog.wantsStandIn t = false := by simpa using h1
 exact h2
theorem proved : Rows.MetricMismatchIsOfSharesCardSaid :=
 Claim7.holds_tied_plain_at .later [] _ _ _ _ said (fun _ h => by cases h) (by kernel_rfl) (fun _ h => by cases h) metricMismatchIsOfShares_row_tie rfl ⟨rfl, rfl⟩ (by kernel_rfl) rfl plain (by kernel_rfl)
end Go.Proofs.YtilolnjbpokdnaaDoor.lawShr
