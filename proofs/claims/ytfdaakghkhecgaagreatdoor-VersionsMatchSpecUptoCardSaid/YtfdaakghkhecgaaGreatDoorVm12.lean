/- CheckVersion, ShowVersion, ReadVersion and CompareVersions are as specified, with all errors: for all versions and every text the law returns true. Condition: what is read is of bulk at most 1048576 (the form Upto), and the card's own tables. Printed by gen_lawver.py. -/
import Derived.Test.YtfdaakghkhecgaaGreatDoorCards
import Derived.Test.YtfdaakghkhecgaaGreatDoorTie
import Derived.Test.YtfdaakghkhecgaaGreatDoorVm00
import Derived.Test.YtfdaakghkhecgaaGreatDoorVm02
import Derived.Test.YtfdaakghkhecgaaGreatDoorVm11
import Derived.Deep.DeepHandedRow
import Derived.Lib.LaidTab
import Derived.LaidMore
import Derived.Lay
import Derived.LaidSub
import Derived.MakeChecks
namespace Go.Proofs.YtfdaakghkhecgaaGreatDoor.lawVmz
open Go.ChangeShapes Go.WideShapes Go.ChangeAt Go.RowKit _root_.Go.Proofs.YtfdaakghkhecgaaGreatDoor.Tx
open Go.ChangeMaps (open_string)
/-- the library's own bound, off the world's shape -/
theorem ml_of {W : World} (h : W.ShapedOpen Tryz.prog) : Tx.Ml W := Tryz.laysM146.s1_3 W h

theorem ints_of_reps : ∀ {l : List Int} {cs : List Value}, Reps (fun (s : Int) c => c = [Value.int .i64 s] ∧ i64ok s) l cs → cs = l.map (Value.int .i64) ∧ ∀ e ∈ l, i64ok e
 | [], _, h => ⟨h, fun _ h => by cases h⟩
 | _ :: _, _, ⟨c, r, e, h1, h2⟩ => by
  subst e; obtain ⟨h1, ho⟩ := h1; subst h1
  obtain ⟨i1, i2⟩ := ints_of_reps h2
  exact ⟨by rw [List.map_cons, i1]; rfl, fun x hx => (List.mem_cons.1 hx).elim (fun h => h ▸ ho) (i2 x)⟩
theorem flats_of_reps {α : Type} {cellsF : α → List Value} {okF : α → Prop} : ∀ {l : List α} {cs : List Value}, Reps (fun s c => c = cellsF s ∧ okF s) l cs → cs = l.flatMap cellsF ∧ ∀ e ∈ l, okF e
 | [], _, h => ⟨h, fun _ h => by cases h⟩
 | _ :: _, _, ⟨c, r, e, h1, h2⟩ => by
  subst e; obtain ⟨h1, ho⟩ := h1; subst h1
  obtain ⟨i1, i2⟩ := flats_of_reps h2
  exact ⟨by rw [List.flatMap_cons, i1], fun x hx => (List.mem_cons.1 hx).elim (fun h => h ▸ ho) (i2 x)⟩

theorem bulk_mem {H : Type} {d : DataW H} : ∀ {l : List (DataW H)}, d ∈ l → Rows.uptoBulk d ≤ Rows.uptoBulkAll l
 | [], h => by cases h
 | x :: r, h => by
  simp only [Rows.uptoBulkAll]
  cases List.mem_cons.1 h with
  | inl e => subst e; omega
  | inr e => have := bulk_mem e; omega
/-- a text among what is read: its length is within the bound -/
theorem bulk_str {H : Type} {l : List (DataW H)} (hk : Rows.uptoSmall H l = true) {s : List UInt8} (h : DataW.lit (.string s) ∈ l) : s.length ≤ 1048576 := by
 have h1 : Rows.uptoBulkAll l ≤ 1048576 := of_decide_eq_true hk
 have h2 := bulk_mem h
 simp only [Rows.uptoBulk] at h2
 omega
/-- the table of strconv, off the row's list -/
theorem tab_of {W : World} (h : laidMetH Tryz.prog Rows.versionsMatchSpecUptoRow.laid W) : Tx.Tb W := by
 rw [MakeChecks.laidMetH_plain _ _ _ (by kernel_rfl)] at h
 have h2 := h.filter (fun x => x.1 == "internal/strconv.uint64pow10")
 rw [show List.filter (fun x : String × DataW Unit => x.1 == "internal/strconv.uint64pow10") Rows.versionsMatchSpecUptoRow.laid = [("internal/strconv.uint64pow10", Lib.tabData .u64 Lib.pow10Tab)] by kernel_rfl] at h2
 exact Lib.tabIs_of_head (g := 3) (t := 112) (e := 93) (n := 20) (by kernel_rfl) (by kernel_rfl) (by kernel_rfl) (by kernel_rfl) (by kernel_rfl) (by kernel_rfl) h2

set_option maxRecDepth 100000 in
/-- what the walk gives, for all arguments -/
theorem contract (H : Type) (enc : TypeId × Value → H) (W : World) (base : Nat) (args : Array Value) (ds gs : List (DataW H)) (before : List MemPlace)
  (hval0 : ∀ (j : Nat) t v, Tryz.f3.params[j]? = some t → args[j]? = some v → Value.okWide Tryz.prog W .any base t v)
  (hW : DataW.Whole enc Tryz.prog Tryz.f3.params.toList Rows.versionsMatchSpecSpec.vars false W args.toList ds gs before)
  (hsz0 : (DataW.weightsEach Tryz.prog (Tryz.f3.params.toList ++ Rows.versionsMatchSpecSpec.plain.varTypes Tryz.prog) (ds ++ gs)).all (· ≤ reachBytes) = true)
  (hk : Rows.uptoSmall H (ds ++ gs) = true) (hlaid : laidMetH Tryz.prog Rows.versionsMatchSpecUptoRow.laid W) (hshape : W.ShapedOpen Tryz.prog) :
  Calls Tryz.prog 3 args W fun e W' => ∃ v, e = .returned v ∧ Rows.versionsMatchSpecSpec.post enc Tryz.prog Tryz.f3 false true false false W args v W' := by
 have hval : ∀ (j : Nat) t v, Tryz.f3.params[j]? = some t → args[j]? = some v → Value.okWide Tryz.prog W .any base t v := hval0
 have hsz : (DataW.weightsEach Tryz.prog (Tryz.f3.params.toList ++ Rows.versionsMatchSpecSpec.plain.varTypes Tryz.prog) (ds ++ gs)).all (· ≤ reachBytes) = true := hsz0
 clear hval0 hsz0
 have hW' := hW
 obtain ⟨p, q, hA0, hV, rfl, hfz, hnd⟩ := hW
 have hA : DataW.TrodAll enc Tryz.prog W 0 (fun _ => true) true Tryz.f3.params.toList args.toList ds p := hA0
 rw [Tryz.params3] at hA hval hsz
 obtain ⟨v0, vs0, d0, ds0, p0, q0, hargs, rfl, rfl, h0, r0⟩ := trodAll_cons hA
 obtain ⟨v1, vs1, d1, ds1, p1, q1, rfl, rfl, rfl, h1, r1⟩ := trodAll_cons r0
 obtain ⟨v2, vs2, d2, ds2, p2, q2, rfl, rfl, rfl, h2, r2⟩ := trodAll_cons r1
 obtain ⟨rfl, rfl, rfl⟩ := trodAll_nil r2
 obtain rfl : args = #[v0, v1, v2] := by cases args; simp_all
 obtain ⟨rfl, rfl⟩ := trodVars_none hV
 obtain ⟨n0, g0⟩ := h0
 obtain ⟨x, a_x, c_x, e0, s_x, z_x⟩ := Rv.read_Ver _ _ _ g0
 have hv0 : v0 = .agg #[.int .i64 x.ma, .int .i64 x.mi, .int .i64 x.pa, .slice a_x x.pre.length c_x] := by rw [agg_of_cells (v := v0) (by rw [e0]; simp), e0]
 subst hv0
 obtain ⟨n1, g1⟩ := h1
 obtain ⟨y, a_y, c_y, e1, s_y, z_y⟩ := Rv.read_Ver _ _ _ g1
 have hv1 : v1 = .agg #[.int .i64 y.ma, .int .i64 y.mi, .int .i64 y.pa, .slice a_y y.pre.length c_y] := by rw [agg_of_cells (v := v1) (by rw [e1]; simp), e1]
 subst hv1
 obtain ⟨text, rfl, rfl, rfl, wf_text⟩ := open_string Tryz.underlying9 (hval 2 9 v2 rfl rfl) h2
 refine (Tx.lawVmz_at x y _ _ text (by have h9 := bulk_str hk (s := text.data.toList) (by simp); rw [show text.data.toList.length = text.size from Array.length_toList] at h9; exact h9) W ⟨a_x, c_x, rfl, s_x, z_x⟩ ⟨a_y, c_y, rfl, s_y, z_y⟩ (tab_of hlaid) (ml_of hshape)).mono fun e W' ⟨he, hg⟩ => ?_
 subst he
 exact ⟨_, rfl, law_post laidOut rfl hW' hg (by kernel_rfl) (by kernel_rfl) Tryz.underlying4 rfl⟩


/-- A world for the witness: the settled one, the listed variables laid. -/
noncomputable def laidWorld (os : Os) : World := World.laidAll Tryz.prog os Rows.versionsMatchSpecUptoRow.laid
set_option maxRecDepth 100000 in
theorem laid_met (os : Os) : laidMet Tryz.prog Rows.versionsMatchSpecUptoRow.laid ((laidWorld os).forCall (fun _ _ => 0) ⟨#[], #[.agg #[.int .i64 0, .int .i64 0, .int .i64 0, .slice none 0 0], .agg #[.int .i64 0, .int .i64 0, .int .i64 0, .slice none 0 0], .string ByteArray.empty], []⟩).memory :=
 laidMet_laidAll _ (by kernel_rfl) (by kernel_rfl)
theorem reads (os : Os) {H : Type} (enc : TypeId × Value → H) : ∃ places, DataW.whole enc Tryz.prog ((laidWorld os).forCall (fun _ _ => 0) ⟨#[], #[.agg #[.int .i64 0, .int .i64 0, .int .i64 0, .slice none 0 0], .agg #[.int .i64 0, .int .i64 0, .int .i64 0, .slice none 0 0], .string ByteArray.empty], []⟩).memory Tryz.f3.params.toList Rows.versionsMatchSpecSpec.vars false #[.agg #[.int .i64 0, .int .i64 0, .int .i64 0, .slice none 0 0], .agg #[.int .i64 0, .int .i64 0, .int .i64 0, .slice none 0 0], .string ByteArray.empty].toList 8 = some ([.agg [.lit (.int .i64 0), .lit (.int .i64 0), .lit (.int .i64 0), .nil], .agg [.lit (.int .i64 0), .lit (.int .i64 0), .lit (.int .i64 0), .nil], .lit (.string [])], [], places) :=
 ⟨[], by kernel_rfl⟩
set_option maxRecDepth 100000 in
theorem lifted (os : Os) (started : os.Started) (H : Type) (enc : TypeId × Value → H) (F : Stop.Interp) :
  ReturnsInHanded {} Tryz.checked os 3 .any ((Rows.OpenSpec.upto Rows.versionsMatchSpecSpec).preRow enc Tryz.prog Tryz.f3 Rows.versionsMatchSpecUptoRow.domain false Rows.versionsMatchSpecUptoRow.laid) (((Rows.OpenSpec.upto Rows.versionsMatchSpecSpec).at F).post enc Tryz.prog Tryz.f3 false true false false) := by
 obtain ⟨places, hx⟩ := reads os enc
 refine returnsInHanded_of_row (C := Tryz.checked) (s := Rows.OpenSpec.upto Rows.versionsMatchSpecSpec) own started (by kernel_rfl) Tryz.func3
  (witness_row_at (enc := enc) (C := Tryz.checked) false (laidWorld os) #[.agg #[.int .i64 0, .int .i64 0, .int .i64 0, .slice none 0 0], .agg #[.int .i64 0, .int .i64 0, .int .i64 0, .slice none 0 0], .string ByteArray.empty] rfl (by kernel_rfl) (by kernel_rfl) (by kernel_rfl)
   (OpenSpec.preRow_of_cond 8 hx (by kernel_rfl) (fun k hk => by cases hk; kernel_rfl) (by kernel_rfl) (laid_met os))) ?_
 intro W base args ds gs before hval hW _ hcond hsz hlaid hshape _
 exact contract H enc W base args ds gs before hval hW hsz (hcond _ rfl) hlaid hshape
theorem and2 {a b : Bool} (h : a = true) (k : b = true) : (a && b) = true := by rw [h, k]; rfl
set_option maxRecDepth 100000 in
set_option maxHeartbeats 8000000 in
/-- the row's closed facts, one after the other (all at once they are too much for the kernel) -/
theorem closed : joinedFacts Tryz.checked.prog 3 Tryz.f3 (Rows.OpenSpec.upto Rows.versionsMatchSpecSpec).bare Rows.versionsMatchSpecUptoRow = true := by
 unfold joinedFacts
 repeat' with_reducible refine and2 ?_ ?_
 all_goals as_aux_lemma => kernel_rfl
theorem said : Rows.VersionsMatchSpecUptoSaid :=
 OpenClaim.holds_of_cond 3 Tryz.f3 rfl rfl rfl rfl rfl rfl rfl ⟨rfl, rfl, rfl, rfl, rfl⟩ rfl rfl rfl rfl rfl (by kernel_rfl) Tryz.func3 closed
  (of_decide_eq_true (by kernel_rfl)) (by unfold Func.isWrapper; first | (rw [if_pos (by decide +kernel)]; kernel_rfl) | (rw [if_neg (by decide +kernel)]; exact ⟨rfl, rfl⟩))
  (fun os started H enc _ F => by rw [OpenClaim.pre_eq_preRow]; exact lifted os started H enc F)
/-- No parameter wants a stand-in; the program's own looks are off. -/
theorem plain (f : FuncId) (fn : Func) (hf : Tryz.pinned.checked.prog.funcNamed "burgee/burgeelaw1.VersionsMatchSpec" = some f) (hfn : Tryz.pinned.checked.prog.funcs[f]? = some fn) :
  true = Tryz.pinned.checked.prog.looks [] ∧ ∀ (j : Nat) t, fn.params[j]? = some t → Tryz.pinned.checked.prog.wantsStandIn t = false := by
 obtain rfl : f = 3 := Option.some.inj ((show Tryz.prog.funcNamed "burgee/burgeelaw1.VersionsMatchSpec" = some 3 by kernel_rfl).symm.trans hf) |>.symm
 obtain rfl : fn = Tryz.f3 := (Option.some.inj (Tryz.func3.symm.trans hfn)).symm
 refine ⟨by kernel_rfl, fun j t ht => ?_⟩
 have hall : (Tryz.f3.params.toList.all fun t => !(Tryz.prog.wantsStandIn t)) = true := by kernel_rfl
 have h1 := List.all_eq_true.1 hall t (Array.mem_toList_iff.2 (Array.mem_of_getElem? ht))
 have h2 : Tryz.prog.wantsStandIn t = false := by simpa using h1
 exact h2
theorem proved : Rows.VersionsMatchSpecUptoCardSaid :=
 Claim7.holds_tied_plain_at .later [] _ _ _ _ said (fun _ h => by cases h) (by kernel_rfl) (fun _ h => by cases h) versionsMatchSpecUpto_row_tie rfl ⟨rfl, rfl⟩ (by kernel_rfl) rfl plain (by kernel_rfl)
end Go.Proofs.YtfdaakghkhecgaaGreatDoor.lawVmz
