/- Merge and Patch are as specified, with all errors: for all values the law returns true. Condition: what is read is of bulk at most 1048576 (the form Upto). Printed by gen_lawpms.py. -/
import Derived.Test.YtkjgifhklajifaaPm27
import Derived.Deep.DeepHandedRow
import Derived.Lib.LaidTab
import Derived.LaidMore
import Derived.Lay
import Derived.LaidLaws
import Derived.Stop.LaidErr
import Derived.LaidSub
import Derived.MakeChecks
import Derived.Shelf.Vars
namespace Go.Proofs.Ytkjgifhklajifaa.lawPms
open Go.ChangeShapes Go.WideShapes Go.ChangeAt Go.RowKit
open Go.ChangeMaps (open_string)

theorem ints_of_reps : ∀ {l : List Int} {cs : List Value}, Reps (fun (s : Int) c => c = [Value.int .i64 s] ∧ i64ok s) l cs → cs = l.map (Value.int .i64) ∧ ∀ e ∈ l, i64ok e
  | [], _, h => ⟨h, fun _ h => by cases h⟩
  | _ :: _, _, ⟨c, r, e, h1, h2⟩ => by
    subst e; obtain ⟨h1, ho⟩ := h1; subst h1
    obtain ⟨i1, i2⟩ := ints_of_reps h2
    exact ⟨by rw [List.map_cons, i1]; rfl, fun x hx => (List.mem_cons.1 hx).elim (fun h => h ▸ ho) (i2 x)⟩
theorem strs_of_reps : ∀ {l : List ByteArray} {cs : List Value}, Reps (fun (s : ByteArray) c => c = [Value.string s] ∧ s.size ≤ maxLen) l cs → cs = l.map Value.string ∧ ∀ e ∈ l, e.size ≤ maxLen
  | [], _, h => ⟨h, fun _ h => by cases h⟩
  | _ :: _, _, ⟨c, r, e, h1, h2⟩ => by
    subst e; obtain ⟨h1, ho⟩ := h1; subst h1
    obtain ⟨i1, i2⟩ := strs_of_reps h2
    exact ⟨by rw [List.map_cons, i1]; rfl, fun x hx => (List.mem_cons.1 hx).elim (fun h => h ▸ ho) (i2 x)⟩
theorem flats_of_reps {α : Type} {cellsF : α → List Value} {okF : α → Prop} : ∀ {l : List α} {cs : List Value}, Reps (fun s c => c = cellsF s ∧ okF s) l cs → cs = l.flatMap cellsF ∧ ∀ e ∈ l, okF e
  | [], _, h => ⟨h, fun _ h => by cases h⟩
  | _ :: _, _, ⟨c, r, e, h1, h2⟩ => by
    subst e; obtain ⟨h1, ho⟩ := h1; subst h1
    obtain ⟨i1, i2⟩ := flats_of_reps h2
    exact ⟨by rw [List.flatMap_cons, i1], fun x hx => (List.mem_cons.1 hx).elim (fun h => h ▸ ho) (i2 x)⟩

theorem bulk_mem {H : Type} {d : DataW H} : ∀ {l : List (DataW H)}, d ∈ l → Rows.uptoBulk d ≤ Rows.uptoBulkAll l
  | [], h => by cases h
  | x :: r, h => by
    simp only [Rows.uptoBulkAll]
    cases List.mem_cons.1 h with
    | inl e => subst e; omega
    | inr e => have := bulk_mem e; omega
/-- a text among what is read: its length is within the bound -/
theorem bulk_str {H : Type} {l : List (DataW H)} (hk : Rows.uptoSmall H l = true) {s : List UInt8} (h : DataW.lit (.string s) ∈ l) : s.length ≤ 1048576 := by
  have h1 : Rows.uptoBulkAll l ≤ 1048576 := of_decide_eq_true hk
  have h2 := bulk_mem h
  simp only [Rows.uptoBulk] at h2
  omega
/-- an argument's bulk is within the bound -/
theorem bulk_arg {H : Type} {l : List (DataW H)} (hk : Rows.uptoSmall H l = true) {d : DataW H} (h : d ∈ l) : Rows.uptoBulk d ≤ 1048576 := by
  have h1 : Rows.uptoBulkAll l ≤ 1048576 := of_decide_eq_true hk
  have h2 := bulk_mem h
  omega
set_option maxRecDepth 100000 in
/-- what the walk gives, for all arguments -/
theorem contract (H : Type) (enc : TypeId × Value → H) (W : World) (base : Nat) (args : Array Value) (ds gs : List (DataW H)) (before : List MemPlace)
    (hval0 : ∀ (j : Nat) t v, Try.f3.params[j]? = some t → args[j]? = some v → Value.okWide Try.prog W .any base t v)
    (hW : DataW.Whole enc Try.prog Try.f3.params.toList Rows.valuePatchesMatchSpecSpec.vars false W args.toList ds gs before)
    (hsz0 : (DataW.weightsEach Try.prog (Try.f3.params.toList ++ Rows.valuePatchesMatchSpecSpec.plain.varTypes Try.prog) (ds ++ gs)).all (· ≤ reachBytes) = true)
    (hk : Rows.uptoSmall H (ds ++ gs) = true) (_hlaid : laidMetH Try.prog Rows.valuePatchesMatchSpecUptoRow.laid W) (_hshape : W.ShapedOpen Try.prog) :
    Calls Try.prog 3 args W fun e W' => ∃ v, e = .returned v ∧ Rows.valuePatchesMatchSpecSpec.post enc Try.prog Try.f3 false true false false W args v W' := by
  have hval : ∀ (j : Nat) t v, Try.f3.params[j]? = some t → args[j]? = some v → Value.okWide Try.prog W .any base t v := hval0
  have hsz : (DataW.weightsEach Try.prog (Try.f3.params.toList ++ Rows.valuePatchesMatchSpecSpec.plain.varTypes Try.prog) (ds ++ gs)).all (· ≤ reachBytes) = true := hsz0
  clear hval0 hsz0
  have hW' := hW
  obtain ⟨p, q, hA0, hV, rfl, hfz, hnd⟩ := hW
  have hA : DataW.TrodAll enc Try.prog W 0 (fun _ => true) true Try.f3.params.toList args.toList ds p := hA0
  rw [Try.params3] at hA hval hsz
  obtain ⟨v0, vs0, d0, ds0, p0, q0, hargs, rfl, rfl, h0, r0⟩ := trodAll_cons hA
  obtain ⟨v1, vs1, d1, ds1, p1, q1, rfl, rfl, rfl, h1, r1⟩ := trodAll_cons r0
  obtain ⟨rfl, rfl, rfl⟩ := trodAll_nil r1
  obtain rfl : args = #[v0, v1] := by cases args; simp_all
  obtain ⟨rfl, rfl⟩ := trodVars_none hV
  obtain ⟨n0, g0⟩ := h0
  obtain ⟨x0, e0, p0n⟩ := read_VB _ _ _ g0
  obtain ⟨n1, g1⟩ := h1
  obtain ⟨x1, e1, p1n⟩ := read_VB _ _ _ g1
  have k := Fd.lawPms_at x0 x1 _ _ W e0 e1 (Nat.le_trans p0n (bulk_arg hk (by simp))) (Nat.le_trans p1n (bulk_arg hk (by simp)))
  rw [← agg_of_cells (by rw [e0.len]; omega), ← agg_of_cells (by rw [e1.len]; omega)] at k
  refine k.mono fun e W' ⟨he, hg⟩ => ?_
  subst he
  exact ⟨_, rfl, law_post laidOut rfl hW' hg (by kernel_rfl) (by kernel_rfl) Try.underlying4 rfl⟩


/-- A world for the witness: the settled one, the listed variables laid. -/
noncomputable def laidWorld (os : Os) : World := World.laidAll Try.prog os Rows.valuePatchesMatchSpecUptoRow.laid
set_option maxRecDepth 100000 in
theorem laid_met (os : Os) : laidMet Try.prog Rows.valuePatchesMatchSpecUptoRow.laid ((laidWorld os).forCall (fun _ _ => 0) ⟨#[], #[.agg #[.int .i64 0, .int .i64 0, .string ByteArray.empty, .slice none 0 0, .slice none 0 0], .agg #[.int .i64 0, .int .i64 0, .string ByteArray.empty, .slice none 0 0, .slice none 0 0]], []⟩).memory :=
  laidMet_laidAll _ (by kernel_rfl) (by kernel_rfl)
theorem reads (os : Os) {H : Type} (enc : TypeId × Value → H) : ∃ places, DataW.whole enc Try.prog ((laidWorld os).forCall (fun _ _ => 0) ⟨#[], #[.agg #[.int .i64 0, .int .i64 0, .string ByteArray.empty, .slice none 0 0, .slice none 0 0], .agg #[.int .i64 0, .int .i64 0, .string ByteArray.empty, .slice none 0 0, .slice none 0 0]], []⟩).memory Try.f3.params.toList Rows.valuePatchesMatchSpecSpec.vars false #[.agg #[.int .i64 0, .int .i64 0, .string ByteArray.empty, .slice none 0 0, .slice none 0 0], .agg #[.int .i64 0, .int .i64 0, .string ByteArray.empty, .slice none 0 0, .slice none 0 0]].toList 8 = some ([.agg [.lit (.int .i64 0), .lit (.int .i64 0), .lit (.string []), .nil, .nil], .agg [.lit (.int .i64 0), .lit (.int .i64 0), .lit (.string []), .nil, .nil]], [], places) :=
  ⟨[], by kernel_rfl⟩
set_option maxRecDepth 100000 in
theorem lifted (os : Os) (started : os.Started) (H : Type) (enc : TypeId × Value → H) (F : Stop.Interp) :
    ReturnsInHanded {} Try.checked os 3 .any ((Rows.OpenSpec.upto Rows.valuePatchesMatchSpecSpec).preRow enc Try.prog Try.f3 Rows.valuePatchesMatchSpecUptoRow.domain false Rows.valuePatchesMatchSpecUptoRow.laid) (((Rows.OpenSpec.upto Rows.valuePatchesMatchSpecSpec).at F).post enc Try.prog Try.f3 false true false false) := by
  obtain ⟨places, hx⟩ := reads os enc
  refine returnsInHanded_of_row (C := Try.checked) (s := Rows.OpenSpec.upto Rows.valuePatchesMatchSpecSpec) own started (by kernel_rfl) Try.func3
    (witness_row_at (enc := enc) (C := Try.checked) false (laidWorld os) #[.agg #[.int .i64 0, .int .i64 0, .string ByteArray.empty, .slice none 0 0, .slice none 0 0], .agg #[.int .i64 0, .int .i64 0, .string ByteArray.empty, .slice none 0 0, .slice none 0 0]] rfl (by kernel_rfl) (by kernel_rfl) (by kernel_rfl)
      (OpenSpec.preRow_of_cond 8 hx (by kernel_rfl) (fun k hk => by cases hk; kernel_rfl) (by kernel_rfl) (laid_met os))) ?_
  intro W base args ds gs before hval hW _ hcond hsz hlaid hshape _
  exact contract H enc W base args ds gs before hval hW hsz (hcond _ rfl) hlaid hshape
theorem and2 {a b : Bool} (h : a = true) (k : b = true) : (a && b) = true := by rw [h, k]; rfl
set_option maxRecDepth 100000 in
set_option maxHeartbeats 8000000 in
/-- the row's closed facts, one after the other (all at once they are too much for the kernel) -/
theorem closed : joinedFacts Try.checked.prog 3 Try.f3 (Rows.OpenSpec.upto Rows.valuePatchesMatchSpecSpec).bare Rows.valuePatchesMatchSpecUptoRow = true := by
  unfold joinedFacts
  repeat' with_reducible refine and2 ?_ ?_
  all_goals as_aux_lemma => kernel_rfl
theorem said : Rows.ValuePatchesMatchSpecUptoSaid :=
  OpenClaim.holds_of_cond 3 Try.f3 rfl rfl rfl rfl rfl rfl rfl ⟨rfl, rfl, rfl, rfl, rfl⟩ rfl rfl rfl rfl rfl (by kernel_rfl) Try.func3 closed
    (of_decide_eq_true (by kernel_rfl)) (by unfold Func.isWrapper; first | (rw [if_pos (by decide +kernel)]; kernel_rfl) | (rw [if_neg (by decide +kernel)]; exact ⟨rfl, rfl⟩))
    (fun os started H enc _ F => by rw [OpenClaim.pre_eq_preRow]; exact lifted os started H enc F)
theorem proved : Rows.ValuePatchesMatchSpecUptoSaid := said
end Go.Proofs.Ytkjgifhklajifaa.lawPms
