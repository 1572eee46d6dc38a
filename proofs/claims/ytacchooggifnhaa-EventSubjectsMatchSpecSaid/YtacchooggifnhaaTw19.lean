/- Exposed, Subjects and Returned are as specified, with all errors: for every log and all other arguments the law returns true. No condition. Printed by gen_lawsub.py. -/
import Derived.Test.YtacchooggifnhaaTw04
import Derived.Test.YtacchooggifnhaaTw18
namespace Go.Proofs.Ytacchooggifnhaa.lawSub
open Go.ChangeShapes Go.WideShapes Go.ChangeAt Go.RowKit
open Go.ChangeMaps (open_string shut_string)

theorem ints_of_reps : ∀ {l : List Int} {cs : List Value}, Reps (fun (s : Int) c => c = [Value.int .i64 s] ∧ i64ok s) l cs → cs = l.map (Value.int .i64) ∧ ∀ e ∈ l, i64ok e
  | [], _, h => ⟨h, fun _ h => by cases h⟩
  | _ :: _, _, ⟨c, r, e, h1, h2⟩ => by
    subst e; obtain ⟨h1, ho⟩ := h1; subst h1
    obtain ⟨i1, i2⟩ := ints_of_reps h2
    exact ⟨by rw [List.map_cons, i1]; rfl, fun x hx => (List.mem_cons.1 hx).elim (fun h => h ▸ ho) (i2 x)⟩
theorem strs_of_reps : ∀ {l : List ByteArray} {cs : List Value}, Reps (fun (s : ByteArray) c => c = [Value.string s] ∧ s.size ≤ maxLen) l cs → cs = l.map Value.string ∧ ∀ e ∈ l, e.size ≤ maxLen
  | [], _, h => ⟨h, fun _ h => by cases h⟩
  | _ :: _, _, ⟨c, r, e, h1, h2⟩ => by
    subst e; obtain ⟨h1, ho⟩ := h1; subst h1
    obtain ⟨i1, i2⟩ := strs_of_reps h2
    exact ⟨by rw [List.map_cons, i1]; rfl, fun x hx => (List.mem_cons.1 hx).elim (fun h => h ▸ ho) (i2 x)⟩
theorem flats_of_reps {α : Type} {cellsF : α → List Value} {okF : α → Prop} : ∀ {l : List α} {cs : List Value}, Reps (fun s c => c = cellsF s ∧ okF s) l cs → cs = l.flatMap cellsF ∧ ∀ e ∈ l, okF e
  | [], _, h => ⟨h, fun _ h => by cases h⟩
  | _ :: _, _, ⟨c, r, e, h1, h2⟩ => by
    subst e; obtain ⟨h1, ho⟩ := h1; subst h1
    obtain ⟨i1, i2⟩ := flats_of_reps h2
    exact ⟨by rw [List.flatMap_cons, i1], fun x hx => (List.mem_cons.1 hx).elim (fun h => h ▸ ho) (i2 x)⟩
set_option maxRecDepth 100000 in
theorem lifted (os : Os) (started : os.Started) (H : Type) (enc : TypeId × Value → H) :
    ReturnsInHanded {} Try.checked os 5 .any (Rows.eventSubjectsMatchSpecSpec.pre6 enc Try.prog Try.f5 Rows.eventSubjectsMatchSpecRow.domain false) (Rows.eventSubjectsMatchSpecSpec.post enc Try.prog Try.f5 false true false false) := by
  refine returnsInHanded_of_change_sized (C := Try.checked) own started (by kernel_rfl) Try.func5
    (ChangeSpec.witness6 (enc := enc) (C := Try.checked) false ⟨#[], #[.slice none 0 0, .slice none 0 0, .string ByteArray.empty, .agg #[.string ByteArray.empty, .int .i64 0, .int .i64 0], .int .i64 0, .int .i64 0], []⟩ 8 (by kernel_rfl) (by kernel_rfl) (by kernel_rfl) (by kernel_rfl)) ?_
  intro W base args ds gs before hval0 hW hcnd hsz0 _
  have hval : ∀ (j : Nat) t v, Try.f5.params[j]? = some t → args[j]? = some v → Value.okWide Try.prog W .any base t v := hval0
  have hsz : (DataW.weightsEach Try.prog (Try.f5.params.toList ++ Rows.eventSubjectsMatchSpecSpec.plain.varTypes Try.prog) (ds ++ gs)).all (· ≤ reachBytes) = true := hsz0
  have hW' := hW
  obtain ⟨p, q, hA0, hV, rfl, hfz, hnd⟩ := hW
  have hA : DataW.TrodAll enc Try.prog W 0 (fun _ => true) true Try.f5.params.toList args.toList ds p := hA0
  rw [Try.params5] at hA hval hsz
  obtain ⟨v0, vs0, d0, ds0, p0, q0, hargs, rfl, rfl, h0, r0⟩ := trodAll_cons hA
  obtain ⟨v1, vs1, d1, ds1, p1, q1, rfl, rfl, rfl, h1, r1⟩ := trodAll_cons r0
  obtain ⟨v2, vs2, d2, ds2, p2, q2, rfl, rfl, rfl, h2, r2⟩ := trodAll_cons r1
  obtain ⟨v3, vs3, d3, ds3, p3, q3, rfl, rfl, rfl, h3, r3⟩ := trodAll_cons r2
  obtain ⟨v4, vs4, d4, ds4, p4, q4, rfl, rfl, rfl, h4, r4⟩ := trodAll_cons r3
  obtain ⟨v5, vs5, d5, ds5, p5, q5, rfl, rfl, rfl, h5, r5⟩ := trodAll_cons r4
  obtain ⟨rfl, rfl, rfl⟩ := trodAll_nil r5
  obtain rfl : args = #[v0, v1, v2, v3, v4, v5] := by cases args; simp_all
  obtain ⟨rfl, rfl⟩ := trodVars_none hV
  obtain ⟨n0, g0⟩ := h0
  obtain ⟨a'0, n'0, c'0, rfl⟩ := okWide_slice Try.underlying22 (hval 0 22 v0 rfl rfl)
  obtain ⟨a_l, l, c_l, cells0, e0, s_l, rp0⟩ := read_slice (R := fun (s : Ev) c => c = evL s ∧ Ev.ok s) (sz := 8) (by rintro x c ⟨rfl, _⟩; rfl) Try.underlying22 (by kernel_rfl) (by omega)
    (fun n cs' y _ ht => by obtain ⟨k0, k1, k2, k3, k4, k5, k6, k7, e, o0, _, _, _, o4, o5, _⟩ := read_Event _ _ _ ht; exact ⟨⟨k0, k1, k2, k3, k4, k5, k6, k7⟩, e, o0, o4, o5⟩) g0
  have hv0 : Value.slice a'0 n'0 c'0 = .slice a_l l.length c_l := by simpa [Value.cells] using e0
  obtain ⟨hc0, ok_l⟩ := flats_of_reps (cellsF := evL) (okF := Ev.ok) rp0
  rw [hc0] at s_l
  obtain ⟨n1, g1⟩ := h1
  obtain ⟨a'1, n'1, c'1, rfl⟩ := okWide_slice Try.underlying28 (hval 1 28 v1 rfl rfl)
  obtain ⟨a_L, L, c_L, cells1, e1, s_L, rp1⟩ := read_slice (R := fun (s : ByteArray) c => c = [Value.string s] ∧ s.size ≤ maxLen) (sz := 1) (by rintro x c ⟨rfl, _⟩; rfl) Try.underlying28 (by kernel_rfl) (by omega)
    (fun n cs' y _ ht => by obtain ⟨x0, h0, _, w0⟩ := DataW.trod_string Try.underlying9 ht; exact ⟨x0, h0, w0⟩) g1
  have hv1 : Value.slice a'1 n'1 c'1 = .slice a_L L.length c_L := by simpa [Value.cells] using e1
  obtain ⟨hc1, ok_L⟩ := strs_of_reps rp1
  rw [hc1] at s_L
  obtain ⟨x, rfl, rfl, rfl, wf_x⟩ := open_string Try.underlying9 (hval 2 9 v2 rfl rfl) h2
  obtain ⟨n3, g3⟩ := h3
  obtain ⟨nm, len, bf, e3, o_nm, _, _⟩ := read_Window _ _ _ g3
  have hv3 : v3 = .agg #[.string nm, .int .i64 len, .int .i64 bf] := by rw [agg_of_cells (v := v3) (by rw [e3]; simp), e3]
  subst hv3
  obtain ⟨fr, rfl, rfl, rfl, wf_fr⟩ := open_int Try.underlying3 (hval 4 3 v4 rfl rfl) h4
  obtain ⟨to, rfl, rfl, rfl, wf_to⟩ := open_int Try.underlying3 (hval 5 3 v5 rfl rfl) h5
  rw [hv0, hv1]
  rw [hv0, hv1] at hW'
  refine (Ex.lawSub_at l ok_l L ok_L x wf_x nm o_nm len bf fr to a_l a_L c_l c_L W s_l s_L).mono fun e W' ⟨he, hg⟩ => ?_
  subst he
  exact ⟨_, rfl, law_post laidOut rfl hW' hg (by kernel_rfl) (by kernel_rfl) Try.underlying4 rfl⟩

theorem over : Rows.eventSubjectsMatchSpecRow.holds Try.pinned (OpenSpec.ofChange Rows.eventSubjectsMatchSpecSpec) :=
  OpenClaim.holds_of_wide 5 Try.f5 rfl rfl rfl rfl rfl rfl rfl ⟨rfl, rfl, rfl, rfl, rfl⟩ rfl rfl rfl rfl rfl (by kernel_rfl) Try.func5 (by kernel_rfl)
    (of_decide_eq_true (by kernel_rfl)) (by unfold Func.isWrapper; first | (rw [if_pos (by decide +kernel)]; kernel_rfl) | (rw [if_neg (by decide +kernel)]; exact ⟨rfl, rfl⟩))
    (fun os started H enc _ => lifted os started H enc)

theorem proved : Rows.EventSubjectsMatchSpecSaid := over
end Go.Proofs.Ytacchooggifnhaa.lawSub
