/- The moments of two lists, one behind the other, are those of both, added: for all lists of pairs the law returns true. No condition. Printed by gen_lawadd.py. -/
import Derived.Test.YtilolnjbpokdnaaBd24
namespace Go.Proofs.Ytilolnjbpokdnaa.lawAdd
open Go.ChangeShapes Go.WideShapes Go.ChangeAt Go.RowKit

theorem ints_of_reps : ∀ {l : List Int} {cs : List Value}, Reps (fun (s : Int) c => c = [Value.int .i64 s] ∧ i64ok s) l cs → cs = l.map (Value.int .i64) ∧ ∀ e ∈ l, i64ok e
 | [], _, h => ⟨h, fun _ h => by cases h⟩
 | _ :: _, _, ⟨c, r, e, h1, h2⟩ => by
  subst e; obtain ⟨h1, ho⟩ := h1; subst h1
  obtain ⟨i1, i2⟩ := ints_of_reps h2
  exact ⟨by rw [List.map_cons, i1]; rfl, fun x hx => (List.mem_cons.1 hx).elim (fun h => h ▸ ho) (i2 x)⟩
theorem flats_of_reps {α : Type} {cellsF : α → List Value} {okF : α → Prop} : ∀ {l : List α} {cs : List Value}, Reps (fun s c => c = cellsF s ∧ okF s) l cs → cs = l.flatMap cellsF ∧ ∀ e ∈ l, okF e
 | [], _, h => ⟨h, fun _ h => by cases h⟩
 | _ :: _, _, ⟨c, r, e, h1, h2⟩ => by
  subst e; obtain ⟨h1, ho⟩ := h1; subst h1
  obtain ⟨i1, i2⟩ := flats_of_reps h2
  exact ⟨by rw [List.flatMap_cons, i1], fun x hx => (List.mem_cons.1 hx).elim (fun h => h ▸ ho) (i2 x)⟩
set_option maxRecDepth 100000 in
theorem lifted (os : Os) (started : os.Started) (H : Type) (enc : TypeId × Value → H) :
  ReturnsInHanded {} Try.checked os 3 .any (Rows.metricSumsAddSpec.pre6 enc Try.prog Try.f3 Rows.metricSumsAddRow.domain false) (Rows.metricSumsAddSpec.post enc Try.prog Try.f3 false true false false) := by
 refine returnsInHanded_of_change_sized (C := Try.checked) own started (by kernel_rfl) Try.func3
  (ChangeSpec.witness6 (enc := enc) (C := Try.checked) false ⟨#[], #[.slice none 0 0, .slice none 0 0], []⟩ 8 (by kernel_rfl) (by kernel_rfl) (by kernel_rfl) (by kernel_rfl)) ?_
 intro W base args ds gs before hval0 hW hcnd hsz0 _
 have hval : ∀ (j : Nat) t v, Try.f3.params[j]? = some t → args[j]? = some v → Value.okWide Try.prog W .any base t v := hval0
 have hsz : (DataW.weightsEach Try.prog (Try.f3.params.toList ++ Rows.metricSumsAddSpec.plain.varTypes Try.prog) (ds ++ gs)).all (· ≤ reachBytes) = true := hsz0
 have hW' := hW
 obtain ⟨p, q, hA0, hV, rfl, hfz, hnd⟩ := hW
 have hA : DataW.TrodAll enc Try.prog W 0 (fun _ => true) true Try.f3.params.toList args.toList ds p := hA0
 rw [Try.params3] at hA hval hsz
 obtain ⟨v0, vs0, d0, ds0, p0, q0, hargs, rfl, rfl, h0, r0⟩ := trodAll_cons hA
 obtain ⟨v1, vs1, d1, ds1, p1, q1, rfl, rfl, rfl, h1, r1⟩ := trodAll_cons r0
 obtain ⟨rfl, rfl, rfl⟩ := trodAll_nil r1
 obtain rfl : args = #[v0, v1] := by cases args; simp_all
 obtain ⟨rfl, rfl⟩ := trodVars_none hV
 obtain ⟨n0, g0⟩ := h0
 obtain ⟨a'0, n'0, c'0, rfl⟩ := okWide_slice Try.underlying22 (hval 0 22 v0 rfl rfl)
 obtain ⟨a_l, l, c_l, cells0, e0, s_l, rp0⟩ := read_slice (R := fun (s : Nm.PX) c => c = Nm.pxL s ∧ (fun p => i64ok p.x ∧ i64ok p.y) s) (sz := 2) (by rintro x c ⟨rfl, _⟩; rfl) Try.underlying22 (by kernel_rfl) (by omega)
  (fun n cs' y _ ht => by obtain ⟨k0, k1, e, o0, o1⟩ := read_Pair _ _ _ ht; exact ⟨⟨k0, k1⟩, e, o0, o1⟩) g0
 have hv0 : Value.slice a'0 n'0 c'0 = .slice a_l l.length c_l := by simpa [Value.cells] using e0
 have sz_l := slice_sized hsz (j := 0) Try.underlying22 rfl rfl g0 e0
 rw [show Try.prog.bytesOf 33 = 16 by kernel_rfl] at sz_l
 simp only [reachBytes] at sz_l
 obtain ⟨hc0, ok_l⟩ := flats_of_reps (cellsF := Nm.pxL) (okF := (fun p => i64ok p.x ∧ i64ok p.y)) rp0
 rw [hc0] at s_l
 obtain ⟨n1, g1⟩ := h1
 obtain ⟨a'1, n'1, c'1, rfl⟩ := okWide_slice Try.underlying22 (hval 1 22 v1 rfl rfl)
 obtain ⟨a_m, m, c_m, cells1, e1, s_m, rp1⟩ := read_slice (R := fun (s : Nm.PX) c => c = Nm.pxL s ∧ (fun p => i64ok p.x ∧ i64ok p.y) s) (sz := 2) (by rintro x c ⟨rfl, _⟩; rfl) Try.underlying22 (by kernel_rfl) (by omega)
  (fun n cs' y _ ht => by obtain ⟨k0, k1, e, o0, o1⟩ := read_Pair _ _ _ ht; exact ⟨⟨k0, k1⟩, e, o0, o1⟩) g1
 have hv1 : Value.slice a'1 n'1 c'1 = .slice a_m m.length c_m := by simpa [Value.cells] using e1
 have sz_m := slice_sized hsz (j := 1) Try.underlying22 rfl rfl g1 e1
 rw [show Try.prog.bytesOf 33 = 16 by kernel_rfl] at sz_m
 simp only [reachBytes] at sz_m
 obtain ⟨hc1, ok_m⟩ := flats_of_reps (cellsF := Nm.pxL) (okF := (fun p => i64ok p.x ∧ i64ok p.y)) rp1
 rw [hc1] at s_m
 rw [hv0, hv1]
 rw [hv0, hv1] at hW'
 refine (Nm.lawAdd_at l m a_l a_m c_l c_m W s_l s_m (by omega)).mono fun e W' ⟨he, hg⟩ => ?_
 subst he
 exact ⟨_, rfl, law_post laidOut rfl hW' hg (by kernel_rfl) (by kernel_rfl) Try.underlying4 rfl⟩

theorem over : Rows.metricSumsAddRow.holds Try.pinned (OpenSpec.ofChange Rows.metricSumsAddSpec) :=
 OpenClaim.holds_of_wide 3 Try.f3 rfl rfl rfl rfl rfl rfl rfl ⟨rfl, rfl, rfl, rfl, rfl⟩ rfl rfl rfl rfl rfl (by kernel_rfl) Try.func3 (by kernel_rfl)
  (of_decide_eq_true (by kernel_rfl)) (by unfold Func.isWrapper; first | (rw [if_pos (by decide +kernel)]; kernel_rfl) | (rw [if_neg (by decide +kernel)]; exact ⟨rfl, rfl⟩))
  (fun os started H enc _ => lifted os started H enc)

theorem proved : Rows.MetricSumsAddSaid := over
end Go.Proofs.Ytilolnjbpokdnaa.lawAdd
