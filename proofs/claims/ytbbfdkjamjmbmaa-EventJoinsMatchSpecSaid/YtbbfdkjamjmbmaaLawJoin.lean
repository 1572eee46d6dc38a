/- Join is as specified, with all errors: for every two lists of events the law returns true. No condition. -/
import Derived.Test.YtbbfdkjamjmbmaaJoinR
import Derived.Test.YtbbfdkjamjmbmaaEqEv
import Derived.Test.YtbbfdkjamjmbmaaFrame
import Derived.Test.YtbbfdkjamjmbmaaReadE
namespace Go.Proofs.Ytbbfdkjamjmbmaa.lawJoin
open Go.ChangeShapes Go.WideShapes Go.ChangeAt Go.RowKit
set_option maxRecDepth 100000 in
set_option maxHeartbeats 8000000 in
theorem walk (la lb : List Ev) (hoka : ∀ e ∈ la, e.ok) (hokb : ∀ e ∈ lb, e.ok) (a b : Option Addr) (ca cb : Nat) (w : World)
    (sa : Sl w (.slice a la.length ca) la.length (la.flatMap evL)) (sb : Sl w (.slice b lb.length cb) lb.length (lb.flatMap evL)) :
    Calls Try.prog 5 #[.slice a la.length ca, .slice b lb.length cb] w fun e w' => e = .returned (.bool true) ∧ Below w.heap.size w w' := by
  have c1 := event_Join la lb hoka hokb a b ca cb w sa sb
  have c2 := fun W (hW : Below w.heap.size w W) => ref7_Join la lb hoka hokb a b ca cb W (sa.ext hW) (sb.ext hW)
  have C2 : Aside _ := c2
  clear c2 hoka hokb
  go_enter Try.func5, Try.ntmps5
  go_wp2_with fail
  refine c1.mono ?_
  rintro e w1 ⟨R, G, a1, d1, rfl, s1, j1, hb1⟩
  have c2 := C2.out w1 hb1
  clear C2 c1 sa sb
  go_wp2_with fail
  refine c2.mono ?_
  rintro e w2 ⟨R', G', a2, d2, rfl, s2, j2, hb2⟩
  obtain ⟨rfl, rfl⟩ := j1.unique j2
  have hge : (G == G) = true := by simp
  have hbw := ext_trans hb1 hb2
  have s3 := s1.ext hb2
  clear j1 j2 c2 hb1 hb2 s1
  go_wp2_with fail
  refine (equal_events R a1 a2 d1 d2 _ s3 s2).mono ?_
  rintro e w3 ⟨rfl, hb3⟩
  go_wp2
  go_ret
  exact ⟨rfl, ext_trans hbw hb3⟩

theorem ints_of_reps : ∀ {l : List Int} {cs : List Value}, Reps (fun (s : Int) c => c = [Value.int .i64 s] ∧ i64ok s) l cs → cs = l.map (Value.int .i64) ∧ ∀ e ∈ l, i64ok e
  | [], _, h => ⟨h, fun _ h => by cases h⟩
  | _ :: _, _, ⟨c, r, e, h1, h2⟩ => by
    subst e; obtain ⟨h1, ho⟩ := h1; subst h1
    obtain ⟨i1, i2⟩ := ints_of_reps h2
    exact ⟨by rw [List.map_cons, i1]; rfl, fun x hx => (List.mem_cons.1 hx).elim (fun h => h ▸ ho) (i2 x)⟩
theorem flats_of_reps {α : Type} {cellsF : α → List Value} {okF : α → Prop} : ∀ {l : List α} {cs : List Value}, Reps (fun s c => c = cellsF s ∧ okF s) l cs → cs = l.flatMap cellsF ∧ ∀ e ∈ l, okF e
  | [], _, h => ⟨h, fun _ h => by cases h⟩
  | _ :: _, _, ⟨c, r, e, h1, h2⟩ => by
    subst e; obtain ⟨h1, ho⟩ := h1; subst h1
    obtain ⟨i1, i2⟩ := flats_of_reps h2
    exact ⟨by rw [List.flatMap_cons, i1], fun x hx => (List.mem_cons.1 hx).elim (fun h => h ▸ ho) (i2 x)⟩
set_option maxRecDepth 100000 in
theorem lifted (os : Os) (started : os.Started) (H : Type) (enc : TypeId × Value → H) :
    ReturnsInHanded {} Try.checked os 5 .any (Rows.eventJoinsMatchSpecSpec.pre6 enc Try.prog Try.f5 Rows.eventJoinsMatchSpecRow.domain false) (Rows.eventJoinsMatchSpecSpec.post enc Try.prog Try.f5 false true false false) := by
  refine returnsInHanded_of_change_sized (C := Try.checked) own started (by kernel_rfl) Try.func5
    (ChangeSpec.witness6 (enc := enc) (C := Try.checked) false ⟨#[], #[.slice none 0 0, .slice none 0 0], []⟩ 8 (by kernel_rfl) (by kernel_rfl) (by kernel_rfl) (by kernel_rfl)) ?_
  intro W base args ds gs before hval0 hW hcnd hsz0 _
  have hval : ∀ (j : Nat) t v, Try.f5.params[j]? = some t → args[j]? = some v → Value.okWide Try.prog W .any base t v := hval0
  have hsz : (DataW.weightsEach Try.prog (Try.f5.params.toList ++ Rows.eventJoinsMatchSpecSpec.plain.varTypes Try.prog) (ds ++ gs)).all (· ≤ reachBytes) = true := hsz0
  have hW' := hW
  obtain ⟨p, q, hA0, hV, rfl, hfz, hnd⟩ := hW
  have hA : DataW.TrodAll enc Try.prog W 0 (fun _ => true) true Try.f5.params.toList args.toList ds p := hA0
  rw [Try.params5] at hA hval hsz
  obtain ⟨v0, vs0, d0, ds0, p0, q0, hargs, rfl, rfl, h0, r0⟩ := trodAll_cons hA
  obtain ⟨v1, vs1, d1, ds1, p1, q1, rfl, rfl, rfl, h1, r1⟩ := trodAll_cons r0
  obtain ⟨rfl, rfl, rfl⟩ := trodAll_nil r1
  obtain rfl : args = #[v0, v1] := by cases args; simp_all
  obtain ⟨rfl, rfl⟩ := trodVars_none hV
  obtain ⟨n0, g0⟩ := h0
  obtain ⟨a'0, n'0, c'0, rfl⟩ := okWide_slice Try.underlying37 (hval 0 37 v0 rfl rfl)
  obtain ⟨a_l, l, c_l, cells0, e0, s_l, rp0⟩ := read_slice (R := fun (s : Ev) c => c = evL s ∧ Ev.ok s) (sz := 8) (by rintro x c ⟨rfl, _⟩; rfl) Try.underlying37 (by kernel_rfl) (by omega)
    (fun n cs' y _ ht => by obtain ⟨k0, k1, k2, k3, k4, k5, k6, k7, e, o0, _, _, _, o4, o5, _⟩ := read_Event _ _ _ ht; exact ⟨⟨k0, k1, k2, k3, k4, k5, k6, k7⟩, e, o0, o4, o5⟩) g0
  have hv0 : Value.slice a'0 n'0 c'0 = .slice a_l l.length c_l := by simpa [Value.cells] using e0
  obtain ⟨hc0, ok_l⟩ := flats_of_reps (cellsF := evL) (okF := Ev.ok) rp0
  rw [hc0] at s_l
  obtain ⟨n1, g1⟩ := h1
  obtain ⟨a'1, n'1, c'1, rfl⟩ := okWide_slice Try.underlying37 (hval 1 37 v1 rfl rfl)
  obtain ⟨a_r, r, c_r, cells1, e1, s_r, rp1⟩ := read_slice (R := fun (s : Ev) c => c = evL s ∧ Ev.ok s) (sz := 8) (by rintro x c ⟨rfl, _⟩; rfl) Try.underlying37 (by kernel_rfl) (by omega)
    (fun n cs' y _ ht => by obtain ⟨k0, k1, k2, k3, k4, k5, k6, k7, e, o0, _, _, _, o4, o5, _⟩ := read_Event _ _ _ ht; exact ⟨⟨k0, k1, k2, k3, k4, k5, k6, k7⟩, e, o0, o4, o5⟩) g1
  have hv1 : Value.slice a'1 n'1 c'1 = .slice a_r r.length c_r := by simpa [Value.cells] using e1
  obtain ⟨hc1, ok_r⟩ := flats_of_reps (cellsF := evL) (okF := Ev.ok) rp1
  rw [hc1] at s_r
  rw [hv0, hv1]
  rw [hv0, hv1] at hW'
  refine (walk l r ok_l ok_r a_l a_r c_l c_r W s_l s_r).mono fun e W' ⟨he, hg⟩ => ?_
  subst he
  exact ⟨_, rfl, law_post laidOut rfl hW' hg (by kernel_rfl) (by kernel_rfl) Try.underlying4 rfl⟩

theorem over : Rows.eventJoinsMatchSpecRow.holds Try.pinned (OpenSpec.ofChange Rows.eventJoinsMatchSpecSpec) :=
  OpenClaim.holds_of_wide 5 Try.f5 rfl rfl rfl rfl rfl rfl rfl ⟨rfl, rfl, rfl, rfl, rfl⟩ rfl rfl rfl rfl rfl (by kernel_rfl) Try.func5 (by kernel_rfl)
    (of_decide_eq_true (by kernel_rfl)) (by unfold Func.isWrapper; first | (rw [if_pos (by decide +kernel)]; kernel_rfl) | (rw [if_neg (by decide +kernel)]; exact ⟨rfl, rfl⟩))
    (fun os started H enc _ => lifted os started H enc)

theorem proved : Rows.EventJoinsMatchSpecSaid := over
end Go.Proofs.Ytbbfdkjamjmbmaa.lawJoin
