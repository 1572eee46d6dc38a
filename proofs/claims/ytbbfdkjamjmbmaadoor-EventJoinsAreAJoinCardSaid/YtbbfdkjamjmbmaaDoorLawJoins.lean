/- To join logs has no order, and to join one twice makes no difference: for every three lists of events the law returns true. No condition but the card's own tables. -/
import Derived.Test.YtbbfdkjamjmbmaaDoorCards
import Derived.Test.YtbbfdkjamjmbmaaDoorTie
import Derived.Test.YtbbfdkjamjmbmaaDoorFrame
import Derived.Test.YtbbfdkjamjmbmaaDoorJoinQ
import Derived.Test.YtbbfdkjamjmbmaaDoorEqEv
import Derived.Test.YtbbfdkjamjmbmaaDoorAwake7
import Derived.Test.YtbbfdkjamjmbmaaDoorReadE
import Derived.Deep.DeepHandedRow
import Derived.Lib.LaidTab
namespace Go.Proofs.YtbbfdkjamjmbmaaDoor.lawJoins
open Go.ChangeShapes Go.WideShapes Go.ChangeAt Go.RowKit
theorem _root_.Go.Proofs.YtbbfdkjamjmbmaaDoor.JoinSpec.okR {a b R : List Ev} {F : Int} (h : JoinSpec a b R F) (ha : ∀ e ∈ a, e.ok) (hb : ∀ e ∈ b, e.ok) : ∀ e ∈ R, e.ok := by
  by_cases hF : F = 0
  · subst hF
    obtain ⟨_, _, _, h4, _⟩ := h.ok
    exact fun e he => (List.mem_append.1 ((h4 e).1 he)).elim (ha e) (hb e)
  · rw [h.bad hF]; exact fun e he => by cases he
set_option maxRecDepth 100000 in
set_option maxHeartbeats 16000000 in
theorem walk (la lb lc : List Ev) (hoka : ∀ e ∈ la, e.ok) (hokb : ∀ e ∈ lb, e.ok) (hokc : ∀ e ∈ lc, e.ok) (a b c : Option Addr) (ca cb cc : Nat) (w : World)
    (sa : Sl w (.slice a la.length ca) la.length (la.flatMap evL)) (sb : Sl w (.slice b lb.length cb) lb.length (lb.flatMap evL)) (sc : Sl w (.slice c lc.length cc) lc.length (lc.flatMap evL)) :
    Calls Tryd.prog 3 #[.slice a la.length ca, .slice b lb.length cb, .slice c lc.length cc] w fun e w' => e = .returned (.bool true) ∧ Below w.heap.size w w' := by
  have HA := Lib.hid hoka
  have HB := Lib.hid hokb
  have HC := Lib.hid hokc
  clear hoka hokb hokc
  go_enter Tryd.func3, Tryd.ntmps3
  go_wp2_with fail
  refine (awake7 _).mono ?_
  rintro e w0 ⟨rfl, hb0⟩
  have c1 := event_Join la lb HA.out HB.out _ _ _ _ _ (sa.ext hb0) (sb.ext hb0)
  go_wp2_with fail
  refine c1.mono ?_
  rintro e w1 ⟨R1, G1, a1, d1, rfl, s1, j1, hb1⟩
  have hbw1 := ext_trans hb0 hb1
  clear c1
  have c2 := event_Join lb la HB.out HA.out _ _ _ _ _ (sb.ext hbw1) (sa.ext hbw1)
  go_wp2_with fail
  refine c2.mono ?_
  rintro e w2 ⟨R2, G2, a2, d2, rfl, s2, j2, hb2⟩
  have hbw2 := ext_trans hbw1 hb2
  clear c2
  have hok1 := fun x hx => j1.okR HA.out HB.out x hx
  have HO1 := Lib.hid hok1
  clear hok1
  by_cases hf : G1 = 0
  · subst hf
    obtain ⟨rfl, rfl⟩ := join_swap j1 j2 rfl
    have J1 := Lib.hid j1
    clear j1 j2
    go_wp2_with fail
    refine (equal_events R1 a1 a2 d1 d2 _ (s1.ext hb2) s2).mono ?_
    rintro e w3 ⟨rfl, hb3⟩
    have hbw3 := ext_trans hbw2 hb3
    have s1' := s1.ext (ext_trans hb2 hb3)
    clear s1 s2 hb1 hb2 hb3
    have c4 := event_Join R1 lb HO1.out HB.out _ _ _ _ _ s1' (sb.ext hbw3)
    go_wp2_with fail
    refine c4.mono ?_
    rintro e w4 ⟨R4, G4, a4, d4, rfl, s4, j4, hb4⟩
    have hbw4 := ext_trans hbw3 hb4
    clear c4
    obtain ⟨hG4, hR4⟩ := join_again J1.out j4
    subst hG4 hR4
    clear j4
    go_wp2_with fail
    refine (equal_events R4 a4 a1 d4 d1 _ s4 (s1'.ext hb4)).mono ?_
    rintro e w5 ⟨rfl, hb5⟩
    have hbw5 := ext_trans hbw4 hb5
    have s5 := s1'.ext (ext_trans hb4 hb5)
    clear s4 s1' hb4 hb5
    have c6 := event_Join R4 lc HO1.out HC.out _ _ _ _ _ s5 (sc.ext hbw5)
    go_wp2_with fail
    refine c6.mono ?_
    rintro e w6 ⟨R6, G6, a6, d6, rfl, s6, j6, hb6⟩
    have hbw6 := ext_trans hbw5 hb6
    clear c6
    have c7 := event_Join lb lc HB.out HC.out _ _ _ _ _ (sb.ext hbw6) (sc.ext hbw6)
    go_wp2_with fail
    refine c7.mono ?_
    rintro e w7 ⟨R7, G7, a7, d7, rfl, s7, j7, hb7⟩
    have hbw7 := ext_trans hbw6 hb7
    clear c7
    by_cases hf6 : G6 = 0
    · subst hf6
      obtain rfl := join_part J1.out j6 j7
      have J6 := Lib.hid j6
      have J7 := Lib.hid j7
      have HO7 := Lib.hid (fun x hx => j7.okR HB.out HC.out x hx)
      clear j6 j7
      have c8 := event_Join la R7 HA.out HO7.out _ _ _ _ _ (sa.ext hbw7) s7
      go_wp2_with fail
      refine c8.mono ?_
      rintro e w8 ⟨R8, G8, a8, d8, rfl, s8, j8, hb8⟩
      have hbw8 := ext_trans hbw7 hb8
      clear c8
      obtain ⟨hG8, hR8⟩ := join_assoc J1.out J6.out J7.out j8
      subst hG8 hR8
      clear j8
      go_wp2_with fail
      refine (equal_events R6 a6 a8 d6 d8 _ (s6.ext (ext_trans hb7 hb8)) s8).mono ?_
      rintro e w9 ⟨rfl, hb9⟩
      have hbw9 := ext_trans hbw8 hb9
      go_wp2
      go_ret
      exact ⟨rfl, hbw9⟩
    · have hf6' : (G6 != 0) = true := by simp [hf6]
      clear hf6 j6 j7
      go_wp2
      go_ret
      exact ⟨rfl, hbw7⟩
  · have hg : G2 ≠ 0 := fun h => hf (join_swap j2 j1 h).1
    have hf1 : (G1 != 0) = true := by simp [hf]
    have hg1 : (G2 != 0) = true := by simp [hg]
    obtain rfl := j1.bad hf
    clear hf hg j1 j2
    simp only [List.length_nil] at s1 ⊢
    go_wp2
    go_ret
    exact ⟨rfl, hbw2⟩

theorem ints_of_reps : ∀ {l : List Int} {cs : List Value}, Reps (fun (s : Int) c => c = [Value.int .i64 s] ∧ i64ok s) l cs → cs = l.map (Value.int .i64) ∧ ∀ e ∈ l, i64ok e
  | [], _, h => ⟨h, fun _ h => by cases h⟩
  | _ :: _, _, ⟨c, r, e, h1, h2⟩ => by
    subst e; obtain ⟨h1, ho⟩ := h1; subst h1
    obtain ⟨i1, i2⟩ := ints_of_reps h2
    exact ⟨by rw [List.map_cons, i1]; rfl, fun x hx => (List.mem_cons.1 hx).elim (fun h => h ▸ ho) (i2 x)⟩
theorem flats_of_reps {α : Type} {cellsF : α → List Value} {okF : α → Prop} : ∀ {l : List α} {cs : List Value}, Reps (fun s c => c = cellsF s ∧ okF s) l cs → cs = l.flatMap cellsF ∧ ∀ e ∈ l, okF e
  | [], _, h => ⟨h, fun _ h => by cases h⟩
  | _ :: _, _, ⟨c, r, e, h1, h2⟩ => by
    subst e; obtain ⟨h1, ho⟩ := h1; subst h1
    obtain ⟨i1, i2⟩ := flats_of_reps h2
    exact ⟨by rw [List.flatMap_cons, i1], fun x hx => (List.mem_cons.1 hx).elim (fun h => h ▸ ho) (i2 x)⟩

/-- what the walk gives, for all arguments -/
theorem contract (H : Type) (enc : TypeId × Value → H) (W : World) (base : Nat) (args : Array Value) (ds gs : List (DataW H)) (before : List MemPlace)
    (hval0 : ∀ (j : Nat) t v, Tryd.f3.params[j]? = some t → args[j]? = some v → Value.okWide Tryd.prog W .any base t v)
    (hW : DataW.Whole enc Tryd.prog Tryd.f3.params.toList Rows.eventJoinsAreAJoinSpec.vars false W args.toList ds gs before)
    (hsz0 : (DataW.weightsEach Tryd.prog (Tryd.f3.params.toList ++ Rows.eventJoinsAreAJoinSpec.plain.varTypes Tryd.prog) (ds ++ gs)).all (· ≤ reachBytes) = true)
    (hlaid : laidMetH Tryd.prog Rows.eventJoinsAreAJoinRow.laid W) (hshape : W.ShapedOpen Tryd.prog) :
    Calls Tryd.prog 3 args W fun e W' => ∃ v, e = .returned v ∧ Rows.eventJoinsAreAJoinSpec.post enc Tryd.prog Tryd.f3 false true false false W args v W' := by
  have hval : ∀ (j : Nat) t v, Tryd.f3.params[j]? = some t → args[j]? = some v → Value.okWide Tryd.prog W .any base t v := hval0
  have hsz : (DataW.weightsEach Tryd.prog (Tryd.f3.params.toList ++ Rows.eventJoinsAreAJoinSpec.plain.varTypes Tryd.prog) (ds ++ gs)).all (· ≤ reachBytes) = true := hsz0
  clear hval0 hsz0
  have hW' := hW
  obtain ⟨p, q, hA0, hV, rfl, hfz, hnd⟩ := hW
  have hA : DataW.TrodAll enc Tryd.prog W 0 (fun _ => true) true Tryd.f3.params.toList args.toList ds p := hA0
  rw [Tryd.params3] at hA hval hsz
  obtain ⟨v0, vs0, d0, ds0, p0, q0, hargs, rfl, rfl, h0, r0⟩ := trodAll_cons hA
  obtain ⟨v1, vs1, d1, ds1, p1, q1, rfl, rfl, rfl, h1, r1⟩ := trodAll_cons r0
  obtain ⟨v2, vs2, d2, ds2, p2, q2, rfl, rfl, rfl, h2, r2⟩ := trodAll_cons r1
  obtain ⟨rfl, rfl, rfl⟩ := trodAll_nil r2
  obtain rfl : args = #[v0, v1, v2] := by cases args; simp_all
  obtain ⟨rfl, rfl⟩ := trodVars_none hV
  obtain ⟨n0, g0⟩ := h0
  obtain ⟨a'0, n'0, c'0, rfl⟩ := okWide_slice Tryd.underlying22 (hval 0 22 v0 rfl rfl)
  obtain ⟨a_l, l, c_l, cells0, e0, s_l, rp0⟩ := read_slice (R := fun (s : Ev) c => c = evL s ∧ Ev.ok s) (sz := 8) (by rintro x c ⟨rfl, _⟩; rfl) Tryd.underlying22 (by kernel_rfl) (by omega)
    (fun n cs' y _ ht => by obtain ⟨k0, k1, k2, k3, k4, k5, k6, k7, e, o0, _, _, _, o4, o5, _⟩ := read_Event _ _ _ ht; exact ⟨⟨k0, k1, k2, k3, k4, k5, k6, k7⟩, e, o0, o4, o5⟩) g0
  have hv0 : Value.slice a'0 n'0 c'0 = .slice a_l l.length c_l := by simpa [Value.cells] using e0
  obtain ⟨hc0, ok_l⟩ := flats_of_reps (cellsF := evL) (okF := Ev.ok) rp0
  rw [hc0] at s_l
  obtain ⟨n1, g1⟩ := h1
  obtain ⟨a'1, n'1, c'1, rfl⟩ := okWide_slice Tryd.underlying22 (hval 1 22 v1 rfl rfl)
  obtain ⟨a_r, r, c_r, cells1, e1, s_r, rp1⟩ := read_slice (R := fun (s : Ev) c => c = evL s ∧ Ev.ok s) (sz := 8) (by rintro x c ⟨rfl, _⟩; rfl) Tryd.underlying22 (by kernel_rfl) (by omega)
    (fun n cs' y _ ht => by obtain ⟨k0, k1, k2, k3, k4, k5, k6, k7, e, o0, _, _, _, o4, o5, _⟩ := read_Event _ _ _ ht; exact ⟨⟨k0, k1, k2, k3, k4, k5, k6, k7⟩, e, o0, o4, o5⟩) g1
  have hv1 : Value.slice a'1 n'1 c'1 = .slice a_r r.length c_r := by simpa [Value.cells] using e1
  obtain ⟨hc1, ok_r⟩ := flats_of_reps (cellsF := evL) (okF := Ev.ok) rp1
  rw [hc1] at s_r
  obtain ⟨n2, g2⟩ := h2
  obtain ⟨a'2, n'2, c'2, rfl⟩ := okWide_slice Tryd.underlying22 (hval 2 22 v2 rfl rfl)
  obtain ⟨a_q, q, c_q, cells2, e2, s_q, rp2⟩ := read_slice (R := fun (s : Ev) c => c = evL s ∧ Ev.ok s) (sz := 8) (by rintro x c ⟨rfl, _⟩; rfl) Tryd.underlying22 (by kernel_rfl) (by omega)
    (fun n cs' y _ ht => by obtain ⟨k0, k1, k2, k3, k4, k5, k6, k7, e, o0, _, _, _, o4, o5, _⟩ := read_Event _ _ _ ht; exact ⟨⟨k0, k1, k2, k3, k4, k5, k6, k7⟩, e, o0, o4, o5⟩) g2
  have hv2 : Value.slice a'2 n'2 c'2 = .slice a_q q.length c_q := by simpa [Value.cells] using e2
  obtain ⟨hc2, ok_q⟩ := flats_of_reps (cellsF := evL) (okF := Ev.ok) rp2
  rw [hc2] at s_q
  rw [hv0, hv1, hv2]
  rw [hv0, hv1, hv2] at hW'
  refine (walk l r q ok_l ok_r ok_q a_l a_r a_q c_l c_r c_q W s_l s_r s_q).mono fun e W' ⟨he, hg⟩ => ?_
  subst he
  exact ⟨_, rfl, law_post laidOut rfl hW' hg (by kernel_rfl) (by kernel_rfl) Tryd.underlying4 rfl⟩


def table0 : Array Value := (([0, 1, 28, 2, 29, 14, 24, 3, 30, 22, 20, 15, 25, 17, 4, 8, 31, 27, 13, 23, 21, 19, 16, 7, 26, 12, 18, 6, 11, 5, 10, 9] : List Int).map fun n => Value.int .u8 n).toArray
def table1 : Array Value := (([0, 1, 56, 2, 57, 49, 28, 3, 61, 58, 42, 50, 38, 29, 17, 4, 62, 47, 59, 36, 45, 43, 51, 22, 53, 39, 33, 30, 24, 18, 12, 5, 63, 55, 48, 27, 60, 41, 37, 16, 46, 35, 44, 21, 52, 32, 23, 11, 54, 26, 40, 15, 34, 20, 31, 10, 25, 14, 19, 9, 13, 8, 7, 6] : List Int).map fun n => Value.int .u8 n).toArray
def table2 : Array Value := (([1, 10, 100, 1000, 10000, 100000, 1000000, 10000000, 100000000, 1000000000, 10000000000, 100000000000, 1000000000000, 10000000000000, 100000000000000, 1000000000000000, 10000000000000000, 100000000000000000, 1000000000000000000, 10000000000000000000] : List Int).map fun n => Value.int .u64 n).toArray
/-- The block with other cells. -/
def putCells (cs : Array Value) (o : Obj) : Obj := match o with
  | .cells _ t frozen => .cells cs t frozen
  | o => o
/-- A world for the witness: the settled one, the tables laid. -/
noncomputable def laidWorld (os : Os) : World :=
  { World.holding Tryd.prog os ⟨#[], #[], []⟩ with heap := ((((World.holding Tryd.prog os ⟨#[], #[], []⟩).heap.modify 2 (putCells table0)).modify 3 (putCells table1)).modify 1 (putCells table2)) }
set_option maxRecDepth 100000 in
theorem laid_met (os : Os) : laidMet Tryd.prog Rows.eventJoinsAreAJoinRow.laid ((laidWorld os).forCall (fun _ _ => 0) ⟨#[], #[.slice none 0 0, .slice none 0 0, .slice none 0 0], []⟩).memory :=
  laidMet_of_run' 8 (by kernel_rfl) (by kernel_rfl)
theorem reads (os : Os) {H : Type} (enc : TypeId × Value → H) : ∃ places, DataW.whole enc Tryd.prog ((laidWorld os).forCall (fun _ _ => 0) ⟨#[], #[.slice none 0 0, .slice none 0 0, .slice none 0 0], []⟩).memory Tryd.f3.params.toList Rows.eventJoinsAreAJoinSpec.vars false #[.slice none 0 0, .slice none 0 0, .slice none 0 0].toList 8 = some ([.nil, .nil, .nil], [], places) :=
  ⟨[], by kernel_rfl⟩
set_option maxRecDepth 100000 in
theorem lifted (os : Os) (started : os.Started) (H : Type) (enc : TypeId × Value → H) (F : Stop.Interp) :
    ReturnsInHanded {} Tryd.checked os 3 .any ((OpenSpec.ofChange Rows.eventJoinsAreAJoinSpec).preRow enc Tryd.prog Tryd.f3 Rows.eventJoinsAreAJoinRow.domain false Rows.eventJoinsAreAJoinRow.laid) (((OpenSpec.ofChange Rows.eventJoinsAreAJoinSpec).at F).post enc Tryd.prog Tryd.f3 false true false false) := by
  obtain ⟨places, hx⟩ := reads os enc
  refine returnsInHanded_of_row (C := Tryd.checked) (s := OpenSpec.ofChange Rows.eventJoinsAreAJoinSpec) own started (by kernel_rfl) Tryd.func3
    (witness_row_at (enc := enc) (C := Tryd.checked) false (laidWorld os) #[.slice none 0 0, .slice none 0 0, .slice none 0 0] rfl (by kernel_rfl) (by kernel_rfl) (by kernel_rfl)
      (OpenSpec.preRow_of_cond 8 hx (by kernel_rfl) (fun k hk => by cases hk) (by kernel_rfl) (laid_met os))) ?_
  intro W base args ds gs before hval hW _ _ hsz hlaid hshape _
  exact contract H enc W base args ds gs before hval hW hsz hlaid hshape
theorem said : Rows.EventJoinsAreAJoinSaid :=
  OpenClaim.holds_of_cond 3 Tryd.f3 rfl rfl rfl rfl rfl rfl rfl ⟨rfl, rfl, rfl, rfl, rfl⟩ rfl rfl rfl rfl rfl (by kernel_rfl) Tryd.func3 (by kernel_rfl)
    (of_decide_eq_true (by kernel_rfl)) (by unfold Func.isWrapper; first | (rw [if_pos (by decide +kernel)]; kernel_rfl) | (rw [if_neg (by decide +kernel)]; exact ⟨rfl, rfl⟩))
    (fun os started H enc _ F => by rw [OpenClaim.pre_eq_preRow]; exact lifted os started H enc F)
/-- No parameter wants a stand-in; the program's own looks are off. -/
theorem plain (f : FuncId) (fn : Func) (hf : Tryd.pinned.checked.prog.funcNamed "burgee/burgeelaw7.EventJoinsAreAJoin" = some f) (hfn : Tryd.pinned.checked.prog.funcs[f]? = some fn) :
    false = Tryd.pinned.checked.prog.looks [] ∧ ∀ (j : Nat) t, fn.params[j]? = some t → Tryd.pinned.checked.prog.wantsStandIn t = false := by
  obtain rfl : f = 3 := Option.some.inj ((show Tryd.prog.funcNamed "burgee/burgeelaw7.EventJoinsAreAJoin" = some 3 by kernel_rfl).symm.trans hf) |>.symm
  obtain rfl : fn = Tryd.f3 := (Option.some.inj (Tryd.func3.symm.trans hfn)).symm
  refine ⟨by kernel_rfl, fun j t ht => ?_⟩
  have hall : (Tryd.f3.params.toList.all fun t => !(Tryd.prog.wantsStandIn t)) = true := by kernel_rfl
  have h1 := List.all_eq_true.1 hall t (Array.mem_toList_iff.2 (Array.mem_of_getElem? ht))
  have h2 : Tryd.prog.wantsStandIn t = false := by simpa using h1
  exact h2
theorem proved : Rows.EventJoinsAreAJoinCardSaid :=
  Claim7.holds_tied_plain_at .later [] _ _ _ _ said (fun _ h => by cases h) (by kernel_rfl) (fun _ h => by cases h) eventJoinsAreAJoin_row_tie rfl ⟨rfl, rfl⟩ (by kernel_rfl) rfl plain (by kernel_rfl)
end Go.Proofs.YtbbfdkjamjmbmaaDoor.lawJoins
