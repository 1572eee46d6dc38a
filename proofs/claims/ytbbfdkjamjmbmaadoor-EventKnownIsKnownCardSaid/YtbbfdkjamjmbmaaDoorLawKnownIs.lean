/- What comes later, without a broken promise, has no event before the time up to which all was known: for every two lists of events and every list of shards the law returns true. No condition but the card's own tables. -/
import Derived.Test.YtbbfdkjamjmbmaaDoorCards
import Derived.Test.YtbbfdkjamjmbmaaDoorTie
import Derived.Test.YtbbfdkjamjmbmaaDoorFrame
import Derived.Test.YtbbfdkjamjmbmaaDoorKnN
import Derived.Test.YtbbfdkjamjmbmaaDoorWhole7
import Derived.Test.YtbbfdkjamjmbmaaDoorAwake7
import Derived.Test.YtbbfdkjamjmbmaaDoorReadE
import Derived.Deep.DeepHandedRow
import Derived.Lib.LaidTab
namespace Go.Proofs.YtbbfdkjamjmbmaaDoor.lawKnownIs
open Go.ChangeShapes Go.WideShapes Go.ChangeAt Go.RowKit
theorem known_bad {l : List Ev} {L : List ByteArray} (h : knownF l L ≠ 0) : knownN l L = 0 := by
  unfold knownF at h
  unfold knownN
  by_cases h1 : checkL l = 0
  · rw [if_pos h1] at h ⊢; rw [if_neg h]
  · rw [if_neg h1]
theorem known_ok {l : List Ev} {L : List ByteArray} (h : knownF l L = 0) : checkL l = 0 ∧ checkSh L = 0 ∧ knownN l L = knownR l L := by
  unfold knownF at h
  unfold knownN
  by_cases h1 : checkL l = 0
  · rw [if_pos h1] at h ⊢; rw [if_pos h]; exact ⟨h1, h, rfl⟩
  · rw [if_neg h1] at h; exact absurd h h1
set_option maxRecDepth 100000 in
set_option maxHeartbeats 16000000 in
theorem walk (la lb : List Ev) (L : List ByteArray) (hoka : ∀ e ∈ la, e.ok) (hokb : ∀ e ∈ lb, e.ok) (hsz : ∀ s ∈ L, s.size ≤ maxLen) (a b c : Option Addr) (ca cb cc : Nat) (w : World)
    (sa : Sl w (.slice a la.length ca) la.length (la.flatMap evL)) (sb : Sl w (.slice b lb.length cb) lb.length (lb.flatMap evL)) (sc : Sl w (.slice c L.length cc) L.length (L.map Value.string)) :
    Calls Tryd.prog 4 #[.slice a la.length ca, .slice b lb.length cb, .slice c L.length cc] w fun e w' => e = .returned (.bool true) ∧ Below w.heap.size w w' := by
  have HA := Lib.hid hoka
  have HB := Lib.hid hokb
  have HS := Lib.hid hsz
  clear hoka hokb hsz
  go_enter Tryd.func4, Tryd.ntmps4
  go_wp2_with fail
  refine (awake7 _).mono ?_
  rintro e w0 ⟨rfl, hb0⟩
  go_wp2_with fail
  refine (event_Known la HA.out L HS.out a c ca cc _ (sa.ext hb0) (sc.ext hb0)).mono ?_
  rintro e w1 ⟨rfl, hb1⟩
  have hbw1 := ext_trans hb0 hb1
  clear hb0 hb1
  have c2 := whole_law la lb L HA.out HB.out a b c ca cb cc w1 (sa.ext hbw1) (sb.ext hbw1) (sc.ext hbw1)
  go_wp2_with fail
  refine c2.mono ?_
  rintro e w2 (⟨M, a2, d2, rfl, s2, j2, hbr, hsh, hb2⟩ | ⟨rfl, hb2⟩)
  · have hbw2 := ext_trans hbw1 hb2
    clear c2
    by_cases hf : knownF la L = 0
    · obtain ⟨hcl, hcs, hkn⟩ := known_ok hf
      rw [hf, hkn]
      have HJ := Lib.hid j2
      have HBR := Lib.hid hbr
      have HSH := Lib.hid hsh
      have HCL := Lib.hid hcl
      have hlm := s2.len_le
      have c3 := fun W (hW : Below w2.heap.size w2 W) => event_Known M (j2.okE HA.out HB.out) L HS.out a2 c d2 cc W (s2.ext hW) (sc.ext (ext_trans hbw2 hW))
      have hkf : knownF M L = 0 := by unfold knownF; rw [if_pos (checkL_of j2)]; exact hcs
      have hkN : knownN M L = knownR M L := (known_ok hkf).2.2
      have HC3 : Aside _ := c3
      have HKF := Lib.hid hkf
      have HKN := Lib.hid hkN
      clear c3 hkf hkN j2 hbr hsh hcl hcs hkn hf
      generalize hT : knownR la L = T
      have HT := Lib.hid hT
      clear hT
      go_wp2_with fail
      go_loopw [43] (fun i wr => ∃ k : Nat, k ≤ M.length ∧ i = .int .i64 k ∧ Below w2.heap.size w2 wr) (fun i _ => M.length - (intOf i).toNat)
      case atStart => exact ⟨0, by omega, rfl, Below.refl _ _⟩
      case round =>
        obtain ⟨k, hk, rfl, hb⟩ := hrel
        by_cases hlt : k < M.length
        · have hgk := List.getElem?_eq_getElem hlt
          generalize M[k] = x at hgk
          obtain ⟨b', o', rfl, e0, e1, e2, e3, e4, e5, e6, e7⟩ := ev_cells (s2.ext hb) hgk
          have HG := Lib.hid hgk
          clear hgk
          go_upto_region 10 with (fail)
          clear e0 e1 e2 e3 e4 e5 e6 e7
          refine wp_box1 fun X hszX hbX hX => ?_
          have g0 := hX.2 0; have g1 := hX.2 1; have g2 := hX.2 2; have g3 := hX.2 3; have g4 := hX.2 4; have g5 := hX.2 5; have g6 := hX.2 6; have g7 := hX.2 7
          have hbx := ext_trans hb hbX
          have hbwx := ext_trans hbw2 hbx
          clear hszX hX hbX
          by_cases htx : x.time < T
          · have HIN : Hid (x ∈ la) := known_in HJ.out HBR.out HSH.out (List.mem_of_getElem? HG.out) (by rw [HT.out]; exact htx)
            go_wp2_with fail
            refine (contains_ev la x a ca _ (sa.ext hbwx)).mono ?_
            rintro e w4 ⟨z, rfl, hz, hb4⟩
            have hz1 : z = true := hz.2 HIN.out
            subst hz1
            have hb5 := ext_trans hbx hb4
            clear hz
            go_wp2
            go_roundw
            case rel => exact ⟨k + 1, by omega, by go_num, hb5⟩
            case measure => simp [intOf]; omega
          · go_wp2
            go_roundw
            case rel => exact ⟨k + 1, by omega, by go_num, hbx⟩
            case measure => simp [intOf]; omega
        · go_wp2_with fail
          refine (HC3.out wr hb).mono ?_
          rintro e w5 ⟨rfl, hb5⟩
          rw [HKF.out, HKN.out]
          have hle : T ≤ knownR M L := by rw [← HT.out]; exact known_later HJ.out
          have hbw5 := ext_trans hbw2 (ext_trans hb hb5)
          generalize knownR M L = T2 at hle ⊢
          go_wp2
          go_ret
          exact ⟨rfl, hbw5⟩
    · have hf1 : (knownF la L != 0) = true := by simp [hf]
      have hf2 : (knownF la L == 0) = false := by simp [hf]
      rw [known_bad hf]
      clear hf j2 hbr hsh
      go_wp2
      go_ret
      exact ⟨rfl, hbw2⟩
  · have hbw2 := ext_trans hbw1 hb2
    clear c2
    by_cases hf : knownF la L = 0
    · rw [hf]
      go_wp2
      go_ret
      exact ⟨rfl, hbw2⟩
    · have hf1 : (knownF la L != 0) = true := by simp [hf]
      have hf2 : (knownF la L == 0) = false := by simp [hf]
      rw [known_bad hf]
      clear hf
      go_wp2
      go_ret
      exact ⟨rfl, hbw2⟩

theorem ints_of_reps : ∀ {l : List Int} {cs : List Value}, Reps (fun (s : Int) c => c = [Value.int .i64 s] ∧ i64ok s) l cs → cs = l.map (Value.int .i64) ∧ ∀ e ∈ l, i64ok e
  | [], _, h => ⟨h, fun _ h => by cases h⟩
  | _ :: _, _, ⟨c, r, e, h1, h2⟩ => by
    subst e; obtain ⟨h1, ho⟩ := h1; subst h1
    obtain ⟨i1, i2⟩ := ints_of_reps h2
    exact ⟨by rw [List.map_cons, i1]; rfl, fun x hx => (List.mem_cons.1 hx).elim (fun h => h ▸ ho) (i2 x)⟩
theorem flats_of_reps {α : Type} {cellsF : α → List Value} {okF : α → Prop} : ∀ {l : List α} {cs : List Value}, Reps (fun s c => c = cellsF s ∧ okF s) l cs → cs = l.flatMap cellsF ∧ ∀ e ∈ l, okF e
  | [], _, h => ⟨h, fun _ h => by cases h⟩
  | _ :: _, _, ⟨c, r, e, h1, h2⟩ => by
    subst e; obtain ⟨h1, ho⟩ := h1; subst h1
    obtain ⟨i1, i2⟩ := flats_of_reps h2
    exact ⟨by rw [List.flatMap_cons, i1], fun x hx => (List.mem_cons.1 hx).elim (fun h => h ▸ ho) (i2 x)⟩

/-- what the walk gives, for all arguments -/
theorem contract (H : Type) (enc : TypeId × Value → H) (W : World) (base : Nat) (args : Array Value) (ds gs : List (DataW H)) (before : List MemPlace)
    (hval0 : ∀ (j : Nat) t v, Tryd.f4.params[j]? = some t → args[j]? = some v → Value.okWide Tryd.prog W .any base t v)
    (hW : DataW.Whole enc Tryd.prog Tryd.f4.params.toList Rows.eventKnownIsKnownSpec.vars false W args.toList ds gs before)
    (hsz0 : (DataW.weightsEach Tryd.prog (Tryd.f4.params.toList ++ Rows.eventKnownIsKnownSpec.plain.varTypes Tryd.prog) (ds ++ gs)).all (· ≤ reachBytes) = true)
    (hlaid : laidMetH Tryd.prog Rows.eventKnownIsKnownRow.laid W) (hshape : W.ShapedOpen Tryd.prog) :
    Calls Tryd.prog 4 args W fun e W' => ∃ v, e = .returned v ∧ Rows.eventKnownIsKnownSpec.post enc Tryd.prog Tryd.f4 false true false false W args v W' := by
  have hval : ∀ (j : Nat) t v, Tryd.f4.params[j]? = some t → args[j]? = some v → Value.okWide Tryd.prog W .any base t v := hval0
  have hsz : (DataW.weightsEach Tryd.prog (Tryd.f4.params.toList ++ Rows.eventKnownIsKnownSpec.plain.varTypes Tryd.prog) (ds ++ gs)).all (· ≤ reachBytes) = true := hsz0
  clear hval0 hsz0
  have hW' := hW
  obtain ⟨p, q, hA0, hV, rfl, hfz, hnd⟩ := hW
  have hA : DataW.TrodAll enc Tryd.prog W 0 (fun _ => true) true Tryd.f4.params.toList args.toList ds p := hA0
  rw [Tryd.params4] at hA hval hsz
  obtain ⟨v0, vs0, d0, ds0, p0, q0, hargs, rfl, rfl, h0, r0⟩ := trodAll_cons hA
  obtain ⟨v1, vs1, d1, ds1, p1, q1, rfl, rfl, rfl, h1, r1⟩ := trodAll_cons r0
  obtain ⟨v2, vs2, d2, ds2, p2, q2, rfl, rfl, rfl, h2, r2⟩ := trodAll_cons r1
  obtain ⟨rfl, rfl, rfl⟩ := trodAll_nil r2
  obtain rfl : args = #[v0, v1, v2] := by cases args; simp_all
  obtain ⟨rfl, rfl⟩ := trodVars_none hV
  obtain ⟨n0, g0⟩ := h0
  obtain ⟨a'0, n'0, c'0, rfl⟩ := okWide_slice Tryd.underlying22 (hval 0 22 v0 rfl rfl)
  obtain ⟨a_l, l, c_l, cells0, e0, s_l, rp0⟩ := read_slice (R := fun (s : Ev) c => c = evL s ∧ Ev.ok s) (sz := 8) (by rintro x c ⟨rfl, _⟩; rfl) Tryd.underlying22 (by kernel_rfl) (by omega)
    (fun n cs' y _ ht => by obtain ⟨k0, k1, k2, k3, k4, k5, k6, k7, e, o0, _, _, _, o4, o5, _⟩ := read_Event _ _ _ ht; exact ⟨⟨k0, k1, k2, k3, k4, k5, k6, k7⟩, e, o0, o4, o5⟩) g0
  have hv0 : Value.slice a'0 n'0 c'0 = .slice a_l l.length c_l := by simpa [Value.cells] using e0
  obtain ⟨hc0, ok_l⟩ := flats_of_reps (cellsF := evL) (okF := Ev.ok) rp0
  rw [hc0] at s_l
  obtain ⟨n1, g1⟩ := h1
  obtain ⟨a'1, n'1, c'1, rfl⟩ := okWide_slice Tryd.underlying22 (hval 1 22 v1 rfl rfl)
  obtain ⟨a_r, r, c_r, cells1, e1, s_r, rp1⟩ := read_slice (R := fun (s : Ev) c => c = evL s ∧ Ev.ok s) (sz := 8) (by rintro x c ⟨rfl, _⟩; rfl) Tryd.underlying22 (by kernel_rfl) (by omega)
    (fun n cs' y _ ht => by obtain ⟨k0, k1, k2, k3, k4, k5, k6, k7, e, o0, _, _, _, o4, o5, _⟩ := read_Event _ _ _ ht; exact ⟨⟨k0, k1, k2, k3, k4, k5, k6, k7⟩, e, o0, o4, o5⟩) g1
  have hv1 : Value.slice a'1 n'1 c'1 = .slice a_r r.length c_r := by simpa [Value.cells] using e1
  obtain ⟨hc1, ok_r⟩ := flats_of_reps (cellsF := evL) (okF := Ev.ok) rp1
  rw [hc1] at s_r
  obtain ⟨n2, g2⟩ := h2
  obtain ⟨a'2, n'2, c'2, rfl⟩ := okWide_slice Tryd.underlying31 (hval 2 31 v2 rfl rfl)
  obtain ⟨a_q, q, c_q, cells2, e2, s_q, rp2⟩ := read_slice (R := fun (s : ByteArray) c => c = (fun s => [Value.string s]) s ∧ (fun s => s.size ≤ maxLen) s) (sz := 1) (by rintro x c ⟨rfl, _⟩; rfl) Tryd.underlying31 (by kernel_rfl) (by omega)
    (fun n cs' y _ ht => by obtain ⟨x0, h0, _, w0⟩ := DataW.trod_string Tryd.underlying9 ht; exact ⟨x0, h0, w0⟩) g2
  have hv2 : Value.slice a'2 n'2 c'2 = .slice a_q q.length c_q := by simpa [Value.cells] using e2
  obtain ⟨hc2, ok_q⟩ := flats_of_reps (cellsF := (fun s => [Value.string s])) (okF := (fun s => s.size ≤ maxLen)) rp2
  rw [hc2] at s_q
  rw [hv0, hv1, hv2]
  rw [hv0, hv1, hv2] at hW'
  refine (walk l r q ok_l ok_r ok_q a_l a_r a_q c_l c_r c_q W s_l s_r (by rw [← flat1]; exact s_q)).mono fun e W' ⟨he, hg⟩ => ?_
  subst he
  exact ⟨_, rfl, law_post laidOut rfl hW' hg (by kernel_rfl) (by kernel_rfl) Tryd.underlying4 rfl⟩


def table0 : Array Value := (([0, 1, 28, 2, 29, 14, 24, 3, 30, 22, 20, 15, 25, 17, 4, 8, 31, 27, 13, 23, 21, 19, 16, 7, 26, 12, 18, 6, 11, 5, 10, 9] : List Int).map fun n => Value.int .u8 n).toArray
def table1 : Array Value := (([0, 1, 56, 2, 57, 49, 28, 3, 61, 58, 42, 50, 38, 29, 17, 4, 62, 47, 59, 36, 45, 43, 51, 22, 53, 39, 33, 30, 24, 18, 12, 5, 63, 55, 48, 27, 60, 41, 37, 16, 46, 35, 44, 21, 52, 32, 23, 11, 54, 26, 40, 15, 34, 20, 31, 10, 25, 14, 19, 9, 13, 8, 7, 6] : List Int).map fun n => Value.int .u8 n).toArray
def table2 : Array Value := (([1, 10, 100, 1000, 10000, 100000, 1000000, 10000000, 100000000, 1000000000, 10000000000, 100000000000, 1000000000000, 10000000000000, 100000000000000, 1000000000000000, 10000000000000000, 100000000000000000, 1000000000000000000, 10000000000000000000] : List Int).map fun n => Value.int .u64 n).toArray
/-- The block with other cells. -/
def putCells (cs : Array Value) (o : Obj) : Obj := match o with
  | .cells _ t frozen => .cells cs t frozen
  | o => o
/-- A world for the witness: the settled one, the tables laid. -/
noncomputable def laidWorld (os : Os) : World :=
  { World.holding Tryd.prog os ⟨#[], #[], []⟩ with heap := ((((World.holding Tryd.prog os ⟨#[], #[], []⟩).heap.modify 2 (putCells table0)).modify 3 (putCells table1)).modify 1 (putCells table2)) }
set_option maxRecDepth 100000 in
theorem laid_met (os : Os) : laidMet Tryd.prog Rows.eventKnownIsKnownRow.laid ((laidWorld os).forCall (fun _ _ => 0) ⟨#[], #[.slice none 0 0, .slice none 0 0, .slice none 0 0], []⟩).memory :=
  laidMet_of_run' 8 (by kernel_rfl) (by kernel_rfl)
theorem reads (os : Os) {H : Type} (enc : TypeId × Value → H) : ∃ places, DataW.whole enc Tryd.prog ((laidWorld os).forCall (fun _ _ => 0) ⟨#[], #[.slice none 0 0, .slice none 0 0, .slice none 0 0], []⟩).memory Tryd.f4.params.toList Rows.eventKnownIsKnownSpec.vars false #[.slice none 0 0, .slice none 0 0, .slice none 0 0].toList 8 = some ([.nil, .nil, .nil], [], places) :=
  ⟨[], by kernel_rfl⟩
set_option maxRecDepth 100000 in
theorem lifted (os : Os) (started : os.Started) (H : Type) (enc : TypeId × Value → H) (F : Stop.Interp) :
    ReturnsInHanded {} Tryd.checked os 4 .any ((OpenSpec.ofChange Rows.eventKnownIsKnownSpec).preRow enc Tryd.prog Tryd.f4 Rows.eventKnownIsKnownRow.domain false Rows.eventKnownIsKnownRow.laid) (((OpenSpec.ofChange Rows.eventKnownIsKnownSpec).at F).post enc Tryd.prog Tryd.f4 false true false false) := by
  obtain ⟨places, hx⟩ := reads os enc
  refine returnsInHanded_of_row (C := Tryd.checked) (s := OpenSpec.ofChange Rows.eventKnownIsKnownSpec) own started (by kernel_rfl) Tryd.func4
    (witness_row_at (enc := enc) (C := Tryd.checked) false (laidWorld os) #[.slice none 0 0, .slice none 0 0, .slice none 0 0] rfl (by kernel_rfl) (by kernel_rfl) (by kernel_rfl)
      (OpenSpec.preRow_of_cond 8 hx (by kernel_rfl) (fun k hk => by cases hk) (by kernel_rfl) (laid_met os))) ?_
  intro W base args ds gs before hval hW _ _ hsz hlaid hshape _
  exact contract H enc W base args ds gs before hval hW hsz hlaid hshape
theorem said : Rows.EventKnownIsKnownSaid :=
  OpenClaim.holds_of_cond 4 Tryd.f4 rfl rfl rfl rfl rfl rfl rfl ⟨rfl, rfl, rfl, rfl, rfl⟩ rfl rfl rfl rfl rfl (by kernel_rfl) Tryd.func4 (by kernel_rfl)
    (of_decide_eq_true (by kernel_rfl)) (by unfold Func.isWrapper; first | (rw [if_pos (by decide +kernel)]; kernel_rfl) | (rw [if_neg (by decide +kernel)]; exact ⟨rfl, rfl⟩))
    (fun os started H enc _ F => by rw [OpenClaim.pre_eq_preRow]; exact lifted os started H enc F)
/-- No parameter wants a stand-in; the program's own looks are off. -/
theorem plain (f : FuncId) (fn : Func) (hf : Tryd.pinned.checked.prog.funcNamed "burgee/burgeelaw7.EventKnownIsKnown" = some f) (hfn : Tryd.pinned.checked.prog.funcs[f]? = some fn) :
    false = Tryd.pinned.checked.prog.looks [] ∧ ∀ (j : Nat) t, fn.params[j]? = some t → Tryd.pinned.checked.prog.wantsStandIn t = false := by
  obtain rfl : f = 4 := Option.some.inj ((show Tryd.prog.funcNamed "burgee/burgeelaw7.EventKnownIsKnown" = some 4 by kernel_rfl).symm.trans hf) |>.symm
  obtain rfl : fn = Tryd.f4 := (Option.some.inj (Tryd.func4.symm.trans hfn)).symm
  refine ⟨by kernel_rfl, fun j t ht => ?_⟩
  have hall : (Tryd.f4.params.toList.all fun t => !(Tryd.prog.wantsStandIn t)) = true := by kernel_rfl
  have h1 := List.all_eq_true.1 hall t (Array.mem_toList_iff.2 (Array.mem_of_getElem? ht))
  have h2 : Tryd.prog.wantsStandIn t = false := by simpa using h1
  exact h2
theorem proved : Rows.EventKnownIsKnownCardSaid :=
  Claim7.holds_tied_plain_at .later [] _ _ _ _ said (fun _ h => by cases h) (by kernel_rfl) (fun _ h => by cases h) eventKnownIsKnown_row_tie rfl ⟨rfl, rfl⟩ (by kernel_rfl) rfl plain (by kernel_rfl)
end Go.Proofs.YtbbfdkjamjmbmaaDoor.lawKnownIs
