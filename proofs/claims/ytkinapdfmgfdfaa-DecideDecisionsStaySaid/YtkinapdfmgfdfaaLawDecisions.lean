/- What is decided by trials stays decided, at the same pair, when more trials come, and the evidence so far stays as it is: for every test and all trials the law returns true. No condition. -/
import Derived.Test.YtkinapdfmgfdfaaAwake9
import Derived.Test.YtkinapdfmgfdfaaFrame
import Derived.Test.YtkinapdfmgfdfaaReadD
namespace Go.Proofs.Ytkinapdfmgfdfaa.lawDecisions
open Go.ChangeShapes Go.WideShapes Go.ChangeAt Go.RowKit Nm

set_option maxRecDepth 100000 in
set_option maxHeartbeats 16000000 in
theorem walk (d k : Int) (n m : ByteArray) (hn : n.size ≤ maxLen) (hm : m.size ≤ maxLen) (l r : List Tri) (a a' : Option Addr) (c c' : Nat) (hr : r.length * 16 ≤ 140737488351232) (w : World) (hs : Sl w (.slice a l.length c) l.length (l.flatMap triL)) (hs' : Sl w (.slice a' r.length c') r.length (r.flatMap triL)) :
    Calls Try.prog 5 #[.agg #[Value.int .i64 d, Value.int .i64 k, Value.string n, Value.string m], .slice a l.length c, .slice a' r.length c'] w fun e w' => e = .returned (.bool true) ∧ Below w.heap.size w w' := by
  have HS := Lib.hid hs
  have HS' := Lib.hid hs'
  clear hs hs'
  go_enter Try.func5, Try.ntmps5
  go_upto_region 1 with (fail)
  refine wp_box1 fun w0 hsz hbw0 hA0 => ?_
  clear hsz
  go_wp2_with fail
  refine (awake_at _).mono ?_
  rintro e w1 ⟨rfl, hb1⟩
  have hA1 := hA0.ext hb1
  have hbw1 := ext_trans hbw0 hb1
  clear hA0 hb1 hbw0
  have t0 : w1.cell? ⟨w.heap.size, 0, none⟩ = some (.int .i64 d) := hA1.2 0
  have t1 : w1.cell? ⟨w.heap.size, 1, none⟩ = some (.int .i64 k) := hA1.2 1
  have t2 : w1.cell? ⟨w.heap.size, 2, none⟩ = some (.string n) := hA1.2 2
  have t3 : w1.cell? ⟨w.heap.size, 3, none⟩ = some (.string m) := hA1.2 3
  go_wp2_with fail
  refine (Decided_at d k n m hn hm l a c _ (HS.out.ext hbw1)).mono ?_
  rintro e w2 ⟨rfl, hb2⟩
  have hA2 := hA1.ext hb2
  have hbw2 := ext_trans hbw1 hb2
  clear t0 t1 t2 t3 hA1 hb2 hbw1
  have t0 : w2.cell? ⟨w.heap.size, 0, none⟩ = some (.int .i64 d) := hA2.2 0
  have t1 : w2.cell? ⟨w.heap.size, 1, none⟩ = some (.int .i64 k) := hA2.2 1
  have t2 : w2.cell? ⟨w.heap.size, 2, none⟩ = some (.string n) := hA2.2 2
  have t3 : w2.cell? ⟨w.heap.size, 3, none⟩ = some (.string m) := hA2.2 3
  go_wp2_with fail
  refine (Course_at d k n m hn hm l a c _ (HS.out.ext hbw2)).mono ?_
  rintro e w3 ⟨a3, c3, rfl, hs3, hb3⟩
  have HS3 := Lib.hid hs3
  have hA3 := hA2.ext hb3
  have hbw3 := ext_trans hbw2 hb3
  clear t0 t1 t2 t3 hA2 hb3 hbw2 hs3
  by_cases hf : decF d k n m l = 0
  · have hne : (decF d k n m l != 0) = false := by simp [hf]
    have hle := decF_len hf
    have HF := Lib.hid hf
    have HSUM := Lib.hid (show l.length + r.length ≤ 17592186044416 by omega)
    clear hf
    obtain ⟨L, HL⟩ : ∃ L, Hid (L = l ++ r) := ⟨_, rfl⟩
    go_wp2_with fail
    have HSC3 : Hid (Calls Try.prog 8 #[.slice (some ⟨w3.heap.size, 0, none⟩) 2 2] (w3.alloc (.cells #[.slice a l.length c, .slice a' r.length c'] 27)).drew (CCCatT.CatFrom w3 L)) := by
      have h := CCCatT.cat_new w3 a a' c c' l r (HS.out.ext hbw3) (HS'.out.ext hbw3) HSUM.out
      rw [← HL.out] at h
      exact h
    go_region_held3 (S2R w3 w3.heap.size w.heap.size #[Value.int .i64 d, Value.int .i64 k, Value.string n, Value.string m] w.heap.size #[Value.int .i64 d, Value.int .i64 k, Value.string n, Value.string m]) (first | exact S2R.start hA3 hA3 | exact S2R.ext (by with_reducible assumption) (by with_reducible assumption) (Nat.le_refl _) hA3 hA3 | (refine S2R.fromB ?_ (Nat.le_refl _) hA3 hA3; go_grown) | assumption) (first | (go_at_call 8; ((with_reducible refine HSC3.out.mono ?_)); rintro e x4 ⟨a4, c4, rfl, hs4, _, hx4⟩; have hd4 := Lib.hid hx4; have HSR4 := Lib.hid hs4; clear hs4) | (go_at_call 10; refine (Decided_at d k n m hn hm L a4 c4 _ HSR4.out).mono ?_; rintro e w4 ⟨rfl, hb4⟩; have hc4 := Lib.hid (ext_trans hd4.out hb4)))
    have hA4 := hA3.ext hc4.out
    have hbw4 := ext_trans hbw3 hc4.out
    clear hA3 hbw3
    go_wp2_with fail
    have HSC4 : Hid (Calls Try.prog 8 #[.slice (some ⟨w4.heap.size, 0, none⟩) 2 2] (w4.alloc (.cells #[.slice a l.length c, .slice a' r.length c'] 27)).drew (CCCatT.CatFrom w4 L)) := by
      have h := CCCatT.cat_new w4 a a' c c' l r (HS.out.ext hbw4) (HS'.out.ext hbw4) HSUM.out
      rw [← HL.out] at h
      exact h
    go_region_held3 (S2R w4 w4.heap.size w.heap.size #[Value.int .i64 d, Value.int .i64 k, Value.string n, Value.string m] w.heap.size #[Value.int .i64 d, Value.int .i64 k, Value.string n, Value.string m]) (first | exact S2R.start hA4 hA4 | exact S2R.ext (by with_reducible assumption) (by with_reducible assumption) (Nat.le_refl _) hA4 hA4 | (refine S2R.fromB ?_ (Nat.le_refl _) hA4 hA4; go_grown) | assumption) (first | (go_at_call 8; ((with_reducible refine HSC4.out.mono ?_)); rintro e x5 ⟨a5, c5, rfl, hs5, _, hx5⟩; have hd5 := Lib.hid hx5; have HSR5 := Lib.hid hs5; clear hs5) | (go_at_call 11; refine (Course_at d k n m hn hm L a5 c5 _ HSR5.out).mono ?_; rintro e w5 ⟨ay, cy, rfl, hsy, hb5⟩; have HSY := Lib.hid hsy; have hc5 := Lib.hid (ext_trans hd5.out hb5); clear hsy))
    have hA5 := hA4.ext hc5.out
    have hbw5 := ext_trans hbw4 hc5.out
    clear hA4 hbw4
    by_cases hg : decF d k n m L = 0
    · have hne2 : (decF d k n m L != 0) = false := by simp [hg]
      obtain ⟨t, st1, st2, st3⟩ := stays d k n m l r HF.out (by rw [← HL.out]; exact hg)
      rw [← HL.out] at st1 st2 st3
      have HX := Lib.hid (HS3.out.ext hc4.out)
      have HX5 := Lib.hid (HX.out.ext hc5.out)
      have HLY : Hid ((crsV d k n m L).length = (crsV d k n m l).length + t.length) := by
        have : (crsV d k n m L).length = (crsV d k n m l).length + t.length := by rw [st1, List.length_append]
        exact this
      have HSY2 : Hid (Sl w5 (.slice ay (crsV d k n m l).length cy) (crsV d k n m l).length ((crsV d k n m l).flatMap ratL)) := by
        obtain ⟨a9, c9, hv9, h91, h92, h93, h94⟩ := HSY.out
        cases hv9
        refine ⟨ay, cy, rfl, by have := HLY.out; omega, h92, h93, fun i x hx => h94 i x ?_⟩
        rw [st1, List.flatMap_append, List.getElem?_append_left (List.getElem?_eq_some_iff.1 hx).1]
        exact hx
      have HST := Lib.hid (And.intro st2 st3)
      have hly : (crsV d k n m l).length ≤ (crsV d k n m L).length := by have := HLY.out; omega
      have hcap := sl_caps HSY.out
      clear hg st1 st2 st3 HX HSY HLY HS3
      generalize crsV d k n m l = X at *
      generalize hyl : (crsV d k n m L).length = yl at *
      clear hyl
      have hge : ((X.length : Nat) : Int) ≤ (yl : Int) := by omega
      have heqX : Hid True := trivial
      by_cases hn0 : decV d k n m l = 0
      · have HM := Lib.hid (HST.out.2 hn0)
        rw [hn0]
        clear hn0 HST
        generalize decV d k n m L = M at *
        by_cases hm0 : M = 0
        · subst hm0
          go_wp2_with fail
          refine (equal_rats X ay a3 cy c3 w5 HSY2.out HX5.out).mono ?_
          rintro e w6 ⟨rfl, hb6⟩
          go_wp2
          go_ret
          exact ⟨rfl, ext_trans hbw5 hb6⟩
        · have hmX : (X.length : Int) < (M : Int) := by rcases HM.out with h | h <;> omega
          have hm0' : ((M : Int) == 0) = false := beq_eq_false_iff_ne.2 (by omega)
          clear hm0
          go_wp2_with fail
          refine (equal_rats X ay a3 cy c3 w5 HSY2.out HX5.out).mono ?_
          rintro e w6 ⟨rfl, hb6⟩
          go_wp2
          go_ret
          exact ⟨rfl, ext_trans hbw5 hb6⟩
      · rw [HST.out.1 hn0]
        clear HST
        generalize decV d k n m l = M at *
        have hm0 : ((M : Int) == 0) = false := beq_eq_false_iff_ne.2 (by omega)
        have hm1 : ((M : Int) != 0) = true := by rw [bne, hm0]; rfl
        have hm2 : ((M : Int) == (M : Int)) = true := by simp
        clear hn0
        go_wp2_with fail
        refine (equal_rats X ay a3 cy c3 w5 HSY2.out HX5.out).mono ?_
        rintro e w6 ⟨rfl, hb6⟩
        go_wp2
        go_ret
        exact ⟨rfl, ext_trans hbw5 hb6⟩
    · have hne2 : (decF d k n m L != 0) = true := by simp [hg]
      have heq : (decF d k n m L == decF d k n m L) = true := by simp
      clear hg
      go_wp2
      go_ret
      exact ⟨rfl, hbw5⟩
  · have hne : (decF d k n m l != 0) = true := by simp [hf]
    have e1 : decV d k n m l = 0 := by unfold decV; rw [if_neg hf]
    have e2 : crsV d k n m l = [] := by unfold crsV; rw [if_neg hf]
    rw [e1, e2]
    clear hf e1 e2 HS3
    go_wp2
    go_ret
    exact ⟨rfl, hbw3⟩

theorem ints_of_reps : ∀ {l : List Int} {cs : List Value}, Reps (fun (s : Int) c => c = [Value.int .i64 s] ∧ i64ok s) l cs → cs = l.map (Value.int .i64) ∧ ∀ e ∈ l, i64ok e
  | [], _, h => ⟨h, fun _ h => by cases h⟩
  | _ :: _, _, ⟨c, r, e, h1, h2⟩ => by
    subst e; obtain ⟨h1, ho⟩ := h1; subst h1
    obtain ⟨i1, i2⟩ := ints_of_reps h2
    exact ⟨by rw [List.map_cons, i1]; rfl, fun x hx => (List.mem_cons.1 hx).elim (fun h => h ▸ ho) (i2 x)⟩
theorem flats_of_reps {α : Type} {cellsF : α → List Value} {okF : α → Prop} : ∀ {l : List α} {cs : List Value}, Reps (fun s c => c = cellsF s ∧ okF s) l cs → cs = l.flatMap cellsF ∧ ∀ e ∈ l, okF e
  | [], _, h => ⟨h, fun _ h => by cases h⟩
  | _ :: _, _, ⟨c, r, e, h1, h2⟩ => by
    subst e; obtain ⟨h1, ho⟩ := h1; subst h1
    obtain ⟨i1, i2⟩ := flats_of_reps h2
    exact ⟨by rw [List.flatMap_cons, i1], fun x hx => (List.mem_cons.1 hx).elim (fun h => h ▸ ho) (i2 x)⟩
set_option maxRecDepth 100000 in
theorem lifted (os : Os) (started : os.Started) (H : Type) (enc : TypeId × Value → H) :
    ReturnsInHanded {} Try.checked os 5 .any (Rows.decideDecisionsStaySpec.pre6 enc Try.prog Try.f5 Rows.decideDecisionsStayRow.domain false) (Rows.decideDecisionsStaySpec.post enc Try.prog Try.f5 false true false false) := by
  refine returnsInHanded_of_change_sized (C := Try.checked) own started (by kernel_rfl) Try.func5
    (ChangeSpec.witness6 (enc := enc) (C := Try.checked) false ⟨#[], #[.agg #[.int .i64 0, .int .i64 0, .string ByteArray.empty, .string ByteArray.empty], .slice none 0 0, .slice none 0 0], []⟩ 8 (by kernel_rfl) (by kernel_rfl) (by kernel_rfl) (by kernel_rfl)) ?_
  intro W base args ds gs before hval0 hW hcnd hsz0 _
  have hval : ∀ (j : Nat) t v, Try.f5.params[j]? = some t → args[j]? = some v → Value.okWide Try.prog W .any base t v := hval0
  have hsz : (DataW.weightsEach Try.prog (Try.f5.params.toList ++ Rows.decideDecisionsStaySpec.plain.varTypes Try.prog) (ds ++ gs)).all (· ≤ reachBytes) = true := hsz0
  have hW' := hW
  obtain ⟨p, q, hA0, hV, rfl, hfz, hnd⟩ := hW
  have hA : DataW.TrodAll enc Try.prog W 0 (fun _ => true) true Try.f5.params.toList args.toList ds p := hA0
  rw [Try.params5] at hA hval hsz
  obtain ⟨v0, vs0, d0, ds0, p0, q0, hargs, rfl, rfl, h0, r0⟩ := trodAll_cons hA
  obtain ⟨v1, vs1, d1, ds1, p1, q1, rfl, rfl, rfl, h1, r1⟩ := trodAll_cons r0
  obtain ⟨v2, vs2, d2, ds2, p2, q2, rfl, rfl, rfl, h2, r2⟩ := trodAll_cons r1
  obtain ⟨rfl, rfl, rfl⟩ := trodAll_nil r2
  obtain rfl : args = #[v0, v1, v2] := by cases args; simp_all
  obtain ⟨rfl, rfl⟩ := trodVars_none hV
  obtain ⟨n0, g0⟩ := h0
  obtain ⟨d, k, n, m, e0, _, _, zn, zm⟩ := read_Test _ _ _ g0
  have hv0 : v0 = .agg #[.int .i64 d, .int .i64 k, .string n, .string m] := by rw [agg_of_cells (v := v0) (by rw [e0]; simp), e0]
  subst hv0
  obtain ⟨n1, g1⟩ := h1
  obtain ⟨a'1, n'1, c'1, rfl⟩ := okWide_slice Try.underlying27 (hval 1 27 v1 rfl rfl)
  obtain ⟨a_l, l, c_l, cells1, e1, s_l, rp1⟩ := read_slice (R := fun (s : Tri) c => c = triL s ∧ (fun _ => True) s) (sz := 2) (by rintro x c ⟨rfl, _⟩; rfl) Try.underlying27 (by kernel_rfl) (by omega)
    (fun n cs' y _ ht => by obtain ⟨k0, k1, e, _⟩ := read_Trial _ _ _ ht; exact ⟨⟨k0, k1⟩, e, trivial⟩) g1
  have hv1 : Value.slice a'1 n'1 c'1 = .slice a_l l.length c_l := by simpa [Value.cells] using e1
  obtain ⟨hc1, ok_l⟩ := flats_of_reps (cellsF := triL) (okF := (fun _ => True)) rp1
  rw [hc1] at s_l
  obtain ⟨n2, g2⟩ := h2
  obtain ⟨a'2, n'2, c'2, rfl⟩ := okWide_slice Try.underlying27 (hval 2 27 v2 rfl rfl)
  obtain ⟨a_r, r, c_r, cells2, e2, s_r, rp2⟩ := read_slice (R := fun (s : Tri) c => c = triL s ∧ (fun _ => True) s) (sz := 2) (by rintro x c ⟨rfl, _⟩; rfl) Try.underlying27 (by kernel_rfl) (by omega)
    (fun n cs' y _ ht => by obtain ⟨k0, k1, e, _⟩ := read_Trial _ _ _ ht; exact ⟨⟨k0, k1⟩, e, trivial⟩) g2
  have hv2 : Value.slice a'2 n'2 c'2 = .slice a_r r.length c_r := by simpa [Value.cells] using e2
  have sz_r := slice_sized hsz (j := 2) Try.underlying27 rfl rfl g2 e2
  rw [show Try.prog.bytesOf 35 = 16 by kernel_rfl] at sz_r
  simp only [reachBytes] at sz_r
  obtain ⟨hc2, ok_r⟩ := flats_of_reps (cellsF := triL) (okF := (fun _ => True)) rp2
  rw [hc2] at s_r
  rw [hv1, hv2]
  rw [hv1, hv2] at hW'
  refine (walk d k n m zn zm l r a_l a_r c_l c_r sz_r W s_l s_r).mono fun e W' ⟨he, hg⟩ => ?_
  subst he
  exact ⟨_, rfl, law_post laidOut rfl hW' hg (by kernel_rfl) (by kernel_rfl) Try.underlying4 rfl⟩

theorem over : Rows.decideDecisionsStayRow.holds Try.pinned (OpenSpec.ofChange Rows.decideDecisionsStaySpec) :=
  OpenClaim.holds_of_wide 5 Try.f5 rfl rfl rfl rfl rfl rfl rfl ⟨rfl, rfl, rfl, rfl, rfl⟩ rfl rfl rfl rfl rfl (by kernel_rfl) Try.func5 (by kernel_rfl)
    (of_decide_eq_true (by kernel_rfl)) (by unfold Func.isWrapper; first | (rw [if_pos (by decide +kernel)]; kernel_rfl) | (rw [if_neg (by decide +kernel)]; exact ⟨rfl, rfl⟩))
    (fun os started H enc _ => lifted os started H enc)

theorem proved : Rows.DecideDecisionsStaySaid := over
end Go.Proofs.Ytkinapdfmgfdfaa.lawDecisions
