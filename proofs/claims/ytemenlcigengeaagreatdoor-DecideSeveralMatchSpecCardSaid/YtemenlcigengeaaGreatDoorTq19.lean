/- xratOf of package value. -/
import Derived.Test.YtemenlcigengeaaGreatDoorTq18
import Derived.Deep.DeepCutAuto
namespace Go.Proofs.YtemenlcigengeaaGreatDoor
open Go.RowKit
namespace Nm
theorem value_whole_any (s : ByteArray) (hs : s.size ≤ maxLen) (b : Bool) (h : wholeB s.data.toList = b) (w : World) : Calls Tryz.prog 122 #[.string s] w fun e w' => e = .returned (.bool b) ∧ w = w' := by
  subst h; exact value_whole s hs w
theorem S2R.fromB {W w' : World} {B b1 : Nat} {A1 : Array Value} {b2 : Nat} {A2 : Array Value} (h : Below W.heap.size W w') (hB : B ≤ W.heap.size) (h1 : Box W b1 A1) (h2 : Box W b2 A2) : S2R W B b1 A1 b2 A2 w' :=
  ⟨h.mono hB, (h1.ext h).2, (h2.ext h).2⟩
theorem S2R.after {W w1 w2 : World} {b1 : Nat} {A1 : Array Value} {b2 : Nat} {A2 : Array Value} (h : S2R W W.heap.size b1 A1 b2 A2 w1) (hb : Below w1.heap.size w1 w2) : Below W.heap.size W w2 := ext_trans h.1 hb
abbrev newX : Obj := Obj.cells #[Value.bool false, Value.slice none 0 0, Value.slice none 0 0] 68
theorem newB_ext {w w' : World} (hb : Below (w.alloc newX).heap.size (w.alloc newX) w') : Box w' w.heap.size zeroX := (Box.new w zeroX 68).ext hb
theorem newF_ext {w w' : World} (hb : Below (w.alloc newX).heap.size (w.alloc newX) w') : Fre w' w.heap.size := (Fre.new w zeroX 68).ext (Box.new w zeroX 68) hb
theorem newB_drew {w w' : World} (hb : Below (w.alloc newX).drew.heap.size (w.alloc newX).drew w') : Box w' w.heap.size zeroX := newB_ext ⟨hb.os, hb.tape, hb.output, hb.size, hb.block⟩
theorem newF_drew {w w' : World} (hb : Below (w.alloc newX).drew.heap.size (w.alloc newX).drew w') : Fre w' w.heap.size := newF_ext ⟨hb.os, hb.tape, hb.output, hb.size, hb.block⟩
set_option maxHeartbeats 16000000 in
theorem xratOf_at (n d : ByteArray) (hn : n.size ≤ maxLen) (hd : d.size ≤ maxLen) (w : World) : Calls Tryz.prog 100 #[.agg #[.string n, .string d]] w (OfPost w n d) := by
  have hcs : (cutS n).size ≤ maxLen := Nat.le_trans (cutS_size n) hn
  have HFULL : Hid (rF n d = if badR (cutS n) d (cutB n.data.toList) = true then 3 else if largeR (cutS n) d then 2 else if Nat.gcd (decv (cutS n).data.toList) (decv d.data.toList) ≠ 1 then 3 else 0) := Lib.hid rfl
  have HBADE : Hid (badR (cutS n) d (cutB n.data.toList) = (!wholeB (cutS n).data.toList || (cutB n.data.toList && ((cutS n).toList == [48])) || !wholeB d.data.toList || (d.toList == [48]))) := Lib.hid rfl
  have HP1 : Hid (wholeB (cutS n).data.toList = wholeB (cutS n).data.toList) := Lib.hid rfl
  have HP3 : Hid (wholeB d.data.toList = wholeB d.data.toList) := Lib.hid rfl
  have HFA := Lib.hid (@rQ_facts n d)
  generalize hb0 : badR (cutS n) d (cutB n.data.toList) = bad at *
  clear hb0
  go_enter Tryz.func100, Tryz.ntmps100
  go_upto_region 1 with (fail)
  refine wp_box2r fun W hsz hbW hA hC hF => ?_
  obtain ⟨_, oA⟩ := id hA
  go_wp2_with fail
  refine (cutPrefix_at n hn W).mono ?_
  rintro e w1 ⟨rfl, rfl⟩
  have hcs' := hcs
  have hd' := hd
  unfold maxLen at hcs' hd'
  have HEND : Hid (rF n d = 0 → decide ((rQ n d).num < 0) = cutB n.data.toList) := by
    have : rF n d = 0 → decide ((rQ n d).num < 0) = cutB n.data.toList := fun h => (HFA.out h).2.2.2.2.2.2.2
    exact this
  generalize hcb : cutB n.data.toList = b at *
  have HCB := Lib.hid hcb
  clear hcb
  generalize hp1 : wholeB (cutS n).data.toList = p1 at HP1 HBADE
  generalize hp3 : wholeB d.data.toList = p3 at HP3 HBADE
  have HP1' := Lib.hid hp1
  have HP3' := Lib.hid hp3
  clear HP1 HP3 hp1 hp3
  have HP1 := HP1'
  have HP3 := HP3'
  clear HP1' HP3'
  generalize hp2 : ((cutS n).toList == [48]) = p2 at *
  generalize hp4 : (d.toList == [48]) = p4 at *
  have tok1 : True := trivial
  cases bad with
  | true =>
    have HRF : Hid (rF n d = 3) := by have := HFULL.out; rw [if_pos rfl] at this; exact this
    have HB2 : Hid ((!p1 || (b && p2) || !p3 || p4) = true) := HBADE.out.symm
    clear HFULL HBADE
    obtain ⟨r0, r1, r2⟩ := boxX hC
    have g0 := hF 0
    have g1 := hF 1
    have g2 := hF 2
    have hq := three_set (.bool false) (.slice none 0 0) (.slice none 0 0) r0 r1 r2
    have hbF : Below w.heap.size w (((W.setCell ⟨w.heap.size + 1, 0, none⟩ (.bool false)).setCell ⟨w.heap.size + 1, 1, none⟩ (.slice none 0 0)).setCell ⟨w.heap.size + 1, 2, none⟩ (.slice none 0 0)) := ((hbW.setCell (by simp) _).setCell (by simp) _).setCell (by simp) _
    cases p1
    · go_wp2_with (first | (have _t := tok1; go_at_call 122; refine (value_whole_any (cutS n) hcs _ HP1.out _).mono ?_; rintro e w' ⟨rfl, rfl⟩; clear tok1) | (go_at_call 122; refine (value_whole_any d hd _ HP3.out _).mono ?_; rintro e w' ⟨rfl, rfl⟩))
      refine bodyPost_ret (v := .tuple #[.agg #[.bool false, .slice none 0 0, .slice none 0 0], .int .i64 3]) (by simp [results, Tryz.results100, go_sem, hq.1, hq.2.1, hq.2.2]) rfl ⟨.agg zeroX, by rw [HRF.out]; rfl, fun h => absurd (HRF.out.symm.trans h) (by decide), fun _ => rfl, hbF⟩
    · cases hbp : (b && p2)
      · cases p3
        · rcases (by revert hbp; cases b <;> cases p2 <;> simp : b = false ∨ (b = true ∧ p2 = false)) with rfl | ⟨rfl, rfl⟩
          all_goals clear hbp
          all_goals go_wp2_with (first | (have _t := tok1; go_at_call 122; refine (value_whole_any (cutS n) hcs _ HP1.out _).mono ?_; rintro e w' ⟨rfl, rfl⟩; clear tok1) | (go_at_call 122; refine (value_whole_any d hd _ HP3.out _).mono ?_; rintro e w' ⟨rfl, rfl⟩))
          all_goals
            refine bodyPost_ret (v := .tuple #[.agg #[.bool false, .slice none 0 0, .slice none 0 0], .int .i64 3]) (by simp [results, Tryz.results100, go_sem, hq.1, hq.2.1, hq.2.2]) rfl ⟨.agg zeroX, by rw [HRF.out]; rfl, fun h => absurd (HRF.out.symm.trans h) (by decide), fun _ => rfl, hbF⟩
        · have hp4t : p4 = true := by have := HB2.out; rw [hbp] at this; simpa using this
          subst hp4t
          rcases (by revert hbp; cases b <;> cases p2 <;> simp : b = false ∨ (b = true ∧ p2 = false)) with rfl | ⟨rfl, rfl⟩
          all_goals clear hbp
          all_goals go_wp2_with (first | (have _t := tok1; go_at_call 122; refine (value_whole_any (cutS n) hcs _ HP1.out _).mono ?_; rintro e w' ⟨rfl, rfl⟩; clear tok1) | (go_at_call 122; refine (value_whole_any d hd _ HP3.out _).mono ?_; rintro e w' ⟨rfl, rfl⟩))
          all_goals
            refine bodyPost_ret (v := .tuple #[.agg #[.bool false, .slice none 0 0, .slice none 0 0], .int .i64 3]) (by simp [results, Tryz.results100, go_sem, hq.1, hq.2.1, hq.2.2]) rfl ⟨.agg zeroX, by rw [HRF.out]; rfl, fun h => absurd (HRF.out.symm.trans h) (by decide), fun _ => rfl, hbF⟩
      · obtain ⟨rfl, rfl⟩ : b = true ∧ p2 = true := by simpa using hbp
        clear hbp
        go_wp2_with (first | (have _t := tok1; go_at_call 122; refine (value_whole_any (cutS n) hcs _ HP1.out _).mono ?_; rintro e w' ⟨rfl, rfl⟩; clear tok1) | (go_at_call 122; refine (value_whole_any d hd _ HP3.out _).mono ?_; rintro e w' ⟨rfl, rfl⟩))
        refine bodyPost_ret (v := .tuple #[.agg #[.bool false, .slice none 0 0, .slice none 0 0], .int .i64 3]) (by simp [results, Tryz.results100, go_sem, hq.1, hq.2.1, hq.2.2]) rfl ⟨.agg zeroX, by rw [HRF.out]; rfl, fun h => absurd (HRF.out.symm.trans h) (by decide), fun _ => rfl, hbF⟩
  | false =>
    have HRF0 : Hid (rF n d = if largeR (cutS n) d then 2 else if Nat.gcd (decv (cutS n).data.toList) (decv d.data.toList) ≠ 1 then 3 else 0) := by have := HFULL.out; rw [if_neg (by simp)] at this; exact this
    have HB2 : Hid ((!p1 || (b && p2) || !p3 || p4) = false) := HBADE.out.symm
    clear HFULL HBADE
    obtain ⟨rfl, hbp, rfl, rfl⟩ : p1 = true ∧ (b && p2) = false ∧ p3 = true ∧ p4 = false := by
      have := HB2.out
      simp only [Bool.or_eq_false_iff, Bool.not_eq_false'] at this
      exact ⟨this.1.1.1, this.1.1.2, this.1.2, this.2⟩
    clear HB2
    rcases (by revert hbp; cases b <;> cases p2 <;> simp : b = false ∨ (b = true ∧ p2 = false)) with rfl | ⟨rfl, rfl⟩
    · by_cases hl1 : 4000 < (cutS n).size
      · have HRF : Hid (rF n d = 2) := by have := HRF0.out; rw [if_pos (.inl hl1)] at this; exact this
        obtain ⟨r0, r1, r2⟩ := boxX hC
        have g0 := hF 0
        have g1 := hF 1
        have g2 := hF 2
        have hq := three_set (.bool false) (.slice none 0 0) (.slice none 0 0) r0 r1 r2
        have hbF : Below w.heap.size w (((W.setCell ⟨w.heap.size + 1, 0, none⟩ (.bool false)).setCell ⟨w.heap.size + 1, 1, none⟩ (.slice none 0 0)).setCell ⟨w.heap.size + 1, 2, none⟩ (.slice none 0 0)) := ((hbW.setCell (by simp) _).setCell (by simp) _).setCell (by simp) _
        go_wp2_with (first | (have _t := tok1; go_at_call 122; refine (value_whole_any (cutS n) hcs _ HP1.out _).mono ?_; rintro e w' ⟨rfl, rfl⟩; clear tok1) | (go_at_call 122; refine (value_whole_any d hd _ HP3.out _).mono ?_; rintro e w' ⟨rfl, rfl⟩))
        refine bodyPost_ret (v := .tuple #[.agg #[.bool false, .slice none 0 0, .slice none 0 0], .int .i64 2]) (by simp [results, Tryz.results100, go_sem, hq.1, hq.2.1, hq.2.2]) rfl ⟨.agg zeroX, by rw [HRF.out]; rfl, fun h => absurd (HRF.out.symm.trans h) (by decide), fun _ => rfl, hbF⟩
      · by_cases hl2 : 4000 < d.size
        · have HRF : Hid (rF n d = 2) := by have := HRF0.out; rw [if_pos (.inr hl2)] at this; exact this
          obtain ⟨r0, r1, r2⟩ := boxX hC
          have g0 := hF 0
          have g1 := hF 1
          have g2 := hF 2
          have hq := three_set (.bool false) (.slice none 0 0) (.slice none 0 0) r0 r1 r2
          have hbF : Below w.heap.size w (((W.setCell ⟨w.heap.size + 1, 0, none⟩ (.bool false)).setCell ⟨w.heap.size + 1, 1, none⟩ (.slice none 0 0)).setCell ⟨w.heap.size + 1, 2, none⟩ (.slice none 0 0)) := ((hbW.setCell (by simp) _).setCell (by simp) _).setCell (by simp) _
          go_wp2_with (first | (have _t := tok1; go_at_call 122; refine (value_whole_any (cutS n) hcs _ HP1.out _).mono ?_; rintro e w' ⟨rfl, rfl⟩; clear tok1) | (go_at_call 122; refine (value_whole_any d hd _ HP3.out _).mono ?_; rintro e w' ⟨rfl, rfl⟩))
          refine bodyPost_ret (v := .tuple #[.agg #[.bool false, .slice none 0 0, .slice none 0 0], .int .i64 2]) (by simp [results, Tryz.results100, go_sem, hq.1, hq.2.1, hq.2.2]) rfl ⟨.agg zeroX, by rw [HRF.out]; rfl, fun h => absurd (HRF.out.symm.trans h) (by decide), fun _ => rfl, hbF⟩
        · have HRF1 : Hid (rF n d = if Nat.gcd (decv (cutS n).data.toList) (decv d.data.toList) ≠ 1 then 3 else 0) := by have := HRF0.out; rw [if_neg (by unfold largeR; omega)] at this; exact this
          have HDM := Lib.hid (whole_whl HP1.out).1
          have HDD := Lib.hid (whole_whl HP3.out).1
          have HLM := Lib.hid (decv_lt HDM.out)
          have HLD := Lib.hid (decv_lt HDD.out)
          have hml : (cutS n).data.toList.length = (cutS n).size := Array.length_toList
          have hdl : d.data.toList.length = d.size := Array.length_toList
          have hw1 : wlen (decv (cutS n).data.toList) ≤ 4000 := by have := wlen_dec HLM.out; omega
          have hw2 : wlen (decv d.data.toList) ≤ 4000 := by have := wlen_dec HLD.out; omega
          clear hml hdl HRF0
          have tok2 : True := trivial
          have hszW : w.heap.size + 2 ≤ W.heap.size := by omega
          clear hsz
          go_upto_region 6 with (first | (have _t := tok1; go_at_call 122; refine (value_whole_any (cutS n) hcs _ HP1.out _).mono ?_; rintro e w' ⟨rfl, rfl⟩; clear tok1) | (go_at_call 122; refine (value_whole_any d hd _ HP3.out _).mono ?_; rintro e w' ⟨rfl, rfl⟩))
          go_cut [6] (fun s6 wx => ∃ (wv : World) (g : Nat) (p5 : Option Addr) (c5 : Nat) (p6 : Option Addr) (c6 : Nat), wv = wx ∧ s6 = .pointer (some ⟨g, 0, none⟩) ∧ wv.cell? ⟨g, 0, none⟩ = some (.bool false) ∧ wv.cell? ⟨g, 1, none⟩ = some (.slice p5 (digs (decv (cutS n).data.toList)).length c5) ∧ wv.cell? ⟨g, 2, none⟩ = some (.slice p6 (digs (decv d.data.toList)).length c6) ∧ N wv (.slice p5 (digs (decv (cutS n).data.toList)).length c5) (decv (cutS n).data.toList) ∧ N wv (.slice p6 (digs (decv d.data.toList)).length c6) (decv d.data.toList) ∧ Below W.heap.size W wv)
          case first =>
            go_region_held3 (S2R W W.heap.size w.heap.size #[Value.string n, Value.string d] (w.heap.size + 1) zeroX) (first | exact S2R.start hA hC | exact S2R.ext (by with_reducible assumption) (by with_reducible assumption) (Nat.le_refl _) hA hC | exact S2R.ext (ext_alloc _ _) (by with_reducible assumption) (Nat.le_refl _) hA hC | assumption | (have hc9 := hc3; exact S2R.fromB (ext_trans hc9.out (ext_alloc _ _)) (Nat.le_refl _) hA hC) | (have hc9 := hc3; have hc8 := hc2; exact S2R.fromB (((hc9.out.setCell hc8.out.size _).setCell hc8.out.size _).setCell hc8.out.size _) (Nat.le_refl _) hA hC) | (have hc9 := hc3; exact S2R.fromB (((hc9.out.setCell (Nat.le_refl _) _).setCell (Nat.le_refl _) _).setCell (Nat.le_refl _) _) (Nat.le_refl _) hA hC)) (first | (have _t := tok2; go_at_call 123; refine (readNat_at (cutS n) HDM.out (by omega) _).mono ?_; rintro e w2 ⟨va, rfl, hva, hb2⟩; have hc2 := Lib.hid (S2R.after (by with_reducible assumption) hb2); have HVA := Lib.hid hva; obtain ⟨p5, c5, rfl, _⟩ := hva.open_; (try (have hbx2 : Box w2 W.heap.size zeroX := newB_ext hb2; have hfx2 : Fre w2 W.heap.size := newF_ext hb2)); (try (have hbx2 : Box w2 W.heap.size zeroX := newB_drew hb2; have hfx2 : Fre w2 W.heap.size := newF_drew hb2)); clear tok2 hva) | (go_at_call 123; refine (readNat_at d HDD.out (by omega) _).mono ?_; rintro e w3 ⟨vb, rfl, hvb, hb3⟩; have hc3 := Lib.hid (S2R.after (by with_reducible assumption) hb3); have hb23 : Hid (Below w2.heap.size w2 w3) := (by first | exact hb3 | exact ext_trans (ext_alloc _ _) hb3); have HVA3 := Lib.hid (HVA.out.ext hb23.out); have HVB := Lib.hid hvb; obtain ⟨p6, c6, rfl, _⟩ := hvb.open_; (try (have hbx3 : Box w3 w2.heap.size zeroX := newB_ext hb3; have hfx3 : Fre w3 w2.heap.size := newF_ext hb3; obtain ⟨r0, r1, r2⟩ := boxX hbx3; have g0 := hfx3 0; have g1 := hfx3 1; have g2 := hfx3 2)); (try (have hbx3 := hbx2.ext hb3; have hfx3 := hfx2.ext hbx2 hb3; obtain ⟨r0, r1, r2⟩ := boxX hbx3; have g0 := hfx3 0; have g1 := hfx3 1; have g2 := hfx3 2)); clear hvb))
            all_goals go_wp2_with fail
            all_goals go_meet
            all_goals first | exact ⟨_, w3.heap.size, p5, c5, p6, c6, rfl, rfl, by simp, by simp, by simp, HVA3.out.ext (ext_alloc _ _), HVB.out.ext (ext_alloc _ _), ext_trans hc3.out (ext_alloc _ _)⟩ | (have hle9 := hc2.out.size; obtain ⟨k1, k2, k3, z0, z1, z2⟩ := res3 false hbx3 HVA3.out HVB.out hc3.out (by first | exact hle9 | exact Nat.le_refl _); exact ⟨_, _, p5, c5, p6, c6, rfl, rfl, z0, z1, z2, k1, k2, k3⟩)
          case rest =>
            obtain ⟨wv, g, p5, c5, p6, c6, rfl, rfl, x0, x1, x2, hNa, hNb, hBv⟩ := hcut
            have hCv := hC.ext hBv
            have hFv := hF.ext hC hBv
            have hbwv := ext_trans hbW hBv
            have HNa := Lib.hid hNa
            have HNb := Lib.hid hNb
            clear hC hF hBv hA oA hbW hNa hNb
            go_wp2_with fail
            refine (common_at _ _ _ _ wv HNa.out HNb.out (by omega) (by omega)).mono ?_
            rintro e w4 ⟨vg, rfl, hg, hb4⟩
            have y0 := cell_later hb4 x0
            have y1 := cell_later hb4 x1
            have y2 := cell_later hb4 x2
            have hC4 := hCv.ext hb4
            have hF4 := hFv.ext hCv hb4
            have hbw4 := ext_trans hbwv hb4
            have HNa4 := Lib.hid (HNa.out.ext hb4)
            have HNb4 := Lib.hid (HNb.out.ext hb4)
            clear x0 x1 x2 hCv hFv hbwv HNa HNb hb4
            have hx1 := xnatOf_at 1 (by decide) w4
            rw [show ((1 : Nat) : Int) = 1 from rfl] at hx1
            go_wp2_with fail
            refine hx1.mono ?_
            clear hx1
            rintro e w5 ⟨vo, rfl, ho, hb5⟩
            have hg5 := hg.ext hb5
            have x0 := cell_later hb5 y0
            have x1 := cell_later hb5 y1
            have x2 := cell_later hb5 y2
            have hC5 := hC4.ext hb5
            have hF5 := hF4.ext hC4 hb5
            have hbw5 := ext_trans hbw4 hb5
            have HNa5 := Lib.hid (HNa4.out.ext hb5)
            have HNb5 := Lib.hid (HNb4.out.ext hb5)
            clear y0 y1 y2 hC4 hF4 hbw4 HNa4 HNb4 hb5 hg
            go_wp2_with fail
            refine (cmp_at _ 1 vg vo w5 hg5 ho).mono ?_
            rintro e w6 ⟨rfl, k, rfl⟩
            have y0 : (w5.drewN k).cell? ⟨g, 0, none⟩ = some (.bool false) := x0
            have y1 : (w5.drewN k).cell? ⟨g, 1, none⟩ = some (.slice p5 (digs (decv (cutS n).data.toList)).length c5) := x1
            have y2 : (w5.drewN k).cell? ⟨g, 2, none⟩ = some (.slice p6 (digs (decv d.data.toList)).length c6) := x2
            have hC6 : Box (w5.drewN k) (w.heap.size + 1) zeroX := hC5
            have hF6 : Fre (w5.drewN k) (w.heap.size + 1) := hF5
            have hbw6 : Below w.heap.size w (w5.drewN k) := below_drewN hbw5 k
            have hNa6 : N (w5.drewN k) (.slice p5 (digs (decv (cutS n).data.toList)).length c5) (decv (cutS n).data.toList) := HNa5.out
            have hNb6 : N (w5.drewN k) (.slice p6 (digs (decv d.data.toList)).length c6) (decv d.data.toList) := HNb5.out
            clear x0 x1 x2 hC5 hF5 hbw5 HNa5 HNb5 hg5 ho
            generalize w5.drewN k = w6 at *
            by_cases h1 : Nat.gcd (decv (cutS n).data.toList) (decv d.data.toList) = 1
            · have HRF : Hid (rF n d = 0) := by have := HRF1.out; rw [if_neg (by simpa using h1)] at this; exact this
              have hcm : cmpN (Nat.gcd (decv (cutS n).data.toList) (decv d.data.toList)) 1 = 0 := cmpN_zero.2 h1
              rw [hcm]
              clear hcm h1
              obtain ⟨r0, r1, r2⟩ := boxX hC6
              have g0 := hF6 0
              have g1 := hF6 1
              have g2 := hF6 2
              obtain ⟨k1, k2, k3, z0, z1, z2⟩ := res3 false hC6 hNa6 hNb6 hbw6 (by omega)
              have HK := Lib.hid (And.intro k1 (And.intro k2 k3))
              clear k1 k2 k3 hNa6 hNb6
              go_wp2
              refine bodyPost_ret (v := .tuple #[.agg #[.bool false, .slice p5 (digs (decv (cutS n).data.toList)).length c5, .slice p6 (digs (decv d.data.toList)).length c6], .int .i64 0]) (by simp [results, Tryz.results100, go_sem, z0, z1, z2]) rfl ⟨_, by rw [HRF.out], fun _ => ⟨.slice p5 (digs (decv (cutS n).data.toList)).length c5, .slice p6 (digs (decv d.data.toList)).length c6, ?_, ?_, ?_⟩, fun h => absurd HRF.out h, HK.out.2.2⟩
              · rw [HEND.out HRF.out]
              · rw [(HFA.out HRF.out).2.1, sgn_natAbs]; exact HK.out.1
              · rw [(HFA.out HRF.out).2.2.1]; exact HK.out.2.1
            · have HRF : Hid (rF n d = 3) := by have := HRF1.out; rw [if_pos h1] at this; exact this
              have hcm : (cmpN (Nat.gcd (decv (cutS n).data.toList) (decv d.data.toList)) 1 != 0) = true := by
                have := @cmpN_zero (Nat.gcd (decv (cutS n).data.toList) (decv d.data.toList)) 1
                simp only [bne_iff_ne]; omega
              clear h1
              obtain ⟨r0, r1, r2⟩ := boxX hC6
              have g0 := hF6 0
              have g1 := hF6 1
              have g2 := hF6 2
              have hq := three_set (.bool false) (.slice none 0 0) (.slice none 0 0) r0 r1 r2
              have hbF : Below w.heap.size w (((w6.setCell ⟨w.heap.size + 1, 0, none⟩ (.bool false)).setCell ⟨w.heap.size + 1, 1, none⟩ (.slice none 0 0)).setCell ⟨w.heap.size + 1, 2, none⟩ (.slice none 0 0)) := ((hbw6.setCell (by simp) _).setCell (by simp) _).setCell (by simp) _
              go_wp2
              refine bodyPost_ret (v := .tuple #[.agg #[.bool false, .slice none 0 0, .slice none 0 0], .int .i64 3]) (by simp [results, Tryz.results100, go_sem, hq.1, hq.2.1, hq.2.2]) rfl ⟨.agg zeroX, by rw [HRF.out]; rfl, fun h => absurd (HRF.out.symm.trans h) (by decide), fun _ => rfl, hbF⟩

    · by_cases hl1 : 4000 < (cutS n).size
      · have HRF : Hid (rF n d = 2) := by have := HRF0.out; rw [if_pos (.inl hl1)] at this; exact this
        obtain ⟨r0, r1, r2⟩ := boxX hC
        have g0 := hF 0
        have g1 := hF 1
        have g2 := hF 2
        have hq := three_set (.bool false) (.slice none 0 0) (.slice none 0 0) r0 r1 r2
        have hbF : Below w.heap.size w (((W.setCell ⟨w.heap.size + 1, 0, none⟩ (.bool false)).setCell ⟨w.heap.size + 1, 1, none⟩ (.slice none 0 0)).setCell ⟨w.heap.size + 1, 2, none⟩ (.slice none 0 0)) := ((hbW.setCell (by simp) _).setCell (by simp) _).setCell (by simp) _
        go_wp2_with (first | (have _t := tok1; go_at_call 122; refine (value_whole_any (cutS n) hcs _ HP1.out _).mono ?_; rintro e w' ⟨rfl, rfl⟩; clear tok1) | (go_at_call 122; refine (value_whole_any d hd _ HP3.out _).mono ?_; rintro e w' ⟨rfl, rfl⟩))
        refine bodyPost_ret (v := .tuple #[.agg #[.bool false, .slice none 0 0, .slice none 0 0], .int .i64 2]) (by simp [results, Tryz.results100, go_sem, hq.1, hq.2.1, hq.2.2]) rfl ⟨.agg zeroX, by rw [HRF.out]; rfl, fun h => absurd (HRF.out.symm.trans h) (by decide), fun _ => rfl, hbF⟩
      · by_cases hl2 : 4000 < d.size
        · have HRF : Hid (rF n d = 2) := by have := HRF0.out; rw [if_pos (.inr hl2)] at this; exact this
          obtain ⟨r0, r1, r2⟩ := boxX hC
          have g0 := hF 0
          have g1 := hF 1
          have g2 := hF 2
          have hq := three_set (.bool false) (.slice none 0 0) (.slice none 0 0) r0 r1 r2
          have hbF : Below w.heap.size w (((W.setCell ⟨w.heap.size + 1, 0, none⟩ (.bool false)).setCell ⟨w.heap.size + 1, 1, none⟩ (.slice none 0 0)).setCell ⟨w.heap.size + 1, 2, none⟩ (.slice none 0 0)) := ((hbW.setCell (by simp) _).setCell (by simp) _).setCell (by simp) _
          go_wp2_with (first | (have _t := tok1; go_at_call 122; refine (value_whole_any (cutS n) hcs _ HP1.out _).mono ?_; rintro e w' ⟨rfl, rfl⟩; clear tok1) | (go_at_call 122; refine (value_whole_any d hd _ HP3.out _).mono ?_; rintro e w' ⟨rfl, rfl⟩))
          refine bodyPost_ret (v := .tuple #[.agg #[.bool false, .slice none 0 0, .slice none 0 0], .int .i64 2]) (by simp [results, Tryz.results100, go_sem, hq.1, hq.2.1, hq.2.2]) rfl ⟨.agg zeroX, by rw [HRF.out]; rfl, fun h => absurd (HRF.out.symm.trans h) (by decide), fun _ => rfl, hbF⟩
        · have HRF1 : Hid (rF n d = if Nat.gcd (decv (cutS n).data.toList) (decv d.data.toList) ≠ 1 then 3 else 0) := by have := HRF0.out; rw [if_neg (by unfold largeR; omega)] at this; exact this
          have HDM := Lib.hid (whole_whl HP1.out).1
          have HDD := Lib.hid (whole_whl HP3.out).1
          have HLM := Lib.hid (decv_lt HDM.out)
          have HLD := Lib.hid (decv_lt HDD.out)
          have hml : (cutS n).data.toList.length = (cutS n).size := Array.length_toList
          have hdl : d.data.toList.length = d.size := Array.length_toList
          have hw1 : wlen (decv (cutS n).data.toList) ≤ 4000 := by have := wlen_dec HLM.out; omega
          have hw2 : wlen (decv d.data.toList) ≤ 4000 := by have := wlen_dec HLD.out; omega
          clear hml hdl HRF0
          have tok2 : True := trivial
          have hszW : w.heap.size + 2 ≤ W.heap.size := by omega
          clear hsz
          go_upto_region 6 with (first | (have _t := tok1; go_at_call 122; refine (value_whole_any (cutS n) hcs _ HP1.out _).mono ?_; rintro e w' ⟨rfl, rfl⟩; clear tok1) | (go_at_call 122; refine (value_whole_any d hd _ HP3.out _).mono ?_; rintro e w' ⟨rfl, rfl⟩))
          go_cut [6] (fun s6 wx => ∃ (wv : World) (g : Nat) (p5 : Option Addr) (c5 : Nat) (p6 : Option Addr) (c6 : Nat), wv = wx ∧ s6 = .pointer (some ⟨g, 0, none⟩) ∧ wv.cell? ⟨g, 0, none⟩ = some (.bool true) ∧ wv.cell? ⟨g, 1, none⟩ = some (.slice p5 (digs (decv (cutS n).data.toList)).length c5) ∧ wv.cell? ⟨g, 2, none⟩ = some (.slice p6 (digs (decv d.data.toList)).length c6) ∧ N wv (.slice p5 (digs (decv (cutS n).data.toList)).length c5) (decv (cutS n).data.toList) ∧ N wv (.slice p6 (digs (decv d.data.toList)).length c6) (decv d.data.toList) ∧ Below W.heap.size W wv)
          case first =>
            go_region_held3 (S2R W W.heap.size w.heap.size #[Value.string n, Value.string d] (w.heap.size + 1) zeroX) (first | exact S2R.start hA hC | exact S2R.ext (by with_reducible assumption) (by with_reducible assumption) (Nat.le_refl _) hA hC | exact S2R.ext (ext_alloc _ _) (by with_reducible assumption) (Nat.le_refl _) hA hC | assumption | (have hc9 := hc3; exact S2R.fromB (ext_trans hc9.out (ext_alloc _ _)) (Nat.le_refl _) hA hC) | (have hc9 := hc3; have hc8 := hc2; exact S2R.fromB (((hc9.out.setCell hc8.out.size _).setCell hc8.out.size _).setCell hc8.out.size _) (Nat.le_refl _) hA hC) | (have hc9 := hc3; exact S2R.fromB (((hc9.out.setCell (Nat.le_refl _) _).setCell (Nat.le_refl _) _).setCell (Nat.le_refl _) _) (Nat.le_refl _) hA hC)) (first | (have _t := tok2; go_at_call 123; refine (readNat_at (cutS n) HDM.out (by omega) _).mono ?_; rintro e w2 ⟨va, rfl, hva, hb2⟩; have hc2 := Lib.hid (S2R.after (by with_reducible assumption) hb2); have HVA := Lib.hid hva; obtain ⟨p5, c5, rfl, _⟩ := hva.open_; (try (have hbx2 : Box w2 W.heap.size zeroX := newB_ext hb2; have hfx2 : Fre w2 W.heap.size := newF_ext hb2)); (try (have hbx2 : Box w2 W.heap.size zeroX := newB_drew hb2; have hfx2 : Fre w2 W.heap.size := newF_drew hb2)); clear tok2 hva) | (go_at_call 123; refine (readNat_at d HDD.out (by omega) _).mono ?_; rintro e w3 ⟨vb, rfl, hvb, hb3⟩; have hc3 := Lib.hid (S2R.after (by with_reducible assumption) hb3); have hb23 : Hid (Below w2.heap.size w2 w3) := (by first | exact hb3 | exact ext_trans (ext_alloc _ _) hb3); have HVA3 := Lib.hid (HVA.out.ext hb23.out); have HVB := Lib.hid hvb; obtain ⟨p6, c6, rfl, _⟩ := hvb.open_; (try (have hbx3 : Box w3 w2.heap.size zeroX := newB_ext hb3; have hfx3 : Fre w3 w2.heap.size := newF_ext hb3; obtain ⟨r0, r1, r2⟩ := boxX hbx3; have g0 := hfx3 0; have g1 := hfx3 1; have g2 := hfx3 2)); (try (have hbx3 := hbx2.ext hb3; have hfx3 := hfx2.ext hbx2 hb3; obtain ⟨r0, r1, r2⟩ := boxX hbx3; have g0 := hfx3 0; have g1 := hfx3 1; have g2 := hfx3 2)); clear hvb))
            all_goals go_wp2_with fail
            all_goals go_meet
            all_goals first | exact ⟨_, w3.heap.size, p5, c5, p6, c6, rfl, rfl, by simp, by simp, by simp, HVA3.out.ext (ext_alloc _ _), HVB.out.ext (ext_alloc _ _), ext_trans hc3.out (ext_alloc _ _)⟩ | (have hle9 := hc2.out.size; obtain ⟨k1, k2, k3, z0, z1, z2⟩ := res3 true hbx3 HVA3.out HVB.out hc3.out (by first | exact hle9 | exact Nat.le_refl _); exact ⟨_, _, p5, c5, p6, c6, rfl, rfl, z0, z1, z2, k1, k2, k3⟩)
          case rest =>
            obtain ⟨wv, g, p5, c5, p6, c6, rfl, rfl, x0, x1, x2, hNa, hNb, hBv⟩ := hcut
            have hCv := hC.ext hBv
            have hFv := hF.ext hC hBv
            have hbwv := ext_trans hbW hBv
            have HNa := Lib.hid hNa
            have HNb := Lib.hid hNb
            clear hC hF hBv hA oA hbW hNa hNb
            go_wp2_with fail
            refine (common_at _ _ _ _ wv HNa.out HNb.out (by omega) (by omega)).mono ?_
            rintro e w4 ⟨vg, rfl, hg, hb4⟩
            have y0 := cell_later hb4 x0
            have y1 := cell_later hb4 x1
            have y2 := cell_later hb4 x2
            have hC4 := hCv.ext hb4
            have hF4 := hFv.ext hCv hb4
            have hbw4 := ext_trans hbwv hb4
            have HNa4 := Lib.hid (HNa.out.ext hb4)
            have HNb4 := Lib.hid (HNb.out.ext hb4)
            clear x0 x1 x2 hCv hFv hbwv HNa HNb hb4
            have hx1 := xnatOf_at 1 (by decide) w4
            rw [show ((1 : Nat) : Int) = 1 from rfl] at hx1
            go_wp2_with fail
            refine hx1.mono ?_
            clear hx1
            rintro e w5 ⟨vo, rfl, ho, hb5⟩
            have hg5 := hg.ext hb5
            have x0 := cell_later hb5 y0
            have x1 := cell_later hb5 y1
            have x2 := cell_later hb5 y2
            have hC5 := hC4.ext hb5
            have hF5 := hF4.ext hC4 hb5
            have hbw5 := ext_trans hbw4 hb5
            have HNa5 := Lib.hid (HNa4.out.ext hb5)
            have HNb5 := Lib.hid (HNb4.out.ext hb5)
            clear y0 y1 y2 hC4 hF4 hbw4 HNa4 HNb4 hb5 hg
            go_wp2_with fail
            refine (cmp_at _ 1 vg vo w5 hg5 ho).mono ?_
            rintro e w6 ⟨rfl, k, rfl⟩
            have y0 : (w5.drewN k).cell? ⟨g, 0, none⟩ = some (.bool true) := x0
            have y1 : (w5.drewN k).cell? ⟨g, 1, none⟩ = some (.slice p5 (digs (decv (cutS n).data.toList)).length c5) := x1
            have y2 : (w5.drewN k).cell? ⟨g, 2, none⟩ = some (.slice p6 (digs (decv d.data.toList)).length c6) := x2
            have hC6 : Box (w5.drewN k) (w.heap.size + 1) zeroX := hC5
            have hF6 : Fre (w5.drewN k) (w.heap.size + 1) := hF5
            have hbw6 : Below w.heap.size w (w5.drewN k) := below_drewN hbw5 k
            have hNa6 : N (w5.drewN k) (.slice p5 (digs (decv (cutS n).data.toList)).length c5) (decv (cutS n).data.toList) := HNa5.out
            have hNb6 : N (w5.drewN k) (.slice p6 (digs (decv d.data.toList)).length c6) (decv d.data.toList) := HNb5.out
            clear x0 x1 x2 hC5 hF5 hbw5 HNa5 HNb5 hg5 ho
            generalize w5.drewN k = w6 at *
            by_cases h1 : Nat.gcd (decv (cutS n).data.toList) (decv d.data.toList) = 1
            · have HRF : Hid (rF n d = 0) := by have := HRF1.out; rw [if_neg (by simpa using h1)] at this; exact this
              have hcm : cmpN (Nat.gcd (decv (cutS n).data.toList) (decv d.data.toList)) 1 = 0 := cmpN_zero.2 h1
              rw [hcm]
              clear hcm h1
              obtain ⟨r0, r1, r2⟩ := boxX hC6
              have g0 := hF6 0
              have g1 := hF6 1
              have g2 := hF6 2
              obtain ⟨k1, k2, k3, z0, z1, z2⟩ := res3 true hC6 hNa6 hNb6 hbw6 (by omega)
              have HK := Lib.hid (And.intro k1 (And.intro k2 k3))
              clear k1 k2 k3 hNa6 hNb6
              go_wp2
              refine bodyPost_ret (v := .tuple #[.agg #[.bool true, .slice p5 (digs (decv (cutS n).data.toList)).length c5, .slice p6 (digs (decv d.data.toList)).length c6], .int .i64 0]) (by simp [results, Tryz.results100, go_sem, z0, z1, z2]) rfl ⟨_, by rw [HRF.out], fun _ => ⟨.slice p5 (digs (decv (cutS n).data.toList)).length c5, .slice p6 (digs (decv d.data.toList)).length c6, ?_, ?_, ?_⟩, fun h => absurd HRF.out h, HK.out.2.2⟩
              · rw [HEND.out HRF.out]
              · rw [(HFA.out HRF.out).2.1, sgn_natAbs]; exact HK.out.1
              · rw [(HFA.out HRF.out).2.2.1]; exact HK.out.2.1
            · have HRF : Hid (rF n d = 3) := by have := HRF1.out; rw [if_pos h1] at this; exact this
              have hcm : (cmpN (Nat.gcd (decv (cutS n).data.toList) (decv d.data.toList)) 1 != 0) = true := by
                have := @cmpN_zero (Nat.gcd (decv (cutS n).data.toList) (decv d.data.toList)) 1
                simp only [bne_iff_ne]; omega
              clear h1
              obtain ⟨r0, r1, r2⟩ := boxX hC6
              have g0 := hF6 0
              have g1 := hF6 1
              have g2 := hF6 2
              have hq := three_set (.bool false) (.slice none 0 0) (.slice none 0 0) r0 r1 r2
              have hbF : Below w.heap.size w (((w6.setCell ⟨w.heap.size + 1, 0, none⟩ (.bool false)).setCell ⟨w.heap.size + 1, 1, none⟩ (.slice none 0 0)).setCell ⟨w.heap.size + 1, 2, none⟩ (.slice none 0 0)) := ((hbw6.setCell (by simp) _).setCell (by simp) _).setCell (by simp) _
              go_wp2
              refine bodyPost_ret (v := .tuple #[.agg #[.bool false, .slice none 0 0, .slice none 0 0], .int .i64 3]) (by simp [results, Tryz.results100, go_sem, hq.1, hq.2.1, hq.2.2]) rfl ⟨.agg zeroX, by rw [HRF.out]; rfl, fun h => absurd (HRF.out.symm.trans h) (by decide), fun _ => rfl, hbF⟩

end Nm
end Go.Proofs.YtemenlcigengeaaGreatDoor
