/- The reference's Sample. -/
import Derived.Test.YtbbfdkjamjmbmaaSample3
namespace Go.Proofs.Ytbbfdkjamjmbmaa
open Go.RowKit
set_option maxHeartbeats 4000000 in
theorem ref8_Sample (m : Met) (hm : m.ok) (l : List Sub) (a : Option Addr) (c : Nat) (arm : Int) (w : World) (hs : Sl w (.slice a l.length c) l.length (l.flatMap subL)) :
    Calls Try.prog 10 #[.agg (metC m), .slice a l.length c, .int .i64 arm] w (SamplePost m l arm w) := by
  go_enter Try.func10, Try.ntmps10
  go_upto_region 1 with (fail)
  refine wp_box1 fun W hsz hbW hA => ?_
  obtain ⟨_, hA2⟩ := id hA
  go_wp2_with fail
  refine (ref8_Check m hm _).mono ?_
  rintro e w1 ⟨rfl, hb1⟩
  have hA1 := hA.ext hb1
  have hbw1 := ext_trans hbW hb1
  clear hA2 hA hb1
  by_cases h0 : checkM m = 0
  · have hne : (checkM m != 0) = false := by simp [h0]
    have H0 := Lib.hid h0
    clear h0
    by_cases hl : 20000 < l.length
    · have hf : sampF m l arm = 2 := by unfold sampF; rw [if_neg (by simp [H0.out]), if_pos hl]
      have HF := Lib.hid hf
      clear hf
      go_wp2
      go_ret2
      exact ⟨_, by rw [HF.out]; rfl, by unfold sampL; rw [HF.out]; exact Sl.nil _, hbw1⟩
    · by_cases hw : withinB arm 0 19 = true
      · have hf : sampF m l arm = faultsS l := by unfold sampF; rw [if_neg (by simp [H0.out]), if_neg hl, if_neg (by simp [hw])]
        have HF := Lib.hid hf
        clear hf
        have ha1 : 0 ≤ arm := by simp [withinB] at hw; omega
        have ha2 : arm < 20 := by simp [withinB] at hw; omega
        have ha3 : ¬ arm < 0 := by omega
        have ha4 : ¬ 20 ≤ arm := by omega
        clear hw
        go_wp2
        have HP := Lib.hid pair_info
        go_loopw [9, 31] (fun v i wr => ∃ (k n : Nat), k ≤ l.length ∧ n ≤ k ∧ i = .int .i64 k ∧ Hid (sampF m l arm = faultsS (l.drop k)) ∧ wr.ownsRow w1.heap.size 28 2 v n (((l.take k).filter (keepS arm)).flatMap (pairL m)) ∧ Hid (((l.take k).filter (keepS arm)).length = n) ∧ Below w1.heap.size w1 wr) (fun _ i _ => l.length - (intOf i).toNat)
        case atStart => exact ⟨0, 0, by omega, by omega, rfl, HF.out, World.ownsRow_nil _ _ _ _, rfl, Below.refl _ _⟩
        case round =>
          obtain ⟨k, n, hk, hnk, rfl, HK, hown, HN, hbr⟩ := hrel
          by_cases hlt : k < l.length
          · have hgk := List.getElem?_eq_getElem hlt
            have hst := faults_step hgk
            have hfi := filter_step (keepS arm) hgk
            generalize l[k] = s at hgk hst hfi
            obtain ⟨b, o, rfl, hcs⟩ := (hs.ext (ext_trans hbw1 hbr)).elem subL_len (by omega) hgk
            have e0 := hcs 0 _ rfl
            have e1 := hcs 1 _ rfl
            have e2 := hcs 2 _ rfl
            have e3 := hcs 3 _ rfl
            have e4 := hcs 4 _ rfl
            have e5 := hcs 5 _ rfl
            have e6 := hcs 6 _ rfl
            have e7 := hcs 7 _ rfl
            rw [Nat.add_zero] at e0
            have HST := Lib.hid hst
            have HFI := Lib.hid hfi
            have HG := Lib.hid hgk
            clear hst hfi hgk hcs
            go_upto_region 12 with (fail)
            clear e0 e1 e2 e3 e4 e5 e6 e7
            refine wp_box1 fun X hszX hbX hS => ?_
            obtain ⟨_, hS2⟩ := id hS
            go_wp2_with fail
            refine (ref8_checkSubject s _).mono ?_
            rintro e w2 ⟨rfl, hb2⟩
            have hb3 := ext_trans hbX hb2
            have hS3 := hS.ext hb2
            have hA3 := (hA1.ext hbr).ext hb3
            have hb4 := ext_trans hbr hb3
            have hown3 := ownsRow_ext hown hb3
            have hownlt : ∀ q, u9.ownBlock = some q → q < wr.heap.size := fun q hq => (hown.lt q hq).2
            have HOL := Lib.hid hownlt
            clear hS2 hS hown hbX hb2 hb3 hszX hownlt
            by_cases hc : checkS s = 0
            · have hne2 : (checkS s != 0) = false := by simp [hc]
              have HK2 : Hid (sampF m l arm = faultsS (l.drop (k + 1))) := by have := HK.out; rw [HST.out, if_pos hc] at this; exact this
              clear hc
              obtain ⟨_, hS4⟩ := id hS3
              by_cases hk2 : s.closed = true
              · by_cases hk1 : (s.arm == arm) = true
                · have HFI2 : Hid ((l.take (k + 1)).filter (keepS arm) = (l.take k).filter (keepS arm) ++ [s]) := by
                    have := HFI.out
                    rw [show keepS arm s = true by simp [keepS, hk2]; simpa using hk1] at this
                    exact (by simpa using this : (l.take (k + 1)).filter (keepS arm) = (l.take k).filter (keepS arm) ++ [s])
                  go_wp2_with fail
                  clear hk1 hk2 hS4
                  have tok1 : True := trivial
                  have HX := Lib.hid (show countedM m s.count s.sum = pairX m s from rfl)
                  have HY := Lib.hid (show countedM m s.early s.earlySum = pairY m s from rfl)
                  have hbs := hb4.size
                  have HO := Lib.hid (fun q hq => (hown3.lt q hq).1)
                  have HO2 := HOL
                  have hbox1 : w.heap.size < w1.heap.size := hA1.1
                  have hbox2 : w1.heap.size ≤ wr.heap.size := hbr.size
                  go_region_held3 (S2R w2 w1.heap.size w.heap.size (metC m) wr.heap.size (subC s)) (first | exact S2R.start hA3 hS3 | exact S2R.ext (by with_reducible assumption) (by with_reducible assumption) (by omega) hA3 hS3 | exact S2R.ext (ext_alloc _ _) (by with_reducible assumption) (by omega) hA3 hS3 | exact S2R.grown hg7 (by with_reducible assumption) (by omega) hA3 hS3 (fun q hq => ⟨HO.out q hq, by have := HO.out q hq; omega, by have := HO2.out q hq; omega⟩) | assumption) (first | (have _t := tok1; go_at_call 28; refine (ref8_valued m H0.out s.count s.sum _).mono ?_; rw [HX.out]; rintro e w5 ⟨rfl, hb5⟩; have hc5 := Lib.hid (ext_trans (Below.refl w2.heap.size w2).drew hb5); clear tok1) | (go_at_call 28; refine (ref8_valued m H0.out s.early s.earlySum _).mono ?_; rw [HY.out]; rintro e w6 ⟨rfl, hb6⟩; have hc6 := Lib.hid (ext_trans hc5.out hb6); have hsz6 := hc6.out.size) | (refine step_append_new rfl _ _ 32 rfl w1.heap.size 28 Try.underlying32 HP.out rfl (by decide) rfl (ownsRow_ext (ownsRow_ext hown3 hc6.out) (ext_alloc _ _)) rfl (Sl.new w6 #[.int .i64 (pairX m s), .int .i64 (pairY m s)] _ 1 1 (by omega) (by decide)) rfl (by intro u hu; simp at hu; rcases hu with rfl | rfl <;> rfl) (by unfold maxLen; omega) (by omega) (by simp; omega) ?_; intro v7 w7 hown7 hg7))
                  have hL : ((l.take k).filter (keepS arm)).flatMap (pairL m) ++ pairL m s = ((l.take (k + 1)).filter (keepS arm)).flatMap (pairL m) := by
                    rw [HFI2.out, List.flatMap_append]; simp
                  have hown8 : w7.ownsRow w1.heap.size 28 2 v7 (n + 1) (((l.take (k + 1)).filter (keepS arm)).flatMap (pairL m)) := by rw [← hL]; exact hown7
                  have hb8 : Below w1.heap.size w1 w7 := (ext_trans (ext_trans hb4 hc6.out) (ext_alloc _ _)).grown hg7 (by simp; omega) (fun q hq => HO.out q hq)
                  have HN2 : Hid (((l.take (k + 1)).filter (keepS arm)).length = n + 1) := by
                    have := HN.out
                    exact (by rw [HFI2.out, List.length_append, this]; rfl : ((l.take (k + 1)).filter (keepS arm)).length = n + 1)
                  clear hown7 hg7 hL
                  go_wp2
                  go_roundw
                  case rel => exact ⟨k + 1, n + 1, by omega, by omega, by go_num, HK2, hown8, HN2, hb8⟩
                  case measure => simp [intOf]; omega
                · have hk1' : (s.arm == arm) = false := by simpa using hk1
                  have HFI2 : Hid ((l.take (k + 1)).filter (keepS arm) = (l.take k).filter (keepS arm)) := by
                    have := HFI.out
                    rw [show keepS arm s = false by simp only [keepS]; rw [show decide (s.arm = arm) = false by simpa using hk1']; rfl] at this
                    exact (by simpa using this : (l.take (k + 1)).filter (keepS arm) = (l.take k).filter (keepS arm))
                  clear hk1
                  have hown8 : w2.ownsRow w1.heap.size 28 2 u9 n (((l.take (k + 1)).filter (keepS arm)).flatMap (pairL m)) := by rw [HFI2.out]; exact hown3
                  have HN2 : Hid (((l.take (k + 1)).filter (keepS arm)).length = n) := by rw [HFI2.out]; exact HN
                  go_wp2
                  go_roundw
                  case rel => exact ⟨k + 1, n, by omega, by omega, by go_num, HK2, hown8, HN2, hb4⟩
                  case measure => simp [intOf]; omega
              · have hk2' : s.closed = false := by simpa using hk2
                have HFI2 : Hid ((l.take (k + 1)).filter (keepS arm) = (l.take k).filter (keepS arm)) := by
                  have := HFI.out
                  rw [show keepS arm s = false by simp [keepS, hk2']] at this
                  exact (by simpa using this : (l.take (k + 1)).filter (keepS arm) = (l.take k).filter (keepS arm))
                clear hk2
                have hown8 : w2.ownsRow w1.heap.size 28 2 u9 n (((l.take (k + 1)).filter (keepS arm)).flatMap (pairL m)) := by rw [HFI2.out]; exact hown3
                have HN2 : Hid (((l.take (k + 1)).filter (keepS arm)).length = n) := by rw [HFI2.out]; exact HN
                go_wp2
                go_roundw
                case rel => exact ⟨k + 1, n, by omega, by omega, by go_num, HK2, hown8, HN2, hb4⟩
                case measure => simp [intOf]; omega
            · have hne2 : (checkS s != 0) = true := by simp [hc]
              have HE : Hid (sampF m l arm = checkS s) := by have := HK.out; rw [HST.out, if_neg hc] at this; exact this
              have HC := Lib.hid hc
              clear hc
              go_wp2
              go_ret2
              exact ⟨_, by rw [HE.out]; rfl, by unfold sampL; rw [HE.out, if_neg HC.out]; exact Sl.nil _, ext_trans hbw1 hb4⟩
          · have hkl : k = l.length := by omega
            have HE : Hid (sampF m l arm = 0) := by have := HK.out; rw [List.drop_eq_nil_of_le (by omega)] at this; exact this
            have HL : Hid (sampL m l arm = (l.take k).filter (keepS arm)) := by
              have e : (l.take k).filter (keepS arm) = l.filter (keepS arm) := by rw [List.take_of_length_le (by omega)]
              exact (by unfold sampL; rw [HE.out, if_pos rfl, e] : sampL m l arm = (l.take k).filter (keepS arm))
            go_wp2
            go_ret2
            exact ⟨_, by rw [HE.out]; rfl, by rw [HL.out, HN.out]; exact Sl.ofOwn hown, ext_trans hbw1 hbr⟩
      · have hw' : withinB arm 0 19 = false := by simpa using hw
        have hf : sampF m l arm = 1 := by unfold sampF; rw [if_neg (by simp [H0.out]), if_neg hl, if_pos hw']
        have HF := Lib.hid hf
        have ha : arm < 0 ∨ 20 ≤ arm := by simp [withinB] at hw'; omega
        clear hf hw hw'
        by_cases ha1 : arm < 0
        · go_wp2
          go_ret2
          exact ⟨_, by rw [HF.out]; rfl, by unfold sampL; rw [HF.out]; exact Sl.nil _, hbw1⟩
        · have ha2 : 20 ≤ arm := by omega
          go_wp2
          go_ret2
          exact ⟨_, by rw [HF.out]; rfl, by unfold sampL; rw [HF.out]; exact Sl.nil _, hbw1⟩
  · have hne : (checkM m != 0) = true := by simp [h0]
    have hf : sampF m l arm = checkM m := by unfold sampF; rw [if_pos h0]
    have HF := Lib.hid hf
    have H0 := Lib.hid h0
    clear hf h0
    go_wp2
    go_ret2
    exact ⟨_, by rw [HF.out]; rfl, by unfold sampL; rw [HF.out, if_neg H0.out]; exact Sl.nil _, hbw1⟩
end Go.Proofs.Ytbbfdkjamjmbmaa
