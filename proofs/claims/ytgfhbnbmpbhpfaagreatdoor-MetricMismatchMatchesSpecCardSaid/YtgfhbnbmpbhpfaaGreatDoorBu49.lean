/- Mismatch of the reference. Printed by gen_mis.py. -/
import Derived.Test.YtgfhbnbmpbhpfaaGreatDoorBu48
import Derived.Test.YtgfhbnbmpbhpfaaGreatDoorBu33
import Derived.Test.YtgfhbnbmpbhpfaaGreatDoorBu31
namespace Go.Proofs.YtgfhbnbmpbhpfaaGreatDoor
open Go.RowKit
namespace Nt
open _root_.Go.Proofs.YtgfhbnbmpbhpfaaGreatDoor.Nm (rF rQ showN showD Fits AnsPost okC okC_iff badF badF_step sumI sumI_step misF misF_parts misL misL_step misQ misN misD mis_no misT OkL MsOk MsOk.zero MsOk.fits MsOk.add MsR MsAll ms_all MsAll.round misQ_is ic_at Ln Ln.fits prs)
set_option maxRecDepth 100000 in
set_option maxHeartbeats 16000000 in
theorem refMism_at (cs xs : List Int) (a b : Option Addr) (c d : Nat) (w : World) (hs : Sl w (.slice a cs.length c) cs.length (cs.map (Value.int .i64))) (hs2 : Sl w (.slice b xs.length d) xs.length (xs.map (Value.int .i64))) (ht : Tab w) : Calls Tryz.prog 39 #[.slice a cs.length c, .slice b xs.length d] w (AnsPost w (misN cs xs) (misD cs xs) (misF cs xs)) := by
  have HS := Lib.hid hs
  have HS2 := Lib.hid hs2
  clear hs hs2
  go_enter Tryz.func39, Tryz.ntmps39
  have HT0 := Lib.hid ht
  clear ht
  go_upto_region 1 with (fail)
  refine wp_box1r fun w1' hsz hbW hC hF => ?_
  clear hsz
  have HB_o := Lib.hid hC
  have HF_o := Lib.hid hF
  have HW := Lib.hid hbW
  clear hbW hC hF
  by_cases h1 : cs.length = 0
  · have HV : Hid (misF cs xs = 9) := Lib.hid (by unfold misF; rw [if_pos h1])
    have hl0 : (cs.length : Int) = 0 := by omega
    clear h1
    have c_o_0 : w1'.cell? ⟨w.heap.size, 0, none⟩ = some (.string ⟨#[]⟩) := HB_o.out.2 0
    have c_o_1 : w1'.cell? ⟨w.heap.size, 1, none⟩ = some (.string ⟨#[]⟩) := HB_o.out.2 1
    have f_o_0 := HF_o.out 0
    have f_o_1 := HF_o.out 1
    have HN := Lib.hid (mis_no (cs := cs) (xs := xs) (by rw [HV.out]; decide))
    have HR := Lib.hid (res2s (.string ⟨#[]⟩) (.string ⟨#[]⟩) HB_o.out HW.out (show w.heap.size ≤ w.heap.size by omega))
    obtain ⟨hbF, z0, z1⟩ := id HR.out
    clear hbF
    go_wp2
    exact bodyPost_ret (v := .tuple #[.agg #[.string ⟨#[]⟩, .string ⟨#[]⟩], .int .i64 9]) (by simp [results, Tryz.results39, go_sem, z0, z1]) rfl ⟨by rw [HN.out.1, HN.out.2, HV.out], HR.out.1⟩
  · by_cases h2 : 20 < cs.length
    · have HV : Hid (misF cs xs = 2) := Lib.hid (by unfold misF; rw [if_neg h1, if_pos h2])
      have hl0 : ¬ (cs.length : Int) = 0 := by omega
      have hl1 : (20 : Int) < (cs.length : Int) := by omega
      clear h1 h2
      have c_o_0 : w1'.cell? ⟨w.heap.size, 0, none⟩ = some (.string ⟨#[]⟩) := HB_o.out.2 0
      have c_o_1 : w1'.cell? ⟨w.heap.size, 1, none⟩ = some (.string ⟨#[]⟩) := HB_o.out.2 1
      have f_o_0 := HF_o.out 0
      have f_o_1 := HF_o.out 1
      have HN := Lib.hid (mis_no (cs := cs) (xs := xs) (by rw [HV.out]; decide))
      have HR := Lib.hid (res2s (.string ⟨#[]⟩) (.string ⟨#[]⟩) HB_o.out HW.out (show w.heap.size ≤ w.heap.size by omega))
      obtain ⟨hbF, z0, z1⟩ := id HR.out
      clear hbF
      go_wp2
      exact bodyPost_ret (v := .tuple #[.agg #[.string ⟨#[]⟩, .string ⟨#[]⟩], .int .i64 2]) (by simp [results, Tryz.results39, go_sem, z0, z1]) rfl ⟨by rw [HN.out.1, HN.out.2, HV.out], HR.out.1⟩
    · by_cases h3 : cs.length ≠ xs.length
      · have HV : Hid (misF cs xs = 3) := Lib.hid (by unfold misF; rw [if_neg h1, if_neg h2, if_pos h3])
        have hl0 : ¬ (cs.length : Int) = 0 := by omega
        have hl1 : ¬ (20 : Int) < (cs.length : Int) := by omega
        have hneg : ((xs.length : Int) != (cs.length : Int)) = true := by rw [bne_iff_ne]; omega
        clear h1 h2 h3
        have c_o_0 : w1'.cell? ⟨w.heap.size, 0, none⟩ = some (.string ⟨#[]⟩) := HB_o.out.2 0
        have c_o_1 : w1'.cell? ⟨w.heap.size, 1, none⟩ = some (.string ⟨#[]⟩) := HB_o.out.2 1
        have f_o_0 := HF_o.out 0
        have f_o_1 := HF_o.out 1
        have HN := Lib.hid (mis_no (cs := cs) (xs := xs) (by rw [HV.out]; decide))
        have HR := Lib.hid (res2s (.string ⟨#[]⟩) (.string ⟨#[]⟩) HB_o.out HW.out (show w.heap.size ≤ w.heap.size by omega))
        obtain ⟨hbF, z0, z1⟩ := id HR.out
        clear hbF
        go_wp2
        exact bodyPost_ret (v := .tuple #[.agg #[.string ⟨#[]⟩, .string ⟨#[]⟩], .int .i64 3]) (by simp [results, Tryz.results39, go_sem, z0, z1]) rfl ⟨by rw [HN.out.1, HN.out.2, HV.out], HR.out.1⟩
      · replace h3 : cs.length = xs.length := by omega
        have HF : Hid (misF cs xs = if badF cs xs = true then 1 else if sumI cs = 0 then 14 else 0) := Lib.hid (by unfold misF; rw [if_neg h1, if_neg h2, if_neg (fun h => h h3)])
        have HLX := Lib.hid h3
        have h1' : 0 < cs.length := by omega
        have h2' : cs.length ≤ 20 := by omega
        have hl0 : ¬ (cs.length : Int) = 0 := by omega
        have hl1 : ¬ (20 : Int) < (cs.length : Int) := by omega
        have hneg : ((xs.length : Int) != (cs.length : Int)) = false := by rw [bne_eq_false_iff_eq]; omega
        obtain ⟨pb, po, rfl, hq8⟩ := ic_at HS.out h1'
        obtain ⟨qb, qo, rfl, hq9⟩ := ic_at (k := 0) HS2.out (by omega)
        clear hq8 hq9 h1 h2 h3
        go_wp2
        clear hl0 hl1 hneg
        go_loopw [6, 7, 8, 9, 35] (fun n' x' _ _ i wr => ∃ (k : Nat) (sn sw : Int), k ≤ cs.length ∧ i = .int .i64 (k : Int) ∧ n' = .int .i64 sn ∧ x' = .int .i64 sw ∧ Hid (sn + sumI (cs.drop k) = sumI cs ∧ sw + sumI (xs.drop k) = sumI xs ∧ badF cs xs = badF (cs.drop k) (xs.drop k)) ∧ (0 ≤ sn ∧ sn ≤ 20000 * (k : Int) ∧ 0 ≤ sw ∧ sw ≤ 100000 * (k : Int)) ∧ (Box wr w.heap.size #[.string ⟨#[]⟩, .string ⟨#[]⟩]) ∧ (Fre wr w.heap.size) ∧ (Below w.heap.size w wr)) (fun _ _ _ _ i _ => cs.length - (intOf i).toNat)
        case atStart => exact ⟨0, 0, 0, by omega, rfl, rfl, rfl, Lib.hid ⟨by simp, by simp, rfl⟩, by omega, HB_o.out, HF_o.out, HW.out⟩
        case round =>
          obtain ⟨k, sn, sw, hk, rfl, rfl, rfl, HK, hbd, q_HB_o, q_HF_o, q_HW⟩ := hrel
          clear HB_o HF_o HW
          have HB_o := Lib.hid q_HB_o
          have HF_o := Lib.hid q_HF_o
          have HW := Lib.hid q_HW
          clear q_HB_o q_HF_o q_HW
          generalize hX : wr = X at *
          clear hX
          obtain ⟨hb1, hb2, hb3, hb4⟩ := hbd
          by_cases hlt : k < cs.length
          · have hlt2 : k < xs.length := by rw [← HLX.out]; exact hlt
            have HST := Lib.hid (badF_step hlt hlt2)
            have HSN := Lib.hid (sumI_step hlt)
            have HSW := Lib.hid (sumI_step hlt2)
            have e0 : X.cell? ⟨pb, po + k, none⟩ = some (.int .i64 cs[k]) := by obtain ⟨_, _, e, h⟩ := ic_at (HS.out.ext HW.out) hlt; cases e; exact h
            have e1 : X.cell? ⟨qb, qo + k, none⟩ = some (.int .i64 xs[k]) := by obtain ⟨_, _, e, h⟩ := ic_at (HS2.out.ext HW.out) hlt2; cases e; exact h
            generalize cs[k] = ck at HST HSN e0
            generalize xs[k] = xk at HST HSW e1
            have hk0 : (0 : Int) ≤ (k : Int) := Int.natCast_nonneg _
            have hk1 : (k : Int) < (cs.length : Int) := by omega
            have hk2 : (k : Int) < (xs.length : Int) := by omega
            have hk3 : (k : Int).toNat = k := by omega
            by_cases hc : 0 ≤ ck ∧ ck ≤ 20000
            · by_cases hx : 1 ≤ xk ∧ xk ≤ 100000
              · have HN : Hid ((sn + ck) + sumI (cs.drop (k + 1)) = sumI cs ∧ (sw + xk) + sumI (xs.drop (k + 1)) = sumI xs ∧ badF cs xs = badF (cs.drop (k + 1)) (xs.drop (k + 1))) := Lib.hid ⟨by have h1 := HK.out.1; have h2 := HSN.out; omega, by have h1 := HK.out.2.1; have h2 := HSW.out; omega, by rw [HK.out.2.2, HST.out, if_pos (by rw [okC_iff]; omega)]⟩
                clear HK HST HSN HSW
                obtain ⟨hc1, hc2⟩ := hc
                obtain ⟨hx1, hx2⟩ := hx
                go_wp2
                go_quiet (fail)
                go_wp2
                go_roundw
                case rel => exact ⟨k + 1, sn + ck, sw + xk, by omega, by go_num, by go_num, by go_num, HN, by omega, HB_o.out, HF_o.out, ⟨HW.out.1, HW.out.2, HW.out.3, HW.out.4, HW.out.5⟩⟩
                case measure => simp [intOf]; omega
              · by_cases h9 : xk < 1
                · have HV : Hid (misF cs xs = 1) := Lib.hid (by rw [HF.out, if_pos (by rw [HK.out.2.2, HST.out, if_neg (by rw [okC_iff]; omega)])])
                  have hx1 : xk < 1 := by omega
                  clear HST HSN HSW HK hx hb1 hb2 hb3 hb4
                  obtain ⟨hc1, hc2⟩ := hc
                  have c_o_0 : X.cell? ⟨w.heap.size, 0, none⟩ = some (.string ⟨#[]⟩) := HB_o.out.2 0
                  have c_o_1 : X.cell? ⟨w.heap.size, 1, none⟩ = some (.string ⟨#[]⟩) := HB_o.out.2 1
                  have f_o_0 := HF_o.out 0
                  have f_o_1 := HF_o.out 1
                  have HN := Lib.hid (mis_no (cs := cs) (xs := xs) (by rw [HV.out]; decide))
                  have HR := Lib.hid (res2s (.string ⟨#[]⟩) (.string ⟨#[]⟩) HB_o.out HW.out (show w.heap.size ≤ w.heap.size by omega))
                  obtain ⟨hbF, z0, z1⟩ := id HR.out
                  clear hbF
                  go_wp2
                  exact bodyPost_ret (v := .tuple #[.agg #[.string ⟨#[]⟩, .string ⟨#[]⟩], .int .i64 1]) (by simp [results, Tryz.results39, go_sem, z0, z1]) rfl ⟨by rw [HN.out.1, HN.out.2, HV.out], HR.out.1⟩
                · have HV : Hid (misF cs xs = 1) := Lib.hid (by rw [HF.out, if_pos (by rw [HK.out.2.2, HST.out, if_neg (by rw [okC_iff]; omega)])])
                  have hx1 : 100000 < xk := by omega
                  clear HST HSN HSW HK hx hb1 hb2 hb3 hb4
                  obtain ⟨hc1, hc2⟩ := hc
                  have c_o_0 : X.cell? ⟨w.heap.size, 0, none⟩ = some (.string ⟨#[]⟩) := HB_o.out.2 0
                  have c_o_1 : X.cell? ⟨w.heap.size, 1, none⟩ = some (.string ⟨#[]⟩) := HB_o.out.2 1
                  have f_o_0 := HF_o.out 0
                  have f_o_1 := HF_o.out 1
                  have HN := Lib.hid (mis_no (cs := cs) (xs := xs) (by rw [HV.out]; decide))
                  have HR := Lib.hid (res2s (.string ⟨#[]⟩) (.string ⟨#[]⟩) HB_o.out HW.out (show w.heap.size ≤ w.heap.size by omega))
                  obtain ⟨hbF, z0, z1⟩ := id HR.out
                  clear hbF
                  go_wp2
                  exact bodyPost_ret (v := .tuple #[.agg #[.string ⟨#[]⟩, .string ⟨#[]⟩], .int .i64 1]) (by simp [results, Tryz.results39, go_sem, z0, z1]) rfl ⟨by rw [HN.out.1, HN.out.2, HV.out], HR.out.1⟩
            · by_cases h9 : ck < 0
              · have HV : Hid (misF cs xs = 1) := Lib.hid (by rw [HF.out, if_pos (by rw [HK.out.2.2, HST.out, if_neg (by rw [okC_iff]; omega)])])
                have hc1 : ck < 0 := by omega
                clear HST HSN HSW HK hc hb1 hb2 hb3 hb4
                have c_o_0 : X.cell? ⟨w.heap.size, 0, none⟩ = some (.string ⟨#[]⟩) := HB_o.out.2 0
                have c_o_1 : X.cell? ⟨w.heap.size, 1, none⟩ = some (.string ⟨#[]⟩) := HB_o.out.2 1
                have f_o_0 := HF_o.out 0
                have f_o_1 := HF_o.out 1
                have HN := Lib.hid (mis_no (cs := cs) (xs := xs) (by rw [HV.out]; decide))
                have HR := Lib.hid (res2s (.string ⟨#[]⟩) (.string ⟨#[]⟩) HB_o.out HW.out (show w.heap.size ≤ w.heap.size by omega))
                obtain ⟨hbF, z0, z1⟩ := id HR.out
                clear hbF
                go_wp2
                exact bodyPost_ret (v := .tuple #[.agg #[.string ⟨#[]⟩, .string ⟨#[]⟩], .int .i64 1]) (by simp [results, Tryz.results39, go_sem, z0, z1]) rfl ⟨by rw [HN.out.1, HN.out.2, HV.out], HR.out.1⟩
              · have HV : Hid (misF cs xs = 1) := Lib.hid (by rw [HF.out, if_pos (by rw [HK.out.2.2, HST.out, if_neg (by rw [okC_iff]; omega)])])
                have hc1 : 20000 < ck := by omega
                clear HST HSN HSW HK hc hb1 hb2 hb3 hb4
                have c_o_0 : X.cell? ⟨w.heap.size, 0, none⟩ = some (.string ⟨#[]⟩) := HB_o.out.2 0
                have c_o_1 : X.cell? ⟨w.heap.size, 1, none⟩ = some (.string ⟨#[]⟩) := HB_o.out.2 1
                have f_o_0 := HF_o.out 0
                have f_o_1 := HF_o.out 1
                have HN := Lib.hid (mis_no (cs := cs) (xs := xs) (by rw [HV.out]; decide))
                have HR := Lib.hid (res2s (.string ⟨#[]⟩) (.string ⟨#[]⟩) HB_o.out HW.out (show w.heap.size ≤ w.heap.size by omega))
                obtain ⟨hbF, z0, z1⟩ := id HR.out
                clear hbF
                go_wp2
                exact bodyPost_ret (v := .tuple #[.agg #[.string ⟨#[]⟩, .string ⟨#[]⟩], .int .i64 1]) (by simp [results, Tryz.results39, go_sem, z0, z1]) rfl ⟨by rw [HN.out.1, HN.out.2, HV.out], HR.out.1⟩
          · have HNB : Hid (badF cs xs = false ∧ sumI cs = sn ∧ sumI xs = sw) := Lib.hid (by have h1 := HK.out; have h2 := HLX.out; rw [List.drop_of_length_le (show cs.length ≤ k by omega), List.drop_of_length_le (show xs.length ≤ k by omega)] at h1; simp only [sumI] at h1; exact ⟨h1.2.2, by omega, by omega⟩)
            have HF2 : Hid (misF cs xs = if sn = 0 then 14 else 0) := Lib.hid (by rw [HF.out, if_neg (by rw [HNB.out.1]; decide), HNB.out.2.1])
            clear HK HF hb4
            by_cases hs0 : sn = 0
            · have HV : Hid (misF cs xs = 14) := Lib.hid (by rw [HF2.out, if_pos hs0])
              subst hs0
              clear hb1 hb2 hb3
              have c_o_0 : X.cell? ⟨w.heap.size, 0, none⟩ = some (.string ⟨#[]⟩) := HB_o.out.2 0
              have c_o_1 : X.cell? ⟨w.heap.size, 1, none⟩ = some (.string ⟨#[]⟩) := HB_o.out.2 1
              have f_o_0 := HF_o.out 0
              have f_o_1 := HF_o.out 1
              have HN := Lib.hid (mis_no (cs := cs) (xs := xs) (by rw [HV.out]; decide))
              have HR := Lib.hid (res2s (.string ⟨#[]⟩) (.string ⟨#[]⟩) HB_o.out HW.out (show w.heap.size ≤ w.heap.size by omega))
              obtain ⟨hbF, z0, z1⟩ := id HR.out
              clear hbF
              go_wp2
              exact bodyPost_ret (v := .tuple #[.agg #[.string ⟨#[]⟩, .string ⟨#[]⟩], .int .i64 14]) (by simp [results, Tryz.results39, go_sem, z0, z1]) rfl ⟨by rw [HN.out.1, HN.out.2, HV.out], HR.out.1⟩
            · have HV0 : Hid (misF cs xs = 0) := Lib.hid (by rw [HF2.out, if_neg hs0])
              obtain ⟨n, rfl⟩ : ∃ n : Nat, sn = (n : Int) := ⟨sn.toNat, by omega⟩
              obtain ⟨wt, rfl⟩ : ∃ n : Nat, sw = (n : Int) := ⟨sw.toNat, by omega⟩
              have HALL : Hid (MsAll cs xs n wt) := Lib.hid (by have h := ms_all HV0.out; rw [HNB.out.2.1, HNB.out.2.2, Int.toNat_natCast, Int.toNat_natCast] at h; exact h)
              have HMQ : Hid (misQ cs xs = misL n wt 0 (prs (cs.drop 0) (xs.drop 0))) := Lib.hid (by rw [misQ_is, HNB.out.2.1, HNB.out.2.2, Int.toNat_natCast, Int.toNat_natCast])
              have hn0 : n ≤ 400000 := HALL.out.n1
              have hw0 : wt ≤ 2000000 := HALL.out.w1
              have hw1 : 0 < wt := HALL.out.w0
              have hsn : ¬ (n : Int) = 0 := hs0
              clear HF2 HNB hs0 hb1 hb2 hb3
              have hnn : (0 : Int) ≤ (n : Int) := Int.natCast_nonneg _
              obtain ⟨zq, hzq⟩ : ∃ q : Rat, q = 0 := ⟨_, rfl⟩
              have HZ : Hid (MsOk 0 zq ∧ misL n wt zq (prs (cs.drop 0) (xs.drop 0)) = misQ cs xs) := Lib.hid (by rw [hzq]; exact ⟨MsOk.zero, HMQ.out.symm⟩)
              clear HMQ
              go_wp2_with fail
              refine (whole0 X (HT0.out.ext HW.out)).mono ?_
              rintro e w2' ⟨rfl, hbz⟩
              rw [← hzq]
              clear hzq hk hlt
              replace HF_o := Lib.hid (HF_o.out.ext HB_o.out hbz)
              replace HB_o := Lib.hid (HB_o.out.ext hbz)
              replace HW := Lib.hid (ext_trans HW.out hbz)
              clear hbz
              go_upto_region 18 with (fail)
              refine wp_box1r fun w3' hsz hbz hC hF => ?_
              clear hsz
              have lt_o_s : w.heap.size < w2'.heap.size := HB_o.out.1
              have le_s : w.heap.size ≤ w2'.heap.size := HW.out.size
              replace HF_o := Lib.hid (HF_o.out.ext HB_o.out hbz)
              replace HB_o := Lib.hid (HB_o.out.ext hbz)
              replace HW := Lib.hid (ext_trans HW.out hbz)
              clear hbz
              have HB_s := Lib.hid hC
              have HF_s := Lib.hid hF
              clear hC hF
              generalize w2'.heap.size = b_s at *
              go_wp2
              go_loopw [11, 12, 77] (fun _ _ i wr => ∃ (k : Nat) (S : Rat), k ≤ cs.length ∧ i = .int .i64 (k : Int) ∧ Hid (misL n wt S (prs (cs.drop k) (xs.drop k)) = misQ cs xs) ∧ Hid (MsOk k S) ∧ (Box wr w.heap.size #[.string ⟨#[]⟩, .string ⟨#[]⟩]) ∧ (Fre wr w.heap.size) ∧ (Box wr b_s #[.string (showN (S)), .string (showD (S))]) ∧ (Fre wr b_s) ∧ (Below w.heap.size w wr)) (fun _ _ i _ => cs.length - (intOf i).toNat)
              case atStart => exact ⟨0, zq, by omega, by rfl, HZ.out.2, HZ.out.1, HB_o.out, HF_o.out, HB_s.out, HF_s.out, HW.out⟩
              case round =>
                obtain ⟨k, S, hk, rfl, HSS, HOK, q_HB_o, q_HF_o, q_HB_s, q_HF_s, q_HW⟩ := hrel
                clear HB_o HF_o HB_s HF_s HW
                clear HZ
                have HB_o := Lib.hid q_HB_o
                have HF_o := Lib.hid q_HF_o
                have HB_s := Lib.hid q_HB_s
                have HF_s := Lib.hid q_HF_s
                have HW := Lib.hid q_HW
                clear q_HB_o q_HF_o q_HB_s q_HF_s q_HW
                generalize hX : wr = Y at *
                clear hX
                by_cases hlt : k < cs.length
                · have hlt2 : k < xs.length := by rw [← HLX.out]; exact hlt
                  have e0 : Y.cell? ⟨pb, po + k, none⟩ = some (.int .i64 cs[k]) := by obtain ⟨_, _, e, h⟩ := ic_at (HS.out.ext HW.out) hlt; cases e; exact h
                  have e1 : Y.cell? ⟨qb, qo + k, none⟩ = some (.int .i64 xs[k]) := by obtain ⟨_, _, e, h⟩ := ic_at (HS2.out.ext HW.out) hlt2; cases e; exact h
                  obtain ⟨ck, xk, hc, hx, hR, hc1, hx1, hst⟩ := HALL.out.round hlt hlt2
                  rw [hc] at e0
                  rw [hx] at e1
                  obtain ⟨sh, hsh⟩ : ∃ q, (n : Rat) * (xk : Rat) / (wt : Rat) = q := ⟨_, rfl⟩
                  obtain ⟨df, hdf⟩ : ∃ q, (ck : Rat) - sh = q := ⟨_, rfl⟩
                  obtain ⟨sq, hsq⟩ : ∃ q, df * df = q := ⟨_, rfl⟩
                  obtain ⟨tm, htm⟩ : ∃ q, sq / sh = q := ⟨_, rfl⟩
                  obtain ⟨S', hS⟩ : ∃ q, S + tm = q := ⟨_, rfl⟩
                  obtain ⟨l1, l2, l3, l4, l5⟩ := hR
                  have hmt : misT n wt (ck, xk) = tm := by unfold misT; simp only; rw [hsh, hdf, hsq, htm]
                  rw [hmt] at l5 hst
                  rw [hsh] at l1 l2 l3 l4
                  rw [hdf] at l3 l4
                  rw [hsq] at l4
                  have HNX : Hid (misL n wt S' (prs (cs.drop (k + 1)) (xs.drop (k + 1))) = misQ cs xs) := Lib.hid (by rw [← HSS.out, hst, hS])
                  have HO2 : Hid (MsOk (k + 1) S') := Lib.hid (by rw [← hS]; exact HOK.out.add l5)
                  have HL := Lib.hid (And.intro l1 (And.intro l3 (And.intro l4 l5)))
                  have HSH0 : Hid (sh ≠ 0) := Lib.hid (fun e => by rw [e] at l2; exact Rat.lt_irrefl l2)
                  have HEQ := Lib.hid (And.intro hsh (And.intro hdf (And.intro hsq (And.intro htm hS))))
                  clear hsh hdf hsq htm hS hmt l1 l2 l3 l4 l5 hst hc hx HSS
                  have hk0 : (0 : Int) ≤ (k : Int) := Int.natCast_nonneg _
                  have hk1 : (k : Int) < (cs.length : Int) := by omega
                  have hk2 : (k : Int) < (xs.length : Int) := by omega
                  have hk3 : (k : Int).toNat = k := by omega
                  have HFS : Hid (Fits sh ∧ Fits df ∧ Fits sq ∧ Fits tm ∧ Fits S ∧ Fits S') := Lib.hid ⟨HL.out.1.fits (by omega) (by omega), HL.out.2.1.fits (by omega) (by omega), HL.out.2.2.1.fits (by omega) (by omega), HL.out.2.2.2.fits (by omega) (by omega), HOK.out.fits (by omega), HO2.out.fits (by omega)⟩
                  have hmx : n * xk ≤ 40000000000 := Nat.le_trans (Nat.mul_le_mul hn0 hx1) (by decide)
                  obtain ⟨nx, hnx⟩ : ∃ m, n * xk = m := ⟨_, rfl⟩
                  have hnxi : (n : Int) * (xk : Int) = (nx : Int) := by rw [← hnx]; push_cast; rfl
                  have HQ1 : Hid ((nx : Rat) / (wt : Rat) = sh) := Lib.hid (by rw [← hnx, Rat.natCast_mul]; exact HEQ.out.1)
                  rw [hnx] at hmx
                  have HFC : Hid (Fits (ck : Rat)) := Lib.hid (Ln.fits (a := 5) (b := 0) (Ln.nat (Nat.le_trans hc1 (by decide))) (by omega) (by omega))
                  obtain ⟨cq, hcq⟩ : ∃ q, (ck : Rat) = q := ⟨_, rfl⟩
                  rw [hcq] at HFC HEQ
                  have HCQ := Lib.hid hcq
                  clear hcq hnx HL
                  go_wp2_with fail
                  refine (ratioOf_is _ _ nx wt sh HQ1.out rfl rfl hw1 (by omega) (by omega) HFS.out.1 Y (HT0.out.ext HW.out)).mono ?_
                  rintro e w4' ⟨rfl, hbz⟩
                  clear e0 e1 hnxi
                  replace HF_o := Lib.hid (HF_o.out.ext HB_o.out hbz)
                  replace HB_o := Lib.hid (HB_o.out.ext hbz)
                  replace HF_s := Lib.hid (HF_s.out.ext HB_s.out hbz)
                  replace HB_s := Lib.hid (HB_s.out.ext hbz)
                  replace HW := Lib.hid (ext_trans HW.out hbz)
                  clear hbz
                  go_upto_region 22 with (fail)
                  refine wp_box1r fun w5' hsz hbz hC hF => ?_
                  clear hsz
                  have lt_o_d : w.heap.size < w4'.heap.size := HB_o.out.1
                  have lt_s_d : b_s < w4'.heap.size := HB_s.out.1
                  have le_d : w.heap.size ≤ w4'.heap.size := HW.out.size
                  replace HF_o := Lib.hid (HF_o.out.ext HB_o.out hbz)
                  replace HB_o := Lib.hid (HB_o.out.ext hbz)
                  replace HF_s := Lib.hid (HF_s.out.ext HB_s.out hbz)
                  replace HB_s := Lib.hid (HB_s.out.ext hbz)
                  replace HW := Lib.hid (ext_trans HW.out hbz)
                  clear hbz
                  have HB_d := Lib.hid hC
                  have HF_d := Lib.hid hF
                  clear hC hF
                  generalize w4'.heap.size = b_d at *
                  have c_d_0 : w5'.cell? ⟨b_d, 0, none⟩ = some (.string (showN (sh))) := HB_d.out.2 0
                  have c_d_1 : w5'.cell? ⟨b_d, 1, none⟩ = some (.string (showD (sh))) := HB_d.out.2 1
                  refine Grow.wp_region_grow 5 [TP.eq (.int .i64 (ck : Int)), TP.eq (rtV cq), TP.eq (rtV sh), TP.eq (rtV df), TP.new w5'.heap.size #[.string ⟨#[]⟩, .string ⟨#[]⟩]] [[], [0], [], [1, 2], []] (by kernel_rfl) (by kernel_rfl) ⟨?o0d, ?o1d, ?o2d, ?o3d, ?o4d, trivial⟩ ?_
                  case o0d =>
                    intro w' hb
                    show wpList _ _ _ _ _ _
                    go_wp2
                    exact ⟨rfl, Below.refl _ _, rfl⟩
                  case o1d =>
                    intro w' hb v1 hv1
                    obtain rfl : v1 = _ := hv1
                    show wpList _ _ _ _ _ _
                    simp only [Grow.dstOf, List.getElem?_toArray, List.getElem?_cons_zero, Option.bind_some, Act.put, List.setIfInBounds_toArray, List.set_cons_succ, List.set_cons_zero]
                    go_wp2_with fail
                    refine ((by have h := whole_is (ck : Int) ck rfl (by omega) w' (HT0.out.ext (ext_trans HW.out hb)); rw [HCQ.out] at h; exact h : Calls _ _ _ w' (RtP w' cq))).mono ?_
                    rintro e wz ⟨rfl, hbz⟩
                    go_wp2
                    exact ⟨rfl, hbz, rfl⟩
                  case o2d =>
                    intro w' hb
                    have c_d_0' : w'.cell? ⟨b_d, 0, none⟩ = some (.string (showN (sh))) := (hb.cell (World.block_lt_of_cell? _ _ c_d_0)).trans c_d_0
                    have c_d_1' : w'.cell? ⟨b_d, 1, none⟩ = some (.string (showD (sh))) := (hb.cell (World.block_lt_of_cell? _ _ c_d_1)).trans c_d_1
                    show wpList _ _ _ _ _ _
                    go_wp2
                    exact ⟨rfl, Below.refl _ _, rfl⟩
                  case o3d =>
                    intro w' hb v1 hv1 v2 hv2
                    obtain rfl : v1 = _ := hv1
                    obtain rfl : v2 = _ := hv2
                    show wpList _ _ _ _ _ _
                    simp only [Grow.dstOf, List.getElem?_toArray, List.getElem?_cons_succ, List.getElem?_cons_zero, Option.bind_some, Act.put, List.setIfInBounds_toArray, List.set_cons_succ, List.set_cons_zero]
                    go_wp2_with fail
                    refine (minus_is cq sh df HEQ.out.2.1 HFC.out HFS.out.1 HFS.out.2.1 w' (HT0.out.ext (ext_trans HW.out hb))).mono ?_
                    rintro e wz ⟨rfl, hbz⟩
                    go_wp2
                    exact ⟨rfl, hbz, rfl⟩
                  case o4d =>
                    intro w' hb
                    show wpList _ _ _ _ _ _
                    go_wp2
                    exact ⟨⟨_, rfl, hb.size, Box.new _ _ _, Fre.new _ _ _⟩, ext_alloc _ _, rfl⟩
                  intro w6' hbz u0 hu0 u1 hu1 u2 hu2 u3 hu3 u4 hu4
                  obtain rfl : u3 = _ := hu3
                  have hg4 : ∃ g, u4 = .pointer (some ⟨g, 0, none⟩) ∧ w5'.heap.size ≤ g ∧ Box w6' g #[.string ⟨#[]⟩, .string ⟨#[]⟩] ∧ Fre w6' g := hu4
                  clear hu0 hu1 hu2 hu4
                  obtain ⟨b_f, rfl, hgY, hXg, hFg⟩ := hg4
                  have lt_o_f : w.heap.size < b_f := Nat.lt_of_lt_of_le HB_o.out.1 hgY
                  have lt_s_f : b_s < b_f := Nat.lt_of_lt_of_le HB_s.out.1 hgY
                  have lt_d_f : b_d < b_f := Nat.lt_of_lt_of_le HB_d.out.1 hgY
                  have le_f : w.heap.size ≤ b_f := Nat.le_trans HW.out.size hgY
                  clear hgY
                  replace HF_o := Lib.hid (HF_o.out.ext HB_o.out hbz)
                  replace HB_o := Lib.hid (HB_o.out.ext hbz)
                  replace HF_s := Lib.hid (HF_s.out.ext HB_s.out hbz)
                  replace HB_s := Lib.hid (HB_s.out.ext hbz)
                  replace HF_d := Lib.hid (HF_d.out.ext HB_d.out hbz)
                  replace HB_d := Lib.hid (HB_d.out.ext hbz)
                  replace HW := Lib.hid (ext_trans HW.out hbz)
                  clear c_d_0 c_d_1
                  clear hbz
                  have HB_f := Lib.hid hXg
                  have HF_f := Lib.hid hFg
                  clear hXg hFg
                  show wpList _ _ _ _ _ _
                  simp only [Act.put, List.setIfInBounds_toArray, List.set_cons_succ, List.set_cons_zero]
                  have c_f_0 : w6'.cell? ⟨b_f, 0, none⟩ = some (.string ⟨#[]⟩) := HB_f.out.2 0
                  have c_f_1 : w6'.cell? ⟨b_f, 1, none⟩ = some (.string ⟨#[]⟩) := HB_f.out.2 1
                  have f_f_0 := HF_f.out 0
                  have f_f_1 := HF_f.out 1
                  go_upto_region 23 with (fail)
                  obtain ⟨w7', hX⟩ : ∃ X, X = ((w6'.setCell ⟨b_f, 0, none⟩ (.string (showN (df)))).setCell ⟨b_f, 1, none⟩ (.string (showD (df)))) := ⟨_, rfl⟩
                  rw [← hX]
                  have nB_o : Hid (Box w7' w.heap.size #[.string ⟨#[]⟩, .string ⟨#[]⟩]) := by rw [hX]; exact Lib.hid (boxn_other (boxn_other (HB_o.out) (Nat.ne_of_lt lt_o_f) 0 (.string (showN (df)))) (Nat.ne_of_lt lt_o_f) 1 (.string (showD (df))))
                  have nF_o : Hid (Fre w7' w.heap.size) := by rw [hX]; exact Lib.hid (fun j => by simp only [World.frozen?_setCell]; exact HF_o.out j)
                  have nB_s : Hid (Box w7' b_s #[.string (showN (S)), .string (showD (S))]) := by rw [hX]; exact Lib.hid (boxn_other (boxn_other (HB_s.out) (Nat.ne_of_lt lt_s_f) 0 (.string (showN (df)))) (Nat.ne_of_lt lt_s_f) 1 (.string (showD (df))))
                  have nF_s : Hid (Fre w7' b_s) := by rw [hX]; exact Lib.hid (fun j => by simp only [World.frozen?_setCell]; exact HF_s.out j)
                  have nB_d : Hid (Box w7' b_d #[.string (showN (sh)), .string (showD (sh))]) := by rw [hX]; exact Lib.hid (boxn_other (boxn_other (HB_d.out) (Nat.ne_of_lt lt_d_f) 0 (.string (showN (df)))) (Nat.ne_of_lt lt_d_f) 1 (.string (showD (df))))
                  have nF_d : Hid (Fre w7' b_d) := by rw [hX]; exact Lib.hid (fun j => by simp only [World.frozen?_setCell]; exact HF_d.out j)
                  have nB_f : Hid (Box w7' b_f #[.string (showN (df)), .string (showD (df))]) := by rw [hX]; exact Lib.hid (boxn_cell (boxn_cell (HB_f.out) (j := 0) (by simp) (.string (showN (df)))) (j := 1) (by simp) (.string (showD (df))))
                  have nF_f : Hid (Fre w7' b_f) := by rw [hX]; exact Lib.hid (fun j => by simp only [World.frozen?_setCell]; exact HF_f.out j)
                  have nW : Hid (Below w.heap.size w w7') := by rw [hX]; exact Lib.hid (((HW.out).setCell (p := ⟨b_f, 0, none⟩) le_f (.string (showN (df)))).setCell (p := ⟨b_f, 1, none⟩) le_f (.string (showD (df))))
                  clear c_f_0 c_f_1 f_f_0 f_f_1
                  clear hX HB_o HF_o HB_s HF_s HB_d HF_d HB_f HF_f HW
                  have HB_o := nB_o; have HF_o := nF_o
                  have HB_s := nB_s; have HF_s := nF_s
                  have HB_d := nB_d; have HF_d := nF_d
                  have HB_f := nB_f; have HF_f := nF_f
                  have HW := nW
                  clear nW nB_o nF_o nB_s nF_s nB_d nF_d nB_f nF_f
                  have c_s_0 : w7'.cell? ⟨b_s, 0, none⟩ = some (.string (showN (S))) := HB_s.out.2 0
                  have c_s_1 : w7'.cell? ⟨b_s, 1, none⟩ = some (.string (showD (S))) := HB_s.out.2 1
                  have c_f_0 : w7'.cell? ⟨b_f, 0, none⟩ = some (.string (showN (df))) := HB_f.out.2 0
                  have c_f_1 : w7'.cell? ⟨b_f, 1, none⟩ = some (.string (showD (df))) := HB_f.out.2 1
                  have c_d_0 : w7'.cell? ⟨b_d, 0, none⟩ = some (.string (showN (sh))) := HB_d.out.2 0
                  have c_d_1 : w7'.cell? ⟨b_d, 1, none⟩ = some (.string (showD (sh))) := HB_d.out.2 1
                  refine Grow.wp_region_grow 7 [TP.eq (rtV S), TP.eq (rtV df), TP.eq (rtV df), TP.eq (rtV sq), TP.eq (rtV sh), TP.eq (rtV tm), TP.eq (rtV S')] [[], [], [], [1, 2], [], [3, 4], [0, 5]] (by kernel_rfl) (by kernel_rfl) ⟨?o0s, ?o1s, ?o2s, ?o3s, ?o4s, ?o5s, ?o6s, trivial⟩ ?_
                  case o0s =>
                    intro w' hb
                    have c_s_0' : w'.cell? ⟨b_s, 0, none⟩ = some (.string (showN (S))) := (hb.cell (World.block_lt_of_cell? _ _ c_s_0)).trans c_s_0
                    have c_s_1' : w'.cell? ⟨b_s, 1, none⟩ = some (.string (showD (S))) := (hb.cell (World.block_lt_of_cell? _ _ c_s_1)).trans c_s_1
                    show wpList _ _ _ _ _ _
                    go_wp2
                    exact ⟨rfl, Below.refl _ _, rfl⟩
                  case o1s =>
                    intro w' hb
                    have c_f_0' : w'.cell? ⟨b_f, 0, none⟩ = some (.string (showN (df))) := (hb.cell (World.block_lt_of_cell? _ _ c_f_0)).trans c_f_0
                    have c_f_1' : w'.cell? ⟨b_f, 1, none⟩ = some (.string (showD (df))) := (hb.cell (World.block_lt_of_cell? _ _ c_f_1)).trans c_f_1
                    show wpList _ _ _ _ _ _
                    go_wp2
                    exact ⟨rfl, Below.refl _ _, rfl⟩
                  case o2s =>
                    intro w' hb
                    have c_f_0' : w'.cell? ⟨b_f, 0, none⟩ = some (.string (showN (df))) := (hb.cell (World.block_lt_of_cell? _ _ c_f_0)).trans c_f_0
                    have c_f_1' : w'.cell? ⟨b_f, 1, none⟩ = some (.string (showD (df))) := (hb.cell (World.block_lt_of_cell? _ _ c_f_1)).trans c_f_1
                    show wpList _ _ _ _ _ _
                    go_wp2
                    exact ⟨rfl, Below.refl _ _, rfl⟩
                  case o3s =>
                    intro w' hb v1 hv1 v2 hv2
                    obtain rfl : v1 = _ := hv1
                    obtain rfl : v2 = _ := hv2
                    show wpList _ _ _ _ _ _
                    simp only [Grow.dstOf, List.getElem?_toArray, List.getElem?_cons_succ, List.getElem?_cons_zero, Option.bind_some, Act.put, List.setIfInBounds_toArray, List.set_cons_succ, List.set_cons_zero]
                    go_wp2_with fail
                    refine (times_is df df sq HEQ.out.2.2.1 HFS.out.2.1 HFS.out.2.1 HFS.out.2.2.1 w' (HT0.out.ext (ext_trans HW.out hb))).mono ?_
                    rintro e wz ⟨rfl, hbz⟩
                    go_wp2
                    exact ⟨rfl, hbz, rfl⟩
                  case o4s =>
                    intro w' hb
                    have c_d_0' : w'.cell? ⟨b_d, 0, none⟩ = some (.string (showN (sh))) := (hb.cell (World.block_lt_of_cell? _ _ c_d_0)).trans c_d_0
                    have c_d_1' : w'.cell? ⟨b_d, 1, none⟩ = some (.string (showD (sh))) := (hb.cell (World.block_lt_of_cell? _ _ c_d_1)).trans c_d_1
                    show wpList _ _ _ _ _ _
                    go_wp2
                    exact ⟨rfl, Below.refl _ _, rfl⟩
                  case o5s =>
                    intro w' hb v1 hv1 v2 hv2
                    obtain rfl : v1 = _ := hv1
                    obtain rfl : v2 = _ := hv2
                    show wpList _ _ _ _ _ _
                    simp only [Grow.dstOf, List.getElem?_toArray, List.getElem?_cons_succ, List.getElem?_cons_zero, Option.bind_some, Act.put, List.setIfInBounds_toArray, List.set_cons_succ, List.set_cons_zero]
                    go_wp2_with fail
                    refine (over_is sq sh tm HEQ.out.2.2.2.1 HFS.out.2.2.1 HFS.out.1 HSH0.out HFS.out.2.2.2.1 w' (HT0.out.ext (ext_trans HW.out hb))).mono ?_
                    rintro e wz ⟨rfl, hbz⟩
                    go_wp2
                    exact ⟨rfl, hbz, rfl⟩
                  case o6s =>
                    intro w' hb v1 hv1 v2 hv2
                    obtain rfl : v1 = _ := hv1
                    obtain rfl : v2 = _ := hv2
                    show wpList _ _ _ _ _ _
                    simp only [Grow.dstOf, List.getElem?_toArray, List.getElem?_cons_succ, List.getElem?_cons_zero, Option.bind_some, Act.put, List.setIfInBounds_toArray, List.set_cons_succ, List.set_cons_zero]
                    go_wp2_with fail
                    refine (plus_is S tm S' HEQ.out.2.2.2.2 HFS.out.2.2.2.2.1 HFS.out.2.2.2.1 HFS.out.2.2.2.2.2 w' (HT0.out.ext (ext_trans HW.out hb))).mono ?_
                    rintro e wz ⟨rfl, hbz⟩
                    go_wp2
                    exact ⟨rfl, hbz, rfl⟩
                  intro w8' hbz u0 hu0 u1 hu1 u2 hu2 u3 hu3 u4 hu4 u5 hu5 u6 hu6
                  obtain rfl : u6 = _ := hu6
                  clear hu0 hu1 hu2 hu3 hu4 hu5
                  replace HF_o := Lib.hid (HF_o.out.ext HB_o.out hbz)
                  replace HB_o := Lib.hid (HB_o.out.ext hbz)
                  replace HF_s := Lib.hid (HF_s.out.ext HB_s.out hbz)
                  replace HB_s := Lib.hid (HB_s.out.ext hbz)
                  replace HF_d := Lib.hid (HF_d.out.ext HB_d.out hbz)
                  replace HB_d := Lib.hid (HB_d.out.ext hbz)
                  replace HF_f := Lib.hid (HF_f.out.ext HB_f.out hbz)
                  replace HB_f := Lib.hid (HB_f.out.ext hbz)
                  replace HW := Lib.hid (ext_trans HW.out hbz)
                  clear c_s_0 c_s_1 c_f_0 c_f_1 c_d_0 c_d_1
                  clear hbz
                  show wpList _ _ _ _ _ _
                  simp only [Act.put, List.setIfInBounds_toArray, List.set_cons_succ, List.set_cons_zero]
                  clear HB_f HF_f HB_d HF_d
                  have c_s_0 : w8'.cell? ⟨b_s, 0, none⟩ = some (.string (showN (S))) := HB_s.out.2 0
                  have c_s_1 : w8'.cell? ⟨b_s, 1, none⟩ = some (.string (showD (S))) := HB_s.out.2 1
                  have f_s_0 := HF_s.out 0
                  have f_s_1 := HF_s.out 1
                  go_upto_region 24 with (fail)
                  obtain ⟨w9', hX⟩ : ∃ X, X = ((w8'.setCell ⟨b_s, 0, none⟩ (.string (showN (S')))).setCell ⟨b_s, 1, none⟩ (.string (showD (S')))) := ⟨_, rfl⟩
                  rw [← hX]
                  have nB_o : Hid (Box w9' w.heap.size #[.string ⟨#[]⟩, .string ⟨#[]⟩]) := by rw [hX]; exact Lib.hid (boxn_other (boxn_other (HB_o.out) (Nat.ne_of_lt lt_o_s) 0 (.string (showN (S')))) (Nat.ne_of_lt lt_o_s) 1 (.string (showD (S'))))
                  have nF_o : Hid (Fre w9' w.heap.size) := by rw [hX]; exact Lib.hid (fun j => by simp only [World.frozen?_setCell]; exact HF_o.out j)
                  have nB_s : Hid (Box w9' b_s #[.string (showN (S')), .string (showD (S'))]) := by rw [hX]; exact Lib.hid (boxn_cell (boxn_cell (HB_s.out) (j := 0) (by simp) (.string (showN (S')))) (j := 1) (by simp) (.string (showD (S'))))
                  have nF_s : Hid (Fre w9' b_s) := by rw [hX]; exact Lib.hid (fun j => by simp only [World.frozen?_setCell]; exact HF_s.out j)
                  have nW : Hid (Below w.heap.size w w9') := by rw [hX]; exact Lib.hid (((HW.out).setCell (p := ⟨b_s, 0, none⟩) le_s (.string (showN (S')))).setCell (p := ⟨b_s, 1, none⟩) le_s (.string (showD (S'))))
                  clear c_s_0 c_s_1 f_s_0 f_s_1
                  clear hX HB_o HF_o HB_s HF_s HW
                  have HB_o := nB_o; have HF_o := nF_o
                  have HB_s := nB_s; have HF_s := nF_s
                  have HW := nW
                  clear nW nB_o nF_o nB_s nF_s
                  go_wp2
                  go_roundw
                  case rel => exact ⟨k + 1, S', by omega, by go_num, HNX, HO2, HB_o.out, HF_o.out, HB_s.out, HF_s.out, HW.out⟩
                  case measure => simp [intOf]; omega
                · have HE : Hid (misQ cs xs = S) := Lib.hid (by rw [← HSS.out, List.drop_of_length_le (show cs.length ≤ k by omega)]; rfl)
                  have c_s_0 : Y.cell? ⟨b_s, 0, none⟩ = some (.string (showN (S))) := HB_s.out.2 0
                  have c_s_1 : Y.cell? ⟨b_s, 1, none⟩ = some (.string (showD (S))) := HB_s.out.2 1
                  have c_o_0 : Y.cell? ⟨w.heap.size, 0, none⟩ = some (.string ⟨#[]⟩) := HB_o.out.2 0
                  have c_o_1 : Y.cell? ⟨w.heap.size, 1, none⟩ = some (.string ⟨#[]⟩) := HB_o.out.2 1
                  have f_o_0 := HF_o.out 0
                  have f_o_1 := HF_o.out 1
                  have HN2 : Hid (misN cs xs = showN S ∧ misD cs xs = showD S) := Lib.hid ⟨by unfold misN; rw [if_pos HV0.out, HE.out], by unfold misD; rw [if_pos HV0.out, HE.out]⟩
                  have HR := Lib.hid (res2s (.string (showN S)) (.string (showD S)) HB_o.out HW.out (show w.heap.size ≤ w.heap.size by omega))
                  obtain ⟨hbF, z0, z1⟩ := id HR.out
                  clear hbF
                  go_wp2
                  exact bodyPost_ret (v := .tuple #[.agg #[.string (showN S), .string (showD S)], .int .i64 0]) (by simp [results, Tryz.results39, go_sem, z0, z1]) rfl ⟨by rw [HN2.out.1, HN2.out.2, HV0.out], HR.out.1⟩
end Nt
end Go.Proofs.YtgfhbnbmpbhpfaaGreatDoor
