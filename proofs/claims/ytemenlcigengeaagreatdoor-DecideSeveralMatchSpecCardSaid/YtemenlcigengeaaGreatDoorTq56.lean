/- Average of the reference. Printed by gen_sevr.py. -/
import Derived.Test.YtemenlcigengeaaGreatDoorTq51
import Derived.Test.YtemenlcigengeaaGreatDoorTq52
namespace Go.Proofs.YtemenlcigengeaaGreatDoor
open Go.RowKit
namespace Nt
open _root_.Go.Proofs.YtemenlcigengeaaGreatDoor.Nm (rF rQ showN showD Fits RT rtL rtOk AnsPost partF mF mF_ok sumW sumV wF wF_step wF_all sumW_step sumV_step AvOk AvOk.zero AvOk.step AvOk.fits AvOk.quo part_ln1 avgF avgN avgD avg_no show_zero Ln)
set_option maxRecDepth 100000 in
set_option maxHeartbeats 16000000 in
theorem refAverage_at (l m : List RT) (hok : ∀ r ∈ l, rtOk r) (hok2 : ∀ r ∈ m, rtOk r) (a b : Option Addr) (c d : Nat) (w : World) (hs : Sl w (.slice a l.length c) l.length (l.flatMap rtL)) (hs2 : Sl w (.slice b m.length d) m.length (m.flatMap rtL)) (ht : Tab w) : Calls Tryz.prog 15 #[.slice a l.length c, .slice b m.length d] w (AnsPost w (avgN l m) (avgD l m) (avgF l m)) := by
  have HS := Lib.hid hs
  have HS2 := Lib.hid hs2
  have HGS := Lib.hid hok
  have HGM := Lib.hid hok2
  clear hs hs2 hok hok2
  go_enter Tryz.func15, Tryz.ntmps15
  have HT0 := Lib.hid ht
  clear ht
  go_upto_region 1 with (fail)
  refine wp_box1r fun w1' hsz hbW hC hF => ?_
  clear hsz
  have HB_o := Lib.hid hC
  have HF_o := Lib.hid hF
  have HW := Lib.hid hbW
  clear hbW hC hF
  go_wp2_with fail
  refine (howMany_at l.length w1').mono ?_
  rintro e w2' ⟨rfl, hw9⟩
  have hbz : Below w1'.heap.size w1' w2' := by rw [← hw9]; exact Below.refl _ _
  clear hw9
  replace HF_o := Lib.hid (HF_o.out.ext HB_o.out hbz)
  replace HB_o := Lib.hid (HB_o.out.ext hbz)
  replace HW := Lib.hid (ext_trans HW.out hbz)
  clear hbz
  by_cases hf : mF l.length = 0
  · have hne : (mF l.length != 0) = false := by simp [hf]
    obtain ⟨hl1, hl10⟩ := mF_ok hf
    have HF0 : Hid (avgF l m = if m.length ≠ l.length then 3 else if wF l m ≠ 0 then wF l m else if (sumV 0 m).num = 0 then 14 else 0) := Lib.hid (by unfold avgF; rw [if_neg (fun h => h hf)])
    clear hf
    by_cases hlm : m.length ≠ l.length
    · have HV : Hid (avgF l m = 3) := Lib.hid (by rw [HF0.out, if_pos hlm])
      have HNE : Hid ((3 : Int) ≠ 0) := Lib.hid (by decide)
      have hneg : ((m.length : Int) != (l.length : Int)) = true := by rw [bne_iff_ne]; omega
      clear hlm
      have c_o_0 : w2'.cell? ⟨w.heap.size, 0, none⟩ = some (.string ⟨#[]⟩) := HB_o.out.2 0
      have c_o_1 : w2'.cell? ⟨w.heap.size, 1, none⟩ = some (.string ⟨#[]⟩) := HB_o.out.2 1
      have f_o_0 := HF_o.out 0
      have f_o_1 := HF_o.out 1
      have HN := Lib.hid (avg_no HV.out HNE.out)
      have HR := Lib.hid (res2s (.string ⟨#[]⟩) (.string ⟨#[]⟩) HB_o.out HW.out (show w.heap.size ≤ w.heap.size by omega))
      obtain ⟨hbF, z0, z1⟩ := id HR.out
      clear hbF
      go_wp2
      exact bodyPost_ret (v := .tuple #[.agg #[.string ⟨#[]⟩, .string ⟨#[]⟩], .int .i64 (3)]) (by simp [results, Tryz.results15, go_sem, z0, z1]) rfl ⟨by rw [HN.out.1, HN.out.2, HV.out], HR.out.1⟩
    · have hlm' : m.length = l.length := by omega
      have HF1 : Hid (avgF l m = if wF l m ≠ 0 then wF l m else if (sumV 0 m).num = 0 then 14 else 0) := Lib.hid (by rw [HF0.out, if_neg hlm])
      have hneg : ((m.length : Int) != (l.length : Int)) = false := by rw [bne_eq_false_iff_eq]; omega
      have HLM := Lib.hid hlm'
      clear hlm hlm' HF0
      go_wp2
      go_loopw [7, 9, 10, 30] (fun _ _ _ i wr => ∃ k : Nat, k ≤ l.length ∧ i = .int .i64 (k : Int) ∧ Hid (wF l m = wF (l.drop k) (m.drop k)) ∧ (Box wr w.heap.size #[.string ⟨#[]⟩, .string ⟨#[]⟩]) ∧ (Fre wr w.heap.size) ∧ (Below w.heap.size w wr)) (fun _ _ _ i _ => l.length - (intOf i).toNat)
      case atStart => exact ⟨0, by omega, by rfl, rfl, HB_o.out, HF_o.out, HW.out⟩
      case round =>
        obtain ⟨k, hk, rfl, HK, q_HB_o, q_HF_o, q_HW⟩ := hrel
        clear HB_o HF_o HW
        have HB_o := Lib.hid q_HB_o
        have HF_o := Lib.hid q_HF_o
        have HW := Lib.hid q_HW
        clear q_HB_o q_HF_o q_HW
        generalize hX : wr = X at *
        clear hX
        by_cases hlt : k < l.length
        · have hlt2 : k < m.length := by rw [HLM.out]; exact hlt
          have hk0 : (0 : Int) ≤ (k : Int) := Int.natCast_nonneg _
          have hk1 : (k : Int) < (l.length : Int) := by omega
          have hk2 : (k : Int) < (m.length : Int) := by omega
          have hgr := List.getElem?_eq_getElem hlt
          have okr := HGS.out _ (List.getElem_mem hlt)
          generalize l[k] = rr at hgr okr
          obtain ⟨rn, rd⟩ := rr
          have HGr := Lib.hid hgr
          have HOr := Lib.hid okr
          clear hgr okr
          have hgu := List.getElem?_eq_getElem hlt2
          have oku := HGM.out _ (List.getElem_mem hlt2)
          generalize m[k] = ur at hgu oku
          obtain ⟨un, ud⟩ := ur
          have HGu := Lib.hid hgu
          have HOu := Lib.hid oku
          clear hgu oku
          have HST := Lib.hid (HK.out.trans (wF_step HGr.out HGu.out))
          simp only at HST
          clear HK
          obtain ⟨pb, pbo, ep9, ecs⟩ := (HS.out.ext HW.out).elem (f := rtL) (fun _ => rfl) (by omega : 0 < 2) HGr.out
          have e0 : X.cell? ⟨pb, pbo + k * 2, none⟩ = some (.string rn) := ecs 0 _ rfl
          have e1 : X.cell? ⟨pb, pbo + k * 2 + 1, none⟩ = some (.string rd) := ecs 1 _ rfl
          clear ecs
          subst ep9
          go_upto_region 9 with (fail)
          refine wp_box1 fun w3' hsz hbz hC => ?_
          clear hsz
          have lt_o_r : w.heap.size < X.heap.size := HB_o.out.1
          have le_r : w.heap.size ≤ X.heap.size := HW.out.size
          replace HF_o := Lib.hid (HF_o.out.ext HB_o.out hbz)
          replace HB_o := Lib.hid (HB_o.out.ext hbz)
          replace HW := Lib.hid (ext_trans HW.out hbz)
          clear hbz e0 e1
          have HB_r := Lib.hid hC
          clear hC
          generalize X.heap.size = b_r at *
          have c_r_0 : w3'.cell? ⟨b_r, 0, none⟩ = some (.string rn) := HB_r.out.2 0
          have c_r_1 : w3'.cell? ⟨b_r, 1, none⟩ = some (.string rd) := HB_r.out.2 1
          go_wp2_with fail
          refine (isEvidence_at rn rd HOr.out.1 HOr.out.2 w3' (HT0.out.ext HW.out)).mono ?_
          rintro e w4' ⟨rfl, hbz⟩
          replace HF_o := Lib.hid (HF_o.out.ext HB_o.out hbz)
          replace HB_o := Lib.hid (HB_o.out.ext hbz)
          replace HB_r := Lib.hid (HB_r.out.ext hbz)
          replace HW := Lib.hid (ext_trans HW.out hbz)
          clear c_r_0 c_r_1
          clear hbz
          clear HB_r
          by_cases hg : partF rn rd = 0
          · have hne2 : (partF rn rd != 0) = false := by simp [hg]
            have HST2 := Lib.hid (HST.out.trans (if_neg (fun h => h hg)))
            clear hg HST
            obtain ⟨qb, qbo, up9, ucs⟩ := (HS2.out.ext HW.out).elem (f := rtL) (fun _ => rfl) (by omega : 0 < 2) HGu.out
            have u0 : w4'.cell? ⟨qb, qbo + k * 2, none⟩ = some (.string un) := ucs 0 _ rfl
            have u1 : w4'.cell? ⟨qb, qbo + k * 2 + 1, none⟩ = some (.string ud) := ucs 1 _ rfl
            clear ucs
            subst up9
            go_wp2_with fail
            refine (isEvidence_at un ud HOu.out.1 HOu.out.2 w4' (HT0.out.ext HW.out)).mono ?_
            rintro e w5' ⟨rfl, hbz⟩
            clear u0 u1
            replace HF_o := Lib.hid (HF_o.out.ext HB_o.out hbz)
            replace HB_o := Lib.hid (HB_o.out.ext hbz)
            replace HW := Lib.hid (ext_trans HW.out hbz)
            clear hbz
            by_cases hg : partF un ud = 0
            · have hne3 : (partF un ud != 0) = false := by simp [hg]
              have HN : Hid (wF l m = wF (l.drop (k + 1)) (m.drop (k + 1))) := Lib.hid (HST2.out.trans (if_neg (fun h => h hg)))
              clear hg HST2
              go_wp2
              go_roundw
              case rel => exact ⟨k + 1, by omega, by go_num, HN, HB_o.out, HF_o.out, HW.out⟩
              case measure => simp [intOf]; omega
            · have hne3 : (partF un ud != 0) = true := by simp [hg]
              have HNE := Lib.hid hg
              have HV : Hid (avgF l m = partF un ud) := Lib.hid (by have h : wF l m = partF un ud := HST2.out.trans (if_pos hg); rw [HF1.out, if_pos (by rw [h]; exact hg), h])
              clear hg HST2
              have c_o_0 : w5'.cell? ⟨w.heap.size, 0, none⟩ = some (.string ⟨#[]⟩) := HB_o.out.2 0
              have c_o_1 : w5'.cell? ⟨w.heap.size, 1, none⟩ = some (.string ⟨#[]⟩) := HB_o.out.2 1
              have f_o_0 := HF_o.out 0
              have f_o_1 := HF_o.out 1
              have HN := Lib.hid (avg_no HV.out HNE.out)
              have HR := Lib.hid (res2s (.string ⟨#[]⟩) (.string ⟨#[]⟩) HB_o.out HW.out (show w.heap.size ≤ w.heap.size by omega))
              obtain ⟨hbF, z0, z1⟩ := id HR.out
              clear hbF
              go_wp2
              exact bodyPost_ret (v := .tuple #[.agg #[.string ⟨#[]⟩, .string ⟨#[]⟩], .int .i64 (partF un ud)]) (by simp [results, Tryz.results15, go_sem, z0, z1]) rfl ⟨by rw [HN.out.1, HN.out.2, HV.out], HR.out.1⟩
          · have hne2 : (partF rn rd != 0) = true := by simp [hg]
            have HNE := Lib.hid hg
            have HV : Hid (avgF l m = partF rn rd) := Lib.hid (by have h : wF l m = partF rn rd := HST.out.trans (if_pos hg); rw [HF1.out, if_pos (by rw [h]; exact hg), h])
            clear hg HST
            have c_o_0 : w4'.cell? ⟨w.heap.size, 0, none⟩ = some (.string ⟨#[]⟩) := HB_o.out.2 0
            have c_o_1 : w4'.cell? ⟨w.heap.size, 1, none⟩ = some (.string ⟨#[]⟩) := HB_o.out.2 1
            have f_o_0 := HF_o.out 0
            have f_o_1 := HF_o.out 1
            have HN := Lib.hid (avg_no HV.out HNE.out)
            have HR := Lib.hid (res2s (.string ⟨#[]⟩) (.string ⟨#[]⟩) HB_o.out HW.out (show w.heap.size ≤ w.heap.size by omega))
            obtain ⟨hbF, z0, z1⟩ := id HR.out
            clear hbF
            go_wp2
            exact bodyPost_ret (v := .tuple #[.agg #[.string ⟨#[]⟩, .string ⟨#[]⟩], .int .i64 (partF rn rd)]) (by simp [results, Tryz.results15, go_sem, z0, z1]) rfl ⟨by rw [HN.out.1, HN.out.2, HV.out], HR.out.1⟩
        · have hkl : k = l.length := by omega
          have hIF : wF l m = 0 := by rw [HK.out, List.drop_of_length_le (show l.length ≤ k by omega)]; rfl
          obtain ⟨hpL, hpM⟩ := wF_all HLM.out.symm hIF
          have HPL := Lib.hid hpL
          have HPM := Lib.hid hpM
          have HF2 : Hid (avgF l m = if (sumV 0 m).num = 0 then 14 else 0) := Lib.hid (by rw [HF1.out, if_neg (fun h => h hIF)])
          clear hIF hpL hpM HK hkl HF1
          go_wp2_with fail
          refine (whole0 X (HT0.out.ext HW.out)).mono ?_
          rintro e w3' ⟨rfl, hbz⟩
          replace HF_o := Lib.hid (HF_o.out.ext HB_o.out hbz)
          replace HB_o := Lib.hid (HB_o.out.ext hbz)
          replace HW := Lib.hid (ext_trans HW.out hbz)
          clear hbz
          go_wp2_with fail
          refine (whole0 w3' (HT0.out.ext HW.out)).mono ?_
          rintro e w4' ⟨rfl, hbz⟩
          replace HF_o := Lib.hid (HF_o.out.ext HB_o.out hbz)
          replace HB_o := Lib.hid (HB_o.out.ext hbz)
          replace HW := Lib.hid (ext_trans HW.out hbz)
          clear hbz
          obtain ⟨zq, hzq⟩ : ∃ q : Rat, q = 0 := ⟨_, rfl⟩
          rw [← hzq]
          have HAV : Hid (AvOk 0 zq zq) := Lib.hid (by rw [hzq]; exact AvOk.zero)
          have HS0 : Hid (sumW zq (l.drop 0) (m.drop 0) = sumW 0 l m) := Lib.hid (by rw [hzq]; rfl)
          have HT9 : Hid (sumV zq (m.drop 0) = sumV 0 m) := Lib.hid (by rw [hzq]; rfl)
          clear hzq
          go_upto_region 17 with (fail)
          refine wp_box2f fun w5' hsz hbz hC0 hF0 hC1 hF1 => ?_
          clear hsz
          have lt_o_s : w.heap.size < w4'.heap.size := HB_o.out.1
          have le_s : w.heap.size ≤ w4'.heap.size := HW.out.size
          replace HF_o := Lib.hid (HF_o.out.ext HB_o.out hbz)
          replace HB_o := Lib.hid (HB_o.out.ext hbz)
          replace HW := Lib.hid (ext_trans HW.out hbz)
          clear hbz
          have HB_s := Lib.hid hC0
          have HF_s := Lib.hid hF0
          clear hC0 hF0
          have HB_t := Lib.hid hC1
          have HF_t := Lib.hid hF1
          clear hC1 hF1
          generalize w4'.heap.size = b_s at *
          go_wp2
          go_loopw [13, 55] (fun _ i wr => ∃ (k : Nat) (s t : Rat), k ≤ l.length ∧ i = .int .i64 (k : Int) ∧ Hid (sumW s (l.drop k) (m.drop k) = sumW 0 l m) ∧ Hid (sumV t (m.drop k) = sumV 0 m) ∧ Hid (AvOk k s t) ∧ (Box wr w.heap.size #[.string ⟨#[]⟩, .string ⟨#[]⟩]) ∧ (Fre wr w.heap.size) ∧ (Box wr b_s #[.string (showN (s)), .string (showD (s))]) ∧ (Fre wr b_s) ∧ (Box wr (b_s + 1) #[.string (showN (t)), .string (showD (t))]) ∧ (Fre wr (b_s + 1)) ∧ (Below w.heap.size w wr)) (fun _ i _ => l.length - (intOf i).toNat)
          case atStart => exact ⟨0, zq, zq, by omega, by rfl, HS0.out, HT9.out, HAV.out, HB_o.out, HF_o.out, HB_s.out, HF_s.out, HB_t.out, HF_t.out, HW.out⟩
          case round =>
            obtain ⟨k, s, t, hk, rfl, HSS, HTT, HAK, q_HB_o, q_HF_o, q_HB_s, q_HF_s, q_HB_t, q_HF_t, q_HW⟩ := hrel
            clear HB_o HF_o HB_s HF_s HB_t HF_t HW
            clear HS0 HT9 HAV
            have HB_o := Lib.hid q_HB_o
            have HF_o := Lib.hid q_HF_o
            have HB_s := Lib.hid q_HB_s
            have HF_s := Lib.hid q_HF_s
            have HB_t := Lib.hid q_HB_t
            have HF_t := Lib.hid q_HF_t
            have HW := Lib.hid q_HW
            clear q_HB_o q_HF_o q_HB_s q_HF_s q_HB_t q_HF_t q_HW
            generalize hX : wr = Y at *
            clear hX
            by_cases hlt : k < l.length
            · have hlt2 : k < m.length := by rw [HLM.out]; exact hlt
              have hk0 : (0 : Int) ≤ (k : Int) := Int.natCast_nonneg _
              have hk1 : (k : Int) < (l.length : Int) := by omega
              have hk2 : (k : Int) < (m.length : Int) := by omega
              have HPr := Lib.hid (part_ln1 (HPL.out _ (List.getElem_mem hlt)))
              have HPu := Lib.hid (part_ln1 (HPM.out _ (List.getElem_mem hlt2)))
              have HGr := Lib.hid (List.getElem?_eq_getElem hlt)
              have HGu := Lib.hid (List.getElem?_eq_getElem hlt2)
              generalize l[k] = rr at HPr HGr
              generalize m[k] = ur at HPu HGu
              have HSS1 := Lib.hid ((sumW_step HGr.out HGu.out s).symm.trans HSS.out)
              have HTT1 := Lib.hid ((sumV_step HGu.out t).symm.trans HTT.out)
              obtain ⟨pb, po, hp9, hcs⟩ := (HS.out.ext HW.out).elem (f := rtL) (fun _ => rfl) (by omega : 0 < 2) HGr.out
              have e0 : Y.cell? ⟨pb, po + k * 2, none⟩ = some (.string rr.n) := hcs 0 _ rfl
              have e1 : Y.cell? ⟨pb, po + k * 2 + 1, none⟩ = some (.string rr.d) := hcs 1 _ rfl
              rw [HPr.out.2.2.2.2.1] at e0
              rw [HPr.out.2.2.2.2.2] at e1
              clear hcs HSS HTT
              subst hp9
              have HLQ := Lib.hid HPr.out.2.2.1
              have HFQ := Lib.hid HPr.out.2.2.2.1
              clear HPr
              generalize rQ rr.n rr.d = q at *
              go_upto_region 20 with (fail)
              refine wp_box1 fun w6' hsz hbz hC => ?_
              clear hsz
              have lt_o_x : w.heap.size < Y.heap.size := HB_o.out.1
              have lt_s_x : b_s < Y.heap.size := HB_s.out.1
              have lt_t_x : (b_s + 1) < Y.heap.size := HB_t.out.1
              have le_x : w.heap.size ≤ Y.heap.size := HW.out.size
              replace HF_o := Lib.hid (HF_o.out.ext HB_o.out hbz)
              replace HB_o := Lib.hid (HB_o.out.ext hbz)
              replace HF_s := Lib.hid (HF_s.out.ext HB_s.out hbz)
              replace HB_s := Lib.hid (HB_s.out.ext hbz)
              replace HF_t := Lib.hid (HF_t.out.ext HB_t.out hbz)
              replace HB_t := Lib.hid (HB_t.out.ext hbz)
              replace HW := Lib.hid (ext_trans HW.out hbz)
              clear hbz e0 e1
              have HB_x := Lib.hid hC
              clear hC
              generalize Y.heap.size = b_x at *
              obtain ⟨qb, qo, hq9, hcs⟩ := (HS2.out.ext HW.out).elem (f := rtL) (fun _ => rfl) (by omega : 0 < 2) HGu.out
              have yy0 : w6'.cell? ⟨qb, qo + k * 2, none⟩ = some (.string ur.n) := hcs 0 _ rfl
              have yy1 : w6'.cell? ⟨qb, qo + k * 2 + 1, none⟩ = some (.string ur.d) := hcs 1 _ rfl
              rw [HPu.out.2.2.2.2.1] at yy0
              rw [HPu.out.2.2.2.2.2] at yy1
              clear hcs
              subst hq9
              have HLP := Lib.hid HPu.out.2.2.1
              have HFP := Lib.hid HPu.out.2.2.2.1
              clear HPu
              generalize rQ ur.n ur.d = p at *
              have HAK1 := Lib.hid (HAK.out.step HLQ.out HLP.out)
              have HFM := Lib.hid ((HLQ.out.mul HLP.out).fits (by omega) (by omega))
              obtain ⟨qp, hqp⟩ : ∃ x, q * p = x := ⟨_, rfl⟩
              rw [hqp] at HAK1 HSS1 HFM
              obtain ⟨s', hs'⟩ : ∃ x, s + qp = x := ⟨_, rfl⟩
              rw [hs'] at HAK1 HSS1
              obtain ⟨t', ht'⟩ : ∃ x, t + p = x := ⟨_, rfl⟩
              rw [ht'] at HAK1 HTT1
              have HEQ := Lib.hid (And.intro hqp (And.intro hs' ht'))
              have HFA := Lib.hid (And.intro (HAK.out.fits (by omega)) (HAK1.out.fits (by omega)))
              obtain ⟨oz, hoz⟩ : ∃ x, qo + k * 2 = x := ⟨_, rfl⟩
              rw [hoz] at yy0 yy1
              have HOZ := Lib.hid hoz
              clear hqp hs' ht'
              have c_s_0 : w6'.cell? ⟨b_s, 0, none⟩ = some (.string (showN (s))) := HB_s.out.2 0
              have c_s_1 : w6'.cell? ⟨b_s, 1, none⟩ = some (.string (showD (s))) := HB_s.out.2 1
              have c_t_0 : w6'.cell? ⟨(b_s + 1), 0, none⟩ = some (.string (showN (t))) := HB_t.out.2 0
              have c_t_1 : w6'.cell? ⟨(b_s + 1), 1, none⟩ = some (.string (showD (t))) := HB_t.out.2 1
              have c_x_0 : w6'.cell? ⟨b_x, 0, none⟩ = some (.string (showN (q))) := HB_x.out.2 0
              have c_x_1 : w6'.cell? ⟨b_x, 1, none⟩ = some (.string (showD (q))) := HB_x.out.2 1
              refine Grow.wp_region_grow 14 [TP.eq (rtV s), TP.eq (rtV q), TP.eq (.slice (some ⟨qb, qo, none⟩) m.length d), TP.eq (.int .i64 (k : Int)), TP.eq (.pointer (some ⟨qb, oz, none⟩)), TP.eq (rtV p), TP.eq (rtV qp), TP.eq (rtV s'), TP.eq (rtV t), TP.eq (.slice (some ⟨qb, qo, none⟩) m.length d), TP.eq (.int .i64 (k : Int)), TP.eq (.pointer (some ⟨qb, oz, none⟩)), TP.eq (rtV p), TP.eq (rtV t')] [[], [], [], [], [2, 3], [4], [1, 5], [0, 6], [], [], [], [9, 10], [11], [8, 12]] (by kernel_rfl) (by kernel_rfl) ⟨?o0ra, ?o1ra, ?o2ra, ?o3ra, ?o4ra, ?o5ra, ?o6ra, ?o7ra, ?o8ra, ?o9ra, ?o10ra, ?o11ra, ?o12ra, ?o13ra, trivial⟩ ?_
              case o0ra =>
                intro w' hb
                have c_s_0' : w'.cell? ⟨b_s, 0, none⟩ = some (.string (showN (s))) := (hb.cell (World.block_lt_of_cell? _ _ c_s_0)).trans c_s_0
                have c_s_1' : w'.cell? ⟨b_s, 1, none⟩ = some (.string (showD (s))) := (hb.cell (World.block_lt_of_cell? _ _ c_s_1)).trans c_s_1
                show wpList _ _ _ _ _ _
                go_wp2
                exact ⟨rfl, Below.refl _ _, rfl⟩
              case o1ra =>
                intro w' hb
                have c_x_0' : w'.cell? ⟨b_x, 0, none⟩ = some (.string (showN (q))) := (hb.cell (World.block_lt_of_cell? _ _ c_x_0)).trans c_x_0
                have c_x_1' : w'.cell? ⟨b_x, 1, none⟩ = some (.string (showD (q))) := (hb.cell (World.block_lt_of_cell? _ _ c_x_1)).trans c_x_1
                show wpList _ _ _ _ _ _
                go_wp2
                exact ⟨rfl, Below.refl _ _, rfl⟩
              case o2ra =>
                intro w' hb
                show wpList _ _ _ _ _ _
                go_wp2
                exact ⟨rfl, Below.refl _ _, rfl⟩
              case o3ra =>
                intro w' hb
                show wpList _ _ _ _ _ _
                go_wp2
                exact ⟨rfl, Below.refl _ _, rfl⟩
              case o4ra =>
                intro w' hb v1 hv1 v2 hv2
                obtain rfl : v1 = _ := hv1
                obtain rfl : v2 = _ := hv2
                show wpList _ _ _ _ _ _
                simp only [Grow.dstOf, List.getElem?_toArray, List.getElem?_cons_succ, List.getElem?_cons_zero, Option.bind_some, Act.put, List.setIfInBounds_toArray, List.set_cons_succ, List.set_cons_zero]
                go_wp2
                exact ⟨rfl, Below.refl _ _, rfl⟩
              case o5ra =>
                intro w' hb v1 hv1
                obtain rfl : v1 = _ := hv1
                have yy0' : w'.cell? ⟨qb, oz, none⟩ = some (.string (showN p)) := (hb.cell (World.block_lt_of_cell? _ _ yy0)).trans yy0
                have yy1' : w'.cell? ⟨qb, oz + 1, none⟩ = some (.string (showD p)) := (hb.cell (World.block_lt_of_cell? _ _ yy1)).trans yy1
                show wpList _ _ _ _ _ _
                simp only [Grow.dstOf, List.getElem?_toArray, List.getElem?_cons_succ, List.getElem?_cons_zero, Option.bind_some, Act.put, List.setIfInBounds_toArray, List.set_cons_succ, List.set_cons_zero]
                go_wp2
                exact ⟨rfl, Below.refl _ _, rfl⟩
              case o6ra =>
                intro w' hb v1 hv1 v2 hv2
                obtain rfl : v1 = _ := hv1
                obtain rfl : v2 = _ := hv2
                show wpList _ _ _ _ _ _
                simp only [Grow.dstOf, List.getElem?_toArray, List.getElem?_cons_succ, List.getElem?_cons_zero, Option.bind_some, Act.put, List.setIfInBounds_toArray, List.set_cons_succ, List.set_cons_zero]
                go_wp2_with fail
                refine (times_is q p qp HEQ.out.1 HFQ.out HFP.out HFM.out w' (HT0.out.ext (ext_trans HW.out hb))).mono ?_
                rintro e wz ⟨rfl, hbz⟩
                go_wp2
                exact ⟨rfl, hbz, rfl⟩
              case o7ra =>
                intro w' hb v1 hv1 v2 hv2
                obtain rfl : v1 = _ := hv1
                obtain rfl : v2 = _ := hv2
                show wpList _ _ _ _ _ _
                simp only [Grow.dstOf, List.getElem?_toArray, List.getElem?_cons_succ, List.getElem?_cons_zero, Option.bind_some, Act.put, List.setIfInBounds_toArray, List.set_cons_succ, List.set_cons_zero]
                go_wp2_with fail
                refine (plus_is s qp s' HEQ.out.2.1 HFA.out.1.1 HFM.out HFA.out.2.1 w' (HT0.out.ext (ext_trans HW.out hb))).mono ?_
                rintro e wz ⟨rfl, hbz⟩
                go_wp2
                exact ⟨rfl, hbz, rfl⟩
              case o8ra =>
                intro w' hb
                have c_t_0' : w'.cell? ⟨(b_s + 1), 0, none⟩ = some (.string (showN (t))) := (hb.cell (World.block_lt_of_cell? _ _ c_t_0)).trans c_t_0
                have c_t_1' : w'.cell? ⟨(b_s + 1), 1, none⟩ = some (.string (showD (t))) := (hb.cell (World.block_lt_of_cell? _ _ c_t_1)).trans c_t_1
                show wpList _ _ _ _ _ _
                go_wp2
                exact ⟨rfl, Below.refl _ _, rfl⟩
              case o9ra =>
                intro w' hb
                show wpList _ _ _ _ _ _
                go_wp2
                exact ⟨rfl, Below.refl _ _, rfl⟩
              case o10ra =>
                intro w' hb
                show wpList _ _ _ _ _ _
                go_wp2
                exact ⟨rfl, Below.refl _ _, rfl⟩
              case o11ra =>
                intro w' hb v1 hv1 v2 hv2
                obtain rfl : v1 = _ := hv1
                obtain rfl : v2 = _ := hv2
                show wpList _ _ _ _ _ _
                simp only [Grow.dstOf, List.getElem?_toArray, List.getElem?_cons_succ, List.getElem?_cons_zero, Option.bind_some, Act.put, List.setIfInBounds_toArray, List.set_cons_succ, List.set_cons_zero]
                go_wp2
                exact ⟨rfl, Below.refl _ _, rfl⟩
              case o12ra =>
                intro w' hb v1 hv1
                obtain rfl : v1 = _ := hv1
                have yy0' : w'.cell? ⟨qb, oz, none⟩ = some (.string (showN p)) := (hb.cell (World.block_lt_of_cell? _ _ yy0)).trans yy0
                have yy1' : w'.cell? ⟨qb, oz + 1, none⟩ = some (.string (showD p)) := (hb.cell (World.block_lt_of_cell? _ _ yy1)).trans yy1
                show wpList _ _ _ _ _ _
                simp only [Grow.dstOf, List.getElem?_toArray, List.getElem?_cons_succ, List.getElem?_cons_zero, Option.bind_some, Act.put, List.setIfInBounds_toArray, List.set_cons_succ, List.set_cons_zero]
                go_wp2
                exact ⟨rfl, Below.refl _ _, rfl⟩
              case o13ra =>
                intro w' hb v1 hv1 v2 hv2
                obtain rfl : v1 = _ := hv1
                obtain rfl : v2 = _ := hv2
                show wpList _ _ _ _ _ _
                simp only [Grow.dstOf, List.getElem?_toArray, List.getElem?_cons_succ, List.getElem?_cons_zero, Option.bind_some, Act.put, List.setIfInBounds_toArray, List.set_cons_succ, List.set_cons_zero]
                go_wp2_with fail
                refine (plus_is t p t' HEQ.out.2.2 HFA.out.1.2 HFP.out HFA.out.2.2 w' (HT0.out.ext (ext_trans HW.out hb))).mono ?_
                rintro e wz ⟨rfl, hbz⟩
                go_wp2
                exact ⟨rfl, hbz, rfl⟩
              intro w7' hbz u0 hu0 u1 hu1 u2 hu2 u3 hu3 u4 hu4 u5 hu5 u6 hu6 u7 hu7 u8 hu8 u9 hu9 u10 hu10 u11 hu11 u12 hu12 u13 hu13
              obtain rfl : u7 = _ := hu7
              obtain rfl : u13 = _ := hu13
              clear hu0 hu1 hu2 hu3 hu4 hu5 hu6 hu8 hu9 hu10 hu11 hu12
              replace HF_o := Lib.hid (HF_o.out.ext HB_o.out hbz)
              replace HB_o := Lib.hid (HB_o.out.ext hbz)
              replace HF_s := Lib.hid (HF_s.out.ext HB_s.out hbz)
              replace HB_s := Lib.hid (HB_s.out.ext hbz)
              replace HF_t := Lib.hid (HF_t.out.ext HB_t.out hbz)
              replace HB_t := Lib.hid (HB_t.out.ext hbz)
              replace HB_x := Lib.hid (HB_x.out.ext hbz)
              replace HW := Lib.hid (ext_trans HW.out hbz)
              clear c_s_0 c_s_1 c_t_0 c_t_1 c_x_0 c_x_1
              clear hbz
              show wpList _ _ _ _ _ _
              simp only [Act.put, List.setIfInBounds_toArray, List.set_cons_succ, List.set_cons_zero]
              clear yy0 yy1 HB_x
              have c_s_0 : w7'.cell? ⟨b_s, 0, none⟩ = some (.string (showN (s))) := HB_s.out.2 0
              have c_s_1 : w7'.cell? ⟨b_s, 1, none⟩ = some (.string (showD (s))) := HB_s.out.2 1
              have c_t_0 : w7'.cell? ⟨(b_s + 1), 0, none⟩ = some (.string (showN (t))) := HB_t.out.2 0
              have c_t_1 : w7'.cell? ⟨(b_s + 1), 1, none⟩ = some (.string (showD (t))) := HB_t.out.2 1
              have f_s_0 := HF_s.out 0
              have f_s_1 := HF_s.out 1
              have f_t_0 := HF_t.out 0
              have f_t_1 := HF_t.out 1
              go_upto_region 21 with (fail)
              obtain ⟨w8', hX⟩ : ∃ X, X = ((((w7'.setCell ⟨b_s, 0, none⟩ (.string (showN (s')))).setCell ⟨b_s, 1, none⟩ (.string (showD (s')))).setCell ⟨(b_s + 1), 0, none⟩ (.string (showN (t')))).setCell ⟨(b_s + 1), 1, none⟩ (.string (showD (t')))) := ⟨_, rfl⟩
              rw [← hX]
              have nB_o : Hid (Box w8' w.heap.size #[.string ⟨#[]⟩, .string ⟨#[]⟩]) := by rw [hX]; exact Lib.hid (boxn_other (boxn_other (boxn_other (boxn_other (HB_o.out) (Nat.ne_of_lt lt_o_s) 0 (.string (showN (s')))) (Nat.ne_of_lt lt_o_s) 1 (.string (showD (s')))) (by omega) 0 (.string (showN (t')))) (by omega) 1 (.string (showD (t'))))
              have nF_o : Hid (Fre w8' w.heap.size) := by rw [hX]; exact Lib.hid (fun j => by simp only [World.frozen?_setCell]; exact HF_o.out j)
              have nB_s : Hid (Box w8' b_s #[.string (showN (s')), .string (showD (s'))]) := by rw [hX]; exact Lib.hid (boxn_other (boxn_other (boxn_cell (boxn_cell (HB_s.out) (j := 0) (by simp) (.string (showN (s')))) (j := 1) (by simp) (.string (showD (s')))) (by omega) 0 (.string (showN (t')))) (by omega) 1 (.string (showD (t'))))
              have nF_s : Hid (Fre w8' b_s) := by rw [hX]; exact Lib.hid (fun j => by simp only [World.frozen?_setCell]; exact HF_s.out j)
              have nB_t : Hid (Box w8' (b_s + 1) #[.string (showN (t')), .string (showD (t'))]) := by rw [hX]; exact Lib.hid (boxn_cell (boxn_cell (boxn_other (boxn_other (HB_t.out) (by omega) 0 (.string (showN (s')))) (by omega) 1 (.string (showD (s')))) (j := 0) (by simp) (.string (showN (t')))) (j := 1) (by simp) (.string (showD (t'))))
              have nF_t : Hid (Fre w8' (b_s + 1)) := by rw [hX]; exact Lib.hid (fun j => by simp only [World.frozen?_setCell]; exact HF_t.out j)
              have nW : Hid (Below w.heap.size w w8') := by rw [hX]; exact Lib.hid (((((HW.out).setCell (p := ⟨b_s, 0, none⟩) le_s (.string (showN (s')))).setCell (p := ⟨b_s, 1, none⟩) le_s (.string (showD (s')))).setCell (p := ⟨(b_s + 1), 0, none⟩) (show w.heap.size ≤ (b_s + 1) by omega) (.string (showN (t')))).setCell (p := ⟨(b_s + 1), 1, none⟩) (show w.heap.size ≤ (b_s + 1) by omega) (.string (showD (t'))))
              clear c_s_0 c_s_1 c_t_0 c_t_1 f_s_0 f_s_1 f_t_0 f_t_1
              clear hX HB_o HF_o HB_s HF_s HB_t HF_t HW
              have HB_o := nB_o; have HF_o := nF_o
              have HB_s := nB_s; have HF_s := nF_s
              have HB_t := nB_t; have HF_t := nF_t
              have HW := nW
              clear nW nB_o nF_o nB_s nF_s nB_t nF_t
              go_wp2
              go_roundw
              case rel => exact ⟨k + 1, s', t', by omega, by go_num, HSS1, HTT1, HAK1, HB_o.out, HF_o.out, HB_s.out, HF_s.out, HB_t.out, HF_t.out, HW.out⟩
              case measure => simp [intOf]; omega
            · have hkl : k = l.length := by omega
              have HES : Hid (sumW 0 l m = s) := Lib.hid (by rw [← HSS.out, List.drop_of_length_le (show l.length ≤ k by omega)]; rfl)
              have HET : Hid (sumV 0 m = t) := Lib.hid (by rw [← HTT.out, List.drop_of_length_le (show m.length ≤ k by rw [HLM.out]; omega)]; rfl)
              have HFA := Lib.hid (HAK.out.fits (by omega))
              clear hkl HSS HTT
              have c_s_0 : Y.cell? ⟨b_s, 0, none⟩ = some (.string (showN (s))) := HB_s.out.2 0
              have c_s_1 : Y.cell? ⟨b_s, 1, none⟩ = some (.string (showD (s))) := HB_s.out.2 1
              have c_t_0 : Y.cell? ⟨(b_s + 1), 0, none⟩ = some (.string (showN (t))) := HB_t.out.2 0
              have c_t_1 : Y.cell? ⟨(b_s + 1), 1, none⟩ = some (.string (showD (t))) := HB_t.out.2 1
              by_cases ht0 : t.num = 0
              · have hd9 : ((showN t).toList == [48]) = true := by rw [show_zero, decide_eq_true ht0]
                have HV : Hid (avgF l m = 14) := Lib.hid (by rw [HF2.out, HET.out, if_pos ht0])
                have HNE : Hid ((14 : Int) ≠ 0) := Lib.hid (by decide)
                clear ht0
                have c_o_0 : Y.cell? ⟨w.heap.size, 0, none⟩ = some (.string ⟨#[]⟩) := HB_o.out.2 0
                have c_o_1 : Y.cell? ⟨w.heap.size, 1, none⟩ = some (.string ⟨#[]⟩) := HB_o.out.2 1
                have f_o_0 := HF_o.out 0
                have f_o_1 := HF_o.out 1
                have HN := Lib.hid (avg_no HV.out HNE.out)
                have HR := Lib.hid (res2s (.string ⟨#[]⟩) (.string ⟨#[]⟩) HB_o.out HW.out (show w.heap.size ≤ w.heap.size by omega))
                obtain ⟨hbF, z0, z1⟩ := id HR.out
                clear hbF
                go_wp2
                exact bodyPost_ret (v := .tuple #[.agg #[.string ⟨#[]⟩, .string ⟨#[]⟩], .int .i64 (14)]) (by simp [results, Tryz.results15, go_sem, z0, z1]) rfl ⟨by rw [HN.out.1, HN.out.2, HV.out], HR.out.1⟩
              · have hd9 : ((showN t).toList == [48]) = false := by rw [show_zero, decide_eq_false ht0]
                have HV : Hid (avgF l m = 0) := Lib.hid (by rw [HF2.out, HET.out, if_neg ht0])
                have HTN : Hid (t ≠ 0) := Lib.hid (fun e => ht0 (by rw [e]; rfl))
                obtain ⟨A, hA⟩ : ∃ x, s / t = x := ⟨_, rfl⟩
                have HA9 : Hid (sumW 0 l m / sumV 0 m = A) := Lib.hid (by rw [HES.out, HET.out, hA])
                have HFX : Hid (Fits A) := Lib.hid (by rw [← hA]; exact (HAK.out.quo (by omega) HTN.out).fits (by omega) (by omega))
                have HEQ := Lib.hid hA
                clear ht0 hA
                go_wp2_with fail
                refine (over_is s t A HEQ.out HFA.out.1 HFA.out.2 HTN.out HFX.out Y (HT0.out.ext HW.out)).mono ?_
                rintro e w6' ⟨rfl, hbz⟩
                replace HF_o := Lib.hid (HF_o.out.ext HB_o.out hbz)
                replace HB_o := Lib.hid (HB_o.out.ext hbz)
                replace HF_s := Lib.hid (HF_s.out.ext HB_s.out hbz)
                replace HB_s := Lib.hid (HB_s.out.ext hbz)
                replace HF_t := Lib.hid (HF_t.out.ext HB_t.out hbz)
                replace HB_t := Lib.hid (HB_t.out.ext hbz)
                replace HW := Lib.hid (ext_trans HW.out hbz)
                clear c_s_0 c_s_1 c_t_0 c_t_1
                clear hbz
                have c_o_0 : w6'.cell? ⟨w.heap.size, 0, none⟩ = some (.string ⟨#[]⟩) := HB_o.out.2 0
                have c_o_1 : w6'.cell? ⟨w.heap.size, 1, none⟩ = some (.string ⟨#[]⟩) := HB_o.out.2 1
                have f_o_0 := HF_o.out 0
                have f_o_1 := HF_o.out 1
                have HN2 : Hid (avgN l m = showN A ∧ avgD l m = showD A) := Lib.hid ⟨by unfold avgN; rw [if_pos HV.out, HA9.out], by unfold avgD; rw [if_pos HV.out, HA9.out]⟩
                have HR := Lib.hid (res2s (.string (showN A)) (.string (showD A)) HB_o.out HW.out (show w.heap.size ≤ w.heap.size by omega))
                obtain ⟨hbF, z0, z1⟩ := id HR.out
                clear hbF
                go_wp2
                exact bodyPost_ret (v := .tuple #[.agg #[.string (showN A), .string (showD A)], .int .i64 0]) (by simp [results, Tryz.results15, go_sem, z0, z1]) rfl ⟨by rw [HN2.out.1, HN2.out.2, HV.out], HR.out.1⟩
  · have HV : Hid (avgF l m = mF l.length) := Lib.hid (by unfold avgF; rw [if_pos hf])
    have HNE := Lib.hid hf
    have hne : (mF l.length != 0) = true := by simp [hf]
    clear hf
    have c_o_0 : w2'.cell? ⟨w.heap.size, 0, none⟩ = some (.string ⟨#[]⟩) := HB_o.out.2 0
    have c_o_1 : w2'.cell? ⟨w.heap.size, 1, none⟩ = some (.string ⟨#[]⟩) := HB_o.out.2 1
    have f_o_0 := HF_o.out 0
    have f_o_1 := HF_o.out 1
    have HN := Lib.hid (avg_no HV.out HNE.out)
    have HR := Lib.hid (res2s (.string ⟨#[]⟩) (.string ⟨#[]⟩) HB_o.out HW.out (show w.heap.size ≤ w.heap.size by omega))
    obtain ⟨hbF, z0, z1⟩ := id HR.out
    clear hbF
    go_wp2
    exact bodyPost_ret (v := .tuple #[.agg #[.string ⟨#[]⟩, .string ⟨#[]⟩], .int .i64 (mF l.length)]) (by simp [results, Tryz.results15, go_sem, z0, z1]) rfl ⟨by rw [HN.out.1, HN.out.2, HV.out], HR.out.1⟩
end Nt
end Go.Proofs.YtemenlcigengeaaGreatDoor
