/- checkAll and Check of the reference. Printed by gen_rval.py. Plain: how many parts a value has that is read off a text. No program stands in it. -/
import Derived.Test.YtbhcfmdogdaodaaGreatDoorRz32
import Derived.Test.YtbhcfmdogdaodaaGreatDoorRz09
import Derived.BigQuiet
import Derived.IntWalk
import Derived.Test.YtbhcfmdogdaodaaGreatDoorRz15
import Derived.Test.YtbhcfmdogdaodaaGreatDoorRz27
namespace Go.Proofs.YtbhcfmdogdaodaaGreatDoor
open Go.RowKit
namespace Fd
open _root_.Go.Proofs.YtbhcfmdogdaodaaGreatDoor.Nt (RH RH.cell RH.box RH.lt RH.new RH.ext RH.fre RH.set RH.other)
open _root_.Go.Proofs.YtbhcfmdogdaodaaGreatDoor.Rw (All2 All2.get wpList_load_agg wp_stored fl_at)
/-- what checkAll of the reference answers -/
def CkAt (x : V) : Prop := ∀ (cs : List Value) (w : World), RepV w x cs → Calls Tryz.prog 32 #[.agg cs.toArray] w fun e w' => e = .returned (.int .i64 (chkV x)) ∧ Below w.heap.size w w'
set_option maxRecDepth 100000 in
set_option maxHeartbeats 16000000 in
theorem ckAll_at (k n : Int) (s : ByteArray) (is : List V) (fs : List F) (hI : ∀ x ∈ is, CkAt x) (hF : ∀ f ∈ fs, CkAt (vlF f)) : CkAt (.mk k n s is fs) := by
  intro cs w h
  obtain ⟨ai, ci, af, cf, EI, EF, rfl, _, _, hsz, hV⟩ := RepV.open h
  have HV := Lib.hid hV
  have HI := Lib.hid hI
  have HF := Lib.hid hF
  have hl1 : (is.length : Int) ≤ 9223372036854775807 := by obtain ⟨_, _, e, k1, k2, _⟩ := hV.si; cases e; unfold maxLen at k2; omega
  have hl2 : (fs.length : Int) ≤ 9223372036854775807 := by obtain ⟨_, _, e, k1, k2, _⟩ := hV.sf; cases e; unfold maxLen at k2; omega
  unfold maxLen at hsz
  clear h hV hI hF
  go_enter Tryz.func32, Tryz.ntmps32
  go_upto_region 1 with (fail)
  refine wp_box1 fun W hszW hbW hA => ?_
  have HA1 := Lib.hid hA
  generalize hb : w.heap.size = b at *
  have HXB := Lib.hid hb
  have a0 : W.cell? ⟨b, 0, none⟩ = some (.int .i64 k) := hA.2 0
  have a1 : W.cell? ⟨b, 1, none⟩ = some (.int .i64 n) := hA.2 1
  have a2 : W.cell? ⟨b, 2, none⟩ = some (.string s) := hA.2 2
  have a3 : W.cell? ⟨b, 3, none⟩ = some (.slice ai is.length ci) := hA.2 3
  have a4 : W.cell? ⟨b, 4, none⟩ = some (.slice af fs.length cf) := hA.2 4
  clear hszW hA hb
  go_wp2_with fail
  refine (refPart_at k n s ai af is.length fs.length ci cf (by unfold maxLen; omega) (by unfold maxLen; omega) (by unfold maxLen; omega) W).mono ?_
  rintro e w1 ⟨rfl, hb1⟩
  obtain ⟨z, hz9⟩ : ∃ z, ownF k n s is.length fs.length = z := ⟨_, rfl⟩
  rw [hz9]
  have HO := Lib.hid hz9
  have HA0 : Hid (b < W.heap.size) := Lib.hid HA1.out.1
  replace HA1 : Hid (Box w1 b #[.int .i64 k, .int .i64 n, .string s, .slice ai is.length ci, .slice af fs.length cf]) := Lib.hid (HA1.out.ext hb1)
  replace hbW : Below b w w1 := hbW.trans (hb1.mono (Nat.le_of_lt HA0.out))
  clear a0 a1 a2 a3 a4 hb1 hz9
  by_cases hz0 : z = 0
  · have HC : Hid (chkV (.mk k n s is fs) = if chkL is ≠ 0 then chkL is else chkFs none fs) := Lib.hid (by rw [chkV, if_neg (by rw [HO.out, hz0]; simp)])
    have a3 : w1.cell? ⟨b, 3, none⟩ = some (.slice ai is.length ci) := HA1.out.2 3
    subst hz0
    clear HO
    go_wp2_with fail
    go_loopw [18] (fun i wr => ∃ q : Nat, q ≤ is.length ∧ i = .int .i64 (q : Int) ∧ Hid (chkL is = chkL (is.drop q)) ∧ Below b w wr ∧ Box wr b #[.int .i64 k, .int .i64 n, .string s, .slice ai is.length ci, .slice af fs.length cf]) (fun i _ => is.length - (intOf i).toNat)
    case atStart => exact ⟨0, by omega, rfl, Lib.hid rfl, hbW, HA1.out⟩
    case round =>
      obtain ⟨q, hq, rfl, HL, hw, hbx⟩ := hrel
      generalize hX : wr = X at *
      clear hX hbW
      by_cases hlt : q < is.length
      · obtain ⟨x, hx⟩ : ∃ x, is[q]? = some x := ⟨_, List.getElem?_eq_getElem hlt⟩
        have hVX := HV.out.ext (w' := X) (by rw [HXB.out]; exact hw)
        obtain ⟨c, hc, hrx⟩ := All2.get hVX.ri hx
        obtain ⟨p0, o0, rfl, hp0, hcell⟩ := sl_elem hVX.si (all_len (fun _ _ => RepV.len) hVX.ri) (by omega) hc
        have hqi : (q : Int) < (is.length : Int) := by omega
        have HX := Lib.hid hx
        have HRX := Lib.hid hrx
        have hcl : c.length = 5 := hrx.len
        have HONE := Lib.hid (all_arr (RepV.one hrx))
        have HINF := Lib.hid (v_info hrx)
        have HSZ : Hid (5 = c.toArray.size) := Lib.hid (by simp [hcl])
        have HBX : Hid (b < X.heap.size) := Lib.hid hbx.1
        clear hVX hc hrx hx
        go_upto_region 7 with (first | (refine wpList_load_agg rfl _ _ rfl p0 (o0 + q * 5) (by rfl) c (fun j v hj => by rw [Nat.add_assoc]; exact hcell j v hj) _ Tryz.underlying25 rfl HINF.out ?_) | (refine wpList_store_row rfl _ _ _ rfl X.heap.size c.toArray rfl rfl _ _ (Nt.RH.new _ _ _) HINF.out HSZ.out HONE.out ?_))
        refine wp_stored fun V hbV hR => ?_
        have hwV := hw.trans (hbV.mono (Nat.le_of_lt HBX.out))
        replace hbx := box_low hbx hbV HBX.out
        have HC1 := Lib.hid (HI.out x (List.mem_of_getElem? HX.out) c V (RepV.ext hbV HRX.out))
        clear hbV hcell hp0 hw HONE HINF HRX
        generalize X.heap.size = bx at *
        go_wp2_with (refine wpList_load_agg rfl _ _ rfl bx 0 (by rfl) c (fun j v hj => by rw [Nat.zero_add, hR.cell]; exact (List.getElem?_toArray).trans hj) _ Tryz.underlying25 rfl (by rw [hcl]; kernel_rfl) ?_)
        refine HC1.out.mono ?_
        rintro e w2 ⟨rfl, k1⟩
        have HVS := hbx.1
        have hw2 := hwV.trans (k1.mono (Nat.le_of_lt HVS))
        have hbx2 := box_low hbx k1 HVS
        have HDR : Hid (chkL (is.drop q) = if chkV x ≠ 0 then chkV x else chkL (is.drop (q + 1))) := Lib.hid (by rw [drop_get HX.out, chkL])
        generalize chkV x = z at *
        clear k1 hwV hbx hR HVS
        by_cases hz : z = 0
        · have HN : Hid (chkL is = chkL (is.drop (q + 1))) := Lib.hid (by rw [HL.out, HDR.out, if_neg (by simp [hz])])
          clear HL HDR
          go_wp2_with fail
          go_roundw
          case rel => exact ⟨q + 1, by omega, by go_num, HN, hw2, hbx2⟩
          case measure => simp [intOf]; omega
        · have HN : Hid (chkV (.mk k n s is fs) = z) := Lib.hid (by rw [HC.out, HL.out, HDR.out, if_pos hz, if_pos hz])
          clear HL HDR
          go_wp2_with fail
          go_ret
          exact ⟨ret_int HN.out.symm, by rw [HXB.out]; exact hw2⟩
      · have hqe : q = is.length := by omega
        subst hqe
        have HN : Hid (chkV (.mk k n s is fs) = chkFs none fs) := Lib.hid (by rw [HC.out, HL.out, List.drop_length, chkL]; simp)
        clear HL HC hlt
        have c4 : X.cell? ⟨b, 4, none⟩ = some (.slice af fs.length cf) := hbx.2 4
        have HB2 := Lib.hid hbx
        have hw0 := hw
        clear hbx hw
        go_wp2_with fail
        go_loopw [31] (fun i wr => ∃ q : Nat, q ≤ fs.length ∧ i = .int .i64 (q : Int) ∧ Hid (chkFs none fs = chkFs (prvF fs q) (fs.drop q)) ∧ Below b w wr ∧ Box wr b #[.int .i64 k, .int .i64 n, .string s, .slice ai is.length ci, .slice af fs.length cf]) (fun i _ => fs.length - (intOf i).toNat)
        case atStart => exact ⟨0, by omega, rfl, Lib.hid rfl, hw0, HB2.out⟩
        case round =>
          obtain ⟨q, hq, rfl, HL, hw, hbx⟩ := hrel
          generalize hX : wr = Y at *
          clear hX hw0 c4
          by_cases hlt : q < fs.length
          · obtain ⟨f, hx⟩ : ∃ x, fs[q]? = some x := ⟨_, List.getElem?_eq_getElem hlt⟩
            have hVX := HV.out.ext (w' := Y) (by rw [HXB.out]; exact hw)
            obtain ⟨c, hc, hrx⟩ := All2.get hVX.rf hx
            obtain ⟨p1, o1, rfl, hp0, hcell⟩ := sl_elem hVX.sf (all_len (fun _ _ => RepF.len) hVX.rf) (by omega) hc
            have hqi : (q : Int) < (fs.length : Int) := by omega
            have HX := Lib.hid hx
            have hcl : c.length = 6 := hrx.len
            have HONE := Lib.hid (all_arr (RepF.one hrx))
            have HINF := Lib.hid (f_info hrx)
            have HSZ : Hid (6 = c.toArray.size) := Lib.hid (by simp [hcl])
            obtain ⟨nm, x⟩ := f
            have hrx' := hrx
            simp only [RepF] at hrx'
            obtain ⟨cv, hcv, hnm, hrv⟩ := hrx'
            have HRX := Lib.hid hrv
            have hcvl : cv.length = 5 := hrv.len
            have HCV := Lib.hid hcv
            have HBX : Hid (b < Y.heap.size) := Lib.hid hbx.1
            clear hVX hc hrx hx hrv hcv
            go_upto_region 14 with (first | (refine wpList_load_agg rfl _ _ rfl p1 (o1 + q * 6) (by rfl) c (fun j v hj => by rw [Nat.add_assoc]; exact hcell j v hj) _ Tryz.underlying54 rfl HINF.out ?_) | (refine wpList_store_row rfl _ _ _ rfl Y.heap.size c.toArray rfl rfl _ _ (Nt.RH.new _ _ _) HINF.out HSZ.out HONE.out ?_))
            refine wp_stored fun V hbV hR => ?_
            have hwV := hw.trans (hbV.mono (Nat.le_of_lt HBX.out))
            replace hbx := box_low hbx hbV HBX.out
            have HRV : Hid (RepV V x cv) := Lib.hid (RepV.ext hbV HRX.out)
            have HCP := Lib.hid (HF.out (.mk nm x) (List.mem_of_getElem? HX.out))
            have HDR : Hid (chkFs (prvF fs q) (fs.drop q) = if nameBad nm = true then 5 else if ordBad (prvF fs q) nm = true then 8 else if chkV x ≠ 0 then chkV x else chkFs (some nm) (fs.drop (q + 1))) := Lib.hid (by rw [drop_get HX.out, chkFs])
            have hcv6 : ∀ (j : Nat) (v : Value), cv[j]? = some v → V.cell? ⟨Y.heap.size, 1 + j, none⟩ = some v := fun j v hj => by
              rw [hR.cell, HCV.out, List.getElem?_toArray, Nat.add_comm, List.getElem?_cons_succ]; exact hj
            have b0 : V.cell? ⟨Y.heap.size, 0, none⟩ = some (.string nm) := by rw [hR.cell, HCV.out]; rfl
            have HBZ : Hid (Y.heap.size < V.heap.size) := Lib.hid hR.lt
            have hYb : b ≤ Y.heap.size := Nat.le_of_lt HBX.out
            have c4 : V.cell? ⟨b, 4, none⟩ = some (.slice (some ⟨p1, o1, none⟩) fs.length cf) := hbx.2 4
            have HVV := Lib.hid (HV.out.ext (w' := V) (by rw [HXB.out]; exact hwV))
            clear hbV hcell hp0 hw HONE HINF HRX hR
            generalize Y.heap.size = bx at *
            unfold maxLen at hnm
            by_cases m12 : nm.size = 0 ∨ 60 < nm.size
            · have HE : Hid (chkV (.mk k n s is fs) = 5) := Lib.hid (by rw [HN.out, HL.out, HDR.out, if_pos (by unfold nameBad; rcases m12 with h | h <;> simp [h])])
              have hin : inB (nm.size : Int) 1 60 = false := by unfold inB; simp; omega
              clear HN HL HDR
              go_wp2_with (go_at_call 54; refine (within_at _ _ _ _).mono ?_; rw [hin]; rintro e w' ⟨rfl, rfl⟩)
              go_ret
              exact ⟨ret_int HE.out.symm, by rw [HXB.out]; exact hwV⟩
            · have hin : inB (nm.size : Int) 1 60 = true := by unfold inB; simp; omega
              by_cases m2 : 60 < nm.size
              · exact absurd (.inr m2) m12
              · have m1 : ¬ nm.size = 0 := fun h => m12 (.inl h)
                obtain ⟨sn, hsn⟩ : ∃ b, seenB nm = b := ⟨_, rfl⟩
                have HSN := Lib.hid hsn
                have HPR : Hid (∀ W9, Calls Tryz.prog 55 #[.string nm] W9 fun e w' => e = .returned (.bool sn) ∧ W9 = w') := Lib.hid (fun W9 => by rw [← hsn]; exact printable_at nm (by unfold maxLen; omega) W9)
                clear hsn
                cases sn with
                | false =>
                  have HE : Hid (chkV (.mk k n s is fs) = 5) := Lib.hid (by rw [HN.out, HL.out, HDR.out, if_pos (by unfold nameBad; simp [HSN.out])])
                  clear HN HL HDR
                  go_wp2_with (first | (go_at_call 54; refine (within_at _ _ _ _).mono ?_; rw [hin]; rintro e w' ⟨rfl, rfl⟩) | (go_at_call 55; refine (HPR.out _).mono ?_; rintro e w' ⟨rfl, rfl⟩))
                  go_ret
                  exact ⟨ret_int HE.out.symm, by rw [HXB.out]; exact hwV⟩
                | true =>
                  have HNB : Hid (nameBad nm = false) := Lib.hid (by unfold nameBad; simp [m1, m2, HSN.out])
                  by_cases hq0 : q = 0
                  · subst hq0
                    have HD2 : Hid (chkFs (prvF fs 0) (fs.drop 0) = if chkV x ≠ 0 then chkV x else chkFs (some nm) (fs.drop (0 + 1))) := Lib.hid (by rw [HDR.out, if_neg (by rw [HNB.out]; simp), if_neg (by simp [prvF, ordBad])])
                    clear HDR
                    go_upto_region 16 with (first | (go_at_call 54; refine (within_at _ _ _ _).mono ?_; rw [hin]; rintro e w' ⟨rfl, rfl⟩) | (go_at_call 55; refine (HPR.out _).mono ?_; rintro e w' ⟨rfl, rfl⟩))
                    go_quiet (fail)
                    rename_i nq
                    have hbZ : Below V.heap.size V (V.drewN nq) := below_drewN (Below.refl _ _) nq
                    have hwZ := hwV.trans (hbZ.mono (Nat.le_of_lt hbx.1))
                    have hbxZ : Box (V.drewN nq) b #[.int .i64 k, .int .i64 n, .string s, .slice ai is.length ci, .slice (some ⟨p1, o1, none⟩) fs.length cf] := hbx.ext hbZ
                    have HRZ := Lib.hid (RepV.ext hbZ HRV.out)
                    have hcvZ : ∀ (j : Nat) (v : Value), cv[j]? = some v → (V.drewN nq).cell? ⟨bx, 1 + j, none⟩ = some v := fun j v hj => cell_later hbZ (hcv6 j v hj)
                    clear hbx hwV HRV hcv6 b0 c4 hbZ
                    generalize V.drewN nq = Z at *
                    have HCQ := Lib.hid (HCP.out cv Z HRZ.out)
                    clear HRZ HCP
                    go_wp2_with (refine wpList_load_agg rfl _ _ rfl bx 1 (by rfl) cv hcvZ _ Tryz.underlying25 rfl (by rw [hcvl]; kernel_rfl) ?_)
                    refine HCQ.out.mono ?_
                    rintro e w4 ⟨rfl, k1⟩
                    have hw4 := hwZ.trans (k1.mono (Nat.le_of_lt hbxZ.1))
                    have hbx4 := box_low hbxZ k1 hbxZ.1
                    clear k1 hwZ hbxZ hcvZ
                    have HVF : Hid (chkV (vlF (.mk nm x)) = chkV x) := Lib.hid rfl
                    rw [HVF.out]
                    generalize hzz : chkV x = z at *
                    by_cases hz : z = 0
                    · have HM : Hid (chkFs none fs = chkFs (prvF fs (0 + 1)) (fs.drop (0 + 1))) := Lib.hid (by
                        rw [HL.out, HD2.out, if_neg (by simp [hz]), show prvF fs (0 + 1) = some nm by show (fs[0]?).map nmF = _; rw [HX.out]; rfl])
                      clear HL HD2
                      go_wp2_with fail
                      go_roundw
                      case rel => exact ⟨0 + 1, by omega, by go_num, HM, hw4, hbx4⟩
                      case measure => simp [intOf]; omega
                    · have HM : Hid (chkV (.mk k n s is fs) = z) := Lib.hid (by rw [HN.out, HL.out, HD2.out, if_pos hz])
                      clear HL HD2
                      go_wp2_with fail
                      go_ret
                      exact ⟨ret_int HM.out.symm, by rw [HXB.out]; exact hw4⟩
                  · obtain ⟨j, rfl⟩ : ∃ j, q = j + 1 := ⟨q - 1, by omega⟩
                    obtain ⟨g, hg⟩ : ∃ x, fs[j]? = some x := ⟨_, List.getElem?_eq_getElem (by omega)⟩
                    obtain ⟨c', hc', hrg⟩ := All2.get HVV.out.rf hg
                    obtain ⟨p2, o2, e2, hp2, hcell2⟩ := sl_elem HVV.out.sf (all_len (fun _ _ => RepF.len) HVV.out.rf) (by omega) hc'
                    cases e2
                    have d0 : V.cell? ⟨p1, o1 + j * 6, none⟩ = some (.string (nmF g)) := by
                      obtain ⟨gn, gx⟩ := g
                      simp only [RepF] at hrg
                      obtain ⟨cw, rfl, _, _⟩ := hrg
                      exact hcell2 0 _ rfl
                    clear hcell2 hp2 hrg hc' hq0
                    have hj0 : (0 : Int) ≤ (j : Int) := Int.natCast_nonneg _
                    have hj1 : (j : Int) < (fs.length : Int) := by omega
                    have hpos : decide ((0 : Int) < (j : Int) + 1) = true := decide_eq_true (by omega)
                    have hwj : IntKind.i64.wrap (j : Int) = (j : Int) := IntWalk.i64_in _ (by omega)
                    have HD2 : Hid (chkFs (prvF fs (j + 1)) (fs.drop (j + 1)) = if cmpS nm (nmF g) ≤ 0 then 8 else if chkV x ≠ 0 then chkV x else chkFs (some nm) (fs.drop (j + 1 + 1))) := Lib.hid (by
                      rw [HDR.out, if_neg (by rw [HNB.out]; simp), show prvF fs (j + 1) = some (nmF g) by show (fs[j]?).map nmF = _; rw [hg]; rfl]
                      simp [ordBad])
                    clear HDR hg
                    go_upto_region 16 with (first | (go_at_call 54; refine (within_at _ _ _ _).mono ?_; rw [hin]; rintro e w' ⟨rfl, rfl⟩) | (go_at_call 55; refine (HPR.out _).mono ?_; rintro e w' ⟨rfl, rfl⟩))
                    go_quiet (fail)
                    rename_i nq
                    by_cases hle : cmpS nm (nmF g) ≤ 0
                    · have hlb : (Op.bytesLess nm.toList (nmF g).toList || nm.toList == (nmF g).toList) = true := leq_yes hle
                      generalize (Op.bytesLess nm.toList (nmF g).toList || nm.toList == (nmF g).toList) = lb at *
                      subst hlb
                      have HM : Hid (chkV (.mk k n s is fs) = 8) := Lib.hid (by rw [HN.out, HL.out, HD2.out, if_pos hle])
                      have hwZ := hwV.trans ((below_drewN (Below.refl V.heap.size V) nq).mono (Nat.le_of_lt hbx.1))
                      clear HL HD2 hpos hwj
                      go_wp2_with fail
                      go_ret
                      exact ⟨ret_int HM.out.symm, by rw [HXB.out]; exact hwZ⟩
                    · have hlb : (Op.bytesLess nm.toList (nmF g).toList || nm.toList == (nmF g).toList) = false := leq_no hle
                      generalize (Op.bytesLess nm.toList (nmF g).toList || nm.toList == (nmF g).toList) = lb at *
                      subst hlb
                      have hbZ : Below V.heap.size V (V.drewN nq) := below_drewN (Below.refl _ _) nq
                      have hwZ := hwV.trans (hbZ.mono (Nat.le_of_lt hbx.1))
                      have hbxZ : Box (V.drewN nq) b #[.int .i64 k, .int .i64 n, .string s, .slice ai is.length ci, .slice (some ⟨p1, o1, none⟩) fs.length cf] := hbx.ext hbZ
                      have HRZ := Lib.hid (RepV.ext hbZ HRV.out)
                      have hcvZ : ∀ (j : Nat) (v : Value), cv[j]? = some v → (V.drewN nq).cell? ⟨bx, 1 + j, none⟩ = some v := fun j v hj => cell_later hbZ (hcv6 j v hj)
                      clear hbx hwV HRV hcv6 b0 c4 hbZ d0 hpos hwj
                      generalize V.drewN nq = Z at *
                      have HCQ := Lib.hid (HCP.out cv Z HRZ.out)
                      clear HRZ HCP
                      go_wp2_with (refine wpList_load_agg rfl _ _ rfl bx 1 (by rfl) cv hcvZ _ Tryz.underlying25 rfl (by rw [hcvl]; kernel_rfl) ?_)
                      refine HCQ.out.mono ?_
                      rintro e w4 ⟨rfl, k1⟩
                      have hw4 := hwZ.trans (k1.mono (Nat.le_of_lt hbxZ.1))
                      have hbx4 := box_low hbxZ k1 hbxZ.1
                      clear k1 hwZ hbxZ hcvZ
                      have HVF : Hid (chkV (vlF (.mk nm x)) = chkV x) := Lib.hid rfl
                      rw [HVF.out]
                      generalize hzz : chkV x = z at *
                      by_cases hz : z = 0
                      · have HM : Hid (chkFs none fs = chkFs (prvF fs ((j + 1) + 1)) (fs.drop ((j + 1) + 1))) := Lib.hid (by
                          rw [HL.out, HD2.out, if_neg (Int.not_le.2 hle), if_neg (by simp [hz]), show prvF fs ((j + 1) + 1) = some nm by show (fs[(j + 1)]?).map nmF = _; rw [HX.out]; rfl])
                        clear HL HD2
                        go_wp2_with fail
                        go_roundw
                        case rel => exact ⟨(j + 1) + 1, by omega, by go_num, HM, hw4, hbx4⟩
                        case measure => simp [intOf]; omega
                      · have HM : Hid (chkV (.mk k n s is fs) = z) := Lib.hid (by rw [HN.out, HL.out, HD2.out, if_neg (Int.not_le.2 hle), if_pos hz])
                        clear HL HD2
                        go_wp2_with fail
                        go_ret
                        exact ⟨ret_int HM.out.symm, by rw [HXB.out]; exact hw4⟩
          · have hqe : q = fs.length := by omega
            subst hqe
            have HE : Hid (chkV (.mk k n s is fs) = 0) := Lib.hid (by rw [HN.out, HL.out, List.drop_length, chkFs])
            go_wp2_with fail
            go_ret
            exact ⟨ret_int HE.out.symm, by rw [HXB.out]; exact hw⟩
  · have HE : Hid (chkV (.mk k n s is fs) = z) := Lib.hid (chk_bad HO.out hz0)
    go_wp2_with fail
    go_ret
    exact ⟨ret_int HE.out.symm, by rw [HXB.out]; exact hbW⟩
mutual
theorem ckV : ∀ x : V, CkAt x
  | .mk k n s is fs => ckAll_at k n s is fs (ckL is) (ckF fs)
theorem ckL : ∀ l : List V, ∀ x ∈ l, CkAt x
  | [] => fun _ h => by cases h
  | y :: l => fun x h => (List.mem_cons.1 h).elim (fun e => e ▸ ckV y) (fun h => ckL l x h)
theorem ckF : ∀ l : List F, ∀ f ∈ l, CkAt (vlF f)
  | [] => fun _ h => by cases h
  | .mk nm y :: l => fun f h => (List.mem_cons.1 h).elim (fun e => by rw [e]; exact ckV y) (fun h => ckF l f h)
end
set_option maxRecDepth 100000 in
set_option maxHeartbeats 8000000 in
theorem refCheck_at (x : V) (cs : List Value) (w : World) (h : RepV w x cs) (hpn : pN x ≤ 1048576) : Calls Tryz.prog 14 #[.agg cs.toArray] w fun e w' => e = .returned (.int .i64 (chkF x)) ∧ Below w.heap.size w w' := by
  obtain ⟨k0, n0, s0, ai, m, q, af, m', q', rfl⟩ := V5 h
  have HX := Lib.hid h
  have HPN := Lib.hid hpn
  clear h hpn
  go_enter Tryz.func14, Tryz.ntmps14
  go_upto_region 1 with (fail)
  refine wp_box1 fun W hszW hbW hA => ?_
  have a0 : W.cell? ⟨w.heap.size, 0, none⟩ = some (.int .i64 k0) := hA.2 0
  have a1 : W.cell? ⟨w.heap.size, 1, none⟩ = some (.int .i64 n0) := hA.2 1
  have a2 : W.cell? ⟨w.heap.size, 2, none⟩ = some (.string s0) := hA.2 2
  have a3 : W.cell? ⟨w.heap.size, 3, none⟩ = some (.slice ai m q) := hA.2 3
  have a4 : W.cell? ⟨w.heap.size, 4, none⟩ = some (.slice af m' q') := hA.2 4
  clear hszW hA
  go_wp2_with fail
  refine (partsV x 1 _ W (RepV.ext hbW HX.out) HPN.out (by omega) (by omega)).mono ?_
  rintro e w1 ⟨pn, d, rfl, hrp, hb1⟩
  have HC := Lib.hid (chkF_is (by have := HPN.out; omega) hrp)
  have hw1 := ext_trans hbW hb1
  replace a0 := cell_later hb1 a0
  replace a1 := cell_later hb1 a1
  replace a2 := cell_later hb1 a2
  replace a3 := cell_later hb1 a3
  replace a4 := cell_later hb1 a4
  clear hbW hb1 hrp
  by_cases hd : d = true
  · have HN := Lib.hid (HC.out.trans (if_pos (.inl hd)))
    subst hd
    clear HC
    go_wp2_with fail
    go_ret
    exact ⟨ret_int HN.out.symm, hw1⟩
  · by_cases h1 : 1000 < pn
    · have HN := Lib.hid (HC.out.trans (if_pos (.inr h1)))
      obtain rfl : d = false := by simpa using hd
      clear HC
      go_wp2_with fail
      go_ret
      exact ⟨ret_int HN.out.symm, hw1⟩
    · have HN := Lib.hid (HC.out.trans (if_neg (fun h => h.elim hd h1)))
      obtain rfl : d = false := by simpa using hd
      clear HC
      go_wp2_with fail
      refine (ckV x _ w1 (RepV.ext hw1 HX.out)).mono ?_
      rintro e w2 ⟨rfl, hb2⟩
      go_wp2_with fail
      go_ret
      exact ⟨ret_int HN.out.symm, ext_trans hw1 hb2⟩
end Fd
end Go.Proofs.YtbhcfmdogdaodaaGreatDoor
namespace Go.Proofs.YtbhcfmdogdaodaaGreatDoor
namespace Fd
open _root_.Go.Proofs.YtbhcfmdogdaodaaGreatDoor.Tx _root_.Go.Proofs.YtbhcfmdogdaodaaGreatDoor.Nm
theorem pNL_snoc : ∀ (l : List V) (x : V), pNL (l ++ [x]) = pNL l + pN x
  | [], x => by simp [pNL]
  | y :: r, x => by rw [List.cons_append, pNL, pNL, pNL_snoc r x]; omega
theorem pNF_snoc : ∀ (l : List F) (nm : ByteArray) (x : V), pNF (l ++ [.mk nm x]) = pNF l + pN x
  | [], nm, x => by simp [pNF]
  | .mk a y :: r, nm, x => by rw [List.cons_append, pNF, pNF, pNF_snoc r nm x]; omega
theorem pN_flat (k n : Int) (s : ByteArray) : pN (.mk k n s [] []) = 1 := by simp [pN, pNL, pNF]
mutual
theorem valP_pN : ∀ (f : Nat) (l : List UInt8) {v : V} {r : List UInt8}, valP f l = .ok v r → pN v + r.length ≤ 1 + l.length
  | 0, _, _, _, h => by rw [valP] at h; cases h
  | f + 1, [], v, r, h => by rw [valP] at h; cases h
  | f + 1, c :: l, v, r, h => by
    rw [valP] at h
    split at h
    · obtain ⟨u, q, h1, h2⟩ := bind_ok h
      have := wordP_len _ _ h1
      cases h2
      rw [show V0 = .mk 0 0 ByteArray.empty [] [] from rfl, pN_flat]; omega
    split at h
    · obtain ⟨u, q, h1, h2⟩ := bind_ok h
      have := wordP_len _ _ h1
      cases h2
      rw [pN_flat]; omega
    split at h
    · obtain ⟨u, q, h1, h2⟩ := bind_ok h
      have := wordP_len _ _ h1
      cases h2
      rw [pN_flat]; omega
    split at h
    · obtain ⟨u, q, h1, h2⟩ := bind_ok h
      have := textP_len h1
      cases h2
      rw [txtV, pN_flat]; omega
    split at h
    · have a0 := skipW_len l
      rw [List.length_cons]
      cases hs : skipW l with
      | nil =>
        rw [hs] at h
        obtain ⟨u, q, h1, h2⟩ := bind_ok h
        have := elsP_pN f [] [] h1
        cases h2
        simp only [pN, pNL, pNF, List.length_nil] at this ⊢; omega
      | cons b q =>
        rw [hs] at h
        simp only at h
        rw [hs, List.length_cons] at a0
        split at h
        · cases h
          rw [pN_flat]; omega
        · obtain ⟨u, t, h1, h2⟩ := bind_ok h
          have := elsP_pN f [] (b :: q) h1
          cases h2
          simp only [pN, pNL, pNF, List.length_cons] at this ⊢; omega
    split at h
    · have a0 := skipW_len l
      rw [List.length_cons]
      cases hs : skipW l with
      | nil =>
        rw [hs] at h
        obtain ⟨u, q, h1, h2⟩ := bind_ok h
        have := fldP_pN f [] [] h1
        have h3 := pNF_putAll u []
        cases h2
        rw [pN_obj]
        simp only [pNF, List.length_nil] at this h3 ⊢; omega
      | cons b q =>
        rw [hs] at h
        simp only at h
        rw [hs, List.length_cons] at a0
        split at h
        · cases h
          rw [pN_obj, pNF]; omega
        · obtain ⟨u, t, h1, h2⟩ := bind_ok h
          have := fldP_pN f [] (b :: q) h1
          have h3 := pNF_putAll u []
          cases h2
          rw [pN_obj]
          simp only [pNF, List.length_cons] at this h3 ⊢; omega
    split at h
    · obtain ⟨u, q, h1, h2⟩ := bind_ok h
      have := numP_len h1
      cases h2
      rw [pN_flat]; omega
    · cases h
theorem elsP_pN : ∀ (f : Nat) (acc : List V) (l : List UInt8) {v : List V} {r : List UInt8}, elsP f acc l = .ok v r → pNL v + r.length ≤ pNL acc + l.length
  | 0, _, _, _, _, h => by rw [elsP] at h; cases h
  | f + 1, acc, l, v, r, h => by
    rw [elsP] at h
    cases h1 : valP f l with
    | bad q e => rw [h1] at h; cases h
    | ok x q =>
      rw [h1] at h
      simp only at h
      have a1 := valP_pN f l h1
      cases h2 : moreP 93 q with
      | bad t e => rw [h2] at h; cases h
      | ok b t =>
        rw [h2] at h
        have a2 := moreP_len h2
        cases b with
        | true =>
          have := elsP_pN f _ t h
          rw [pNL_snoc] at this
          omega
        | false => cases h; rw [pNL_snoc]; omega
theorem fldP_pN : ∀ (f : Nat) (acc : List F) (l : List UInt8) {v : List F} {r : List UInt8}, fldP f acc l = .ok v r → pNF v + r.length ≤ pNF acc + l.length
  | 0, _, _, _, _, h => by rw [fldP] at h; cases h
  | f + 1, acc, l, v, r, h => by
    rw [fldP] at h
    cases h0 : textP l with
    | bad q e => rw [h0] at h; cases h
    | ok nm q =>
      rw [h0] at h
      simp only at h
      have a0 := textP_len h0
      split at h
      · cases h
      · cases h1 : signP 58 (skipW q) with
        | bad t e => rw [h1] at h; cases h
        | ok _ t =>
          rw [h1] at h
          simp only at h
          have a1 := signP_len h1
          have a2 := skipW_len q
          cases h3 : valP f (skipW t) with
          | bad u e => rw [h3] at h; cases h
          | ok x u =>
            rw [h3] at h
            simp only at h
            have a3 := valP_pN f _ h3
            have a4 := skipW_len t
            cases h5 : moreP 125 u with
            | bad y e => rw [h5] at h; cases h
            | ok b y =>
              rw [h5] at h
              have a5 := moreP_len h5
              cases b with
              | true =>
                have := fldP_pN f _ y h
                rw [pNF_snoc] at this
                omega
              | false => cases h; rw [pNF_snoc]; omega
end
end Fd
end Go.Proofs.YtbhcfmdogdaodaaGreatDoor
