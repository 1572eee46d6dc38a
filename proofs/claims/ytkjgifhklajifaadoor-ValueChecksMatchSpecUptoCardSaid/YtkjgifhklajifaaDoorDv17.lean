/- checkAll and Check of the reference. Printed by gen_rval.py. Show of the reference. Printed by gen_rsh.py. The law that Check and Show are as specified: the walk. Printed by gen_lawcks.py. -/
import Derived.Test.YtkjgifhklajifaaDoorDv16
import Derived.Test.YtkjgifhklajifaaDoorDv10
import Derived.BigQuiet
import Derived.IntWalk
import Derived.Test.YtkjgifhklajifaaDoorDv15
import Derived.Deep.RegionWith
namespace Go.Proofs.YtkjgifhklajifaaDoor
open Go.RowKit
namespace Fd
open _root_.Go.Proofs.YtkjgifhklajifaaDoor.Nt (RH RH.cell RH.box RH.lt RH.new RH.ext RH.fre RH.set RH.other)
open _root_.Go.Proofs.YtkjgifhklajifaaDoor.Rw (All2 All2.get wpList_load_agg wp_stored fl_at)
/-- what checkAll of the reference answers -/
def CkAt (x : V) : Prop := ∀ (cs : List Value) (w : World), RepV w x cs → Calls Tryd.prog 26 #[.agg cs.toArray] w fun e w' => e = .returned (.int .i64 (chkV x)) ∧ Below w.heap.size w w'
set_option maxRecDepth 100000 in
set_option maxHeartbeats 16000000 in
theorem ckAll_at (k n : Int) (s : ByteArray) (is : List V) (fs : List F) (hI : ∀ x ∈ is, CkAt x) (hF : ∀ f ∈ fs, CkAt (vlF f)) : CkAt (.mk k n s is fs) := by
  intro cs w h
  obtain ⟨ai, ci, af, cf, EI, EF, rfl, _, _, hsz, hV⟩ := RepV.open h
  have HV := Lib.hid hV
  have HI := Lib.hid hI
  have HF := Lib.hid hF
  have hl1 : (is.length : Int) ≤ 9223372036854775807 := by obtain ⟨_, _, e, k1, k2, _⟩ := hV.si; cases e; unfold maxLen at k2; omega
  have hl2 : (fs.length : Int) ≤ 9223372036854775807 := by obtain ⟨_, _, e, k1, k2, _⟩ := hV.sf; cases e; unfold maxLen at k2; omega
  unfold maxLen at hsz
  clear h hV hI hF
  go_enter Tryd.func26, Tryd.ntmps26
  go_upto_region 1 with (fail)
  refine wp_box1 fun W hszW hbW hA => ?_
  have HA1 := Lib.hid hA
  generalize hb : w.heap.size = b at *
  have HXB := Lib.hid hb
  have a0 : W.cell? ⟨b, 0, none⟩ = some (.int .i64 k) := hA.2 0
  have a1 : W.cell? ⟨b, 1, none⟩ = some (.int .i64 n) := hA.2 1
  have a2 : W.cell? ⟨b, 2, none⟩ = some (.string s) := hA.2 2
  have a3 : W.cell? ⟨b, 3, none⟩ = some (.slice ai is.length ci) := hA.2 3
  have a4 : W.cell? ⟨b, 4, none⟩ = some (.slice af fs.length cf) := hA.2 4
  clear hszW hA hb
  go_wp2_with fail
  refine (refPart_at k n s ai af is.length fs.length ci cf (by unfold maxLen; omega) (by unfold maxLen; omega) (by unfold maxLen; omega) W).mono ?_
  rintro e w1 ⟨rfl, hb1⟩
  obtain ⟨z, hz9⟩ : ∃ z, ownF k n s is.length fs.length = z := ⟨_, rfl⟩
  rw [hz9]
  have HO := Lib.hid hz9
  have HA0 : Hid (b < W.heap.size) := Lib.hid HA1.out.1
  replace HA1 : Hid (Box w1 b #[.int .i64 k, .int .i64 n, .string s, .slice ai is.length ci, .slice af fs.length cf]) := Lib.hid (HA1.out.ext hb1)
  replace hbW : Below b w w1 := hbW.trans (hb1.mono (Nat.le_of_lt HA0.out))
  clear a0 a1 a2 a3 a4 hb1 hz9
  by_cases hz0 : z = 0
  · have HC : Hid (chkV (.mk k n s is fs) = if chkL is ≠ 0 then chkL is else chkFs none fs) := Lib.hid (by rw [chkV, if_neg (by rw [HO.out, hz0]; simp)])
    have a3 : w1.cell? ⟨b, 3, none⟩ = some (.slice ai is.length ci) := HA1.out.2 3
    subst hz0
    clear HO
    go_wp2_with fail
    go_loopw [18] (fun i wr => ∃ q : Nat, q ≤ is.length ∧ i = .int .i64 (q : Int) ∧ Hid (chkL is = chkL (is.drop q)) ∧ Below b w wr ∧ Box wr b #[.int .i64 k, .int .i64 n, .string s, .slice ai is.length ci, .slice af fs.length cf]) (fun i _ => is.length - (intOf i).toNat)
    case atStart => exact ⟨0, by omega, rfl, Lib.hid rfl, hbW, HA1.out⟩
    case round =>
      obtain ⟨q, hq, rfl, HL, hw, hbx⟩ := hrel
      generalize hX : wr = X at *
      clear hX hbW
      by_cases hlt : q < is.length
      · obtain ⟨x, hx⟩ : ∃ x, is[q]? = some x := ⟨_, List.getElem?_eq_getElem hlt⟩
        have hVX := HV.out.ext (w' := X) (by rw [HXB.out]; exact hw)
        obtain ⟨c, hc, hrx⟩ := All2.get hVX.ri hx
        obtain ⟨p0, o0, rfl, hp0, hcell⟩ := sl_elem hVX.si (all_len (fun _ _ => RepV.len) hVX.ri) (by omega) hc
        have hqi : (q : Int) < (is.length : Int) := by omega
        have HX := Lib.hid hx
        have HRX := Lib.hid hrx
        have hcl : c.length = 5 := hrx.len
        have HONE := Lib.hid (all_arr (RepV.one hrx))
        have HINF := Lib.hid (v_info hrx)
        have HSZ : Hid (5 = c.toArray.size) := Lib.hid (by simp [hcl])
        have HBX : Hid (b < X.heap.size) := Lib.hid hbx.1
        clear hVX hc hrx hx
        go_upto_region 7 with (first | (refine wpList_load_agg rfl _ _ rfl p0 (o0 + q * 5) (by rfl) c (fun j v hj => by rw [Nat.add_assoc]; exact hcell j v hj) _ Tryd.underlying25 rfl HINF.out ?_) | (refine wpList_store_row rfl _ _ _ rfl X.heap.size c.toArray rfl rfl _ _ (Nt.RH.new _ _ _) HINF.out HSZ.out HONE.out ?_))
        refine wp_stored fun V hbV hR => ?_
        have hwV := hw.trans (hbV.mono (Nat.le_of_lt HBX.out))
        replace hbx := box_low hbx hbV HBX.out
        have HC1 := Lib.hid (HI.out x (List.mem_of_getElem? HX.out) c V (RepV.ext hbV HRX.out))
        clear hbV hcell hp0 hw HONE HINF HRX
        generalize X.heap.size = bx at *
        go_wp2_with (refine wpList_load_agg rfl _ _ rfl bx 0 (by rfl) c (fun j v hj => by rw [Nat.zero_add, hR.cell]; exact (List.getElem?_toArray).trans hj) _ Tryd.underlying25 rfl (by rw [hcl]; kernel_rfl) ?_)
        refine HC1.out.mono ?_
        rintro e w2 ⟨rfl, k1⟩
        have HVS := hbx.1
        have hw2 := hwV.trans (k1.mono (Nat.le_of_lt HVS))
        have hbx2 := box_low hbx k1 HVS
        have HDR : Hid (chkL (is.drop q) = if chkV x ≠ 0 then chkV x else chkL (is.drop (q + 1))) := Lib.hid (by rw [drop_get HX.out, chkL])
        generalize chkV x = z at *
        clear k1 hwV hbx hR HVS
        by_cases hz : z = 0
        · have HN : Hid (chkL is = chkL (is.drop (q + 1))) := Lib.hid (by rw [HL.out, HDR.out, if_neg (by simp [hz])])
          clear HL HDR
          go_wp2_with fail
          go_roundw
          case rel => exact ⟨q + 1, by omega, by go_num, HN, hw2, hbx2⟩
          case measure => simp [intOf]; omega
        · have HN : Hid (chkV (.mk k n s is fs) = z) := Lib.hid (by rw [HC.out, HL.out, HDR.out, if_pos hz, if_pos hz])
          clear HL HDR
          go_wp2_with fail
          go_ret
          exact ⟨ret_int HN.out.symm, by rw [HXB.out]; exact hw2⟩
      · have hqe : q = is.length := by omega
        subst hqe
        have HN : Hid (chkV (.mk k n s is fs) = chkFs none fs) := Lib.hid (by rw [HC.out, HL.out, List.drop_length, chkL]; simp)
        clear HL HC hlt
        have c4 : X.cell? ⟨b, 4, none⟩ = some (.slice af fs.length cf) := hbx.2 4
        have HB2 := Lib.hid hbx
        have hw0 := hw
        clear hbx hw
        go_wp2_with fail
        go_loopw [31] (fun i wr => ∃ q : Nat, q ≤ fs.length ∧ i = .int .i64 (q : Int) ∧ Hid (chkFs none fs = chkFs (prvF fs q) (fs.drop q)) ∧ Below b w wr ∧ Box wr b #[.int .i64 k, .int .i64 n, .string s, .slice ai is.length ci, .slice af fs.length cf]) (fun i _ => fs.length - (intOf i).toNat)
        case atStart => exact ⟨0, by omega, rfl, Lib.hid rfl, hw0, HB2.out⟩
        case round =>
          obtain ⟨q, hq, rfl, HL, hw, hbx⟩ := hrel
          generalize hX : wr = Y at *
          clear hX hw0 c4
          by_cases hlt : q < fs.length
          · obtain ⟨f, hx⟩ : ∃ x, fs[q]? = some x := ⟨_, List.getElem?_eq_getElem hlt⟩
            have hVX := HV.out.ext (w' := Y) (by rw [HXB.out]; exact hw)
            obtain ⟨c, hc, hrx⟩ := All2.get hVX.rf hx
            obtain ⟨p1, o1, rfl, hp0, hcell⟩ := sl_elem hVX.sf (all_len (fun _ _ => RepF.len) hVX.rf) (by omega) hc
            have hqi : (q : Int) < (fs.length : Int) := by omega
            have HX := Lib.hid hx
            have hcl : c.length = 6 := hrx.len
            have HONE := Lib.hid (all_arr (RepF.one hrx))
            have HINF := Lib.hid (f_info hrx)
            have HSZ : Hid (6 = c.toArray.size) := Lib.hid (by simp [hcl])
            obtain ⟨nm, x⟩ := f
            have hrx' := hrx
            simp only [RepF] at hrx'
            obtain ⟨cv, hcv, hnm, hrv⟩ := hrx'
            have HRX := Lib.hid hrv
            have hcvl : cv.length = 5 := hrv.len
            have HCV := Lib.hid hcv
            have HBX : Hid (b < Y.heap.size) := Lib.hid hbx.1
            clear hVX hc hrx hx hrv hcv
            go_upto_region 14 with (first | (refine wpList_load_agg rfl _ _ rfl p1 (o1 + q * 6) (by rfl) c (fun j v hj => by rw [Nat.add_assoc]; exact hcell j v hj) _ Tryd.underlying44 rfl HINF.out ?_) | (refine wpList_store_row rfl _ _ _ rfl Y.heap.size c.toArray rfl rfl _ _ (Nt.RH.new _ _ _) HINF.out HSZ.out HONE.out ?_))
            refine wp_stored fun V hbV hR => ?_
            have hwV := hw.trans (hbV.mono (Nat.le_of_lt HBX.out))
            replace hbx := box_low hbx hbV HBX.out
            have HRV : Hid (RepV V x cv) := Lib.hid (RepV.ext hbV HRX.out)
            have HCP := Lib.hid (HF.out (.mk nm x) (List.mem_of_getElem? HX.out))
            have HDR : Hid (chkFs (prvF fs q) (fs.drop q) = if nameBad nm = true then 5 else if ordBad (prvF fs q) nm = true then 8 else if chkV x ≠ 0 then chkV x else chkFs (some nm) (fs.drop (q + 1))) := Lib.hid (by rw [drop_get HX.out, chkFs])
            have hcv6 : ∀ (j : Nat) (v : Value), cv[j]? = some v → V.cell? ⟨Y.heap.size, 1 + j, none⟩ = some v := fun j v hj => by
              rw [hR.cell, HCV.out, List.getElem?_toArray, Nat.add_comm, List.getElem?_cons_succ]; exact hj
            have b0 : V.cell? ⟨Y.heap.size, 0, none⟩ = some (.string nm) := by rw [hR.cell, HCV.out]; rfl
            have HBZ : Hid (Y.heap.size < V.heap.size) := Lib.hid hR.lt
            have hYb : b ≤ Y.heap.size := Nat.le_of_lt HBX.out
            have c4 : V.cell? ⟨b, 4, none⟩ = some (.slice (some ⟨p1, o1, none⟩) fs.length cf) := hbx.2 4
            have HVV := Lib.hid (HV.out.ext (w' := V) (by rw [HXB.out]; exact hwV))
            clear hbV hcell hp0 hw HONE HINF HRX hR
            generalize Y.heap.size = bx at *
            unfold maxLen at hnm
            by_cases m12 : nm.size = 0 ∨ 60 < nm.size
            · have HE : Hid (chkV (.mk k n s is fs) = 5) := Lib.hid (by rw [HN.out, HL.out, HDR.out, if_pos (by unfold nameBad; rcases m12 with h | h <;> simp [h])])
              have hin : inB (nm.size : Int) 1 60 = false := by unfold inB; simp; omega
              clear HN HL HDR
              go_wp2_with (go_at_call 53; refine (within_at _ _ _ _).mono ?_; rw [hin]; rintro e w' ⟨rfl, rfl⟩)
              go_ret
              exact ⟨ret_int HE.out.symm, by rw [HXB.out]; exact hwV⟩
            · have hin : inB (nm.size : Int) 1 60 = true := by unfold inB; simp; omega
              by_cases m2 : 60 < nm.size
              · exact absurd (.inr m2) m12
              · have m1 : ¬ nm.size = 0 := fun h => m12 (.inl h)
                obtain ⟨sn, hsn⟩ : ∃ b, seenB nm = b := ⟨_, rfl⟩
                have HSN := Lib.hid hsn
                have HPR : Hid (∀ W9, Calls Tryd.prog 54 #[.string nm] W9 fun e w' => e = .returned (.bool sn) ∧ W9 = w') := Lib.hid (fun W9 => by rw [← hsn]; exact printable_at nm (by unfold maxLen; omega) W9)
                clear hsn
                cases sn with
                | false =>
                  have HE : Hid (chkV (.mk k n s is fs) = 5) := Lib.hid (by rw [HN.out, HL.out, HDR.out, if_pos (by unfold nameBad; simp [HSN.out])])
                  clear HN HL HDR
                  go_wp2_with (first | (go_at_call 53; refine (within_at _ _ _ _).mono ?_; rw [hin]; rintro e w' ⟨rfl, rfl⟩) | (go_at_call 54; refine (HPR.out _).mono ?_; rintro e w' ⟨rfl, rfl⟩))
                  go_ret
                  exact ⟨ret_int HE.out.symm, by rw [HXB.out]; exact hwV⟩
                | true =>
                  have HNB : Hid (nameBad nm = false) := Lib.hid (by unfold nameBad; simp [m1, m2, HSN.out])
                  by_cases hq0 : q = 0
                  · subst hq0
                    have HD2 : Hid (chkFs (prvF fs 0) (fs.drop 0) = if chkV x ≠ 0 then chkV x else chkFs (some nm) (fs.drop (0 + 1))) := Lib.hid (by rw [HDR.out, if_neg (by rw [HNB.out]; simp), if_neg (by simp [prvF, ordBad])])
                    clear HDR
                    go_upto_region 16 with (first | (go_at_call 53; refine (within_at _ _ _ _).mono ?_; rw [hin]; rintro e w' ⟨rfl, rfl⟩) | (go_at_call 54; refine (HPR.out _).mono ?_; rintro e w' ⟨rfl, rfl⟩))
                    go_quiet (fail)
                    rename_i nq
                    have hbZ : Below V.heap.size V (V.drewN nq) := below_drewN (Below.refl _ _) nq
                    have hwZ := hwV.trans (hbZ.mono (Nat.le_of_lt hbx.1))
                    have hbxZ : Box (V.drewN nq) b #[.int .i64 k, .int .i64 n, .string s, .slice ai is.length ci, .slice (some ⟨p1, o1, none⟩) fs.length cf] := hbx.ext hbZ
                    have HRZ := Lib.hid (RepV.ext hbZ HRV.out)
                    have hcvZ : ∀ (j : Nat) (v : Value), cv[j]? = some v → (V.drewN nq).cell? ⟨bx, 1 + j, none⟩ = some v := fun j v hj => cell_later hbZ (hcv6 j v hj)
                    clear hbx hwV HRV hcv6 b0 c4 hbZ
                    generalize V.drewN nq = Z at *
                    have HCQ := Lib.hid (HCP.out cv Z HRZ.out)
                    clear HRZ HCP
                    go_wp2_with (refine wpList_load_agg rfl _ _ rfl bx 1 (by rfl) cv hcvZ _ Tryd.underlying25 rfl (by rw [hcvl]; kernel_rfl) ?_)
                    refine HCQ.out.mono ?_
                    rintro e w4 ⟨rfl, k1⟩
                    have hw4 := hwZ.trans (k1.mono (Nat.le_of_lt hbxZ.1))
                    have hbx4 := box_low hbxZ k1 hbxZ.1
                    clear k1 hwZ hbxZ hcvZ
                    have HVF : Hid (chkV (vlF (.mk nm x)) = chkV x) := Lib.hid rfl
                    rw [HVF.out]
                    generalize hzz : chkV x = z at *
                    by_cases hz : z = 0
                    · have HM : Hid (chkFs none fs = chkFs (prvF fs (0 + 1)) (fs.drop (0 + 1))) := Lib.hid (by
                        rw [HL.out, HD2.out, if_neg (by simp [hz]), show prvF fs (0 + 1) = some nm by show (fs[0]?).map nmF = _; rw [HX.out]; rfl])
                      clear HL HD2
                      go_wp2_with fail
                      go_roundw
                      case rel => exact ⟨0 + 1, by omega, by go_num, HM, hw4, hbx4⟩
                      case measure => simp [intOf]; omega
                    · have HM : Hid (chkV (.mk k n s is fs) = z) := Lib.hid (by rw [HN.out, HL.out, HD2.out, if_pos hz])
                      clear HL HD2
                      go_wp2_with fail
                      go_ret
                      exact ⟨ret_int HM.out.symm, by rw [HXB.out]; exact hw4⟩
                  · obtain ⟨j, rfl⟩ : ∃ j, q = j + 1 := ⟨q - 1, by omega⟩
                    obtain ⟨g, hg⟩ : ∃ x, fs[j]? = some x := ⟨_, List.getElem?_eq_getElem (by omega)⟩
                    obtain ⟨c', hc', hrg⟩ := All2.get HVV.out.rf hg
                    obtain ⟨p2, o2, e2, hp2, hcell2⟩ := sl_elem HVV.out.sf (all_len (fun _ _ => RepF.len) HVV.out.rf) (by omega) hc'
                    cases e2
                    have d0 : V.cell? ⟨p1, o1 + j * 6, none⟩ = some (.string (nmF g)) := by
                      obtain ⟨gn, gx⟩ := g
                      simp only [RepF] at hrg
                      obtain ⟨cw, rfl, _, _⟩ := hrg
                      exact hcell2 0 _ rfl
                    clear hcell2 hp2 hrg hc' hq0
                    have hj0 : (0 : Int) ≤ (j : Int) := Int.natCast_nonneg _
                    have hj1 : (j : Int) < (fs.length : Int) := by omega
                    have hpos : decide ((0 : Int) < (j : Int) + 1) = true := decide_eq_true (by omega)
                    have hwj : IntKind.i64.wrap (j : Int) = (j : Int) := IntWalk.i64_in _ (by omega)
                    have HD2 : Hid (chkFs (prvF fs (j + 1)) (fs.drop (j + 1)) = if cmpS nm (nmF g) ≤ 0 then 8 else if chkV x ≠ 0 then chkV x else chkFs (some nm) (fs.drop (j + 1 + 1))) := Lib.hid (by
                      rw [HDR.out, if_neg (by rw [HNB.out]; simp), show prvF fs (j + 1) = some (nmF g) by show (fs[j]?).map nmF = _; rw [hg]; rfl]
                      simp [ordBad])
                    clear HDR hg
                    go_upto_region 16 with (first | (go_at_call 53; refine (within_at _ _ _ _).mono ?_; rw [hin]; rintro e w' ⟨rfl, rfl⟩) | (go_at_call 54; refine (HPR.out _).mono ?_; rintro e w' ⟨rfl, rfl⟩))
                    go_quiet (fail)
                    rename_i nq
                    by_cases hle : cmpS nm (nmF g) ≤ 0
                    · have hlb : (Op.bytesLess nm.toList (nmF g).toList || nm.toList == (nmF g).toList) = true := leq_yes hle
                      generalize (Op.bytesLess nm.toList (nmF g).toList || nm.toList == (nmF g).toList) = lb at *
                      subst hlb
                      have HM : Hid (chkV (.mk k n s is fs) = 8) := Lib.hid (by rw [HN.out, HL.out, HD2.out, if_pos hle])
                      have hwZ := hwV.trans ((below_drewN (Below.refl V.heap.size V) nq).mono (Nat.le_of_lt hbx.1))
                      clear HL HD2 hpos hwj
                      go_wp2_with fail
                      go_ret
                      exact ⟨ret_int HM.out.symm, by rw [HXB.out]; exact hwZ⟩
                    · have hlb : (Op.bytesLess nm.toList (nmF g).toList || nm.toList == (nmF g).toList) = false := leq_no hle
                      generalize (Op.bytesLess nm.toList (nmF g).toList || nm.toList == (nmF g).toList) = lb at *
                      subst hlb
                      have hbZ : Below V.heap.size V (V.drewN nq) := below_drewN (Below.refl _ _) nq
                      have hwZ := hwV.trans (hbZ.mono (Nat.le_of_lt hbx.1))
                      have hbxZ : Box (V.drewN nq) b #[.int .i64 k, .int .i64 n, .string s, .slice ai is.length ci, .slice (some ⟨p1, o1, none⟩) fs.length cf] := hbx.ext hbZ
                      have HRZ := Lib.hid (RepV.ext hbZ HRV.out)
                      have hcvZ : ∀ (j : Nat) (v : Value), cv[j]? = some v → (V.drewN nq).cell? ⟨bx, 1 + j, none⟩ = some v := fun j v hj => cell_later hbZ (hcv6 j v hj)
                      clear hbx hwV HRV hcv6 b0 c4 hbZ d0 hpos hwj
                      generalize V.drewN nq = Z at *
                      have HCQ := Lib.hid (HCP.out cv Z HRZ.out)
                      clear HRZ HCP
                      go_wp2_with (refine wpList_load_agg rfl _ _ rfl bx 1 (by rfl) cv hcvZ _ Tryd.underlying25 rfl (by rw [hcvl]; kernel_rfl) ?_)
                      refine HCQ.out.mono ?_
                      rintro e w4 ⟨rfl, k1⟩
                      have hw4 := hwZ.trans (k1.mono (Nat.le_of_lt hbxZ.1))
                      have hbx4 := box_low hbxZ k1 hbxZ.1
                      clear k1 hwZ hbxZ hcvZ
                      have HVF : Hid (chkV (vlF (.mk nm x)) = chkV x) := Lib.hid rfl
                      rw [HVF.out]
                      generalize hzz : chkV x = z at *
                      by_cases hz : z = 0
                      · have HM : Hid (chkFs none fs = chkFs (prvF fs ((j + 1) + 1)) (fs.drop ((j + 1) + 1))) := Lib.hid (by
                          rw [HL.out, HD2.out, if_neg (Int.not_le.2 hle), if_neg (by simp [hz]), show prvF fs ((j + 1) + 1) = some nm by show (fs[(j + 1)]?).map nmF = _; rw [HX.out]; rfl])
                        clear HL HD2
                        go_wp2_with fail
                        go_roundw
                        case rel => exact ⟨(j + 1) + 1, by omega, by go_num, HM, hw4, hbx4⟩
                        case measure => simp [intOf]; omega
                      · have HM : Hid (chkV (.mk k n s is fs) = z) := Lib.hid (by rw [HN.out, HL.out, HD2.out, if_neg (Int.not_le.2 hle), if_pos hz])
                        clear HL HD2
                        go_wp2_with fail
                        go_ret
                        exact ⟨ret_int HM.out.symm, by rw [HXB.out]; exact hw4⟩
          · have hqe : q = fs.length := by omega
            subst hqe
            have HE : Hid (chkV (.mk k n s is fs) = 0) := Lib.hid (by rw [HN.out, HL.out, List.drop_length, chkFs])
            go_wp2_with fail
            go_ret
            exact ⟨ret_int HE.out.symm, by rw [HXB.out]; exact hw⟩
  · have HE : Hid (chkV (.mk k n s is fs) = z) := Lib.hid (chk_bad HO.out hz0)
    go_wp2_with fail
    go_ret
    exact ⟨ret_int HE.out.symm, by rw [HXB.out]; exact hbW⟩
mutual
theorem ckV : ∀ x : V, CkAt x
  | .mk k n s is fs => ckAll_at k n s is fs (ckL is) (ckF fs)
theorem ckL : ∀ l : List V, ∀ x ∈ l, CkAt x
  | [] => fun _ h => by cases h
  | y :: l => fun x h => (List.mem_cons.1 h).elim (fun e => e ▸ ckV y) (fun h => ckL l x h)
theorem ckF : ∀ l : List F, ∀ f ∈ l, CkAt (vlF f)
  | [] => fun _ h => by cases h
  | .mk nm y :: l => fun f h => (List.mem_cons.1 h).elim (fun e => by rw [e]; exact ckV y) (fun h => ckF l f h)
end
set_option maxRecDepth 100000 in
set_option maxHeartbeats 8000000 in
theorem refCheck_at (x : V) (cs : List Value) (w : World) (h : RepV w x cs) (hpn : pN x ≤ 1048576) : Calls Tryd.prog 12 #[.agg cs.toArray] w fun e w' => e = .returned (.int .i64 (chkF x)) ∧ Below w.heap.size w w' := by
  obtain ⟨k0, n0, s0, ai, m, q, af, m', q', rfl⟩ := V5 h
  have HX := Lib.hid h
  have HPN := Lib.hid hpn
  clear h hpn
  go_enter Tryd.func12, Tryd.ntmps12
  go_upto_region 1 with (fail)
  refine wp_box1 fun W hszW hbW hA => ?_
  have a0 : W.cell? ⟨w.heap.size, 0, none⟩ = some (.int .i64 k0) := hA.2 0
  have a1 : W.cell? ⟨w.heap.size, 1, none⟩ = some (.int .i64 n0) := hA.2 1
  have a2 : W.cell? ⟨w.heap.size, 2, none⟩ = some (.string s0) := hA.2 2
  have a3 : W.cell? ⟨w.heap.size, 3, none⟩ = some (.slice ai m q) := hA.2 3
  have a4 : W.cell? ⟨w.heap.size, 4, none⟩ = some (.slice af m' q') := hA.2 4
  clear hszW hA
  go_wp2_with fail
  refine (partsV x 1 _ W (RepV.ext hbW HX.out) HPN.out (by omega) (by omega)).mono ?_
  rintro e w1 ⟨pn, d, rfl, hrp, hb1⟩
  have HC := Lib.hid (chkF_is (by have := HPN.out; omega) hrp)
  have hw1 := ext_trans hbW hb1
  replace a0 := cell_later hb1 a0
  replace a1 := cell_later hb1 a1
  replace a2 := cell_later hb1 a2
  replace a3 := cell_later hb1 a3
  replace a4 := cell_later hb1 a4
  clear hbW hb1 hrp
  by_cases hd : d = true
  · have HN := Lib.hid (HC.out.trans (if_pos (.inl hd)))
    subst hd
    clear HC
    go_wp2_with fail
    go_ret
    exact ⟨ret_int HN.out.symm, hw1⟩
  · by_cases h1 : 1000 < pn
    · have HN := Lib.hid (HC.out.trans (if_pos (.inr h1)))
      obtain rfl : d = false := by simpa using hd
      clear HC
      go_wp2_with fail
      go_ret
      exact ⟨ret_int HN.out.symm, hw1⟩
    · have HN := Lib.hid (HC.out.trans (if_neg (fun h => h.elim hd h1)))
      obtain rfl : d = false := by simpa using hd
      clear HC
      go_wp2_with fail
      refine (ckV x _ w1 (RepV.ext hw1 HX.out)).mono ?_
      rintro e w2 ⟨rfl, hb2⟩
      go_wp2_with fail
      go_ret
      exact ⟨ret_int HN.out.symm, ext_trans hw1 hb2⟩
end Fd
end Go.Proofs.YtkjgifhklajifaaDoor
namespace Go.Proofs.YtkjgifhklajifaaDoor
open Go.RowKit
namespace Fd
open _root_.Go.Proofs.YtkjgifhklajifaaDoor.Nm
open _root_.Go.Proofs.YtkjgifhklajifaaDoor.Nt (RH RH.cell RH.box RH.lt RH.new RH.ext RH.fre RH.set RH.other)
open _root_.Go.Proofs.YtkjgifhklajifaaDoor.Rw (All2 All2.get All2.length wpList_load_agg wp_stored)
set_option maxRecDepth 100000 in
set_option maxHeartbeats 16000000 in
theorem refShow_at (x : V) (cs : List Value) (w : World) (hx : RepV w x cs) (hT : Tx.Tb w) (hM : Tx.Ml w) (hp : pN x ≤ 1048576) : Calls Tryd.prog 10 #[.agg cs.toArray] w fun e w' => e = .returned (.tuple #[.string (Tx.stB (shwF x).1), .int .i64 (shwF x).2]) ∧ Below w.heap.size w w' := by
  obtain ⟨k1, n1, s1, b1, b2, b3, b4, b5, b6, rfl⟩ := V5 hx
  have HX := Lib.hid hx
  have HT := Lib.hid hT
  have HP := Lib.hid hp
  have HM := Lib.hid hM
  obtain ⟨z, hz⟩ : ∃ z, chkF x = z := ⟨_, rfl⟩
  have HZ := Lib.hid hz
  have HC : Hid (shwF x = if z ≠ 0 then ([], z) else if 20000 < (wrV x).length then ([], 2) else (wrV x, 0)) := Lib.hid (by rw [← hz]; rfl)
  clear hx hT hM hz hp
  go_enter Tryd.func10, Tryd.ntmps10
  go_upto_region 1 with (fail)
  refine Tx.wp_vr1 fun W hbW hR1 => ?_
  obtain ⟨a0, a1, a2, a3, a4⟩ := va5 hR1
  have HR1 := Lib.hid hR1
  have HBW := Lib.hid hbW
  clear hR1 hbW
  go_wp2_with fail
  refine (refCheck_at x _ W (RepV.ext HBW.out HX.out) HP.out).mono ?_
  rintro e w1 ⟨rfl, hb1⟩
  rw [HZ.out]
  have HB1 := Lib.hid (ext_trans HBW.out hb1)
  have HQ1 := Lib.hid (HR1.out.ext hb1)
  clear a0 a1 a2 a3 a4 hb1 HR1
  by_cases h : z = 0
  · have HN := Lib.hid (HC.out.trans (if_neg (by rw [h]; simp)))
    have HCK : Hid (chkV x = 0) := Lib.hid (chkF_chkV (HZ.out.trans h))
    have HLN : Hid ((wrV x).length ≤ 2000000) := Lib.hid (by
      have h1 := wr_len HCK.out
      have h2 := chk_few' HP.out (HZ.out.trans h)
      omega)
    subst h
    clear HC
    obtain ⟨a0, a1, a2, a3, a4⟩ := va5 HQ1.out
    go_wp2_with fail
    refine (rwV x _ w1 (RepV.ext HB1.out HX.out) (HT.out.ext HB1.out) (HM.out.ext HB1.out) HCK.out (by have := HLN.out; omega)).mono ?_
    rintro e w2 ⟨rfl, hb2⟩
    have HB2 := Lib.hid (ext_trans HB1.out hb2)
    obtain ⟨t, ht⟩ : ∃ t, wrV x = t := ⟨_, rfl⟩
    rw [ht] at HN HLN ⊢
    have hsz : (Tx.stB t).size = t.length := Tx.stB_size t
    clear a0 a1 a2 a3 a4 hb2 ht
    obtain ⟨u, hu⟩ : ∃ u, Tx.stB t = u := ⟨_, rfl⟩
    rw [hu] at hsz ⊢
    have HU := Lib.hid hu
    have HSU := Lib.hid hsz
    clear hsz hu
    by_cases hg : 20000 < t.length
    · have HN2 := Lib.hid (HN.out.trans (if_pos hg))
      have hgi : (20000 : Int) < (u.size : Int) := by have := HSU.out; omega
      clear HN hg
      go_wp2
      go_ret2
      exact ⟨by rw [HN2.out]; rfl, HB2.out⟩
    · have HN2 := Lib.hid (HN.out.trans (if_neg hg))
      have hgi : ¬ (20000 : Int) < (u.size : Int) := by have := HSU.out; omega
      clear HN hg
      go_wp2
      go_ret2
      exact ⟨by rw [HN2.out, ← HU.out]; rfl, HB2.out⟩
  · have HN := Lib.hid (HC.out.trans (if_pos h))
    have hzb : (z != 0) = true := by simpa using h
    clear HC
    go_wp2
    go_ret2
    exact ⟨by rw [HN.out]; rfl, HB1.out⟩
end Fd
end Go.Proofs.YtkjgifhklajifaaDoor
namespace Go.Proofs.YtkjgifhklajifaaDoor
open Go.RowKit
namespace Fd
open _root_.Go.Proofs.YtkjgifhklajifaaDoor.Nt (RH RH.cell RH.box RH.lt RH.new RH.ext RH.fre RH.set RH.other)
open _root_.Go.Proofs.YtkjgifhklajifaaDoor.Rw (wp_region_below callsGrow GrownOf GrownOf.of)
set_option maxRecDepth 100000 in
set_option maxHeartbeats 16000000 in
theorem lawCks_at (x : V) (cs : List Value) (w : World) (hx : RepV w x cs) (hp : pN x ≤ 1048576) (hT : Tx.Tb w) (hM : Tx.Ml w) : Calls Tryd.prog 4 #[.agg cs.toArray] w fun e w' => e = .returned (.bool true) ∧ Below w.heap.size w w' := by
  obtain ⟨k1, n1, s1, b1, b2, b3, b4, b5, b6, rfl⟩ := V5 hx
  have HX := Lib.hid hx
  have HP := Lib.hid hp
  have HT := Lib.hid hT
  have HM := Lib.hid hM
  obtain ⟨z, hz⟩ : ∃ z, chkF x = z := ⟨_, rfl⟩
  have HZ := Lib.hid hz
  obtain ⟨u, hu⟩ : ∃ u, Tx.stB (shwF x).1 = u := ⟨_, rfl⟩
  obtain ⟨f, hf⟩ : ∃ f, (shwF x).2 = f := ⟨_, rfl⟩
  have HS1 : Hid (∀ W9, Below w.heap.size w W9 → Calls Tryd.prog 9 #[.agg #[.int .i64 k1, .int .i64 n1, .string s1, .slice b1 b2 b3, .slice b4 b5 b6]] W9 fun e w' => e = .returned (.tuple #[.string u, .int .i64 f]) ∧ Below W9.heap.size W9 w') := Lib.hid (fun W9 hW => by rw [← hu, ← hf]; exact show_at x _ W9 (RepV.ext hW hx) (hT.ext hW) hp)
  have HS2 : Hid (∀ W9, Below w.heap.size w W9 → Calls Tryd.prog 10 #[.agg #[.int .i64 k1, .int .i64 n1, .string s1, .slice b1 b2 b3, .slice b4 b5 b6]] W9 fun e w' => e = .returned (.tuple #[.string u, .int .i64 f]) ∧ Below W9.heap.size W9 w') := Lib.hid (fun W9 hW => by rw [← hu, ← hf]; exact refShow_at x _ W9 (RepV.ext hW hx) (hT.ext hW) (hM.ext hW) hp)
  have HC1 : Hid (∀ W9, Below w.heap.size w W9 → Calls Tryd.prog 11 #[.agg #[.int .i64 k1, .int .i64 n1, .string s1, .slice b1 b2 b3, .slice b4 b5 b6]] W9 fun e w' => e = .returned (.int .i64 z) ∧ Below W9.heap.size W9 w') := Lib.hid (fun W9 hW => by rw [← hz]; exact check_at x _ W9 (RepV.ext hW hx))
  have HC2 : Hid (∀ W9, Below w.heap.size w W9 → Calls Tryd.prog 12 #[.agg #[.int .i64 k1, .int .i64 n1, .string s1, .slice b1 b2 b3, .slice b4 b5 b6]] W9 fun e w' => e = .returned (.int .i64 z) ∧ Below W9.heap.size W9 w') := Lib.hid (fun W9 hW => by rw [← hz]; exact refCheck_at x _ W9 (RepV.ext hW hx) hp)
  clear hx hp hT hM hz hu hf
  go_enter Tryd.func4, Tryd.ntmps4
  go_upto_region 1 with (fail)
  refine Tx.wp_vr1 fun W hbW hR1 => ?_
  obtain ⟨a0, a1, a2, a3, a4⟩ := va5 hR1
  have HR1 := Lib.hid hR1
  have HBW := Lib.hid hbW
  clear hR1 hbW
  go_wp2_with fail
  refine (HS1.out W HBW.out).mono ?_
  rintro e w1 ⟨rfl, hb1⟩
  have HB1 := Lib.hid (ext_trans HBW.out hb1)
  have HR2 := Lib.hid (HR1.out.ext hb1)
  clear a0 a1 a2 a3 a4 hb1 HR1
  obtain ⟨a0, a1, a2, a3, a4⟩ := va5 HR2.out
  go_wp2_with fail
  refine (HS2.out w1 HB1.out).mono ?_
  rintro e w2 ⟨rfl, hb2⟩
  have HB2 := Lib.hid (ext_trans HB1.out hb2)
  have HR3 := Lib.hid (HR2.out.ext hb2)
  clear a0 a1 a2 a3 a4 hb2 HR2
  have q0 : ∀ p : GrownOf w2, p.v.cell? ⟨w.heap.size, 0, none⟩ = some (.int .i64 k1) := fun p => (va5 (HR3.out.ext p.b)).1
  have q1 : ∀ p : GrownOf w2, p.v.cell? ⟨w.heap.size, 1, none⟩ = some (.int .i64 n1) := fun p => (va5 (HR3.out.ext p.b)).2.1
  have q2 : ∀ p : GrownOf w2, p.v.cell? ⟨w.heap.size, 2, none⟩ = some (.string s1) := fun p => (va5 (HR3.out.ext p.b)).2.2.1
  have q3 : ∀ p : GrownOf w2, p.v.cell? ⟨w.heap.size, 3, none⟩ = some (.slice b1 b2 b3) := fun p => (va5 (HR3.out.ext p.b)).2.2.2.1
  have q4 : ∀ p : GrownOf w2, p.v.cell? ⟨w.heap.size, 4, none⟩ = some (.slice b4 b5 b6) := fun p => (va5 (HR3.out.ext p.b)).2.2.2.2
  have hc1 : ∀ p : GrownOf w2, Calls Tryd.prog 11 #[.agg #[.int .i64 k1, .int .i64 n1, .string s1, .slice b1 b2 b3, .slice b4 b5 b6]] p.v fun e w' => e = .returned (.int .i64 z) ∧ Below p.v.heap.size p.v w' := fun p => HC1.out p.v (ext_trans HB2.out p.b)
  have hc2 : ∀ p : GrownOf w2, Calls Tryd.prog 12 #[.agg #[.int .i64 k1, .int .i64 n1, .string s1, .slice b1 b2 b3, .slice b4 b5 b6]] p.v fun e w' => e = .returned (.int .i64 z) ∧ Below p.v.heap.size p.v w' := fun p => HC2.out p.v (ext_trans HB2.out p.b)
  go_upto_region 3 with (fail)
  (refine wp_region_below (by kernel_rfl) (by kernel_rfl) ?_
   repeat (quiet_step (first | (go_at_call 11; refine callsGrow (hc1 _)) | (go_at_call 12; refine callsGrow (hc2 _))))
   refine wpQuiet_nil ?_
   intro wq hw'
   have hbq := GrownOf.of hw'
   clear hw')
  have HB9 := Lib.hid (ext_trans HB2.out hbq)
  clear q0 q1 q2 q3 q4 hc1 hc2 hbq
  go_wp2
  go_ret
  exact ⟨by simp, HB9.out⟩
end Fd
end Go.Proofs.YtkjgifhklajifaaDoor
