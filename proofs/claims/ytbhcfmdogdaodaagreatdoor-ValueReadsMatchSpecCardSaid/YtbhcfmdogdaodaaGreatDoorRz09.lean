/- checkPart and Check of package value. Printed by gen_vprt.py. -/
import Derived.Test.YtbhcfmdogdaodaaGreatDoorRz08
import Derived.Test.YtbhcfmdogdaodaaGreatDoorRz05
import Derived.BigQuiet
import Derived.IntWalk
namespace Go.Proofs.YtbhcfmdogdaodaaGreatDoor
open Go.RowKit
namespace Fd
open _root_.Go.Proofs.YtbhcfmdogdaodaaGreatDoor.Nt (RH RH.cell RH.box RH.lt RH.new RH.ext RH.fre RH.set RH.other)
open _root_.Go.Proofs.YtbhcfmdogdaodaaGreatDoor.Rw (All2 All2.get wpList_load_agg wp_stored fl_at)
theorem drop_get {α : Type} {l : List α} {q : Nat} {x : α} (h : l[q]? = some x) : l.drop q = x :: l.drop (q + 1) := by
  obtain ⟨hq, rfl⟩ := List.getElem?_eq_some_iff.1 h
  exact List.drop_eq_getElem_cons hq
theorem chk_bad {k n : Int} {s : ByteArray} {is : List V} {fs : List F} {c : Int} (h : ownF k n s is.length fs.length = c) (hc : c ≠ 0) : chkV (.mk k n s is fs) = c := by rw [chkV, h, if_pos hc]
theorem leq_yes {a b : ByteArray} (h : cmpS a b ≤ 0) : (Op.bytesLess a.toList b.toList || a.toList == b.toList) = true := by
  cases hb : Op.bytesLess a.toList b.toList with
  | true => rfl
  | false =>
    cases hk : (!a.toList == b.toList) with
    | false => simpa using hk
    | true => have := cmpS_gt hb hk; omega
theorem leq_no {a b : ByteArray} (h : ¬ cmpS a b ≤ 0) : (Op.bytesLess a.toList b.toList || a.toList == b.toList) = false := by
  cases hb : Op.bytesLess a.toList b.toList with
  | true => have := cmpS_lt hb; omega
  | false =>
    cases hk : (!a.toList == b.toList) with
    | false => have := cmpS_eq hk; omega
    | true => simpa using hk
section
variable {k n : Int} {s : ByteArray} {is : List V} {fs : List F}
theorem own4 (h : k < 0 ∨ 5 < k) : chkV (.mk k n s is fs) = 4 := chk_bad (by unfold ownF; rw [if_pos h]) (by decide)
theorem own3 (h : ¬ (k < 0 ∨ 5 < k)) (h2 : spareB k n s is.length fs.length = true) : chkV (.mk k n s is fs) = 3 := chk_bad (by unfold ownF; rw [if_neg h, if_pos h2]) (by decide)
/-- in no range -/
def ranB (k n : Int) : Prop := k = 1 ∧ n ≠ 0 ∧ n ≠ 1 ∨ k = 2 ∧ (n ≤ -1000000000000000 ∨ 1000000000000000 ≤ n)
theorem own11 (h : ¬ (k < 0 ∨ 5 < k)) (h2 : spareB k n s is.length fs.length = false) (h3 : ranB k n) : chkV (.mk k n s is fs) = 1 := chk_bad (by unfold ownF; rw [if_neg h, if_neg (by rw [h2]; simp), if_pos (show _ ∨ _ from h3)]) (by decide)
theorem own2 (h : ¬ (k < 0 ∨ 5 < k)) (h2 : spareB k n s is.length fs.length = false) (h3 : ¬ ranB k n) (h4 : 500 < s.size) : chkV (.mk k n s is fs) = 2 := chk_bad (by unfold ownF; rw [if_neg h, if_neg (by rw [h2]; simp), if_neg (show ¬ (_ ∨ _) from h3), if_pos h4]) (by decide)
theorem own1 (h : ¬ (k < 0 ∨ 5 < k)) (h2 : spareB k n s is.length fs.length = false) (h3 : ¬ ranB k n) (h4 : ¬ 500 < s.size) (h5 : seenB s = false) : chkV (.mk k n s is fs) = 1 := chk_bad (by unfold ownF; rw [if_neg h, if_neg (by rw [h2]; simp), if_neg (show ¬ (_ ∨ _) from h3), if_neg h4, if_pos h5]) (by decide)
theorem own22 (h : ¬ (k < 0 ∨ 5 < k)) (h2 : spareB k n s is.length fs.length = false) (h3 : ¬ ranB k n) (h4 : ¬ 500 < s.size) (h5 : seenB s = true) (h6 : 100 < is.length ∨ 100 < fs.length) : chkV (.mk k n s is fs) = 2 := chk_bad (by unfold ownF; rw [if_neg h, if_neg (by rw [h2]; simp), if_neg (show ¬ (_ ∨ _) from h3), if_neg h4, if_neg (by rw [h5]; simp), if_pos h6]) (by decide)
theorem own0 (h : ¬ (k < 0 ∨ 5 < k)) (h2 : spareB k n s is.length fs.length = false) (h3 : ¬ ranB k n) (h4 : ¬ 500 < s.size) (h5 : seenB s = true) (h6 : ¬ (100 < is.length ∨ 100 < fs.length)) : chkV (.mk k n s is fs) = if chkL is ≠ 0 then chkL is else chkFs none fs := by
  have : ownF k n s is.length fs.length = 0 := by unfold ownF; rw [if_neg h, if_neg (by rw [h2]; simp), if_neg (show ¬ (_ ∨ _) from h3), if_neg h4, if_neg (by rw [h5]; simp), if_neg h6]
  rw [chkV, if_neg (by rw [this]; simp)]
end
theorem ret_int {a b : Int} (h : a = b) : Ending.returned (.int .i64 a) = .returned (.int .i64 b) := by rw [h]
/-- the name of the field before -/
def prvF (fs : List F) : Nat → Option ByteArray
  | 0 => none
  | q + 1 => (fs[q]?).map nmF
/-- what checkPart answers -/
def PartAt (x : V) : Prop := ∀ (cs : List Value) (w : World), RepV w x cs → Calls Tryz.prog 43 #[.agg cs.toArray] w fun e w' => e = .returned (.int .i64 (chkV x)) ∧ Below w.heap.size w w'
set_option maxRecDepth 100000 in
set_option maxHeartbeats 16000000 in
theorem part_at (k n : Int) (s : ByteArray) (is : List V) (fs : List F) (hI : ∀ x ∈ is, PartAt x) (hF : ∀ f ∈ fs, PartAt (vlF f)) : PartAt (.mk k n s is fs) := by
  intro cs w h
  obtain ⟨ai, ci, af, cf, EI, EF, rfl, _, _, hsz, hV⟩ := RepV.open h
  have HV := Lib.hid hV
  have HI := Lib.hid hI
  have HF := Lib.hid hF
  have hl1 : (is.length : Int) ≤ 9223372036854775807 := by obtain ⟨_, _, e, k1, k2, _⟩ := hV.si; cases e; unfold maxLen at k2; omega
  have hl2 : (fs.length : Int) ≤ 9223372036854775807 := by obtain ⟨_, _, e, k1, k2, _⟩ := hV.sf; cases e; unfold maxLen at k2; omega
  unfold maxLen at hsz
  clear h hV hI hF
  go_enter Tryz.func43, Tryz.ntmps43
  go_upto_region 1 with (fail)
  refine wp_box1 fun W hszW hbW hA => ?_
  have HA1 := Lib.hid hA
  generalize hb : w.heap.size = b at *
  have HXB := Lib.hid hb
  have a0 : W.cell? ⟨b, 0, none⟩ = some (.int .i64 k) := hA.2 0
  have a1 : W.cell? ⟨b, 1, none⟩ = some (.int .i64 n) := hA.2 1
  have a2 : W.cell? ⟨b, 2, none⟩ = some (.string s) := hA.2 2
  have a3 : W.cell? ⟨b, 3, none⟩ = some (.slice ai is.length ci) := hA.2 3
  have a4 : W.cell? ⟨b, 4, none⟩ = some (.slice af fs.length cf) := hA.2 4
  clear hszW hA hb
  by_cases h4 : k < 0 ∨ 5 < k
  · have HC := Lib.hid (own4 (n := n) (s := s) (is := is) (fs := fs) h4)
    rcases h4 with h4 | h4
    · go_wp2_with fail
      go_ret
      exact ⟨ret_int HC.out.symm, by rw [HXB.out]; exact hbW⟩
    · go_wp2_with fail
      go_ret
      exact ⟨ret_int HC.out.symm, by rw [HXB.out]; exact hbW⟩
  · have h40 : 0 ≤ k := by omega
    have h45 : k ≤ 5 := by omega
    go_wp2_with fail
    refine (spare_at k n s ai af is.length fs.length ci cf (by unfold maxLen; omega) (by unfold maxLen; omega) (by unfold maxLen; omega) W).mono ?_
    rintro e w1 ⟨rfl, hb1⟩
    obtain ⟨sp, hsp⟩ : ∃ b, spareB k n s is.length fs.length = b := ⟨_, rfl⟩
    rw [hsp]
    have HS := Lib.hid hsp
    replace a0 := cell_later hb1 a0
    replace a1 := cell_later hb1 a1
    replace a2 := cell_later hb1 a2
    replace a3 := cell_later hb1 a3
    replace a4 := cell_later hb1 a4
    have HA0 : Hid (b < W.heap.size) := Lib.hid HA1.out.1
    replace HA1 : Hid (Box w1 b #[.int .i64 k, .int .i64 n, .string s, .slice ai is.length ci, .slice af fs.length cf]) := Lib.hid (HA1.out.ext hb1)
    replace hbW : Below b w w1 := hbW.trans (hb1.mono (Nat.le_of_lt HA0.out))
    clear hb1 hsp
    cases sp with
    | true =>
      have HC := Lib.hid (own3 (is := is) (fs := fs) h4 HS.out)
      go_wp2_with fail
      go_ret
      exact ⟨ret_int HC.out.symm, by rw [HXB.out]; exact hbW⟩
    | false =>
      by_cases e1 : k = 1
      · by_cases r2 : n = 0
        · have HR : Hid (¬ ranB k n) := Lib.hid (by unfold ranB; omega)
          subst e1 r2
          by_cases h5 : 500 < s.size
          · have HC := Lib.hid (own2 (is := is) (fs := fs) h4 HS.out HR.out h5)
            go_wp2_with fail
            go_ret
            exact ⟨ret_int HC.out.symm, by rw [HXB.out]; exact hbW⟩
          · go_wp2_with fail
            refine (seen_at s (by unfold maxLen; omega) _).mono ?_
            rintro e w2 ⟨rfl, rfl⟩
            have HSN : Hid (∀ b, seenB s = b → seenB s = b) := Lib.hid (fun _ h => h)
            obtain ⟨sn, hsn⟩ : ∃ b, seenB s = b := ⟨_, rfl⟩
            rw [hsn]
            have HSN := Lib.hid hsn
            clear hsn
            cases sn with
            | false =>
              have HC := Lib.hid (own1 (is := is) (fs := fs) h4 HS.out HR.out h5 HSN.out)
              go_wp2_with fail
              go_ret
              exact ⟨ret_int HC.out.symm, by rw [HXB.out]; exact hbW⟩
            | true =>
              by_cases h6 : 100 < is.length ∨ 100 < fs.length
              · have HC := Lib.hid (own22 (is := is) (fs := fs) h4 HS.out HR.out h5 HSN.out h6)
                by_cases h7 : 100 < is.length
                · clear h6
                  go_wp2_with fail
                  go_ret
                  exact ⟨ret_int HC.out.symm, by rw [HXB.out]; exact hbW⟩
                · have h8 : 100 < fs.length := h6.resolve_left h7
                  clear h6
                  go_wp2_with fail
                  go_ret
                  exact ⟨ret_int HC.out.symm, by rw [HXB.out]; exact hbW⟩
              · have h7 : ¬ 100 < is.length := fun h => h6 (.inl h)
                have h8 : ¬ 100 < fs.length := fun h => h6 (.inr h)
                have HC := Lib.hid (own0 (is := is) (fs := fs) h4 HS.out HR.out h5 HSN.out h6)
                clear h6 HS HR HSN
                go_wp2_with fail
                go_loopw [72] (fun i wr => ∃ q : Nat, q ≤ is.length ∧ i = .int .i64 (q : Int) ∧ Hid (chkL is = chkL (is.drop q)) ∧ Below b w wr ∧ Box wr b #[.int .i64 1, .int .i64 0, .string s, .slice ai is.length ci, .slice af fs.length cf]) (fun i _ => is.length - (intOf i).toNat)
                case atStart => exact ⟨0, by omega, rfl, Lib.hid rfl, hbW, HA1.out⟩
                case round =>
                  obtain ⟨q, hq, rfl, HL, hw, hbx⟩ := hrel
                  generalize hX : wr = X at *
                  clear hX hbW
                  by_cases hlt : q < is.length
                  · obtain ⟨x, hx⟩ : ∃ x, is[q]? = some x := ⟨_, List.getElem?_eq_getElem hlt⟩
                    have hVX := HV.out.ext (w' := X) (by rw [HXB.out]; exact hw)
                    obtain ⟨c, hc, hrx⟩ := All2.get hVX.ri hx
                    obtain ⟨p0, o0, rfl, hp0, hcell⟩ := sl_elem hVX.si (all_len (fun _ _ => RepV.len) hVX.ri) (by omega) hc
                    have hqi : (q : Int) < (is.length : Int) := by omega
                    have HX := Lib.hid hx
                    have HRX := Lib.hid hrx
                    have hcl : c.length = 5 := hrx.len
                    have HONE := Lib.hid (all_arr (RepV.one hrx))
                    have HINF := Lib.hid (v_info hrx)
                    have HSZ : Hid (5 = c.toArray.size) := Lib.hid (by simp [hcl])
                    have HBX : Hid (b < X.heap.size) := Lib.hid hbx.1
                    clear hVX hc hrx hx
                    go_upto_region 17 with (first | (refine wpList_load_agg rfl _ _ rfl p0 (o0 + q * 5) (by rfl) c (fun j v hj => by rw [Nat.add_assoc]; exact hcell j v hj) _ Tryz.underlying25 rfl HINF.out ?_) | (refine wpList_store_row rfl _ _ _ rfl X.heap.size c.toArray rfl rfl _ _ (Nt.RH.new _ _ _) HINF.out HSZ.out HONE.out ?_))
                    refine wp_stored fun V hbV hR => ?_
                    have hwV := hw.trans (hbV.mono (Nat.le_of_lt HBX.out))
                    replace hbx := box_low hbx hbV HBX.out
                    have HC1 := Lib.hid (HI.out x (List.mem_of_getElem? HX.out) c V (RepV.ext hbV HRX.out))
                    clear hbV hcell hp0 hw HONE HINF HRX
                    generalize X.heap.size = bx at *
                    go_wp2_with (refine wpList_load_agg rfl _ _ rfl bx 0 (by rfl) c (fun j v hj => by rw [Nat.zero_add, hR.cell]; exact (List.getElem?_toArray).trans hj) _ Tryz.underlying25 rfl (by rw [hcl]; kernel_rfl) ?_)
                    refine HC1.out.mono ?_
                    rintro e w2 ⟨rfl, k1⟩
                    have HVS := hbx.1
                    have hw2 := hwV.trans (k1.mono (Nat.le_of_lt HVS))
                    have hbx2 := box_low hbx k1 HVS
                    have HDR : Hid (chkL (is.drop q) = if chkV x ≠ 0 then chkV x else chkL (is.drop (q + 1))) := Lib.hid (by rw [drop_get HX.out, chkL])
                    generalize chkV x = z at *
                    clear k1 hwV hbx hR HVS
                    by_cases hz : z = 0
                    · have HN : Hid (chkL is = chkL (is.drop (q + 1))) := Lib.hid (by rw [HL.out, HDR.out, if_neg (by simp [hz])])
                      clear HL HDR
                      go_wp2_with fail
                      go_roundw
                      case rel => exact ⟨q + 1, by omega, by go_num, HN, hw2, hbx2⟩
                      case measure => simp [intOf]; omega
                    · have HN : Hid (chkV (.mk 1 0 s is fs) = z) := Lib.hid (by rw [HC.out, HL.out, HDR.out, if_pos hz, if_pos hz])
                      clear HL HDR
                      go_wp2_with fail
                      go_ret
                      exact ⟨ret_int HN.out.symm, by rw [HXB.out]; exact hw2⟩
                  · have hqe : q = is.length := by omega
                    subst hqe
                    have HN : Hid (chkV (.mk 1 0 s is fs) = chkFs none fs) := Lib.hid (by rw [HC.out, HL.out, List.drop_length, chkL]; simp)
                    clear HL HC hlt
                    have c4 : X.cell? ⟨b, 4, none⟩ = some (.slice af fs.length cf) := hbx.2 4
                    have HB2 := Lib.hid hbx
                    have hw0 := hw
                    clear hbx hw
                    go_wp2_with fail
                    go_loopw [85] (fun i wr => ∃ q : Nat, q ≤ fs.length ∧ i = .int .i64 (q : Int) ∧ Hid (chkFs none fs = chkFs (prvF fs q) (fs.drop q)) ∧ Below b w wr ∧ Box wr b #[.int .i64 1, .int .i64 0, .string s, .slice ai is.length ci, .slice af fs.length cf]) (fun i _ => fs.length - (intOf i).toNat)
                    case atStart => exact ⟨0, by omega, rfl, Lib.hid rfl, hw0, HB2.out⟩
                    case round =>
                      obtain ⟨q, hq, rfl, HL, hw, hbx⟩ := hrel
                      generalize hX : wr = Y at *
                      clear hX hw0 c4
                      by_cases hlt : q < fs.length
                      · obtain ⟨f, hx⟩ : ∃ x, fs[q]? = some x := ⟨_, List.getElem?_eq_getElem hlt⟩
                        have hVX := HV.out.ext (w' := Y) (by rw [HXB.out]; exact hw)
                        obtain ⟨c, hc, hrx⟩ := All2.get hVX.rf hx
                        obtain ⟨p1, o1, rfl, hp0, hcell⟩ := sl_elem hVX.sf (all_len (fun _ _ => RepF.len) hVX.rf) (by omega) hc
                        have hqi : (q : Int) < (fs.length : Int) := by omega
                        have HX := Lib.hid hx
                        have hcl : c.length = 6 := hrx.len
                        have HONE := Lib.hid (all_arr (RepF.one hrx))
                        have HINF := Lib.hid (f_info hrx)
                        have HSZ : Hid (6 = c.toArray.size) := Lib.hid (by simp [hcl])
                        obtain ⟨nm, x⟩ := f
                        have hrx' := hrx
                        simp only [RepF] at hrx'
                        obtain ⟨cv, hcv, hnm, hrv⟩ := hrx'
                        have HRX := Lib.hid hrv
                        have hcvl : cv.length = 5 := hrv.len
                        have HCV := Lib.hid hcv
                        have HBX : Hid (b < Y.heap.size) := Lib.hid hbx.1
                        clear hVX hc hrx hx hrv hcv
                        go_upto_region 24 with (first | (refine wpList_load_agg rfl _ _ rfl p1 (o1 + q * 6) (by rfl) c (fun j v hj => by rw [Nat.add_assoc]; exact hcell j v hj) _ Tryz.underlying54 rfl HINF.out ?_) | (refine wpList_store_row rfl _ _ _ rfl Y.heap.size c.toArray rfl rfl _ _ (Nt.RH.new _ _ _) HINF.out HSZ.out HONE.out ?_))
                        refine wp_stored fun V hbV hR => ?_
                        have hwV := hw.trans (hbV.mono (Nat.le_of_lt HBX.out))
                        replace hbx := box_low hbx hbV HBX.out
                        have HRV : Hid (RepV V x cv) := Lib.hid (RepV.ext hbV HRX.out)
                        have HCP := Lib.hid (HF.out (.mk nm x) (List.mem_of_getElem? HX.out))
                        have HDR : Hid (chkFs (prvF fs q) (fs.drop q) = if nameBad nm = true then 5 else if ordBad (prvF fs q) nm = true then 8 else if chkV x ≠ 0 then chkV x else chkFs (some nm) (fs.drop (q + 1))) := Lib.hid (by rw [drop_get HX.out, chkFs])
                        have hcv6 : ∀ (j : Nat) (v : Value), cv[j]? = some v → V.cell? ⟨Y.heap.size, 1 + j, none⟩ = some v := fun j v hj => by
                          rw [hR.cell, HCV.out, List.getElem?_toArray, Nat.add_comm, List.getElem?_cons_succ]; exact hj
                        have b0 : V.cell? ⟨Y.heap.size, 0, none⟩ = some (.string nm) := by rw [hR.cell, HCV.out]; rfl
                        have HBZ : Hid (Y.heap.size < V.heap.size) := Lib.hid hR.lt
                        have hYb : b ≤ Y.heap.size := Nat.le_of_lt HBX.out
                        have c4 : V.cell? ⟨b, 4, none⟩ = some (.slice (some ⟨p1, o1, none⟩) fs.length cf) := hbx.2 4
                        have HVV := Lib.hid (HV.out.ext (w' := V) (by rw [HXB.out]; exact hwV))
                        clear hbV hcell hp0 hw HONE HINF HRX hR
                        generalize Y.heap.size = bx at *
                        unfold maxLen at hnm
                        by_cases m1 : nm.size = 0
                        · have HE : Hid (chkV (.mk 1 0 s is fs) = 5) := Lib.hid (by rw [HN.out, HL.out, HDR.out, if_pos (by unfold nameBad; simp [m1])])
                          have m1' : nm.toList = [] := toList_nil.2 m1
                          clear HN HL HDR
                          go_wp2_with fail
                          go_ret
                          exact ⟨ret_int HE.out.symm, by rw [HXB.out]; exact hwV⟩
                        · have m1' : nm.toList.isEmpty = false := by
                            cases hq : nm.toList with
                            | nil => exact absurd (toList_nil.1 hq) m1
                            | cons _ _ => rfl
                          by_cases m2 : 60 < nm.size
                          · have HE : Hid (chkV (.mk 1 0 s is fs) = 5) := Lib.hid (by rw [HN.out, HL.out, HDR.out, if_pos (by unfold nameBad; simp [m2])])
                            clear HN HL HDR
                            go_wp2_with fail
                            go_ret
                            exact ⟨ret_int HE.out.symm, by rw [HXB.out]; exact hwV⟩
                          · go_wp2_with fail
                            refine (seen_at nm (by unfold maxLen; omega) _).mono ?_
                            rintro e w3 ⟨rfl, rfl⟩
                            obtain ⟨sn, hsn⟩ : ∃ b, seenB nm = b := ⟨_, rfl⟩
                            rw [hsn]
                            have HSN := Lib.hid hsn
                            clear hsn
                            cases sn with
                            | false =>
                              have HE : Hid (chkV (.mk 1 0 s is fs) = 5) := Lib.hid (by rw [HN.out, HL.out, HDR.out, if_pos (by unfold nameBad; simp [HSN.out])])
                              clear HN HL HDR
                              go_wp2_with fail
                              go_ret
                              exact ⟨ret_int HE.out.symm, by rw [HXB.out]; exact hwV⟩
                            | true =>
                              have HNB : Hid (nameBad nm = false) := Lib.hid (by unfold nameBad; simp [m1, m2, HSN.out])
                              by_cases hq0 : q = 0
                              · subst hq0
                                have HD2 : Hid (chkFs (prvF fs 0) (fs.drop 0) = if chkV x ≠ 0 then chkV x else chkFs (some nm) (fs.drop (0 + 1))) := Lib.hid (by rw [HDR.out, if_neg (by rw [HNB.out]; simp), if_neg (by simp [prvF, ordBad])])
                                clear HDR
                                go_wp2_with fail
                                go_quiet (fail)
                                rename_i nq
                                have hbZ : Below V.heap.size V (V.drewN nq) := below_drewN (Below.refl _ _) nq
                                have hwZ := hwV.trans (hbZ.mono (Nat.le_of_lt hbx.1))
                                have hbxZ : Box (V.drewN nq) b #[.int .i64 1, .int .i64 0, .string s, .slice ai is.length ci, .slice (some ⟨p1, o1, none⟩) fs.length cf] := hbx.ext hbZ
                                have HRZ := Lib.hid (RepV.ext hbZ HRV.out)
                                have hcvZ : ∀ (j : Nat) (v : Value), cv[j]? = some v → (V.drewN nq).cell? ⟨bx, 1 + j, none⟩ = some v := fun j v hj => cell_later hbZ (hcv6 j v hj)
                                clear hbx hwV HRV hcv6 b0 c4 hbZ
                                generalize V.drewN nq = Z at *
                                have HCQ := Lib.hid (HCP.out cv Z HRZ.out)
                                clear HRZ HCP
                                go_wp2_with (refine wpList_load_agg rfl _ _ rfl bx 1 (by rfl) cv hcvZ _ Tryz.underlying25 rfl (by rw [hcvl]; kernel_rfl) ?_)
                                refine HCQ.out.mono ?_
                                rintro e w4 ⟨rfl, k1⟩
                                have hw4 := hwZ.trans (k1.mono (Nat.le_of_lt hbxZ.1))
                                have hbx4 := box_low hbxZ k1 hbxZ.1
                                clear k1 hwZ hbxZ hcvZ
                                have HVF : Hid (chkV (vlF (.mk nm x)) = chkV x) := Lib.hid rfl
                                rw [HVF.out]
                                generalize hzz : chkV x = z at *
                                by_cases hz : z = 0
                                · have HM : Hid (chkFs none fs = chkFs (prvF fs (0 + 1)) (fs.drop (0 + 1))) := Lib.hid (by
                                    rw [HL.out, HD2.out, if_neg (by simp [hz]), show prvF fs (0 + 1) = some nm by show (fs[0]?).map nmF = _; rw [HX.out]; rfl])
                                  clear HL HD2
                                  go_wp2_with fail
                                  go_roundw
                                  case rel => exact ⟨0 + 1, by omega, by go_num, HM, hw4, hbx4⟩
                                  case measure => simp [intOf]; omega
                                · have HM : Hid (chkV (.mk 1 0 s is fs) = z) := Lib.hid (by rw [HN.out, HL.out, HD2.out, if_pos hz])
                                  clear HL HD2
                                  go_wp2_with fail
                                  go_ret
                                  exact ⟨ret_int HM.out.symm, by rw [HXB.out]; exact hw4⟩
                              · obtain ⟨j, rfl⟩ : ∃ j, q = j + 1 := ⟨q - 1, by omega⟩
                                obtain ⟨g, hg⟩ : ∃ x, fs[j]? = some x := ⟨_, List.getElem?_eq_getElem (by omega)⟩
                                obtain ⟨c', hc', hrg⟩ := All2.get HVV.out.rf hg
                                obtain ⟨p2, o2, e2, hp2, hcell2⟩ := sl_elem HVV.out.sf (all_len (fun _ _ => RepF.len) HVV.out.rf) (by omega) hc'
                                cases e2
                                have d0 : V.cell? ⟨p1, o1 + j * 6, none⟩ = some (.string (nmF g)) := by
                                  obtain ⟨gn, gx⟩ := g
                                  simp only [RepF] at hrg
                                  obtain ⟨cw, rfl, _, _⟩ := hrg
                                  exact hcell2 0 _ rfl
                                clear hcell2 hp2 hrg hc' hq0
                                have hj0 : (0 : Int) ≤ (j : Int) := Int.natCast_nonneg _
                                have hj1 : (j : Int) < (fs.length : Int) := by omega
                                have hpos : decide ((0 : Int) < (j : Int) + 1) = true := decide_eq_true (by omega)
                                have hwj : IntKind.i64.wrap (j : Int) = (j : Int) := IntWalk.i64_in _ (by omega)
                                have HD2 : Hid (chkFs (prvF fs (j + 1)) (fs.drop (j + 1)) = if cmpS nm (nmF g) ≤ 0 then 8 else if chkV x ≠ 0 then chkV x else chkFs (some nm) (fs.drop (j + 1 + 1))) := Lib.hid (by
                                  rw [HDR.out, if_neg (by rw [HNB.out]; simp), show prvF fs (j + 1) = some (nmF g) by show (fs[j]?).map nmF = _; rw [hg]; rfl]
                                  simp [ordBad])
                                clear HDR hg
                                go_wp2_with fail
                                go_quiet (fail)
                                rename_i nq
                                by_cases hle : cmpS nm (nmF g) ≤ 0
                                · have hlb : (Op.bytesLess nm.toList (nmF g).toList || nm.toList == (nmF g).toList) = true := leq_yes hle
                                  generalize (Op.bytesLess nm.toList (nmF g).toList || nm.toList == (nmF g).toList) = lb at *
                                  subst hlb
                                  have HM : Hid (chkV (.mk 1 0 s is fs) = 8) := Lib.hid (by rw [HN.out, HL.out, HD2.out, if_pos hle])
                                  have hwZ := hwV.trans ((below_drewN (Below.refl V.heap.size V) nq).mono (Nat.le_of_lt hbx.1))
                                  clear HL HD2 hpos hwj
                                  go_wp2_with fail
                                  go_ret
                                  exact ⟨ret_int HM.out.symm, by rw [HXB.out]; exact hwZ⟩
                                · have hlb : (Op.bytesLess nm.toList (nmF g).toList || nm.toList == (nmF g).toList) = false := leq_no hle
                                  generalize (Op.bytesLess nm.toList (nmF g).toList || nm.toList == (nmF g).toList) = lb at *
                                  subst hlb
                                  have hbZ : Below V.heap.size V (V.drewN nq) := below_drewN (Below.refl _ _) nq
                                  have hwZ := hwV.trans (hbZ.mono (Nat.le_of_lt hbx.1))
                                  have hbxZ : Box (V.drewN nq) b #[.int .i64 1, .int .i64 0, .string s, .slice ai is.length ci, .slice (some ⟨p1, o1, none⟩) fs.length cf] := hbx.ext hbZ
                                  have HRZ := Lib.hid (RepV.ext hbZ HRV.out)
                                  have hcvZ : ∀ (j : Nat) (v : Value), cv[j]? = some v → (V.drewN nq).cell? ⟨bx, 1 + j, none⟩ = some v := fun j v hj => cell_later hbZ (hcv6 j v hj)
                                  clear hbx hwV HRV hcv6 b0 c4 hbZ d0 hpos hwj
                                  generalize V.drewN nq = Z at *
                                  have HCQ := Lib.hid (HCP.out cv Z HRZ.out)
                                  clear HRZ HCP
                                  go_wp2_with (refine wpList_load_agg rfl _ _ rfl bx 1 (by rfl) cv hcvZ _ Tryz.underlying25 rfl (by rw [hcvl]; kernel_rfl) ?_)
                                  refine HCQ.out.mono ?_
                                  rintro e w4 ⟨rfl, k1⟩
                                  have hw4 := hwZ.trans (k1.mono (Nat.le_of_lt hbxZ.1))
                                  have hbx4 := box_low hbxZ k1 hbxZ.1
                                  clear k1 hwZ hbxZ hcvZ
                                  have HVF : Hid (chkV (vlF (.mk nm x)) = chkV x) := Lib.hid rfl
                                  rw [HVF.out]
                                  generalize hzz : chkV x = z at *
                                  by_cases hz : z = 0
                                  · have HM : Hid (chkFs none fs = chkFs (prvF fs ((j + 1) + 1)) (fs.drop ((j + 1) + 1))) := Lib.hid (by
                                      rw [HL.out, HD2.out, if_neg (Int.not_le.2 hle), if_neg (by simp [hz]), show prvF fs ((j + 1) + 1) = some nm by show (fs[(j + 1)]?).map nmF = _; rw [HX.out]; rfl])
                                    clear HL HD2
                                    go_wp2_with fail
                                    go_roundw
                                    case rel => exact ⟨(j + 1) + 1, by omega, by go_num, HM, hw4, hbx4⟩
                                    case measure => simp [intOf]; omega
                                  · have HM : Hid (chkV (.mk 1 0 s is fs) = z) := Lib.hid (by rw [HN.out, HL.out, HD2.out, if_neg (Int.not_le.2 hle), if_pos hz])
                                    clear HL HD2
                                    go_wp2_with fail
                                    go_ret
                                    exact ⟨ret_int HM.out.symm, by rw [HXB.out]; exact hw4⟩
                      · have hqe : q = fs.length := by omega
                        subst hqe
                        have HE : Hid (chkV (.mk 1 0 s is fs) = 0) := Lib.hid (by rw [HN.out, HL.out, List.drop_length, chkFs])
                        go_wp2_with fail
                        go_ret
                        exact ⟨ret_int HE.out.symm, by rw [HXB.out]; exact hw⟩
        · by_cases r3 : n = 1
          · have HR : Hid (¬ ranB k n) := Lib.hid (by unfold ranB; omega)
            subst e1 r3
            by_cases h5 : 500 < s.size
            · have HC := Lib.hid (own2 (is := is) (fs := fs) h4 HS.out HR.out h5)
              go_wp2_with fail
              go_ret
              exact ⟨ret_int HC.out.symm, by rw [HXB.out]; exact hbW⟩
            · go_wp2_with fail
              refine (seen_at s (by unfold maxLen; omega) _).mono ?_
              rintro e w2 ⟨rfl, rfl⟩
              have HSN : Hid (∀ b, seenB s = b → seenB s = b) := Lib.hid (fun _ h => h)
              obtain ⟨sn, hsn⟩ : ∃ b, seenB s = b := ⟨_, rfl⟩
              rw [hsn]
              have HSN := Lib.hid hsn
              clear hsn
              cases sn with
              | false =>
                have HC := Lib.hid (own1 (is := is) (fs := fs) h4 HS.out HR.out h5 HSN.out)
                go_wp2_with fail
                go_ret
                exact ⟨ret_int HC.out.symm, by rw [HXB.out]; exact hbW⟩
              | true =>
                by_cases h6 : 100 < is.length ∨ 100 < fs.length
                · have HC := Lib.hid (own22 (is := is) (fs := fs) h4 HS.out HR.out h5 HSN.out h6)
                  by_cases h7 : 100 < is.length
                  · clear h6
                    go_wp2_with fail
                    go_ret
                    exact ⟨ret_int HC.out.symm, by rw [HXB.out]; exact hbW⟩
                  · have h8 : 100 < fs.length := h6.resolve_left h7
                    clear h6
                    go_wp2_with fail
                    go_ret
                    exact ⟨ret_int HC.out.symm, by rw [HXB.out]; exact hbW⟩
                · have h7 : ¬ 100 < is.length := fun h => h6 (.inl h)
                  have h8 : ¬ 100 < fs.length := fun h => h6 (.inr h)
                  have HC := Lib.hid (own0 (is := is) (fs := fs) h4 HS.out HR.out h5 HSN.out h6)
                  clear h6 HS HR HSN
                  go_wp2_with fail
                  go_loopw [72] (fun i wr => ∃ q : Nat, q ≤ is.length ∧ i = .int .i64 (q : Int) ∧ Hid (chkL is = chkL (is.drop q)) ∧ Below b w wr ∧ Box wr b #[.int .i64 1, .int .i64 1, .string s, .slice ai is.length ci, .slice af fs.length cf]) (fun i _ => is.length - (intOf i).toNat)
                  case atStart => exact ⟨0, by omega, rfl, Lib.hid rfl, hbW, HA1.out⟩
                  case round =>
                    obtain ⟨q, hq, rfl, HL, hw, hbx⟩ := hrel
                    generalize hX : wr = X at *
                    clear hX hbW
                    by_cases hlt : q < is.length
                    · obtain ⟨x, hx⟩ : ∃ x, is[q]? = some x := ⟨_, List.getElem?_eq_getElem hlt⟩
                      have hVX := HV.out.ext (w' := X) (by rw [HXB.out]; exact hw)
                      obtain ⟨c, hc, hrx⟩ := All2.get hVX.ri hx
                      obtain ⟨p0, o0, rfl, hp0, hcell⟩ := sl_elem hVX.si (all_len (fun _ _ => RepV.len) hVX.ri) (by omega) hc
                      have hqi : (q : Int) < (is.length : Int) := by omega
                      have HX := Lib.hid hx
                      have HRX := Lib.hid hrx
                      have hcl : c.length = 5 := hrx.len
                      have HONE := Lib.hid (all_arr (RepV.one hrx))
                      have HINF := Lib.hid (v_info hrx)
                      have HSZ : Hid (5 = c.toArray.size) := Lib.hid (by simp [hcl])
                      have HBX : Hid (b < X.heap.size) := Lib.hid hbx.1
                      clear hVX hc hrx hx
                      go_upto_region 17 with (first | (refine wpList_load_agg rfl _ _ rfl p0 (o0 + q * 5) (by rfl) c (fun j v hj => by rw [Nat.add_assoc]; exact hcell j v hj) _ Tryz.underlying25 rfl HINF.out ?_) | (refine wpList_store_row rfl _ _ _ rfl X.heap.size c.toArray rfl rfl _ _ (Nt.RH.new _ _ _) HINF.out HSZ.out HONE.out ?_))
                      refine wp_stored fun V hbV hR => ?_
                      have hwV := hw.trans (hbV.mono (Nat.le_of_lt HBX.out))
                      replace hbx := box_low hbx hbV HBX.out
                      have HC1 := Lib.hid (HI.out x (List.mem_of_getElem? HX.out) c V (RepV.ext hbV HRX.out))
                      clear hbV hcell hp0 hw HONE HINF HRX
                      generalize X.heap.size = bx at *
                      go_wp2_with (refine wpList_load_agg rfl _ _ rfl bx 0 (by rfl) c (fun j v hj => by rw [Nat.zero_add, hR.cell]; exact (List.getElem?_toArray).trans hj) _ Tryz.underlying25 rfl (by rw [hcl]; kernel_rfl) ?_)
                      refine HC1.out.mono ?_
                      rintro e w2 ⟨rfl, k1⟩
                      have HVS := hbx.1
                      have hw2 := hwV.trans (k1.mono (Nat.le_of_lt HVS))
                      have hbx2 := box_low hbx k1 HVS
                      have HDR : Hid (chkL (is.drop q) = if chkV x ≠ 0 then chkV x else chkL (is.drop (q + 1))) := Lib.hid (by rw [drop_get HX.out, chkL])
                      generalize chkV x = z at *
                      clear k1 hwV hbx hR HVS
                      by_cases hz : z = 0
                      · have HN : Hid (chkL is = chkL (is.drop (q + 1))) := Lib.hid (by rw [HL.out, HDR.out, if_neg (by simp [hz])])
                        clear HL HDR
                        go_wp2_with fail
                        go_roundw
                        case rel => exact ⟨q + 1, by omega, by go_num, HN, hw2, hbx2⟩
                        case measure => simp [intOf]; omega
                      · have HN : Hid (chkV (.mk 1 1 s is fs) = z) := Lib.hid (by rw [HC.out, HL.out, HDR.out, if_pos hz, if_pos hz])
                        clear HL HDR
                        go_wp2_with fail
                        go_ret
                        exact ⟨ret_int HN.out.symm, by rw [HXB.out]; exact hw2⟩
                    · have hqe : q = is.length := by omega
                      subst hqe
                      have HN : Hid (chkV (.mk 1 1 s is fs) = chkFs none fs) := Lib.hid (by rw [HC.out, HL.out, List.drop_length, chkL]; simp)
                      clear HL HC hlt
                      have c4 : X.cell? ⟨b, 4, none⟩ = some (.slice af fs.length cf) := hbx.2 4
                      have HB2 := Lib.hid hbx
                      have hw0 := hw
                      clear hbx hw
                      go_wp2_with fail
                      go_loopw [85] (fun i wr => ∃ q : Nat, q ≤ fs.length ∧ i = .int .i64 (q : Int) ∧ Hid (chkFs none fs = chkFs (prvF fs q) (fs.drop q)) ∧ Below b w wr ∧ Box wr b #[.int .i64 1, .int .i64 1, .string s, .slice ai is.length ci, .slice af fs.length cf]) (fun i _ => fs.length - (intOf i).toNat)
                      case atStart => exact ⟨0, by omega, rfl, Lib.hid rfl, hw0, HB2.out⟩
                      case round =>
                        obtain ⟨q, hq, rfl, HL, hw, hbx⟩ := hrel
                        generalize hX : wr = Y at *
                        clear hX hw0 c4
                        by_cases hlt : q < fs.length
                        · obtain ⟨f, hx⟩ : ∃ x, fs[q]? = some x := ⟨_, List.getElem?_eq_getElem hlt⟩
                          have hVX := HV.out.ext (w' := Y) (by rw [HXB.out]; exact hw)
                          obtain ⟨c, hc, hrx⟩ := All2.get hVX.rf hx
                          obtain ⟨p1, o1, rfl, hp0, hcell⟩ := sl_elem hVX.sf (all_len (fun _ _ => RepF.len) hVX.rf) (by omega) hc
                          have hqi : (q : Int) < (fs.length : Int) := by omega
                          have HX := Lib.hid hx
                          have hcl : c.length = 6 := hrx.len
                          have HONE := Lib.hid (all_arr (RepF.one hrx))
                          have HINF := Lib.hid (f_info hrx)
                          have HSZ : Hid (6 = c.toArray.size) := Lib.hid (by simp [hcl])
                          obtain ⟨nm, x⟩ := f
                          have hrx' := hrx
                          simp only [RepF] at hrx'
                          obtain ⟨cv, hcv, hnm, hrv⟩ := hrx'
                          have HRX := Lib.hid hrv
                          have hcvl : cv.length = 5 := hrv.len
                          have HCV := Lib.hid hcv
                          have HBX : Hid (b < Y.heap.size) := Lib.hid hbx.1
                          clear hVX hc hrx hx hrv hcv
                          go_upto_region 24 with (first | (refine wpList_load_agg rfl _ _ rfl p1 (o1 + q * 6) (by rfl) c (fun j v hj => by rw [Nat.add_assoc]; exact hcell j v hj) _ Tryz.underlying54 rfl HINF.out ?_) | (refine wpList_store_row rfl _ _ _ rfl Y.heap.size c.toArray rfl rfl _ _ (Nt.RH.new _ _ _) HINF.out HSZ.out HONE.out ?_))
                          refine wp_stored fun V hbV hR => ?_
                          have hwV := hw.trans (hbV.mono (Nat.le_of_lt HBX.out))
                          replace hbx := box_low hbx hbV HBX.out
                          have HRV : Hid (RepV V x cv) := Lib.hid (RepV.ext hbV HRX.out)
                          have HCP := Lib.hid (HF.out (.mk nm x) (List.mem_of_getElem? HX.out))
                          have HDR : Hid (chkFs (prvF fs q) (fs.drop q) = if nameBad nm = true then 5 else if ordBad (prvF fs q) nm = true then 8 else if chkV x ≠ 0 then chkV x else chkFs (some nm) (fs.drop (q + 1))) := Lib.hid (by rw [drop_get HX.out, chkFs])
                          have hcv6 : ∀ (j : Nat) (v : Value), cv[j]? = some v → V.cell? ⟨Y.heap.size, 1 + j, none⟩ = some v := fun j v hj => by
                            rw [hR.cell, HCV.out, List.getElem?_toArray, Nat.add_comm, List.getElem?_cons_succ]; exact hj
                          have b0 : V.cell? ⟨Y.heap.size, 0, none⟩ = some (.string nm) := by rw [hR.cell, HCV.out]; rfl
                          have HBZ : Hid (Y.heap.size < V.heap.size) := Lib.hid hR.lt
                          have hYb : b ≤ Y.heap.size := Nat.le_of_lt HBX.out
                          have c4 : V.cell? ⟨b, 4, none⟩ = some (.slice (some ⟨p1, o1, none⟩) fs.length cf) := hbx.2 4
                          have HVV := Lib.hid (HV.out.ext (w' := V) (by rw [HXB.out]; exact hwV))
                          clear hbV hcell hp0 hw HONE HINF HRX hR
                          generalize Y.heap.size = bx at *
                          unfold maxLen at hnm
                          by_cases m1 : nm.size = 0
                          · have HE : Hid (chkV (.mk 1 1 s is fs) = 5) := Lib.hid (by rw [HN.out, HL.out, HDR.out, if_pos (by unfold nameBad; simp [m1])])
                            have m1' : nm.toList = [] := toList_nil.2 m1
                            clear HN HL HDR
                            go_wp2_with fail
                            go_ret
                            exact ⟨ret_int HE.out.symm, by rw [HXB.out]; exact hwV⟩
                          · have m1' : nm.toList.isEmpty = false := by
                              cases hq : nm.toList with
                              | nil => exact absurd (toList_nil.1 hq) m1
                              | cons _ _ => rfl
                            by_cases m2 : 60 < nm.size
                            · have HE : Hid (chkV (.mk 1 1 s is fs) = 5) := Lib.hid (by rw [HN.out, HL.out, HDR.out, if_pos (by unfold nameBad; simp [m2])])
                              clear HN HL HDR
                              go_wp2_with fail
                              go_ret
                              exact ⟨ret_int HE.out.symm, by rw [HXB.out]; exact hwV⟩
                            · go_wp2_with fail
                              refine (seen_at nm (by unfold maxLen; omega) _).mono ?_
                              rintro e w3 ⟨rfl, rfl⟩
                              obtain ⟨sn, hsn⟩ : ∃ b, seenB nm = b := ⟨_, rfl⟩
                              rw [hsn]
                              have HSN := Lib.hid hsn
                              clear hsn
                              cases sn with
                              | false =>
                                have HE : Hid (chkV (.mk 1 1 s is fs) = 5) := Lib.hid (by rw [HN.out, HL.out, HDR.out, if_pos (by unfold nameBad; simp [HSN.out])])
                                clear HN HL HDR
                                go_wp2_with fail
                                go_ret
                                exact ⟨ret_int HE.out.symm, by rw [HXB.out]; exact hwV⟩
                              | true =>
                                have HNB : Hid (nameBad nm = false) := Lib.hid (by unfold nameBad; simp [m1, m2, HSN.out])
                                by_cases hq0 : q = 0
                                · subst hq0
                                  have HD2 : Hid (chkFs (prvF fs 0) (fs.drop 0) = if chkV x ≠ 0 then chkV x else chkFs (some nm) (fs.drop (0 + 1))) := Lib.hid (by rw [HDR.out, if_neg (by rw [HNB.out]; simp), if_neg (by simp [prvF, ordBad])])
                                  clear HDR
                                  go_wp2_with fail
                                  go_quiet (fail)
                                  rename_i nq
                                  have hbZ : Below V.heap.size V (V.drewN nq) := below_drewN (Below.refl _ _) nq
                                  have hwZ := hwV.trans (hbZ.mono (Nat.le_of_lt hbx.1))
                                  have hbxZ : Box (V.drewN nq) b #[.int .i64 1, .int .i64 1, .string s, .slice ai is.length ci, .slice (some ⟨p1, o1, none⟩) fs.length cf] := hbx.ext hbZ
                                  have HRZ := Lib.hid (RepV.ext hbZ HRV.out)
                                  have hcvZ : ∀ (j : Nat) (v : Value), cv[j]? = some v → (V.drewN nq).cell? ⟨bx, 1 + j, none⟩ = some v := fun j v hj => cell_later hbZ (hcv6 j v hj)
                                  clear hbx hwV HRV hcv6 b0 c4 hbZ
                                  generalize V.drewN nq = Z at *
                                  have HCQ := Lib.hid (HCP.out cv Z HRZ.out)
                                  clear HRZ HCP
                                  go_wp2_with (refine wpList_load_agg rfl _ _ rfl bx 1 (by rfl) cv hcvZ _ Tryz.underlying25 rfl (by rw [hcvl]; kernel_rfl) ?_)
                                  refine HCQ.out.mono ?_
                                  rintro e w4 ⟨rfl, k1⟩
                                  have hw4 := hwZ.trans (k1.mono (Nat.le_of_lt hbxZ.1))
                                  have hbx4 := box_low hbxZ k1 hbxZ.1
                                  clear k1 hwZ hbxZ hcvZ
                                  have HVF : Hid (chkV (vlF (.mk nm x)) = chkV x) := Lib.hid rfl
                                  rw [HVF.out]
                                  generalize hzz : chkV x = z at *
                                  by_cases hz : z = 0
                                  · have HM : Hid (chkFs none fs = chkFs (prvF fs (0 + 1)) (fs.drop (0 + 1))) := Lib.hid (by
                                      rw [HL.out, HD2.out, if_neg (by simp [hz]), show prvF fs (0 + 1) = some nm by show (fs[0]?).map nmF = _; rw [HX.out]; rfl])
                                    clear HL HD2
                                    go_wp2_with fail
                                    go_roundw
                                    case rel => exact ⟨0 + 1, by omega, by go_num, HM, hw4, hbx4⟩
                                    case measure => simp [intOf]; omega
                                  · have HM : Hid (chkV (.mk 1 1 s is fs) = z) := Lib.hid (by rw [HN.out, HL.out, HD2.out, if_pos hz])
                                    clear HL HD2
                                    go_wp2_with fail
                                    go_ret
                                    exact ⟨ret_int HM.out.symm, by rw [HXB.out]; exact hw4⟩
                                · obtain ⟨j, rfl⟩ : ∃ j, q = j + 1 := ⟨q - 1, by omega⟩
                                  obtain ⟨g, hg⟩ : ∃ x, fs[j]? = some x := ⟨_, List.getElem?_eq_getElem (by omega)⟩
                                  obtain ⟨c', hc', hrg⟩ := All2.get HVV.out.rf hg
                                  obtain ⟨p2, o2, e2, hp2, hcell2⟩ := sl_elem HVV.out.sf (all_len (fun _ _ => RepF.len) HVV.out.rf) (by omega) hc'
                                  cases e2
                                  have d0 : V.cell? ⟨p1, o1 + j * 6, none⟩ = some (.string (nmF g)) := by
                                    obtain ⟨gn, gx⟩ := g
                                    simp only [RepF] at hrg
                                    obtain ⟨cw, rfl, _, _⟩ := hrg
                                    exact hcell2 0 _ rfl
                                  clear hcell2 hp2 hrg hc' hq0
                                  have hj0 : (0 : Int) ≤ (j : Int) := Int.natCast_nonneg _
                                  have hj1 : (j : Int) < (fs.length : Int) := by omega
                                  have hpos : decide ((0 : Int) < (j : Int) + 1) = true := decide_eq_true (by omega)
                                  have hwj : IntKind.i64.wrap (j : Int) = (j : Int) := IntWalk.i64_in _ (by omega)
                                  have HD2 : Hid (chkFs (prvF fs (j + 1)) (fs.drop (j + 1)) = if cmpS nm (nmF g) ≤ 0 then 8 else if chkV x ≠ 0 then chkV x else chkFs (some nm) (fs.drop (j + 1 + 1))) := Lib.hid (by
                                    rw [HDR.out, if_neg (by rw [HNB.out]; simp), show prvF fs (j + 1) = some (nmF g) by show (fs[j]?).map nmF = _; rw [hg]; rfl]
                                    simp [ordBad])
                                  clear HDR hg
                                  go_wp2_with fail
                                  go_quiet (fail)
                                  rename_i nq
                                  by_cases hle : cmpS nm (nmF g) ≤ 0
                                  · have hlb : (Op.bytesLess nm.toList (nmF g).toList || nm.toList == (nmF g).toList) = true := leq_yes hle
                                    generalize (Op.bytesLess nm.toList (nmF g).toList || nm.toList == (nmF g).toList) = lb at *
                                    subst hlb
                                    have HM : Hid (chkV (.mk 1 1 s is fs) = 8) := Lib.hid (by rw [HN.out, HL.out, HD2.out, if_pos hle])
                                    have hwZ := hwV.trans ((below_drewN (Below.refl V.heap.size V) nq).mono (Nat.le_of_lt hbx.1))
                                    clear HL HD2 hpos hwj
                                    go_wp2_with fail
                                    go_ret
                                    exact ⟨ret_int HM.out.symm, by rw [HXB.out]; exact hwZ⟩
                                  · have hlb : (Op.bytesLess nm.toList (nmF g).toList || nm.toList == (nmF g).toList) = false := leq_no hle
                                    generalize (Op.bytesLess nm.toList (nmF g).toList || nm.toList == (nmF g).toList) = lb at *
                                    subst hlb
                                    have hbZ : Below V.heap.size V (V.drewN nq) := below_drewN (Below.refl _ _) nq
                                    have hwZ := hwV.trans (hbZ.mono (Nat.le_of_lt hbx.1))
                                    have hbxZ : Box (V.drewN nq) b #[.int .i64 1, .int .i64 1, .string s, .slice ai is.length ci, .slice (some ⟨p1, o1, none⟩) fs.length cf] := hbx.ext hbZ
                                    have HRZ := Lib.hid (RepV.ext hbZ HRV.out)
                                    have hcvZ : ∀ (j : Nat) (v : Value), cv[j]? = some v → (V.drewN nq).cell? ⟨bx, 1 + j, none⟩ = some v := fun j v hj => cell_later hbZ (hcv6 j v hj)
                                    clear hbx hwV HRV hcv6 b0 c4 hbZ d0 hpos hwj
                                    generalize V.drewN nq = Z at *
                                    have HCQ := Lib.hid (HCP.out cv Z HRZ.out)
                                    clear HRZ HCP
                                    go_wp2_with (refine wpList_load_agg rfl _ _ rfl bx 1 (by rfl) cv hcvZ _ Tryz.underlying25 rfl (by rw [hcvl]; kernel_rfl) ?_)
                                    refine HCQ.out.mono ?_
                                    rintro e w4 ⟨rfl, k1⟩
                                    have hw4 := hwZ.trans (k1.mono (Nat.le_of_lt hbxZ.1))
                                    have hbx4 := box_low hbxZ k1 hbxZ.1
                                    clear k1 hwZ hbxZ hcvZ
                                    have HVF : Hid (chkV (vlF (.mk nm x)) = chkV x) := Lib.hid rfl
                                    rw [HVF.out]
                                    generalize hzz : chkV x = z at *
                                    by_cases hz : z = 0
                                    · have HM : Hid (chkFs none fs = chkFs (prvF fs ((j + 1) + 1)) (fs.drop ((j + 1) + 1))) := Lib.hid (by
                                        rw [HL.out, HD2.out, if_neg (Int.not_le.2 hle), if_neg (by simp [hz]), show prvF fs ((j + 1) + 1) = some nm by show (fs[(j + 1)]?).map nmF = _; rw [HX.out]; rfl])
                                      clear HL HD2
                                      go_wp2_with fail
                                      go_roundw
                                      case rel => exact ⟨(j + 1) + 1, by omega, by go_num, HM, hw4, hbx4⟩
                                      case measure => simp [intOf]; omega
                                    · have HM : Hid (chkV (.mk 1 1 s is fs) = z) := Lib.hid (by rw [HN.out, HL.out, HD2.out, if_neg (Int.not_le.2 hle), if_pos hz])
                                      clear HL HD2
                                      go_wp2_with fail
                                      go_ret
                                      exact ⟨ret_int HM.out.symm, by rw [HXB.out]; exact hw4⟩
                        · have hqe : q = fs.length := by omega
                          subst hqe
                          have HE : Hid (chkV (.mk 1 1 s is fs) = 0) := Lib.hid (by rw [HN.out, HL.out, List.drop_length, chkFs])
                          go_wp2_with fail
                          go_ret
                          exact ⟨ret_int HE.out.symm, by rw [HXB.out]; exact hw⟩
          · have HC := Lib.hid (own11 (is := is) (fs := fs) h4 HS.out (.inl ⟨e1, r2, r3⟩))
            have r2' : (n != 0) = true := by simpa using r2
            have r3' : (n != 1) = true := by simpa using r3
            go_wp2_with fail
            go_ret
            exact ⟨ret_int HC.out.symm, by rw [HXB.out]; exact hbW⟩
      · by_cases e2 : k = 2
        · subst e2
          by_cases q1 : n ≤ -1000000000000000
          · have HC := Lib.hid (own11 (is := is) (fs := fs) h4 HS.out (.inr ⟨rfl, .inl q1⟩))
            go_wp2_with fail
            go_ret
            exact ⟨ret_int HC.out.symm, by rw [HXB.out]; exact hbW⟩
          · by_cases q2 : 1000000000000000 ≤ n
            · have HC := Lib.hid (own11 (is := is) (fs := fs) h4 HS.out (.inr ⟨rfl, .inr q2⟩))
              go_wp2_with fail
              go_ret
              exact ⟨ret_int HC.out.symm, by rw [HXB.out]; exact hbW⟩
            · have HR : Hid (¬ ranB 2 n) := Lib.hid (by unfold ranB; omega)
              by_cases h5 : 500 < s.size
              · have HC := Lib.hid (own2 (is := is) (fs := fs) h4 HS.out HR.out h5)
                go_wp2_with fail
                go_ret
                exact ⟨ret_int HC.out.symm, by rw [HXB.out]; exact hbW⟩
              · go_wp2_with fail
                refine (seen_at s (by unfold maxLen; omega) _).mono ?_
                rintro e w2 ⟨rfl, rfl⟩
                have HSN : Hid (∀ b, seenB s = b → seenB s = b) := Lib.hid (fun _ h => h)
                obtain ⟨sn, hsn⟩ : ∃ b, seenB s = b := ⟨_, rfl⟩
                rw [hsn]
                have HSN := Lib.hid hsn
                clear hsn
                cases sn with
                | false =>
                  have HC := Lib.hid (own1 (is := is) (fs := fs) h4 HS.out HR.out h5 HSN.out)
                  go_wp2_with fail
                  go_ret
                  exact ⟨ret_int HC.out.symm, by rw [HXB.out]; exact hbW⟩
                | true =>
                  by_cases h6 : 100 < is.length ∨ 100 < fs.length
                  · have HC := Lib.hid (own22 (is := is) (fs := fs) h4 HS.out HR.out h5 HSN.out h6)
                    by_cases h7 : 100 < is.length
                    · clear h6
                      go_wp2_with fail
                      go_ret
                      exact ⟨ret_int HC.out.symm, by rw [HXB.out]; exact hbW⟩
                    · have h8 : 100 < fs.length := h6.resolve_left h7
                      clear h6
                      go_wp2_with fail
                      go_ret
                      exact ⟨ret_int HC.out.symm, by rw [HXB.out]; exact hbW⟩
                  · have h7 : ¬ 100 < is.length := fun h => h6 (.inl h)
                    have h8 : ¬ 100 < fs.length := fun h => h6 (.inr h)
                    have HC := Lib.hid (own0 (is := is) (fs := fs) h4 HS.out HR.out h5 HSN.out h6)
                    clear h6 HS HR HSN
                    go_wp2_with fail
                    go_loopw [72] (fun i wr => ∃ q : Nat, q ≤ is.length ∧ i = .int .i64 (q : Int) ∧ Hid (chkL is = chkL (is.drop q)) ∧ Below b w wr ∧ Box wr b #[.int .i64 2, .int .i64 n, .string s, .slice ai is.length ci, .slice af fs.length cf]) (fun i _ => is.length - (intOf i).toNat)
                    case atStart => exact ⟨0, by omega, rfl, Lib.hid rfl, hbW, HA1.out⟩
                    case round =>
                      obtain ⟨q, hq, rfl, HL, hw, hbx⟩ := hrel
                      generalize hX : wr = X at *
                      clear hX hbW
                      by_cases hlt : q < is.length
                      · obtain ⟨x, hx⟩ : ∃ x, is[q]? = some x := ⟨_, List.getElem?_eq_getElem hlt⟩
                        have hVX := HV.out.ext (w' := X) (by rw [HXB.out]; exact hw)
                        obtain ⟨c, hc, hrx⟩ := All2.get hVX.ri hx
                        obtain ⟨p0, o0, rfl, hp0, hcell⟩ := sl_elem hVX.si (all_len (fun _ _ => RepV.len) hVX.ri) (by omega) hc
                        have hqi : (q : Int) < (is.length : Int) := by omega
                        have HX := Lib.hid hx
                        have HRX := Lib.hid hrx
                        have hcl : c.length = 5 := hrx.len
                        have HONE := Lib.hid (all_arr (RepV.one hrx))
                        have HINF := Lib.hid (v_info hrx)
                        have HSZ : Hid (5 = c.toArray.size) := Lib.hid (by simp [hcl])
                        have HBX : Hid (b < X.heap.size) := Lib.hid hbx.1
                        clear hVX hc hrx hx
                        go_upto_region 17 with (first | (refine wpList_load_agg rfl _ _ rfl p0 (o0 + q * 5) (by rfl) c (fun j v hj => by rw [Nat.add_assoc]; exact hcell j v hj) _ Tryz.underlying25 rfl HINF.out ?_) | (refine wpList_store_row rfl _ _ _ rfl X.heap.size c.toArray rfl rfl _ _ (Nt.RH.new _ _ _) HINF.out HSZ.out HONE.out ?_))
                        refine wp_stored fun V hbV hR => ?_
                        have hwV := hw.trans (hbV.mono (Nat.le_of_lt HBX.out))
                        replace hbx := box_low hbx hbV HBX.out
                        have HC1 := Lib.hid (HI.out x (List.mem_of_getElem? HX.out) c V (RepV.ext hbV HRX.out))
                        clear hbV hcell hp0 hw HONE HINF HRX
                        generalize X.heap.size = bx at *
                        go_wp2_with (refine wpList_load_agg rfl _ _ rfl bx 0 (by rfl) c (fun j v hj => by rw [Nat.zero_add, hR.cell]; exact (List.getElem?_toArray).trans hj) _ Tryz.underlying25 rfl (by rw [hcl]; kernel_rfl) ?_)
                        refine HC1.out.mono ?_
                        rintro e w2 ⟨rfl, k1⟩
                        have HVS := hbx.1
                        have hw2 := hwV.trans (k1.mono (Nat.le_of_lt HVS))
                        have hbx2 := box_low hbx k1 HVS
                        have HDR : Hid (chkL (is.drop q) = if chkV x ≠ 0 then chkV x else chkL (is.drop (q + 1))) := Lib.hid (by rw [drop_get HX.out, chkL])
                        generalize chkV x = z at *
                        clear k1 hwV hbx hR HVS
                        by_cases hz : z = 0
                        · have HN : Hid (chkL is = chkL (is.drop (q + 1))) := Lib.hid (by rw [HL.out, HDR.out, if_neg (by simp [hz])])
                          clear HL HDR
                          go_wp2_with fail
                          go_roundw
                          case rel => exact ⟨q + 1, by omega, by go_num, HN, hw2, hbx2⟩
                          case measure => simp [intOf]; omega
                        · have HN : Hid (chkV (.mk 2 n s is fs) = z) := Lib.hid (by rw [HC.out, HL.out, HDR.out, if_pos hz, if_pos hz])
                          clear HL HDR
                          go_wp2_with fail
                          go_ret
                          exact ⟨ret_int HN.out.symm, by rw [HXB.out]; exact hw2⟩
                      · have hqe : q = is.length := by omega
                        subst hqe
                        have HN : Hid (chkV (.mk 2 n s is fs) = chkFs none fs) := Lib.hid (by rw [HC.out, HL.out, List.drop_length, chkL]; simp)
                        clear HL HC hlt
                        have c4 : X.cell? ⟨b, 4, none⟩ = some (.slice af fs.length cf) := hbx.2 4
                        have HB2 := Lib.hid hbx
                        have hw0 := hw
                        clear hbx hw
                        go_wp2_with fail
                        go_loopw [85] (fun i wr => ∃ q : Nat, q ≤ fs.length ∧ i = .int .i64 (q : Int) ∧ Hid (chkFs none fs = chkFs (prvF fs q) (fs.drop q)) ∧ Below b w wr ∧ Box wr b #[.int .i64 2, .int .i64 n, .string s, .slice ai is.length ci, .slice af fs.length cf]) (fun i _ => fs.length - (intOf i).toNat)
                        case atStart => exact ⟨0, by omega, rfl, Lib.hid rfl, hw0, HB2.out⟩
                        case round =>
                          obtain ⟨q, hq, rfl, HL, hw, hbx⟩ := hrel
                          generalize hX : wr = Y at *
                          clear hX hw0 c4
                          by_cases hlt : q < fs.length
                          · obtain ⟨f, hx⟩ : ∃ x, fs[q]? = some x := ⟨_, List.getElem?_eq_getElem hlt⟩
                            have hVX := HV.out.ext (w' := Y) (by rw [HXB.out]; exact hw)
                            obtain ⟨c, hc, hrx⟩ := All2.get hVX.rf hx
                            obtain ⟨p1, o1, rfl, hp0, hcell⟩ := sl_elem hVX.sf (all_len (fun _ _ => RepF.len) hVX.rf) (by omega) hc
                            have hqi : (q : Int) < (fs.length : Int) := by omega
                            have HX := Lib.hid hx
                            have hcl : c.length = 6 := hrx.len
                            have HONE := Lib.hid (all_arr (RepF.one hrx))
                            have HINF := Lib.hid (f_info hrx)
                            have HSZ : Hid (6 = c.toArray.size) := Lib.hid (by simp [hcl])
                            obtain ⟨nm, x⟩ := f
                            have hrx' := hrx
                            simp only [RepF] at hrx'
                            obtain ⟨cv, hcv, hnm, hrv⟩ := hrx'
                            have HRX := Lib.hid hrv
                            have hcvl : cv.length = 5 := hrv.len
                            have HCV := Lib.hid hcv
                            have HBX : Hid (b < Y.heap.size) := Lib.hid hbx.1
                            clear hVX hc hrx hx hrv hcv
                            go_upto_region 24 with (first | (refine wpList_load_agg rfl _ _ rfl p1 (o1 + q * 6) (by rfl) c (fun j v hj => by rw [Nat.add_assoc]; exact hcell j v hj) _ Tryz.underlying54 rfl HINF.out ?_) | (refine wpList_store_row rfl _ _ _ rfl Y.heap.size c.toArray rfl rfl _ _ (Nt.RH.new _ _ _) HINF.out HSZ.out HONE.out ?_))
                            refine wp_stored fun V hbV hR => ?_
                            have hwV := hw.trans (hbV.mono (Nat.le_of_lt HBX.out))
                            replace hbx := box_low hbx hbV HBX.out
                            have HRV : Hid (RepV V x cv) := Lib.hid (RepV.ext hbV HRX.out)
                            have HCP := Lib.hid (HF.out (.mk nm x) (List.mem_of_getElem? HX.out))
                            have HDR : Hid (chkFs (prvF fs q) (fs.drop q) = if nameBad nm = true then 5 else if ordBad (prvF fs q) nm = true then 8 else if chkV x ≠ 0 then chkV x else chkFs (some nm) (fs.drop (q + 1))) := Lib.hid (by rw [drop_get HX.out, chkFs])
                            have hcv6 : ∀ (j : Nat) (v : Value), cv[j]? = some v → V.cell? ⟨Y.heap.size, 1 + j, none⟩ = some v := fun j v hj => by
                              rw [hR.cell, HCV.out, List.getElem?_toArray, Nat.add_comm, List.getElem?_cons_succ]; exact hj
                            have b0 : V.cell? ⟨Y.heap.size, 0, none⟩ = some (.string nm) := by rw [hR.cell, HCV.out]; rfl
                            have HBZ : Hid (Y.heap.size < V.heap.size) := Lib.hid hR.lt
                            have hYb : b ≤ Y.heap.size := Nat.le_of_lt HBX.out
                            have c4 : V.cell? ⟨b, 4, none⟩ = some (.slice (some ⟨p1, o1, none⟩) fs.length cf) := hbx.2 4
                            have HVV := Lib.hid (HV.out.ext (w' := V) (by rw [HXB.out]; exact hwV))
                            clear hbV hcell hp0 hw HONE HINF HRX hR
                            generalize Y.heap.size = bx at *
                            unfold maxLen at hnm
                            by_cases m1 : nm.size = 0
                            · have HE : Hid (chkV (.mk 2 n s is fs) = 5) := Lib.hid (by rw [HN.out, HL.out, HDR.out, if_pos (by unfold nameBad; simp [m1])])
                              have m1' : nm.toList = [] := toList_nil.2 m1
                              clear HN HL HDR
                              go_wp2_with fail
                              go_ret
                              exact ⟨ret_int HE.out.symm, by rw [HXB.out]; exact hwV⟩
                            · have m1' : nm.toList.isEmpty = false := by
                                cases hq : nm.toList with
                                | nil => exact absurd (toList_nil.1 hq) m1
                                | cons _ _ => rfl
                              by_cases m2 : 60 < nm.size
                              · have HE : Hid (chkV (.mk 2 n s is fs) = 5) := Lib.hid (by rw [HN.out, HL.out, HDR.out, if_pos (by unfold nameBad; simp [m2])])
                                clear HN HL HDR
                                go_wp2_with fail
                                go_ret
                                exact ⟨ret_int HE.out.symm, by rw [HXB.out]; exact hwV⟩
                              · go_wp2_with fail
                                refine (seen_at nm (by unfold maxLen; omega) _).mono ?_
                                rintro e w3 ⟨rfl, rfl⟩
                                obtain ⟨sn, hsn⟩ : ∃ b, seenB nm = b := ⟨_, rfl⟩
                                rw [hsn]
                                have HSN := Lib.hid hsn
                                clear hsn
                                cases sn with
                                | false =>
                                  have HE : Hid (chkV (.mk 2 n s is fs) = 5) := Lib.hid (by rw [HN.out, HL.out, HDR.out, if_pos (by unfold nameBad; simp [HSN.out])])
                                  clear HN HL HDR
                                  go_wp2_with fail
                                  go_ret
                                  exact ⟨ret_int HE.out.symm, by rw [HXB.out]; exact hwV⟩
                                | true =>
                                  have HNB : Hid (nameBad nm = false) := Lib.hid (by unfold nameBad; simp [m1, m2, HSN.out])
                                  by_cases hq0 : q = 0
                                  · subst hq0
                                    have HD2 : Hid (chkFs (prvF fs 0) (fs.drop 0) = if chkV x ≠ 0 then chkV x else chkFs (some nm) (fs.drop (0 + 1))) := Lib.hid (by rw [HDR.out, if_neg (by rw [HNB.out]; simp), if_neg (by simp [prvF, ordBad])])
                                    clear HDR
                                    go_wp2_with fail
                                    go_quiet (fail)
                                    rename_i nq
                                    have hbZ : Below V.heap.size V (V.drewN nq) := below_drewN (Below.refl _ _) nq
                                    have hwZ := hwV.trans (hbZ.mono (Nat.le_of_lt hbx.1))
                                    have hbxZ : Box (V.drewN nq) b #[.int .i64 2, .int .i64 n, .string s, .slice ai is.length ci, .slice (some ⟨p1, o1, none⟩) fs.length cf] := hbx.ext hbZ
                                    have HRZ := Lib.hid (RepV.ext hbZ HRV.out)
                                    have hcvZ : ∀ (j : Nat) (v : Value), cv[j]? = some v → (V.drewN nq).cell? ⟨bx, 1 + j, none⟩ = some v := fun j v hj => cell_later hbZ (hcv6 j v hj)
                                    clear hbx hwV HRV hcv6 b0 c4 hbZ
                                    generalize V.drewN nq = Z at *
                                    have HCQ := Lib.hid (HCP.out cv Z HRZ.out)
                                    clear HRZ HCP
                                    go_wp2_with (refine wpList_load_agg rfl _ _ rfl bx 1 (by rfl) cv hcvZ _ Tryz.underlying25 rfl (by rw [hcvl]; kernel_rfl) ?_)
                                    refine HCQ.out.mono ?_
                                    rintro e w4 ⟨rfl, k1⟩
                                    have hw4 := hwZ.trans (k1.mono (Nat.le_of_lt hbxZ.1))
                                    have hbx4 := box_low hbxZ k1 hbxZ.1
                                    clear k1 hwZ hbxZ hcvZ
                                    have HVF : Hid (chkV (vlF (.mk nm x)) = chkV x) := Lib.hid rfl
                                    rw [HVF.out]
                                    generalize hzz : chkV x = z at *
                                    by_cases hz : z = 0
                                    · have HM : Hid (chkFs none fs = chkFs (prvF fs (0 + 1)) (fs.drop (0 + 1))) := Lib.hid (by
                                        rw [HL.out, HD2.out, if_neg (by simp [hz]), show prvF fs (0 + 1) = some nm by show (fs[0]?).map nmF = _; rw [HX.out]; rfl])
                                      clear HL HD2
                                      go_wp2_with fail
                                      go_roundw
                                      case rel => exact ⟨0 + 1, by omega, by go_num, HM, hw4, hbx4⟩
                                      case measure => simp [intOf]; omega
                                    · have HM : Hid (chkV (.mk 2 n s is fs) = z) := Lib.hid (by rw [HN.out, HL.out, HD2.out, if_pos hz])
                                      clear HL HD2
                                      go_wp2_with fail
                                      go_ret
                                      exact ⟨ret_int HM.out.symm, by rw [HXB.out]; exact hw4⟩
                                  · obtain ⟨j, rfl⟩ : ∃ j, q = j + 1 := ⟨q - 1, by omega⟩
                                    obtain ⟨g, hg⟩ : ∃ x, fs[j]? = some x := ⟨_, List.getElem?_eq_getElem (by omega)⟩
                                    obtain ⟨c', hc', hrg⟩ := All2.get HVV.out.rf hg
                                    obtain ⟨p2, o2, e2, hp2, hcell2⟩ := sl_elem HVV.out.sf (all_len (fun _ _ => RepF.len) HVV.out.rf) (by omega) hc'
                                    cases e2
                                    have d0 : V.cell? ⟨p1, o1 + j * 6, none⟩ = some (.string (nmF g)) := by
                                      obtain ⟨gn, gx⟩ := g
                                      simp only [RepF] at hrg
                                      obtain ⟨cw, rfl, _, _⟩ := hrg
                                      exact hcell2 0 _ rfl
                                    clear hcell2 hp2 hrg hc' hq0
                                    have hj0 : (0 : Int) ≤ (j : Int) := Int.natCast_nonneg _
                                    have hj1 : (j : Int) < (fs.length : Int) := by omega
                                    have hpos : decide ((0 : Int) < (j : Int) + 1) = true := decide_eq_true (by omega)
                                    have hwj : IntKind.i64.wrap (j : Int) = (j : Int) := IntWalk.i64_in _ (by omega)
                                    have HD2 : Hid (chkFs (prvF fs (j + 1)) (fs.drop (j + 1)) = if cmpS nm (nmF g) ≤ 0 then 8 else if chkV x ≠ 0 then chkV x else chkFs (some nm) (fs.drop (j + 1 + 1))) := Lib.hid (by
                                      rw [HDR.out, if_neg (by rw [HNB.out]; simp), show prvF fs (j + 1) = some (nmF g) by show (fs[j]?).map nmF = _; rw [hg]; rfl]
                                      simp [ordBad])
                                    clear HDR hg
                                    go_wp2_with fail
                                    go_quiet (fail)
                                    rename_i nq
                                    by_cases hle : cmpS nm (nmF g) ≤ 0
                                    · have hlb : (Op.bytesLess nm.toList (nmF g).toList || nm.toList == (nmF g).toList) = true := leq_yes hle
                                      generalize (Op.bytesLess nm.toList (nmF g).toList || nm.toList == (nmF g).toList) = lb at *
                                      subst hlb
                                      have HM : Hid (chkV (.mk 2 n s is fs) = 8) := Lib.hid (by rw [HN.out, HL.out, HD2.out, if_pos hle])
                                      have hwZ := hwV.trans ((below_drewN (Below.refl V.heap.size V) nq).mono (Nat.le_of_lt hbx.1))
                                      clear HL HD2 hpos hwj
                                      go_wp2_with fail
                                      go_ret
                                      exact ⟨ret_int HM.out.symm, by rw [HXB.out]; exact hwZ⟩
                                    · have hlb : (Op.bytesLess nm.toList (nmF g).toList || nm.toList == (nmF g).toList) = false := leq_no hle
                                      generalize (Op.bytesLess nm.toList (nmF g).toList || nm.toList == (nmF g).toList) = lb at *
                                      subst hlb
                                      have hbZ : Below V.heap.size V (V.drewN nq) := below_drewN (Below.refl _ _) nq
                                      have hwZ := hwV.trans (hbZ.mono (Nat.le_of_lt hbx.1))
                                      have hbxZ : Box (V.drewN nq) b #[.int .i64 2, .int .i64 n, .string s, .slice ai is.length ci, .slice (some ⟨p1, o1, none⟩) fs.length cf] := hbx.ext hbZ
                                      have HRZ := Lib.hid (RepV.ext hbZ HRV.out)
                                      have hcvZ : ∀ (j : Nat) (v : Value), cv[j]? = some v → (V.drewN nq).cell? ⟨bx, 1 + j, none⟩ = some v := fun j v hj => cell_later hbZ (hcv6 j v hj)
                                      clear hbx hwV HRV hcv6 b0 c4 hbZ d0 hpos hwj
                                      generalize V.drewN nq = Z at *
                                      have HCQ := Lib.hid (HCP.out cv Z HRZ.out)
                                      clear HRZ HCP
                                      go_wp2_with (refine wpList_load_agg rfl _ _ rfl bx 1 (by rfl) cv hcvZ _ Tryz.underlying25 rfl (by rw [hcvl]; kernel_rfl) ?_)
                                      refine HCQ.out.mono ?_
                                      rintro e w4 ⟨rfl, k1⟩
                                      have hw4 := hwZ.trans (k1.mono (Nat.le_of_lt hbxZ.1))
                                      have hbx4 := box_low hbxZ k1 hbxZ.1
                                      clear k1 hwZ hbxZ hcvZ
                                      have HVF : Hid (chkV (vlF (.mk nm x)) = chkV x) := Lib.hid rfl
                                      rw [HVF.out]
                                      generalize hzz : chkV x = z at *
                                      by_cases hz : z = 0
                                      · have HM : Hid (chkFs none fs = chkFs (prvF fs ((j + 1) + 1)) (fs.drop ((j + 1) + 1))) := Lib.hid (by
                                          rw [HL.out, HD2.out, if_neg (Int.not_le.2 hle), if_neg (by simp [hz]), show prvF fs ((j + 1) + 1) = some nm by show (fs[(j + 1)]?).map nmF = _; rw [HX.out]; rfl])
                                        clear HL HD2
                                        go_wp2_with fail
                                        go_roundw
                                        case rel => exact ⟨(j + 1) + 1, by omega, by go_num, HM, hw4, hbx4⟩
                                        case measure => simp [intOf]; omega
                                      · have HM : Hid (chkV (.mk 2 n s is fs) = z) := Lib.hid (by rw [HN.out, HL.out, HD2.out, if_neg (Int.not_le.2 hle), if_pos hz])
                                        clear HL HD2
                                        go_wp2_with fail
                                        go_ret
                                        exact ⟨ret_int HM.out.symm, by rw [HXB.out]; exact hw4⟩
                          · have hqe : q = fs.length := by omega
                            subst hqe
                            have HE : Hid (chkV (.mk 2 n s is fs) = 0) := Lib.hid (by rw [HN.out, HL.out, List.drop_length, chkFs])
                            go_wp2_with fail
                            go_ret
                            exact ⟨ret_int HE.out.symm, by rw [HXB.out]; exact hw⟩
        · have HR : Hid (¬ ranB k n) := Lib.hid (by unfold ranB; omega)
          by_cases h5 : 500 < s.size
          · have HC := Lib.hid (own2 (is := is) (fs := fs) h4 HS.out HR.out h5)
            go_wp2_with fail
            go_ret
            exact ⟨ret_int HC.out.symm, by rw [HXB.out]; exact hbW⟩
          · go_wp2_with fail
            refine (seen_at s (by unfold maxLen; omega) _).mono ?_
            rintro e w2 ⟨rfl, rfl⟩
            have HSN : Hid (∀ b, seenB s = b → seenB s = b) := Lib.hid (fun _ h => h)
            obtain ⟨sn, hsn⟩ : ∃ b, seenB s = b := ⟨_, rfl⟩
            rw [hsn]
            have HSN := Lib.hid hsn
            clear hsn
            cases sn with
            | false =>
              have HC := Lib.hid (own1 (is := is) (fs := fs) h4 HS.out HR.out h5 HSN.out)
              go_wp2_with fail
              go_ret
              exact ⟨ret_int HC.out.symm, by rw [HXB.out]; exact hbW⟩
            | true =>
              by_cases h6 : 100 < is.length ∨ 100 < fs.length
              · have HC := Lib.hid (own22 (is := is) (fs := fs) h4 HS.out HR.out h5 HSN.out h6)
                by_cases h7 : 100 < is.length
                · clear h6
                  go_wp2_with fail
                  go_ret
                  exact ⟨ret_int HC.out.symm, by rw [HXB.out]; exact hbW⟩
                · have h8 : 100 < fs.length := h6.resolve_left h7
                  clear h6
                  go_wp2_with fail
                  go_ret
                  exact ⟨ret_int HC.out.symm, by rw [HXB.out]; exact hbW⟩
              · have h7 : ¬ 100 < is.length := fun h => h6 (.inl h)
                have h8 : ¬ 100 < fs.length := fun h => h6 (.inr h)
                have HC := Lib.hid (own0 (is := is) (fs := fs) h4 HS.out HR.out h5 HSN.out h6)
                clear h6 HS HR HSN
                go_wp2_with fail
                go_loopw [72] (fun i wr => ∃ q : Nat, q ≤ is.length ∧ i = .int .i64 (q : Int) ∧ Hid (chkL is = chkL (is.drop q)) ∧ Below b w wr ∧ Box wr b #[.int .i64 k, .int .i64 n, .string s, .slice ai is.length ci, .slice af fs.length cf]) (fun i _ => is.length - (intOf i).toNat)
                case atStart => exact ⟨0, by omega, rfl, Lib.hid rfl, hbW, HA1.out⟩
                case round =>
                  obtain ⟨q, hq, rfl, HL, hw, hbx⟩ := hrel
                  generalize hX : wr = X at *
                  clear hX hbW
                  by_cases hlt : q < is.length
                  · obtain ⟨x, hx⟩ : ∃ x, is[q]? = some x := ⟨_, List.getElem?_eq_getElem hlt⟩
                    have hVX := HV.out.ext (w' := X) (by rw [HXB.out]; exact hw)
                    obtain ⟨c, hc, hrx⟩ := All2.get hVX.ri hx
                    obtain ⟨p0, o0, rfl, hp0, hcell⟩ := sl_elem hVX.si (all_len (fun _ _ => RepV.len) hVX.ri) (by omega) hc
                    have hqi : (q : Int) < (is.length : Int) := by omega
                    have HX := Lib.hid hx
                    have HRX := Lib.hid hrx
                    have hcl : c.length = 5 := hrx.len
                    have HONE := Lib.hid (all_arr (RepV.one hrx))
                    have HINF := Lib.hid (v_info hrx)
                    have HSZ : Hid (5 = c.toArray.size) := Lib.hid (by simp [hcl])
                    have HBX : Hid (b < X.heap.size) := Lib.hid hbx.1
                    clear hVX hc hrx hx
                    go_upto_region 17 with (first | (refine wpList_load_agg rfl _ _ rfl p0 (o0 + q * 5) (by rfl) c (fun j v hj => by rw [Nat.add_assoc]; exact hcell j v hj) _ Tryz.underlying25 rfl HINF.out ?_) | (refine wpList_store_row rfl _ _ _ rfl X.heap.size c.toArray rfl rfl _ _ (Nt.RH.new _ _ _) HINF.out HSZ.out HONE.out ?_))
                    refine wp_stored fun V hbV hR => ?_
                    have hwV := hw.trans (hbV.mono (Nat.le_of_lt HBX.out))
                    replace hbx := box_low hbx hbV HBX.out
                    have HC1 := Lib.hid (HI.out x (List.mem_of_getElem? HX.out) c V (RepV.ext hbV HRX.out))
                    clear hbV hcell hp0 hw HONE HINF HRX
                    generalize X.heap.size = bx at *
                    go_wp2_with (refine wpList_load_agg rfl _ _ rfl bx 0 (by rfl) c (fun j v hj => by rw [Nat.zero_add, hR.cell]; exact (List.getElem?_toArray).trans hj) _ Tryz.underlying25 rfl (by rw [hcl]; kernel_rfl) ?_)
                    refine HC1.out.mono ?_
                    rintro e w2 ⟨rfl, k1⟩
                    have HVS := hbx.1
                    have hw2 := hwV.trans (k1.mono (Nat.le_of_lt HVS))
                    have hbx2 := box_low hbx k1 HVS
                    have HDR : Hid (chkL (is.drop q) = if chkV x ≠ 0 then chkV x else chkL (is.drop (q + 1))) := Lib.hid (by rw [drop_get HX.out, chkL])
                    generalize chkV x = z at *
                    clear k1 hwV hbx hR HVS
                    by_cases hz : z = 0
                    · have HN : Hid (chkL is = chkL (is.drop (q + 1))) := Lib.hid (by rw [HL.out, HDR.out, if_neg (by simp [hz])])
                      clear HL HDR
                      go_wp2_with fail
                      go_roundw
                      case rel => exact ⟨q + 1, by omega, by go_num, HN, hw2, hbx2⟩
                      case measure => simp [intOf]; omega
                    · have HN : Hid (chkV (.mk k n s is fs) = z) := Lib.hid (by rw [HC.out, HL.out, HDR.out, if_pos hz, if_pos hz])
                      clear HL HDR
                      go_wp2_with fail
                      go_ret
                      exact ⟨ret_int HN.out.symm, by rw [HXB.out]; exact hw2⟩
                  · have hqe : q = is.length := by omega
                    subst hqe
                    have HN : Hid (chkV (.mk k n s is fs) = chkFs none fs) := Lib.hid (by rw [HC.out, HL.out, List.drop_length, chkL]; simp)
                    clear HL HC hlt
                    have c4 : X.cell? ⟨b, 4, none⟩ = some (.slice af fs.length cf) := hbx.2 4
                    have HB2 := Lib.hid hbx
                    have hw0 := hw
                    clear hbx hw
                    go_wp2_with fail
                    go_loopw [85] (fun i wr => ∃ q : Nat, q ≤ fs.length ∧ i = .int .i64 (q : Int) ∧ Hid (chkFs none fs = chkFs (prvF fs q) (fs.drop q)) ∧ Below b w wr ∧ Box wr b #[.int .i64 k, .int .i64 n, .string s, .slice ai is.length ci, .slice af fs.length cf]) (fun i _ => fs.length - (intOf i).toNat)
                    case atStart => exact ⟨0, by omega, rfl, Lib.hid rfl, hw0, HB2.out⟩
                    case round =>
                      obtain ⟨q, hq, rfl, HL, hw, hbx⟩ := hrel
                      generalize hX : wr = Y at *
                      clear hX hw0 c4
                      by_cases hlt : q < fs.length
                      · obtain ⟨f, hx⟩ : ∃ x, fs[q]? = some x := ⟨_, List.getElem?_eq_getElem hlt⟩
                        have hVX := HV.out.ext (w' := Y) (by rw [HXB.out]; exact hw)
                        obtain ⟨c, hc, hrx⟩ := All2.get hVX.rf hx
                        obtain ⟨p1, o1, rfl, hp0, hcell⟩ := sl_elem hVX.sf (all_len (fun _ _ => RepF.len) hVX.rf) (by omega) hc
                        have hqi : (q : Int) < (fs.length : Int) := by omega
                        have HX := Lib.hid hx
                        have hcl : c.length = 6 := hrx.len
                        have HONE := Lib.hid (all_arr (RepF.one hrx))
                        have HINF := Lib.hid (f_info hrx)
                        have HSZ : Hid (6 = c.toArray.size) := Lib.hid (by simp [hcl])
                        obtain ⟨nm, x⟩ := f
                        have hrx' := hrx
                        simp only [RepF] at hrx'
                        obtain ⟨cv, hcv, hnm, hrv⟩ := hrx'
                        have HRX := Lib.hid hrv
                        have hcvl : cv.length = 5 := hrv.len
                        have HCV := Lib.hid hcv
                        have HBX : Hid (b < Y.heap.size) := Lib.hid hbx.1
                        clear hVX hc hrx hx hrv hcv
                        go_upto_region 24 with (first | (refine wpList_load_agg rfl _ _ rfl p1 (o1 + q * 6) (by rfl) c (fun j v hj => by rw [Nat.add_assoc]; exact hcell j v hj) _ Tryz.underlying54 rfl HINF.out ?_) | (refine wpList_store_row rfl _ _ _ rfl Y.heap.size c.toArray rfl rfl _ _ (Nt.RH.new _ _ _) HINF.out HSZ.out HONE.out ?_))
                        refine wp_stored fun V hbV hR => ?_
                        have hwV := hw.trans (hbV.mono (Nat.le_of_lt HBX.out))
                        replace hbx := box_low hbx hbV HBX.out
                        have HRV : Hid (RepV V x cv) := Lib.hid (RepV.ext hbV HRX.out)
                        have HCP := Lib.hid (HF.out (.mk nm x) (List.mem_of_getElem? HX.out))
                        have HDR : Hid (chkFs (prvF fs q) (fs.drop q) = if nameBad nm = true then 5 else if ordBad (prvF fs q) nm = true then 8 else if chkV x ≠ 0 then chkV x else chkFs (some nm) (fs.drop (q + 1))) := Lib.hid (by rw [drop_get HX.out, chkFs])
                        have hcv6 : ∀ (j : Nat) (v : Value), cv[j]? = some v → V.cell? ⟨Y.heap.size, 1 + j, none⟩ = some v := fun j v hj => by
                          rw [hR.cell, HCV.out, List.getElem?_toArray, Nat.add_comm, List.getElem?_cons_succ]; exact hj
                        have b0 : V.cell? ⟨Y.heap.size, 0, none⟩ = some (.string nm) := by rw [hR.cell, HCV.out]; rfl
                        have HBZ : Hid (Y.heap.size < V.heap.size) := Lib.hid hR.lt
                        have hYb : b ≤ Y.heap.size := Nat.le_of_lt HBX.out
                        have c4 : V.cell? ⟨b, 4, none⟩ = some (.slice (some ⟨p1, o1, none⟩) fs.length cf) := hbx.2 4
                        have HVV := Lib.hid (HV.out.ext (w' := V) (by rw [HXB.out]; exact hwV))
                        clear hbV hcell hp0 hw HONE HINF HRX hR
                        generalize Y.heap.size = bx at *
                        unfold maxLen at hnm
                        by_cases m1 : nm.size = 0
                        · have HE : Hid (chkV (.mk k n s is fs) = 5) := Lib.hid (by rw [HN.out, HL.out, HDR.out, if_pos (by unfold nameBad; simp [m1])])
                          have m1' : nm.toList = [] := toList_nil.2 m1
                          clear HN HL HDR
                          go_wp2_with fail
                          go_ret
                          exact ⟨ret_int HE.out.symm, by rw [HXB.out]; exact hwV⟩
                        · have m1' : nm.toList.isEmpty = false := by
                            cases hq : nm.toList with
                            | nil => exact absurd (toList_nil.1 hq) m1
                            | cons _ _ => rfl
                          by_cases m2 : 60 < nm.size
                          · have HE : Hid (chkV (.mk k n s is fs) = 5) := Lib.hid (by rw [HN.out, HL.out, HDR.out, if_pos (by unfold nameBad; simp [m2])])
                            clear HN HL HDR
                            go_wp2_with fail
                            go_ret
                            exact ⟨ret_int HE.out.symm, by rw [HXB.out]; exact hwV⟩
                          · go_wp2_with fail
                            refine (seen_at nm (by unfold maxLen; omega) _).mono ?_
                            rintro e w3 ⟨rfl, rfl⟩
                            obtain ⟨sn, hsn⟩ : ∃ b, seenB nm = b := ⟨_, rfl⟩
                            rw [hsn]
                            have HSN := Lib.hid hsn
                            clear hsn
                            cases sn with
                            | false =>
                              have HE : Hid (chkV (.mk k n s is fs) = 5) := Lib.hid (by rw [HN.out, HL.out, HDR.out, if_pos (by unfold nameBad; simp [HSN.out])])
                              clear HN HL HDR
                              go_wp2_with fail
                              go_ret
                              exact ⟨ret_int HE.out.symm, by rw [HXB.out]; exact hwV⟩
                            | true =>
                              have HNB : Hid (nameBad nm = false) := Lib.hid (by unfold nameBad; simp [m1, m2, HSN.out])
                              by_cases hq0 : q = 0
                              · subst hq0
                                have HD2 : Hid (chkFs (prvF fs 0) (fs.drop 0) = if chkV x ≠ 0 then chkV x else chkFs (some nm) (fs.drop (0 + 1))) := Lib.hid (by rw [HDR.out, if_neg (by rw [HNB.out]; simp), if_neg (by simp [prvF, ordBad])])
                                clear HDR
                                go_wp2_with fail
                                go_quiet (fail)
                                rename_i nq
                                have hbZ : Below V.heap.size V (V.drewN nq) := below_drewN (Below.refl _ _) nq
                                have hwZ := hwV.trans (hbZ.mono (Nat.le_of_lt hbx.1))
                                have hbxZ : Box (V.drewN nq) b #[.int .i64 k, .int .i64 n, .string s, .slice ai is.length ci, .slice (some ⟨p1, o1, none⟩) fs.length cf] := hbx.ext hbZ
                                have HRZ := Lib.hid (RepV.ext hbZ HRV.out)
                                have hcvZ : ∀ (j : Nat) (v : Value), cv[j]? = some v → (V.drewN nq).cell? ⟨bx, 1 + j, none⟩ = some v := fun j v hj => cell_later hbZ (hcv6 j v hj)
                                clear hbx hwV HRV hcv6 b0 c4 hbZ
                                generalize V.drewN nq = Z at *
                                have HCQ := Lib.hid (HCP.out cv Z HRZ.out)
                                clear HRZ HCP
                                go_wp2_with (refine wpList_load_agg rfl _ _ rfl bx 1 (by rfl) cv hcvZ _ Tryz.underlying25 rfl (by rw [hcvl]; kernel_rfl) ?_)
                                refine HCQ.out.mono ?_
                                rintro e w4 ⟨rfl, k1⟩
                                have hw4 := hwZ.trans (k1.mono (Nat.le_of_lt hbxZ.1))
                                have hbx4 := box_low hbxZ k1 hbxZ.1
                                clear k1 hwZ hbxZ hcvZ
                                have HVF : Hid (chkV (vlF (.mk nm x)) = chkV x) := Lib.hid rfl
                                rw [HVF.out]
                                generalize hzz : chkV x = z at *
                                by_cases hz : z = 0
                                · have HM : Hid (chkFs none fs = chkFs (prvF fs (0 + 1)) (fs.drop (0 + 1))) := Lib.hid (by
                                    rw [HL.out, HD2.out, if_neg (by simp [hz]), show prvF fs (0 + 1) = some nm by show (fs[0]?).map nmF = _; rw [HX.out]; rfl])
                                  clear HL HD2
                                  go_wp2_with fail
                                  go_roundw
                                  case rel => exact ⟨0 + 1, by omega, by go_num, HM, hw4, hbx4⟩
                                  case measure => simp [intOf]; omega
                                · have HM : Hid (chkV (.mk k n s is fs) = z) := Lib.hid (by rw [HN.out, HL.out, HD2.out, if_pos hz])
                                  clear HL HD2
                                  go_wp2_with fail
                                  go_ret
                                  exact ⟨ret_int HM.out.symm, by rw [HXB.out]; exact hw4⟩
                              · obtain ⟨j, rfl⟩ : ∃ j, q = j + 1 := ⟨q - 1, by omega⟩
                                obtain ⟨g, hg⟩ : ∃ x, fs[j]? = some x := ⟨_, List.getElem?_eq_getElem (by omega)⟩
                                obtain ⟨c', hc', hrg⟩ := All2.get HVV.out.rf hg
                                obtain ⟨p2, o2, e2, hp2, hcell2⟩ := sl_elem HVV.out.sf (all_len (fun _ _ => RepF.len) HVV.out.rf) (by omega) hc'
                                cases e2
                                have d0 : V.cell? ⟨p1, o1 + j * 6, none⟩ = some (.string (nmF g)) := by
                                  obtain ⟨gn, gx⟩ := g
                                  simp only [RepF] at hrg
                                  obtain ⟨cw, rfl, _, _⟩ := hrg
                                  exact hcell2 0 _ rfl
                                clear hcell2 hp2 hrg hc' hq0
                                have hj0 : (0 : Int) ≤ (j : Int) := Int.natCast_nonneg _
                                have hj1 : (j : Int) < (fs.length : Int) := by omega
                                have hpos : decide ((0 : Int) < (j : Int) + 1) = true := decide_eq_true (by omega)
                                have hwj : IntKind.i64.wrap (j : Int) = (j : Int) := IntWalk.i64_in _ (by omega)
                                have HD2 : Hid (chkFs (prvF fs (j + 1)) (fs.drop (j + 1)) = if cmpS nm (nmF g) ≤ 0 then 8 else if chkV x ≠ 0 then chkV x else chkFs (some nm) (fs.drop (j + 1 + 1))) := Lib.hid (by
                                  rw [HDR.out, if_neg (by rw [HNB.out]; simp), show prvF fs (j + 1) = some (nmF g) by show (fs[j]?).map nmF = _; rw [hg]; rfl]
                                  simp [ordBad])
                                clear HDR hg
                                go_wp2_with fail
                                go_quiet (fail)
                                rename_i nq
                                by_cases hle : cmpS nm (nmF g) ≤ 0
                                · have hlb : (Op.bytesLess nm.toList (nmF g).toList || nm.toList == (nmF g).toList) = true := leq_yes hle
                                  generalize (Op.bytesLess nm.toList (nmF g).toList || nm.toList == (nmF g).toList) = lb at *
                                  subst hlb
                                  have HM : Hid (chkV (.mk k n s is fs) = 8) := Lib.hid (by rw [HN.out, HL.out, HD2.out, if_pos hle])
                                  have hwZ := hwV.trans ((below_drewN (Below.refl V.heap.size V) nq).mono (Nat.le_of_lt hbx.1))
                                  clear HL HD2 hpos hwj
                                  go_wp2_with fail
                                  go_ret
                                  exact ⟨ret_int HM.out.symm, by rw [HXB.out]; exact hwZ⟩
                                · have hlb : (Op.bytesLess nm.toList (nmF g).toList || nm.toList == (nmF g).toList) = false := leq_no hle
                                  generalize (Op.bytesLess nm.toList (nmF g).toList || nm.toList == (nmF g).toList) = lb at *
                                  subst hlb
                                  have hbZ : Below V.heap.size V (V.drewN nq) := below_drewN (Below.refl _ _) nq
                                  have hwZ := hwV.trans (hbZ.mono (Nat.le_of_lt hbx.1))
                                  have hbxZ : Box (V.drewN nq) b #[.int .i64 k, .int .i64 n, .string s, .slice ai is.length ci, .slice (some ⟨p1, o1, none⟩) fs.length cf] := hbx.ext hbZ
                                  have HRZ := Lib.hid (RepV.ext hbZ HRV.out)
                                  have hcvZ : ∀ (j : Nat) (v : Value), cv[j]? = some v → (V.drewN nq).cell? ⟨bx, 1 + j, none⟩ = some v := fun j v hj => cell_later hbZ (hcv6 j v hj)
                                  clear hbx hwV HRV hcv6 b0 c4 hbZ d0 hpos hwj
                                  generalize V.drewN nq = Z at *
                                  have HCQ := Lib.hid (HCP.out cv Z HRZ.out)
                                  clear HRZ HCP
                                  go_wp2_with (refine wpList_load_agg rfl _ _ rfl bx 1 (by rfl) cv hcvZ _ Tryz.underlying25 rfl (by rw [hcvl]; kernel_rfl) ?_)
                                  refine HCQ.out.mono ?_
                                  rintro e w4 ⟨rfl, k1⟩
                                  have hw4 := hwZ.trans (k1.mono (Nat.le_of_lt hbxZ.1))
                                  have hbx4 := box_low hbxZ k1 hbxZ.1
                                  clear k1 hwZ hbxZ hcvZ
                                  have HVF : Hid (chkV (vlF (.mk nm x)) = chkV x) := Lib.hid rfl
                                  rw [HVF.out]
                                  generalize hzz : chkV x = z at *
                                  by_cases hz : z = 0
                                  · have HM : Hid (chkFs none fs = chkFs (prvF fs ((j + 1) + 1)) (fs.drop ((j + 1) + 1))) := Lib.hid (by
                                      rw [HL.out, HD2.out, if_neg (Int.not_le.2 hle), if_neg (by simp [hz]), show prvF fs ((j + 1) + 1) = some nm by show (fs[(j + 1)]?).map nmF = _; rw [HX.out]; rfl])
                                    clear HL HD2
                                    go_wp2_with fail
                                    go_roundw
                                    case rel => exact ⟨(j + 1) + 1, by omega, by go_num, HM, hw4, hbx4⟩
                                    case measure => simp [intOf]; omega
                                  · have HM : Hid (chkV (.mk k n s is fs) = z) := Lib.hid (by rw [HN.out, HL.out, HD2.out, if_neg (Int.not_le.2 hle), if_pos hz])
                                    clear HL HD2
                                    go_wp2_with fail
                                    go_ret
                                    exact ⟨ret_int HM.out.symm, by rw [HXB.out]; exact hw4⟩
                      · have hqe : q = fs.length := by omega
                        subst hqe
                        have HE : Hid (chkV (.mk k n s is fs) = 0) := Lib.hid (by rw [HN.out, HL.out, List.drop_length, chkFs])
                        go_wp2_with fail
                        go_ret
                        exact ⟨ret_int HE.out.symm, by rw [HXB.out]; exact hw⟩
/- checkPart at every value -/
mutual
theorem partV : ∀ x : V, PartAt x
  | .mk k n s is fs => part_at k n s is fs (partL is) (partF fs)
theorem partL : ∀ l : List V, ∀ x ∈ l, PartAt x
  | [] => fun _ h => by cases h
  | y :: l => fun x h => (List.mem_cons.1 h).elim (fun e => e ▸ partV y) (fun h => partL l x h)
theorem partF : ∀ l : List F, ∀ f ∈ l, PartAt (vlF f)
  | [] => fun _ h => by cases h
  | .mk nm y :: l => fun f h => (List.mem_cons.1 h).elim (fun e => by rw [e]; exact partV y) (fun h => partF l f h)
end
end Fd
end Go.Proofs.YtbhcfmdogdaodaaGreatDoor
