/- merged of the reference. Printed by gen_md.py. -/
import Derived.Test.YtkjgifhklajifaaPm20
import Derived.Deep.DeepCutAuto
import Derived.Deep.RegionWith
namespace Go.Proofs.Ytkjgifhklajifaa
open Go.RowKit
namespace Fd
open _root_.Go.Proofs.Ytkjgifhklajifaa.Nt (RH RH.cell RH.box RH.lt RH.new RH.ext RH.fre RH.set RH.other RH.row RH.row_other)
open _root_.Go.Proofs.Ytkjgifhklajifaa.Rw (All2 All2.get All2.length All2.mono wpList_load_agg wp_stored Kept Fresh fresh_own)
def MdAt (p : V) : Prop := ∀ (D : Nat → Prop) (x : V) (cs cp : List Value) (w : World), On D (fun Z => RepV Z x cs) w → On D (fun Z => RepV Z p cp) w → chkV x = 0 → chkV p = 0 → Calls Try.prog 13 #[.agg cs.toArray, .agg cp.toArray] w (MdPost D (mergeV x p) w)
set_option maxRecDepth 100000 in
set_option maxHeartbeats 16000000 in
theorem md_not (k n : Int) (s : ByteArray) (is : List V) (us : List F) (hk : k ≠ 5) : MdAt (.mk k n s is us) := by
  intro D x cs cp w hx hp hcx hcp
  have hm : mergeV x (.mk k n s is us) = .mk k n s is us := by simp only [mergeV, if_pos hk]
  rw [hm]
  obtain ⟨kx, nx, sx, b1, b2, b3, b4, b5, b6, rfl⟩ := V5on hx
  obtain ⟨ai, ci, af, cf, EF, rfl, i1, i2, i3, _, _⟩ := on_open hp
  have HP := Lib.hid hp
  have hkb : (k != 5) = true := by simpa using hk
  clear hx hp hcx hcp
  go_enter Try.func13, Try.ntmps13
  go_upto_region 1 with (fail)
  refine wp_vr3 fun W hbW hR1 hR2 hR3 => ?_
  obtain ⟨c0, c1, c2, c3, c4⟩ := va5 hR2
  have HR3 := Lib.hid hR3
  have hb := below_setRow hbW (show w.heap.size ≤ w.heap.size + 2 by omega) (vAr k n s (.slice ai is.length ci) (.slice af us.length cf))
  have HFIN : Hid (MdPost D (.mk k n s is us) w (.returned (.agg (vAr k n s (.slice ai is.length ci) (.slice af us.length cf)))) (W.setRow (w.heap.size + 2) (vAr k n s (.slice ai is.length ci) (.slice af us.length cf)))) := Lib.hid ⟨_, rfl, (HP.out.below hb).mono (fun _ _ h => .inl h), hb⟩
  clear hR1 hR2 hR3 hbW hb
  go_wp2_with (refine wpList_store_row rfl _ _ _ rfl (w.heap.size + 2) (vAr k n s (.slice ai is.length ci) (.slice af us.length cf)) rfl rfl _ _ HR3.out (v_inf5 _ _ _ _ _) rfl (v_all5 _ _ _ _ _ _ _ _ _) ?_)
  exact bodyPost_ret (v := .agg (vAr k n s (.slice ai is.length ci) (.slice af us.length cf))) (results_cell_row rfl _ _ _ _ _ _ _ rfl (HR3.out.row _) Try.underlying25 rfl (v_inf5 _ _ _ _ _)) rfl HFIN.out
set_option maxRecDepth 100000 in
set_option maxHeartbeats 16000000 in
theorem md_obj (n : Int) (s : ByteArray) (is : List V) (us : List F) (HI : ∀ f ∈ us, MdAt (vlF f)) : MdAt (.mk 5 n s is us) := by
  intro D x cs cp w hx hp hcx hcp
  obtain ⟨fs0, hfs0⟩ : ∃ fs0, fields (base x) = fs0 := ⟨_, rfl⟩
  have hm : mergeV x (.mk 5 n s is us) = obj (mergeFs fs0 us) := by
    rw [← hfs0]
    simp only [mergeV, if_neg (show ¬ (5 : Int) ≠ 5 from fun h => h rfl)]
    exact base_set hcx _
  rw [hm]
  have HB : Hid (Srt fs0 ∧ (∀ f ∈ fs0, chkV (vlF f) = 0) ∧ fs0.length ≤ 100) := Lib.hid ⟨hfs0 ▸ (base_right hcx).1, hfs0 ▸ (base_right hcx).2, hfs0 ▸ base_len hcx⟩
  have HU : Hid (Srt us ∧ (∀ f ∈ us, chkV (vlF f) = 0) ∧ us.length ≤ 100) := Lib.hid ⟨(fields_ok hcp).1, (fields_ok hcp).2, (fs_len hcp).1⟩
  have HMG := Lib.hid HI
  obtain ⟨kx, nx, sx, b1, b2, b3, b4, b5, b6, rfl⟩ := V5on hx
  have HKX : Hid (kind x = kx) := Lib.hid (rep_kind hx.now)
  obtain ⟨ai, ci, bf, df, EU, rfl, i1, i2, i3, _, hPF⟩ := on_open hp
  have HX := Lib.hid hx
  have HPF := Lib.hid hPF
  have HCX := Lib.hid hcx
  have HF0 := Lib.hid hfs0
  have hul : us.length ≤ 100 := HU.out.2.2
  clear hx hp hcx hcp hfs0 hm HI hPF i1 i2 i3
  go_enter Try.func13, Try.ntmps13
  go_upto_region 1 with (fail)
  refine wp_vr3 fun W hbW hR1 hR2 hR3 => ?_
  have a0 : W.cell? ⟨w.heap.size, 0, none⟩ = some (.int .i64 kx) := hR1.cell 0
  have c0 : W.cell? ⟨w.heap.size + 1, 0, none⟩ = some (.int .i64 5) := hR2.cell 0
  have c4 : W.cell? ⟨w.heap.size + 1, 4, none⟩ = some (.slice bf us.length df) := hR2.cell 4
  have HR1 := Lib.hid hR1
  have HR2 := Lib.hid hR2
  have HR3 := Lib.hid hR3
  have HBW := Lib.hid hbW
  clear hR1 hR2 hR3 hbW
  go_upto_if 15 with (fail)
  go_cut [4] (fun s4 wx => s4 = .pointer (some ⟨w.heap.size + 2, 0, none⟩) ∧ ∃ (ai3 : Option Addr) (ci3 : Nat) (a : Option Addr) (c : Nat) (E : List (List Value)), Hid (MdI w wx w.heap.size (.slice ai3 0 ci3) (.slice a fs0.length c)) ∧ Hid (∀ Z, Sl Z (.slice ai3 0 ci3) 0 []) ∧ Hid (FR (inD D w.heap.size (w.heap.size + 3)) wx fs0 (.slice a fs0.length c) E) ∧ wx.cell? ⟨w.heap.size + 1, 4, none⟩ = some (.slice bf us.length df))
  case first =>
    by_cases hk : kx = 5
    · have hxo := obj_is HCX.out (HKX.out.trans hk)
      have hff : fs0 = fields x := by rw [← HF0.out]; unfold base; rw [if_pos (HKX.out.trans hk)]
      have hx2 := HX.out
      rw [hxo, ← hff] at hx2
      unfold obj at hx2
      obtain ⟨ai3, ci3, af, cf, EF, e, _, _, _, hI, hFF⟩ := on_open hx2
      simp only [List.cons.injEq, Value.int.injEq, Value.string.injEq, Value.slice.injEq, true_and, and_true, List.length_nil] at e
      obtain ⟨_, rfl, rfl, ⟨rfl, rfl, rfl⟩, rfl, rfl, rfl⟩ := e
      have HMI : Hid (MdI w W w.heap.size (.slice b1 0 b3) (.slice b4 fs0.length b6)) := Lib.hid ⟨by rw [hk] at HR1; exact HR1.out, ⟨_, HR3.out, rfl⟩, HBW.out⟩
      have HII : Hid (∀ Z, Sl Z (.slice b1 0 b3) 0 []) := Lib.hid (fun Z => by
        obtain ⟨EI, hS, hA⟩ := hI.now
        cases EI with
        | nil => exact sl_nil_any hS Z
        | cons _ _ => exact hA.elim)
      have HFR : Hid (FR (inD D w.heap.size (w.heap.size + 3)) W fs0 (.slice b4 fs0.length b6) EF) := Lib.hid (On.start hFF HBW.out)
      have hkb : (kx != 5) = false := by simpa using hk
      subst hk
      clear hxo hff hx2 hI hFF HR1 HR2 HR3
      go_wp2_with fail
      go_meet
      exact ⟨rfl, b1, b3, b4, b6, EF, HMI, HII, HFR, c4⟩
    · have hkb : (kx != 5) = true := by simpa using hk
      have hff : fs0 = [] := by
        rw [← HF0.out]; unfold base; rw [if_neg (fun e => hk (HKX.out.symm.trans e))]; rfl
      have HMI : Hid (MdI w (W.setRow w.heap.size (vAr 5 0 eB (.slice none 0 0) (.slice none 0 0))) w.heap.size (.slice none 0 0) (.slice none fs0.length 0)) := Lib.hid (by
        rw [hff]
        exact ⟨HR1.out.row _, ⟨_, HR3.out.row_other (by omega) _, rfl⟩, below_setRow HBW.out (Nat.le_refl _) _⟩)
      have HFR : Hid (FR (inD D w.heap.size (w.heap.size + 3)) (W.setRow w.heap.size (vAr 5 0 eB (.slice none 0 0) (.slice none 0 0))) fs0 (.slice none fs0.length 0) []) := Lib.hid (by rw [hff]; exact FR.nil _ _)
      have c5 : (W.setRow w.heap.size (vAr 5 0 eB (.slice none 0 0) (.slice none 0 0))).cell? ⟨w.heap.size + 1, 4, none⟩ = some (.slice bf us.length df) := (HR2.out.row_other (by omega) _).cell 4
      clear hff
      go_wp2_with (refine wpList_store_row rfl _ _ _ rfl w.heap.size (vAr 5 0 eB (.slice none 0 0) (.slice none 0 0)) rfl rfl _ _ HR1.out (v_inf5 _ _ _ _ _) rfl (v_all5 _ _ _ _ _ _ _ _ _) ?_)
      go_meet
      exact ⟨rfl, none, 0, none, 0, [], HMI, Lib.hid (fun Z => Sl.nil Z), HFR, c5⟩
  case rest =>
    obtain ⟨rfl, ai3, ci3, a, c, E, HMI, HII, HFR, c4'⟩ := hcut
    clear a0 c0 c4 HR1 HR2 HR3 HBW HX HCX HF0 HKX
    generalize hXX : wc = X0 at *
    clear hXX
    have HO0 : Hid (fs0 = mergeFs fs0 (us.take 0)) := Lib.hid (by simp only [List.take_zero, mergeFs])
    go_wp2_with fail
    go_loopw [20] (fun i wr => ∃ (q : Nat) (out : List F) (av : Option Addr) (cv : Nat) (E : List (List Value)), q ≤ us.length ∧ i = .int .i64 (q : Int) ∧ Hid (out = mergeFs fs0 (us.take q)) ∧ Hid (MdI w wr w.heap.size (.slice ai3 0 ci3) (.slice av out.length cv)) ∧ Hid (FR (inD D w.heap.size (w.heap.size + 3)) wr out (.slice av out.length cv) E)) (fun i _ => us.length - (intOf i).toNat)
    case atStart => exact ⟨0, fs0, a, c, E, Nat.zero_le _, rfl, HO0, HMI, HFR⟩
    case round =>
      clear HO0 HMI HFR
      obtain ⟨q, out, av, cv, E, hq, rfl, HO, HP, HT⟩ := hrel
      generalize hXX : wr = X at *
      clear hXX c4'
      have hol : out.length ≤ 200 := by
        have h1 := merge_len (us.take q) fs0
        have h2 := HB.out.2.2
        rw [← HO.out, List.length_take] at h1
        omega
      by_cases hlt : q < us.length
      · obtain ⟨f, hfu⟩ : ∃ f, us[q]? = some f := ⟨_, List.getElem?_eq_getElem hlt⟩
        have hPX := HPF.out.below HP.out.bx
        obtain ⟨cy, hcy, hry0⟩ := All2.get (on_all (On.map hPX (fun _ h => h.2))) hfu
        have hry := On.now hry0
        obtain ⟨p, o, e0, hp0, hcell⟩ := sl_elem (On.now hPX).1 (all_len (fun _ _ => RepF.len) (On.now hPX).2) (by omega) hcy
        subst e0
        obtain ⟨nm, y⟩ := f
        have hry2 := hry
        simp only [RepF] at hry2
        obtain ⟨cv5, rfl, hnm, hrv⟩ := hry2
        obtain ⟨ky, ny, sy, a1, m1, r1, a2, m2, r2, rfl⟩ := V5 hrv
        have HFU := Lib.hid hfu
        have HNM := Lib.hid hnm
        have HRV : Hid (On (inD D w.heap.size (w.heap.size + 3)) (fun Z => RepV Z y [.int .i64 ky, .int .i64 ny, .string sy, .slice a1 m1 r1, .slice a2 m2 r2]) X) := Lib.hid (On.start (on_value ((All2.get (on_all (On.map HPF.out (fun _ h => h.2))) HFU.out).elim (fun c9 h9 => by have h8 := h9.1; rw [hcy] at h8; cases h8; exact h9.2))) HP.out.bx)
        have HINF := Lib.hid (f_info hry)
        have HONE := Lib.hid (all_arr (RepF.one hry))
        have hqi : (q : Int) < (us.length : Int) := by omega
        clear hfu hcy hry0 hry hnm hrv hp0 hPX
        go_upto_region 8 with (first | (refine wpList_load_agg rfl _ _ rfl p (o + q * 6) (by rfl) [.string nm, .int .i64 ky, .int .i64 ny, .string sy, .slice a1 m1 r1, .slice a2 m2 r2] (fun j v hj => by rw [Nat.add_assoc]; exact hcell j v hj) _ Try.underlying38 rfl HINF.out ?_) | (refine wpList_store_row rfl _ _ _ rfl X.heap.size #[.string nm, .int .i64 ky, .int .i64 ny, .string sy, .slice a1 m1 r1, .slice a2 m2 r2] rfl rfl _ _ (RH.new _ _ _) HINF.out rfl HONE.out ?_))
        refine wp_stored fun Y hbY hRf => ?_
        replace HRV := Lib.hid (HRV.out.below hbY)
        have HPY := Lib.hid (HP.out.ext hbY)
        have HTY := Lib.hid (HT.out.below hbY)
        have HRF := Lib.hid hRf
        have HYS : Hid ((w.heap.size + 3) ≤ Y.heap.size) := Lib.hid (Nat.le_trans (by obtain ⟨A9, h9, _⟩ := HP.out.rr; have := h9.lt; omega) hbY.size)
        have f0 : Y.cell? ⟨X.heap.size, 0, none⟩ = some (.string nm) := hRf.cell 0
        have f1 : Y.cell? ⟨X.heap.size, 1, none⟩ = some (.int .i64 ky) := hRf.cell 1
        have f2 : Y.cell? ⟨X.heap.size, 2, none⟩ = some (.int .i64 ny) := hRf.cell 2
        have f3 : Y.cell? ⟨X.heap.size, 3, none⟩ = some (.string sy) := hRf.cell 3
        have f4 : Y.cell? ⟨X.heap.size, 4, none⟩ = some (.slice a1 m1 r1) := hRf.cell 4
        have f5 : Y.cell? ⟨X.heap.size, 5, none⟩ = some (.slice a2 m2 r2) := hRf.cell 5
        clear hbY hRf hcell HP HT HINF HONE
        generalize X.heap.size = fb at *
        have HST : Hid (mergeFs fs0 (us.take (q + 1)) = if kind y = 0 then dropF nm out else putF nm (mergeV ((lk out nm).getD V0) y) out) := Lib.hid (by rw [take_snoc HFU.out, mergeFs_snoc, ← HO.out])
        have HKY : Hid (kind y = ky) := Lib.hid (rep_kind HRV.out.now)
        have HCY : Hid (chkV y = 0) := Lib.hid (HU.out.2.1 _ (List.mem_of_getElem? HFU.out))
        have HSO : Hid (Srt out) := Lib.hid (by rw [HO.out]; exact srt_mergeFs HB.out.1)
        have HLK : Hid (chkV ((lk out nm).getD V0) = 0) := Lib.hid (by
          rw [HO.out, lk_untouched HU.out.1 HB.out.1 HFU.out]
          cases hl : lk fs0 nm with
          | none => exact chk_zero
          | some z => exact HB.out.2.1 _ (lk_mem hl))
        have HMC : Hid (MdAt y) := Lib.hid (HMG.out _ (List.mem_of_getElem? HFU.out))
        by_cases hk0 : ky = 0
        · have HO2 : Hid (dropF nm out = mergeFs fs0 (us.take (q + 1))) := Lib.hid (by rw [HST.out, if_pos (HKY.out.trans hk0)])
          have HDR := Lib.hid (dropP_at (pOn (inD D w.heap.size (w.heap.size + 3)) Y) 5 0 eB ai3 0 ci3 out av cv E nm Y (Below.refl _ _) HTY.out.sl HTY.out.all (by omega))
          obtain ⟨d0, d1, d2, d3, d4⟩ := HPY.out.c
          subst hk0
          clear HST HKY HCY HSO HLK HMC HO
          go_wp2_with (first
            | (go_at_call 26; refine HDR.out.mono ?_; rintro e w1 ⟨a1', c1', E1, rfl, hO1, hb1⟩; have HP1 := Lib.hid (HPY.out.ext hb1); have HT1 := Lib.hid (FR.ofQ hO1 hb1 HYS.out); clear hO1 hb1 d0 d1 d2 d3 d4 f0 f1 f2 f3 f4 f5)
            | (refine wpList_store_row rfl _ _ _ rfl w.heap.size (vAr 5 0 eB (.slice ai3 0 ci3) (.slice a1' (dropF nm out).length c1')) rfl rfl _ _ HP1.out.rv (v_inf5 _ _ _ _ _) rfl (v_all5 _ _ _ _ _ _ _ _ _) ?_))
          go_roundw
          case rel => exact ⟨q + 1, _, a1', c1', E1, by omega, by go_num, HO2, Lib.hid (HP1.out.row (Nat.le_refl _) (by omega) _ _), Lib.hid (On.setRow HT1.out (Nat.le_refl _) (by omega))⟩
          case measure => simp [intOf]; omega
        · have hkb : (ky == 0) = false := by simpa using hk0
          have HO2 : Hid (putF nm (mergeV ((lk out nm).getD V0) y) out = mergeFs fs0 (us.take (q + 1))) := Lib.hid (by rw [HST.out, if_neg (fun e => hk0 (HKY.out.symm.trans e))])
          have HFO := Lib.hid (fieldP_at (pOn (inD D w.heap.size (w.heap.size + 3)) Y) 5 0 eB ai3 0 ci3 out av cv E nm Y (Below.refl _ _) HTY.out.sl HTY.out.all)
          obtain ⟨d0, d1, d2, d3, d4⟩ := HPY.out.c
          clear HST HKY HO hk0
          go_upto_region 11 with (first
            | (go_at_call 27; refine HFO.out.mono ?_; rintro e w2 ⟨co, rfl, hFO, hb2⟩; have hON : On (inD D w.heap.size (w.heap.size + 3)) (fun Z => RepV Z ((lk out nm).getD V0) co) w2 := fop_on hFO hb2; obtain ⟨k8, n8, s8, a8, m8, r8, a9, m9, r9, rfl⟩ := V5on hON; have HON := Lib.hid hON; have HP2 := Lib.hid (HPY.out.ext hb2); have HT2 := Lib.hid (HTY.out.below hb2); have HRV2 := Lib.hid (HRV.out.below hb2); have HRF2 := Lib.hid (HRF.out.ext hb2); have HWS2 : Hid (w.heap.size + 3 ≤ w2.heap.size) := Lib.hid (Nat.le_trans HYS.out hb2.size); clear hFO hON hb2 HFO d0 d1 d2 d3 d4 f0 f1 f2 f3 f4 f5)
            | (refine wpList_store_row rfl _ _ _ rfl w2.heap.size (vAr k8 n8 s8 (.slice a8 m8 r8) (.slice a9 m9 r9)) rfl rfl _ _ (RH.new _ _ _) (v_inf5 _ _ _ _ _) rfl (v_all5 _ _ _ _ _ _ _ _ _) ?_))
          refine wp_stored fun Y2 hbY2 hRo => ?_
          have HP4 := Lib.hid (HP2.out.ext hbY2)
          have HT4 := Lib.hid (HT2.out.below hbY2)
          have HOL := Lib.hid (HON.out.below hbY2)
          have HRV4 := Lib.hid (HRV2.out.below hbY2)
          have HRF4 := HRF2.out.ext hbY2
          have HWS4 : Hid (w.heap.size + 3 ≤ Y2.heap.size) := Lib.hid (Nat.le_trans HWS2.out hbY2.size)
          obtain ⟨o0, o1, o2, o3, o4⟩ := va5 hRo
          obtain ⟨d0, d1, d2, d3, d4⟩ := HP4.out.c
          have f0 : Y2.cell? ⟨fb, 0, none⟩ = some (.string nm) := HRF4.cell 0
          have f1 : Y2.cell? ⟨fb, 1, none⟩ = some (.int .i64 ky) := HRF4.cell 1
          have f2 : Y2.cell? ⟨fb, 2, none⟩ = some (.int .i64 ny) := HRF4.cell 2
          have f3 : Y2.cell? ⟨fb, 3, none⟩ = some (.string sy) := HRF4.cell 3
          have f4 : Y2.cell? ⟨fb, 4, none⟩ = some (.slice a1 m1 r1) := HRF4.cell 4
          have f5 : Y2.cell? ⟨fb, 5, none⟩ = some (.slice a2 m2 r2) := HRF4.cell 5
          have HPC : Hid (∀ W9, Below Y2.heap.size Y2 W9 → Calls Try.prog 13 #[.agg #[.int .i64 k8, .int .i64 n8, .string s8, .slice a8 m8 r8, .slice a9 m9 r9], .agg #[.int .i64 ky, .int .i64 ny, .string sy, .slice a1 m1 r1, .slice a2 m2 r2]] W9 (MdPost (inD D w.heap.size (w.heap.size + 3)) (mergeV ((lk out nm).getD V0) y) W9)) := Lib.hid (fun W9 hW => HMC.out (inD D w.heap.size (w.heap.size + 3)) _ _ _ W9 (HOL.out.below hW) (HRV4.out.below hW) HLK.out HCY.out)
          generalize w2.heap.size = ob at *
          clear HRF4 hRo hbY2 HP2 HT2 HON HRV2 HRF2 HWS2 HMC HLK HCY
          refine Grow.wp_region_grow 7 [TP.eq (.agg #[.int .i64 5, .int .i64 0, .string eB, .slice ai3 0 ci3, .slice av out.length cv]), TP.eq (.pointer (some ⟨fb, 0, none⟩)), TP.eq (.string nm), TP.eq (.agg #[.int .i64 k8, .int .i64 n8, .string s8, .slice a8 m8 r8, .slice a9 m9 r9]), TP.eq (.pointer (some ⟨fb, 1, none⟩)), TP.eq (.agg #[.int .i64 ky, .int .i64 ny, .string sy, .slice a1 m1 r1, .slice a2 m2 r2]), TPm (inD D w.heap.size (w.heap.size + 3)) (mergeV ((lk out nm).getD V0) y)] [[], [], [1], [], [], [4], [3, 5]] (by kernel_rfl) (by kernel_rfl) ⟨?o0e, ?o1e, ?o2e, ?o3e, ?o4e, ?o5e, ?o6e, trivial⟩ ?tle
          case o0e =>
            intro w' hb
            have d0' : w'.cell? ⟨w.heap.size, 0, none⟩ = some (.int .i64 5) := (hb.cell (World.block_lt_of_cell? _ _ d0)).trans d0
            have d1' : w'.cell? ⟨w.heap.size, 1, none⟩ = some (.int .i64 0) := (hb.cell (World.block_lt_of_cell? _ _ d1)).trans d1
            have d2' : w'.cell? ⟨w.heap.size, 2, none⟩ = some (.string eB) := (hb.cell (World.block_lt_of_cell? _ _ d2)).trans d2
            have d3' : w'.cell? ⟨w.heap.size, 3, none⟩ = some (.slice ai3 0 ci3) := (hb.cell (World.block_lt_of_cell? _ _ d3)).trans d3
            have d4' : w'.cell? ⟨w.heap.size, 4, none⟩ = some (.slice av out.length cv) := (hb.cell (World.block_lt_of_cell? _ _ d4)).trans d4
            show wpList _ _ _ _ _ _
            go_wp2
            exact ⟨rfl, Below.refl _ _, rfl⟩
          case o1e =>
            intro w' hb
            show wpList _ _ _ _ _ _
            go_wp2
            exact ⟨rfl, Below.refl _ _, rfl⟩
          case o2e =>
            intro w' hb v1 hv1
            have f0' : w'.cell? ⟨fb, 0, none⟩ = some (.string nm) := (hb.cell (World.block_lt_of_cell? _ _ f0)).trans f0
            obtain rfl : v1 = _ := hv1
            show wpList _ _ _ _ _ _
            simp only [Grow.dstOf, List.getElem?_toArray, List.getElem?_cons_succ, List.getElem?_cons_zero, Option.bind_some, Act.put, List.setIfInBounds_toArray, List.set_cons_succ, List.set_cons_zero]
            go_wp2
            exact ⟨rfl, Below.refl _ _, rfl⟩
          case o3e =>
            intro w' hb
            have o0' : w'.cell? ⟨ob, 0, none⟩ = some (.int .i64 k8) := (hb.cell (World.block_lt_of_cell? _ _ o0)).trans o0
            have o1' : w'.cell? ⟨ob, 1, none⟩ = some (.int .i64 n8) := (hb.cell (World.block_lt_of_cell? _ _ o1)).trans o1
            have o2' : w'.cell? ⟨ob, 2, none⟩ = some (.string s8) := (hb.cell (World.block_lt_of_cell? _ _ o2)).trans o2
            have o3' : w'.cell? ⟨ob, 3, none⟩ = some (.slice a8 m8 r8) := (hb.cell (World.block_lt_of_cell? _ _ o3)).trans o3
            have o4' : w'.cell? ⟨ob, 4, none⟩ = some (.slice a9 m9 r9) := (hb.cell (World.block_lt_of_cell? _ _ o4)).trans o4
            show wpList _ _ _ _ _ _
            go_wp2
            exact ⟨rfl, Below.refl _ _, rfl⟩
          case o4e =>
            intro w' hb
            show wpList _ _ _ _ _ _
            go_wp2
            exact ⟨rfl, Below.refl _ _, rfl⟩
          case o5e =>
            intro w' hb v4 hv4
            have f1' : w'.cell? ⟨fb, 1, none⟩ = some (.int .i64 ky) := (hb.cell (World.block_lt_of_cell? _ _ f1)).trans f1
            have f2' : w'.cell? ⟨fb, 2, none⟩ = some (.int .i64 ny) := (hb.cell (World.block_lt_of_cell? _ _ f2)).trans f2
            have f3' : w'.cell? ⟨fb, 3, none⟩ = some (.string sy) := (hb.cell (World.block_lt_of_cell? _ _ f3)).trans f3
            have f4' : w'.cell? ⟨fb, 4, none⟩ = some (.slice a1 m1 r1) := (hb.cell (World.block_lt_of_cell? _ _ f4)).trans f4
            have f5' : w'.cell? ⟨fb, 5, none⟩ = some (.slice a2 m2 r2) := (hb.cell (World.block_lt_of_cell? _ _ f5)).trans f5
            obtain rfl : v4 = _ := hv4
            show wpList _ _ _ _ _ _
            simp only [Grow.dstOf, List.getElem?_toArray, List.getElem?_cons_succ, List.getElem?_cons_zero, Option.bind_some, Act.put, List.setIfInBounds_toArray, List.set_cons_succ, List.set_cons_zero]
            go_wp2
            exact ⟨rfl, Below.refl _ _, rfl⟩
          case o6e =>
            intro w' hb v3 hv3 v5 hv5
            obtain rfl : v3 = _ := hv3
            obtain rfl : v5 = _ := hv5
            show wpList _ _ _ _ _ _
            simp only [Grow.dstOf, List.getElem?_toArray, List.getElem?_cons_succ, List.getElem?_cons_zero, Option.bind_some, Act.put, List.setIfInBounds_toArray, List.set_cons_succ, List.set_cons_zero]
            go_wp2_with fail
            refine (HPC.out w' hb).mono ?_
            rintro e wz ⟨c9, rfl, hf9, hbz9⟩
            go_wp2
            exact ⟨⟨c9, rfl, On.calls hf9 (Nat.le_trans HWS4.out hb.size)⟩, hbz9, rfl⟩
          case tle =>
            intro w3 hbz u0 hu0 u1 hu1 u2 hu2 u3 hu3 u4 hu4 u5 hu5 u6 hu6
            obtain rfl : u0 = _ := hu0
            obtain rfl : u1 = _ := hu1
            obtain rfl : u2 = _ := hu2
            obtain rfl : u3 = _ := hu3
            obtain rfl : u4 = _ := hu4
            obtain rfl : u5 = _ := hu5
            obtain ⟨c9, rfl, hf9⟩ := hu6
            obtain ⟨k6, n6, s6, a6, m6, r6, a7, m7, r7, rfl⟩ := V5on hf9
            have HP6 := Lib.hid (HP4.out.ext hbz)
            have HT6 := Lib.hid (HT4.out.below hbz)
            have HPU := Lib.hid (putP_at 5 0 eB ai3 0 ci3 out av cv E nm (mergeV ((lk out nm).getD V0) y) _ w3 (pOn (inD D w.heap.size (w.heap.size + 3)) w3) HT6.out.sl HT6.out.all hf9.now (on_field hf9 HNM.out) HSO.out (by omega) HNM.out)
            have HW6 : Hid (w.heap.size + 3 ≤ w3.heap.size) := Lib.hid (Nat.le_trans HWS4.out hbz.size)
            clear HPC d0 d1 d2 d3 d4 o0 o1 o2 o3 o4 f0 f1 f2 f3 f4 f5 HP4 HT4 HWS4 HOL HRV4 hf9 hbz
            show wpList _ _ _ _ _ _
            simp only [Act.put, List.setIfInBounds_toArray, List.set_cons_succ, List.set_cons_zero]
            go_wp2_with (first
              | (go_at_call 28; refine HPU.out.mono ?_; rintro e w1 ⟨a1', c1', E1, rfl, hO1, hb1⟩; have HP1 := Lib.hid (HP6.out.ext hb1); have HT1 := Lib.hid (FR.ofQ hO1 hb1 HW6.out); clear hO1 hb1 HPU)
              | (refine wpList_store_row rfl _ _ _ rfl (w.heap.size) (vAr 5 0 eB (.slice ai3 0 ci3) (.slice a1' (putF nm (mergeV ((lk out nm).getD V0) y) out).length c1')) rfl rfl _ _ HP1.out.rv (v_inf5 _ _ _ _ _) rfl (v_all5 _ _ _ _ _ _ _ _ _) ?_))
            go_roundw
            case rel => exact ⟨q + 1, _, a1', c1', E1, by omega, by go_num, HO2, Lib.hid (HP1.out.row (Nat.le_refl _) (by omega) _ _), Lib.hid (On.setRow HT1.out (Nat.le_refl _) (by omega))⟩
            case measure => simp [intOf]; omega
      · obtain rfl : q = us.length := by omega
        have HOF : Hid (out = mergeFs fs0 us) := Lib.hid (by rw [HO.out, List.take_length])
        obtain ⟨AR, hAR, hAS⟩ := HP.out.rr
        have HAR := Lib.hid hAR
        obtain ⟨d0, d1, d2, d3, d4⟩ := HP.out.c
        have HFIN : Hid (MdPost D (obj (mergeFs fs0 us)) w (.returned (.agg (vAr 5 0 eB (.slice ai3 0 ci3) (.slice av out.length cv)))) (X.setRow (w.heap.size + 2) (vAr 5 0 eB (.slice ai3 0 ci3) (.slice av out.length cv)))) := Lib.hid ⟨_, rfl, by
          rw [← HOF.out]
          exact On.fin (On.setRow (on_obj HII.out HT.out) (by omega) (by omega)) (by omega), below_setRow HP.out.bx (by omega) _⟩
        clear hAR HO hlt hq HP HT
        go_wp2_with (refine wpList_store_row rfl _ _ _ rfl (w.heap.size + 2) (vAr 5 0 eB (.slice ai3 0 ci3) (.slice av out.length cv)) rfl rfl _ _ HAR.out (v_inf5 _ _ _ _ _) hAS (v_all5 _ _ _ _ _ _ _ _ _) ?_)
        (try simp only [Exit.inBlock, Exit.then])
        refine bodyPost_ret (v := .agg (vAr 5 0 eB (.slice ai3 0 ci3) (.slice av out.length cv))) (results_cell_row rfl _ _ _ _ _ _ _ rfl (HAR.out.row _) Try.underlying25 rfl (v_inf5 _ _ _ _ _)) rfl HFIN.out
/- merged at every patch -/
mutual
theorem mdV : ∀ p : V, MdAt p
  | .mk k n s is us => by
    by_cases hk : k = 5
    · subst hk
      exact md_obj n s is us (mdF us)
    · exact md_not k n s is us hk
theorem mdF : ∀ l : List F, ∀ f ∈ l, MdAt (vlF f)
  | [] => fun _ h => by cases h
  | .mk nm y :: l => fun f h => (List.mem_cons.1 h).elim (fun e => by rw [e]; exact mdV y) (fun h => mdF l f h)
end
end Fd
end Go.Proofs.Ytkjgifhklajifaa
