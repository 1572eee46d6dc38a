/- patch of package value at objects; at all values. Printed by gen_vpat.py. -/
import Derived.Test.YtkjgifhklajifaaPm13
namespace Go.Proofs.Ytkjgifhklajifaa
open Go.RowKit
namespace Fd
open _root_.Go.Proofs.Ytkjgifhklajifaa.Nt (RH RH.cell RH.box RH.lt RH.new RH.ext RH.fre RH.set RH.other)
open _root_.Go.Proofs.Ytkjgifhklajifaa.Rw (All2 All2.get All2.length wpList_load_agg wp_stored fl_at Kept Fresh own_mono own_base wp_region_below callsGrow GrownOf GrownOf.of)
set_option maxRecDepth 100000 in
set_option maxHeartbeats 16000000 in
theorem pat_obj (n : Int) (s : ByteArray) (is : List V) (fs : List F) (HI : ∀ f ∈ fs, PtAt (vlF f)) : ∀ (y : V) (cs cy : List Value) (w : World), kind y = 5 → RepV w (.mk 5 n s is fs) cs → RepV w y cy → chkV (.mk 5 n s is fs) = 0 → chkV y = 0 →
    Calls Try.prog 15 #[.agg cs.toArray, .agg cy.toArray] w (CopyPost (patchV (.mk 5 n s is fs) y) w) := by
  intro y cs cy w hk hx hp hcx hcp
  rw [patchV_obj rfl hk]
  have HU : Hid (Srt fs ∧ (∀ f ∈ fs, chkV (vlF f) = 0) ∧ fs.length ≤ 100) := Lib.hid ⟨(fields_ok hcx).1, (fields_ok hcx).2, (fs_len hcx).1⟩
  have HV : Hid (Srt (fields y) ∧ (∀ f ∈ fields y, chkV (vlF f) = 0) ∧ (fields y).length ≤ 100) := Lib.hid ⟨(fields_ok hcp).1, (fields_ok hcp).2, (fs_len hcp).1⟩
  obtain ⟨k2, n2, s2, is2, ts⟩ := y
  obtain rfl : k2 = 5 := hk
  obtain ⟨ai, ci, af, cf, EI, EF, rfl, i1, i2, i3, hV⟩ := RepV.open hx
  obtain ⟨bi, di, bf, df, YI, YF, rfl, j1, j2, j3, hY⟩ := RepV.open hp
  have HSU := Lib.hid (And.intro hV.sf hV.rf)
  have HSV := Lib.hid (And.intro hY.sf hY.rf)
  have HMG := Lib.hid HI
  change Hid (Srt ts ∧ (∀ f ∈ ts, chkV (vlF f) = 0) ∧ ts.length ≤ 100) at HV
  show Calls Try.prog 15 _ w (CopyPost (obj (putAll [] (ents fs ts))) w)
  have hul := HU.out.2.2
  have hvl := HV.out.2.2
  clear hx hp hV hY i1 i2 i3 j1 j2 j3 hcp hcx HI
  obtain ⟨A1, hA1⟩ : ∃ A1, A1 = vAr 5 n s (.slice ai is.length ci) (.slice af fs.length cf) := ⟨_, rfl⟩
  obtain ⟨A2, hA2⟩ : ∃ A2, A2 = vAr 5 n2 s2 (.slice bi is2.length di) (.slice bf ts.length df) := ⟨_, rfl⟩
  have H14 : Hid (A1[4]? = some (.slice af fs.length cf)) := Lib.hid (by rw [hA1]; rfl)
  have H24 : Hid (A2[4]? = some (.slice bf ts.length df)) := Lib.hid (by rw [hA2]; rfl)
  have HA1 := Lib.hid hA1
  have HA2 := Lib.hid hA2
  clear hA1 hA2
  go_enter Try.func15, Try.ntmps15
  go_upto_region 1 with (fail)
  refine wp_vr3 fun W hbW hR1 hR2 hR3 => ?_
  have a0 : W.cell? ⟨w.heap.size, 0, none⟩ = some (.int .i64 5) := hR1.cell 0
  have c0 : W.cell? ⟨w.heap.size + 1, 0, none⟩ = some (.int .i64 5) := hR2.cell 0
  have HR1 : Hid (RH W w.heap.size A1 25) := Lib.hid (by rw [HA1.out]; exact hR1)
  have HR2 : Hid (RH W (w.heap.size + 1) A2 25) := Lib.hid (by rw [HA2.out]; exact hR2)
  have HR3 := Lib.hid hR3
  have HBW := Lib.hid hbW
  have hdW : w.heap.size + 2 < W.heap.size := hR3.lt
  clear hR1 hR2 hR3 hbW HA1 HA2
  go_upto_region 4 with (first | (refine wpList_store_row rfl _ _ _ rfl W.heap.size (vAr 5 0 eB (.slice none 0 0) (.slice none 0 0)) rfl rfl _ _ (RH.new _ _ _) (v_inf5 _ _ _ _ _) rfl (v_all5 _ _ _ _ _ _ _ _ _) ?_))
  refine wp_stored fun X0 hbV hRd => ?_
  have HD2 := Lib.hid hdW
  have HP0 : Hid (PInv w X0 W.heap.size A1 A2 (.slice none ([] : List F).length 0)) := Lib.hid ⟨⟨hRd, ⟨_, HR3.out.ext hbV, rfl⟩, ext_trans HBW.out hbV⟩, HR1.out.ext hbV, HR2.out.ext hbV⟩
  have c4 : X0.cell? ⟨w.heap.size, 4, none⟩ = some (.slice af fs.length cf) := ((HR1.out.ext hbV).cell 4).trans H14.out
  clear a0 c0 hbV hRd HR1 HR2 HR3 HBW hdW
  generalize W.heap.size = d at *
  have HT0 : Hid (TopF (d + 1) X0 [] (.slice none ([] : List F).length 0) []) := Lib.hid (TopF.nil _ _)
  have HO0 : Hid (([] : List F) = patchFs (fs.take 0) ts) := Lib.hid (by rw [List.take_zero]; simp only [patchFs])
  go_wp2_with fail
  go_loopw [28] (fun i wr => ∃ (q : Nat) (out : List F) (av : Option Addr) (cv : Nat) (E : List (List Value)), q ≤ fs.length ∧ i = .int .i64 (q : Int) ∧ Hid (out = patchFs (fs.take q) ts) ∧ Hid (PInv w wr d A1 A2 (.slice av out.length cv)) ∧ Hid (TopF (d + 1) wr out (.slice av out.length cv) E)) (fun i _ => fs.length - (intOf i).toNat)
  case atStart => exact ⟨0, [], none, 0, [], Nat.zero_le _, rfl, HO0, HP0, HT0⟩
  case round =>
    clear HP0 HT0 HO0
    obtain ⟨q, out, av, cv, E, hq, rfl, HO, HP, HT⟩ := hrel
    generalize hXX : wr = X at *
    clear hXX c4
    have hol : out.length ≤ 100 := by
      have h1 := patchFs_len ts (fs.take q)
      rw [← HO.out, List.length_take] at h1
      omega
    by_cases hlt : q < fs.length
    · obtain ⟨f, hfu⟩ : ∃ f, fs[q]? = some f := ⟨_, List.getElem?_eq_getElem hlt⟩
      obtain ⟨cy, hcy, hry0⟩ := All2.get HSU.out.2 hfu
      have hry := RepF.ext HP.out.m.bx hry0
      obtain ⟨p, o, e0, hp0, hcell⟩ := sl_elem (HSU.out.1.ext HP.out.m.bx) (all_len (fun _ _ => RepF.len) HSU.out.2) (by omega) hcy
      subst e0
      obtain ⟨nm, y⟩ := f
      have hry2 := hry
      simp only [RepF] at hry2
      obtain ⟨cv5, rfl, hnm, hrv⟩ := hry2
      obtain ⟨ky, ny, sy, a1, m1, r1, a2, m2, r2, rfl⟩ := V5 hrv
      have HFU := Lib.hid hfu
      have HNM := Lib.hid hnm
      have HRV := Lib.hid hrv
      have HINF := Lib.hid (f_info hry)
      have HONE := Lib.hid (all_arr (RepF.one hry))
      have hqi : (q : Int) < (fs.length : Int) := by omega
      clear hfu hcy hry0 hry hnm hrv hp0
      go_upto_region 7 with (first | (refine wpList_load_agg rfl _ _ rfl p (o + q * 6) (by rfl) [.string nm, .int .i64 ky, .int .i64 ny, .string sy, .slice a1 m1 r1, .slice a2 m2 r2] (fun j v hj => by rw [Nat.add_assoc]; exact hcell j v hj) _ Try.underlying38 rfl HINF.out ?_) | (refine wpList_store_row rfl _ _ _ rfl X.heap.size #[.string nm, .int .i64 ky, .int .i64 ny, .string sy, .slice a1 m1 r1, .slice a2 m2 r2] rfl rfl _ _ (RH.new _ _ _) HINF.out rfl HONE.out ?_))
      refine wp_stored fun Y hbY hRf => ?_
      have HPY := Lib.hid (HP.out.ext hbY)
      have HTY := Lib.hid (HT.out.ext hbY)
      have HRY := Lib.hid (RepV.ext hbY HRV.out)
      have HRF := Lib.hid hRf
      have HFD : Hid (Calls Try.prog 21 #[.slice bf ts.length df, .string nm] Y (FndPost ts nm Y)) := Lib.hid (find_at ts HV.out.1 (by omega) nm bf df _ Y (HSV.out.1.ext HPY.out.m.bx) (All2.mono (fun _ _ h => RepF.ext HPY.out.m.bx h) HSV.out.2))
      have t4 : Y.cell? ⟨w.heap.size + 1, 4, none⟩ = some (.slice bf ts.length df) := (HPY.out.rt.cell 4).trans H24.out
      have f0 : Y.cell? ⟨X.heap.size, 0, none⟩ = some (.string nm) := hRf.cell 0
      generalize X.heap.size = fb at *
      clear hbY hRf hcell HP HT HRV HINF HONE
      go_wp2_with fail
      refine HFD.out.mono ?_
      rintro e w2 ⟨i, hb, rfl, hfa, hb2⟩
      clear t4 f0
      have HFA := Lib.hid hfa
      have HP2 := Lib.hid (HPY.out.ext hb2)
      have HT2 := Lib.hid (HTY.out.ext hb2)
      have HR2 := Lib.hid (RepV.ext hb2 HRY.out)
      have HRF2 := Lib.hid (HRF.out.ext hb2)
      have HIL := Lib.hid hfa.le
      have d4 : w2.cell? ⟨d, 4, none⟩ = some (.slice av out.length cv) := HP2.out.m.c4
      have f0 : w2.cell? ⟨fb, 0, none⟩ = some (.string nm) := HRF2.out.cell 0
      have f1 : w2.cell? ⟨fb, 1, none⟩ = some (.int .i64 ky) := HRF2.out.cell 1
      have f2 : w2.cell? ⟨fb, 2, none⟩ = some (.int .i64 ny) := HRF2.out.cell 2
      have f3 : w2.cell? ⟨fb, 3, none⟩ = some (.string sy) := HRF2.out.cell 3
      have f4 : w2.cell? ⟨fb, 4, none⟩ = some (.slice a1 m1 r1) := HRF2.out.cell 4
      have f5 : w2.cell? ⟨fb, 5, none⟩ = some (.slice a2 m2 r2) := HRF2.out.cell 5
      have HST : Hid (patchFs (fs.take (q + 1)) ts = out ++ patch1 nm y ts) := Lib.hid (by rw [take_snoc HFU.out, patchFs_snoc, ← HO.out])
      have HCY : Hid (chkV y = 0) := Lib.hid (HU.out.2.1 _ (List.mem_of_getElem? HFU.out))
      have HMC : Hid (PtAt y) := Lib.hid (HMG.out _ (List.mem_of_getElem? HFU.out))
      clear hfa hb2 HPY HTY HRY HRF HFD HO
      have HOB : Hid (∀ q9, (Value.slice av out.length cv).ownBlock = some q9 → d < q9 ∧ q9 < w2.heap.size) := Lib.hid (fun q9 h9 => own_base HT2.out.own q9 h9)
      have HDW : Hid (d + 1 ≤ w2.heap.size) := Lib.hid HP2.out.m.rd.lt
      have hol9 : out.length ≤ 100000 := by omega
      cases hb
      · have HO2 : Hid (out ++ [F.mk nm V0] = patchFs (fs.take (q + 1)) ts) := Lib.hid (by rw [HST.out]; unfold patch1; rw [(HFA.out.gone HV.out.1).1])
        have HF0 : Hid (∀ W9, FreV w2.heap.size W9 V0 [.int .i64 0, .int .i64 0, .string eB, .slice none 0 0, .slice none 0 0]) := Lib.hid (fun _ _ _ => rep_zero _)
        clear HST HCY HMC
        go_wp2_with (at_builtin; refine wpList_snocT rfl _ _ rfl rfl rfl HD2.out (HP2.out.ext (ext_alloc _ _)) (HT2.out.ext (ext_alloc _ _)) (HF0.out _) (HDW.out) ((ext_alloc _ _).size) HOB.out (RH.new _ _ _) HNM.out hol9 ?_; intro a7 c7 LN w7 hLN hP7 hT7; have HLN := Lib.hid hLN; have HP7 := Lib.hid hP7; have HT7 := Lib.hid hT7; have d7 := hP7.m.c4; have hz7 := hP7.m.rd.fre 4; clear hLN hP7 hT7)
        have HP8 : Hid (PInv w (w7.setCell ⟨d, 4, none⟩ (.slice a7 LN c7)) d A1 A2 (.slice a7 (out ++ [F.mk nm (V0)]).length c7)) := Lib.hid (by rw [← HLN.out]; exact HP7.out.set4 HD2.out _)
        have HT8 : Hid (TopF (d + 1) (w7.setCell ⟨d, 4, none⟩ (.slice a7 LN c7)) (out ++ [F.mk nm (V0)]) (.slice a7 (out ++ [F.mk nm (V0)]).length c7) (E ++ [.string nm :: [.int .i64 0, .int .i64 0, .string eB, .slice none 0 0, .slice none 0 0]])) := Lib.hid (by rw [← HLN.out]; exact topf_set4 HT7.out)
        clear d7 hz7
        go_wp2_with fail
        go_roundw
        case rel => exact ⟨q + 1, _, a7, c7, _, by omega, by go_num, HO2, HP8, HT8⟩
        case measure => simp [intOf]; omega
      · obtain ⟨x', hx', hlk, _, _⟩ := HFA.out.there HV.out.1
        have hil : i < ts.length := (List.getElem?_eq_some_iff.1 hx').1
        obtain ⟨cx0, hcx0, hrx0⟩ := All2.get HSV.out.2 hx'
        obtain ⟨p', o', e0, hp0', hcell'⟩ := sl_elem (HSV.out.1.ext HP2.out.m.bx) (all_len (fun _ _ => RepF.len) HSV.out.2) (by omega) hcx0
        subst e0
        have hrx1 := RepF.ext HP2.out.m.bx hrx0
        simp only [RepF] at hrx1
        obtain ⟨cx, rfl, _, hrx⟩ := hrx1
        obtain ⟨kx2, nx2, sx2, a3, m3, r3, a4, m4, r4, rfl⟩ := V5 hrx
        have HCX : Hid (chkV x' = 0) := Lib.hid (HV.out.2.1 _ (List.mem_of_getElem? hx'))
        have HLK := Lib.hid hlk
        have HRX := Lib.hid hrx
        have t4 : w2.cell? ⟨w.heap.size + 1, 4, none⟩ = some (.slice (some ⟨p', o', none⟩) ts.length df) := (HP2.out.rt.cell 4).trans H24.out
        have g1 : w2.cell? ⟨p', o' + i * 6 + 1, none⟩ = some (.int .i64 kx2) := by rw [Nat.add_assoc]; exact hcell' 1 _ rfl
        have g2 : w2.cell? ⟨p', o' + i * 6 + 2, none⟩ = some (.int .i64 nx2) := by rw [Nat.add_assoc]; exact hcell' 2 _ rfl
        have g3 : w2.cell? ⟨p', o' + i * 6 + 3, none⟩ = some (.string sx2) := by rw [Nat.add_assoc]; exact hcell' 3 _ rfl
        have g4 : w2.cell? ⟨p', o' + i * 6 + 4, none⟩ = some (.slice a3 m3 r3) := by rw [Nat.add_assoc]; exact hcell' 4 _ rfl
        have g5 : w2.cell? ⟨p', o' + i * 6 + 5, none⟩ = some (.slice a4 m4 r4) := by rw [Nat.add_assoc]; exact hcell' 5 _ rfl
        have hi0 : (0 : Int) ≤ (i : Int) := Int.natCast_nonneg _
        have hi1 : (i : Int) < (ts.length : Int) := by omega
        obtain ⟨z, hz⟩ : ∃ z, cmpV y x' = z := ⟨_, rfl⟩
        have HZ := Lib.hid hz
        clear hx' hlk hcx0 hrx0 hrx hcell' hz hp0'
        have hcmp : ∀ p : GrownOf w2, Calls Try.prog 32 #[.agg #[.int .i64 ky, .int .i64 ny, .string sy, .slice a1 m1 r1, .slice a2 m2 r2], .agg #[.int .i64 kx2, .int .i64 nx2, .string sx2, .slice a3 m3 r3, .slice a4 m4 r4]] p.v (fun e w' => e = .returned (.int .i64 z) ∧ Below p.v.heap.size p.v w') := fun p => by
          rw [← HZ.out]; exact compare_at y x' _ _ p.v (RepV.ext p.b HR2.out) (RepV.ext p.b HRX.out)
        have qf1 : ∀ p : GrownOf w2, p.v.cell? ⟨fb, 1, none⟩ = some (.int .i64 ky) := fun p => (p.b.cell (World.block_lt_of_cell? _ _ f1)).trans f1
        have qf2 : ∀ p : GrownOf w2, p.v.cell? ⟨fb, 2, none⟩ = some (.int .i64 ny) := fun p => (p.b.cell (World.block_lt_of_cell? _ _ f2)).trans f2
        have qf3 : ∀ p : GrownOf w2, p.v.cell? ⟨fb, 3, none⟩ = some (.string sy) := fun p => (p.b.cell (World.block_lt_of_cell? _ _ f3)).trans f3
        have qf4 : ∀ p : GrownOf w2, p.v.cell? ⟨fb, 4, none⟩ = some (.slice a1 m1 r1) := fun p => (p.b.cell (World.block_lt_of_cell? _ _ f4)).trans f4
        have qf5 : ∀ p : GrownOf w2, p.v.cell? ⟨fb, 5, none⟩ = some (.slice a2 m2 r2) := fun p => (p.b.cell (World.block_lt_of_cell? _ _ f5)).trans f5
        have qt4 : ∀ p : GrownOf w2, p.v.cell? ⟨w.heap.size + 1, 4, none⟩ = some (.slice (some ⟨p', o', none⟩) ts.length df) := fun p => (p.b.cell (World.block_lt_of_cell? _ _ t4)).trans t4
        have qg1 : ∀ p : GrownOf w2, p.v.cell? ⟨p', o' + i * 6 + 1, none⟩ = some (.int .i64 kx2) := fun p => (p.b.cell (World.block_lt_of_cell? _ _ g1)).trans g1
        have qg2 : ∀ p : GrownOf w2, p.v.cell? ⟨p', o' + i * 6 + 2, none⟩ = some (.int .i64 nx2) := fun p => (p.b.cell (World.block_lt_of_cell? _ _ g2)).trans g2
        have qg3 : ∀ p : GrownOf w2, p.v.cell? ⟨p', o' + i * 6 + 3, none⟩ = some (.string sx2) := fun p => (p.b.cell (World.block_lt_of_cell? _ _ g3)).trans g3
        have qg4 : ∀ p : GrownOf w2, p.v.cell? ⟨p', o' + i * 6 + 4, none⟩ = some (.slice a3 m3 r3) := fun p => (p.b.cell (World.block_lt_of_cell? _ _ g4)).trans g4
        have qg5 : ∀ p : GrownOf w2, p.v.cell? ⟨p', o' + i * 6 + 5, none⟩ = some (.slice a4 m4 r4) := fun p => (p.b.cell (World.block_lt_of_cell? _ _ g5)).trans g5
        go_wp2_with fail
        (refine wp_region_below (by kernel_rfl) (by kernel_rfl) ?_
         repeat (quiet_step (first | (go_at_call 32; refine callsGrow (hcmp _))))
         refine wpQuiet_nil ?_
         intro wq hw'
         have hbq := GrownOf.of hw'
         clear hw')
        clear hcmp qf1 qf2 qf3 qf4 qf5 qt4 qg1 qg2 qg3 qg4 qg5
        replace d4 : wq.cell? ⟨d, 4, none⟩ = some (.slice av out.length cv) := (hbq.cell (World.block_lt_of_cell? _ _ d4)).trans d4
        replace f0 : wq.cell? ⟨fb, 0, none⟩ = some (.string nm) := (hbq.cell (World.block_lt_of_cell? _ _ f0)).trans f0
        replace f1 : wq.cell? ⟨fb, 1, none⟩ = some (.int .i64 ky) := (hbq.cell (World.block_lt_of_cell? _ _ f1)).trans f1
        replace f2 : wq.cell? ⟨fb, 2, none⟩ = some (.int .i64 ny) := (hbq.cell (World.block_lt_of_cell? _ _ f2)).trans f2
        replace f3 : wq.cell? ⟨fb, 3, none⟩ = some (.string sy) := (hbq.cell (World.block_lt_of_cell? _ _ f3)).trans f3
        replace f4 : wq.cell? ⟨fb, 4, none⟩ = some (.slice a1 m1 r1) := (hbq.cell (World.block_lt_of_cell? _ _ f4)).trans f4
        replace f5 : wq.cell? ⟨fb, 5, none⟩ = some (.slice a2 m2 r2) := (hbq.cell (World.block_lt_of_cell? _ _ f5)).trans f5
        replace t4 : wq.cell? ⟨w.heap.size + 1, 4, none⟩ = some (.slice (some ⟨p', o', none⟩) ts.length df) := (hbq.cell (World.block_lt_of_cell? _ _ t4)).trans t4
        replace g1 : wq.cell? ⟨p', o' + i * 6 + 1, none⟩ = some (.int .i64 kx2) := (hbq.cell (World.block_lt_of_cell? _ _ g1)).trans g1
        replace g2 : wq.cell? ⟨p', o' + i * 6 + 2, none⟩ = some (.int .i64 nx2) := (hbq.cell (World.block_lt_of_cell? _ _ g2)).trans g2
        replace g3 : wq.cell? ⟨p', o' + i * 6 + 3, none⟩ = some (.string sx2) := (hbq.cell (World.block_lt_of_cell? _ _ g3)).trans g3
        replace g4 : wq.cell? ⟨p', o' + i * 6 + 4, none⟩ = some (.slice a3 m3 r3) := (hbq.cell (World.block_lt_of_cell? _ _ g4)).trans g4
        replace g5 : wq.cell? ⟨p', o' + i * 6 + 5, none⟩ = some (.slice a4 m4 r4) := (hbq.cell (World.block_lt_of_cell? _ _ g5)).trans g5
        replace HP2 := Lib.hid (HP2.out.ext hbq)
        replace HT2 := Lib.hid (HT2.out.ext hbq)
        replace HR2 := Lib.hid (RepV.ext hbq HR2.out)
        replace HRX := Lib.hid (RepV.ext hbq HRX.out)
        replace HOB : Hid (∀ q9, (Value.slice av out.length cv).ownBlock = some q9 → d < q9 ∧ q9 < wq.heap.size) := Lib.hid (fun q9 h9 => own_base HT2.out.own q9 h9)
        replace HDW : Hid (d + 1 ≤ wq.heap.size) := Lib.hid HP2.out.m.rd.lt
        clear hbq HRF2 HFA HIL
        generalize wq = w4 at *
        by_cases hz0 : z = 0
        · have HO2 : Hid (out = patchFs (fs.take (q + 1)) ts) := Lib.hid (by rw [HST.out]; unfold patch1; rw [HLK.out]; simp only; rw [HZ.out, if_neg (by rw [hz0]; decide), List.append_nil])
          subst hz0
          clear HST HCY HMC HCX
          go_wp2_with fail
          go_roundw
          case rel => exact ⟨q + 1, _, av, cv, _, by omega, by go_num, HO2, HP2, HT2⟩
          case measure => simp [intOf]; omega
        · have hzb : (z != 0) = true := by simpa using hz0
          have HO2 : Hid (out ++ [F.mk nm (patchV y x')] = patchFs (fs.take (q + 1)) ts) := Lib.hid (by rw [HST.out]; unfold patch1; rw [HLK.out]; simp only; rw [HZ.out, if_pos hz0])
          have HPC : Hid (∀ W9, Below w4.heap.size w4 W9 → Calls Try.prog 15 #[.agg #[.int .i64 ky, .int .i64 ny, .string sy, .slice a1 m1 r1, .slice a2 m2 r2], .agg #[.int .i64 kx2, .int .i64 nx2, .string sx2, .slice a3 m3 r3, .slice a4 m4 r4]] W9 (CopyPost (patchV y x') W9)) := Lib.hid (fun W9 hW => HMC.out x' _ _ W9 (RepV.ext hW HR2.out) (RepV.ext hW HRX.out) HCY.out HCX.out)
          clear HST HMC
          go_upto_region 11 with (fail)
          refine Grow.wp_region_grow 15 [TP.eq (.pointer (some ⟨d, 4, none⟩)), TP.eq (.slice av out.length cv), TP.eq (.pointer (some ⟨fb, 0, none⟩)), TP.eq (.string nm), TP.eq (.pointer (some ⟨fb, 1, none⟩)), TP.eq (.agg #[.int .i64 ky, .int .i64 ny, .string sy, .slice a1 m1 r1, .slice a2 m2 r2]), TP.eq (.pointer (some ⟨w.heap.size + 1, 4, none⟩)), TP.eq (.slice (some ⟨p', o', none⟩) ts.length df), TP.eq (.int .i64 (i : Int)), TP.eq (.pointer (some ⟨p', o' + i * 6, none⟩)), TP.eq (.pointer (some ⟨p', o' + i * 6 + 1, none⟩)), TP.eq (.agg #[.int .i64 kx2, .int .i64 nx2, .string sx2, .slice a3 m3 r3, .slice a4 m4 r4]), TPv w4.heap.size (patchV y x'), TPf w4.heap.size nm (patchV y x'), TPr w4.heap.size nm (patchV y x')] [[], [0], [], [2], [], [4], [], [6], [], [7, 8], [9], [10], [5, 11], [3, 12], [13]] (by kernel_rfl) (by kernel_rfl) ⟨?o0e, ?o1e, ?o2e, ?o3e, ?o4e, ?o5e, ?o6e, ?o7e, ?o8e, ?o9e, ?o10e, ?o11e, ?o12e, ?o13e, ?o14e, trivial⟩ ?tle
          case o0e =>
            intro w' hb
            show wpList _ _ _ _ _ _
            go_wp2
            exact ⟨rfl, Below.refl _ _, rfl⟩
          case o1e =>
            intro w' hb v0 hv0
            have d4' : w'.cell? ⟨d, 4, none⟩ = some (.slice av out.length cv) := (hb.cell (World.block_lt_of_cell? _ _ d4)).trans d4
            obtain rfl : v0 = _ := hv0
            show wpList _ _ _ _ _ _
            simp only [Grow.dstOf, List.getElem?_toArray, List.getElem?_cons_zero, Option.bind_some, Act.put, List.setIfInBounds_toArray, List.set_cons_succ, List.set_cons_zero]
            go_wp2
            exact ⟨rfl, Below.refl _ _, rfl⟩
          case o2e =>
            intro w' hb
            show wpList _ _ _ _ _ _
            go_wp2
            exact ⟨rfl, Below.refl _ _, rfl⟩
          case o3e =>
            intro w' hb v2 hv2
            have f0' : w'.cell? ⟨fb, 0, none⟩ = some (.string nm) := (hb.cell (World.block_lt_of_cell? _ _ f0)).trans f0
            obtain rfl : v2 = _ := hv2
            show wpList _ _ _ _ _ _
            simp only [Grow.dstOf, List.getElem?_toArray, List.getElem?_cons_succ, List.getElem?_cons_zero, Option.bind_some, Act.put, List.setIfInBounds_toArray, List.set_cons_succ, List.set_cons_zero]
            go_wp2
            exact ⟨rfl, Below.refl _ _, rfl⟩
          case o4e =>
            intro w' hb
            show wpList _ _ _ _ _ _
            go_wp2
            exact ⟨rfl, Below.refl _ _, rfl⟩
          case o5e =>
            intro w' hb v4 hv4
            have f1' : w'.cell? ⟨fb, 1, none⟩ = some (.int .i64 ky) := (hb.cell (World.block_lt_of_cell? _ _ f1)).trans f1
            have f2' : w'.cell? ⟨fb, 2, none⟩ = some (.int .i64 ny) := (hb.cell (World.block_lt_of_cell? _ _ f2)).trans f2
            have f3' : w'.cell? ⟨fb, 3, none⟩ = some (.string sy) := (hb.cell (World.block_lt_of_cell? _ _ f3)).trans f3
            have f4' : w'.cell? ⟨fb, 4, none⟩ = some (.slice a1 m1 r1) := (hb.cell (World.block_lt_of_cell? _ _ f4)).trans f4
            have f5' : w'.cell? ⟨fb, 5, none⟩ = some (.slice a2 m2 r2) := (hb.cell (World.block_lt_of_cell? _ _ f5)).trans f5
            obtain rfl : v4 = _ := hv4
            show wpList _ _ _ _ _ _
            simp only [Grow.dstOf, List.getElem?_toArray, List.getElem?_cons_succ, List.getElem?_cons_zero, Option.bind_some, Act.put, List.setIfInBounds_toArray, List.set_cons_succ, List.set_cons_zero]
            go_wp2
            exact ⟨rfl, Below.refl _ _, rfl⟩
          case o6e =>
            intro w' hb
            show wpList _ _ _ _ _ _
            go_wp2
            exact ⟨rfl, Below.refl _ _, rfl⟩
          case o7e =>
            intro w' hb v6 hv6
            have t4' : w'.cell? ⟨w.heap.size + 1, 4, none⟩ = some (.slice (some ⟨p', o', none⟩) ts.length df) := (hb.cell (World.block_lt_of_cell? _ _ t4)).trans t4
            obtain rfl : v6 = _ := hv6
            show wpList _ _ _ _ _ _
            simp only [Grow.dstOf, List.getElem?_toArray, List.getElem?_cons_succ, List.getElem?_cons_zero, Option.bind_some, Act.put, List.setIfInBounds_toArray, List.set_cons_succ, List.set_cons_zero]
            go_wp2
            exact ⟨rfl, Below.refl _ _, rfl⟩
          case o8e =>
            intro w' hb
            show wpList _ _ _ _ _ _
            go_wp2
            exact ⟨rfl, Below.refl _ _, rfl⟩
          case o9e =>
            intro w' hb v7 hv7 v8 hv8
            obtain rfl : v7 = _ := hv7
            obtain rfl : v8 = _ := hv8
            show wpList _ _ _ _ _ _
            simp only [Grow.dstOf, List.getElem?_toArray, List.getElem?_cons_succ, List.getElem?_cons_zero, Option.bind_some, Act.put, List.setIfInBounds_toArray, List.set_cons_succ, List.set_cons_zero]
            go_wp2
            exact ⟨rfl, Below.refl _ _, rfl⟩
          case o10e =>
            intro w' hb v9 hv9
            obtain rfl : v9 = _ := hv9
            show wpList _ _ _ _ _ _
            simp only [Grow.dstOf, List.getElem?_toArray, List.getElem?_cons_succ, List.getElem?_cons_zero, Option.bind_some, Act.put, List.setIfInBounds_toArray, List.set_cons_succ, List.set_cons_zero]
            go_wp2
            exact ⟨rfl, Below.refl _ _, rfl⟩
          case o11e =>
            intro w' hb v10 hv10
            have g1' : w'.cell? ⟨p', o' + i * 6 + 1, none⟩ = some (.int .i64 kx2) := (hb.cell (World.block_lt_of_cell? _ _ g1)).trans g1
            have g2' : w'.cell? ⟨p', o' + i * 6 + 2, none⟩ = some (.int .i64 nx2) := (hb.cell (World.block_lt_of_cell? _ _ g2)).trans g2
            have g3' : w'.cell? ⟨p', o' + i * 6 + 3, none⟩ = some (.string sx2) := (hb.cell (World.block_lt_of_cell? _ _ g3)).trans g3
            have g4' : w'.cell? ⟨p', o' + i * 6 + 4, none⟩ = some (.slice a3 m3 r3) := (hb.cell (World.block_lt_of_cell? _ _ g4)).trans g4
            have g5' : w'.cell? ⟨p', o' + i * 6 + 5, none⟩ = some (.slice a4 m4 r4) := (hb.cell (World.block_lt_of_cell? _ _ g5)).trans g5
            obtain rfl : v10 = _ := hv10
            show wpList _ _ _ _ _ _
            simp only [Grow.dstOf, List.getElem?_toArray, List.getElem?_cons_succ, List.getElem?_cons_zero, Option.bind_some, Act.put, List.setIfInBounds_toArray, List.set_cons_succ, List.set_cons_zero]
            go_wp2
            exact ⟨rfl, Below.refl _ _, rfl⟩
          case o12e =>
            intro w' hb v5 hv5 v11 hv11
            obtain rfl : v5 = _ := hv5
            obtain rfl : v11 = _ := hv11
            show wpList _ _ _ _ _ _
            simp only [Grow.dstOf, List.getElem?_toArray, List.getElem?_cons_succ, List.getElem?_cons_zero, Option.bind_some, Act.put, List.setIfInBounds_toArray, List.set_cons_succ, List.set_cons_zero]
            go_wp2_with fail
            refine (HPC.out w' hb).mono ?_
            rintro e wz ⟨c9, rfl, hf9, hbz9⟩
            go_wp2
            exact ⟨⟨c9, rfl, Fresh.mono hf9 hb.size⟩, hbz9, rfl⟩
          case o13e =>
            intro w' hb v3 hv3 v12 hv12
            obtain rfl : v3 = _ := hv3
            obtain ⟨c9, rfl, hf9⟩ := hv12
            obtain ⟨k5, n5, s5, a5, m5, r5, a6, m6, r6, rfl⟩ := V5 hf9.now
            show wpList _ _ _ _ _ _
            simp only [Grow.dstOf, List.getElem?_toArray, List.getElem?_cons_succ, List.getElem?_cons_zero, Option.bind_some, Act.put, List.setIfInBounds_toArray, List.set_cons_succ, List.set_cons_zero]
            go_wp2
            exact ⟨⟨_, rfl, hf9⟩, Below.refl _ _, rfl⟩
          case o14e =>
            intro w' hb v13 hv13
            obtain ⟨c9, rfl, hf9⟩ := hv13
            obtain ⟨k5, n5, s5, a5, m5, r5, a6, m6, r6, rfl⟩ := V5 hf9.now
            show wpList _ _ _ _ _ _
            simp only [Grow.dstOf, List.getElem?_toArray, List.getElem?_cons_succ, List.getElem?_cons_zero, Option.bind_some, Act.put, List.setIfInBounds_toArray, List.set_cons_succ, List.set_cons_zero]
            go_wp2
            exact ⟨⟨_, _, rfl, RH.new _ _ _, Fresh.kept hf9 (ext_alloc _ _).size (Kept.below (ext_alloc _ _))⟩, ext_alloc _ _, rfl⟩
          case tle =>
            intro w3 hbz u0 hu0 u1 hu1 u2 hu2 u3 hu3 u4 hu4 u5 hu5 u6 hu6 u7 hu7 u8 hu8 u9 hu9 u10 hu10 u11 hu11 u12 hu12 u13 hu13 u14 hu14
            obtain rfl : u0 = _ := hu0
            obtain rfl : u1 = _ := hu1
            obtain rfl : u2 = _ := hu2
            obtain rfl : u3 = _ := hu3
            obtain rfl : u4 = _ := hu4
            obtain rfl : u5 = _ := hu5
            obtain rfl : u6 = _ := hu6
            obtain rfl : u7 = _ := hu7
            obtain rfl : u8 = _ := hu8
            obtain rfl : u9 = _ := hu9
            obtain rfl : u10 = _ := hu10
            obtain rfl : u11 = _ := hu11
            obtain ⟨g9, c9, rfl, hR9, hf9⟩ := hu14
            obtain ⟨k5, n5, s5, a5, m5, r5, a6, m6, r6, rfl⟩ := V5 hf9.now
            clear d4 f0 f1 f2 f3 f4 f5 t4 g1 g2 g3 g4 g5 hu12 hu13
            show wpList _ _ _ _ _ _
            simp only [Act.put, List.setIfInBounds_toArray, List.set_cons_succ, List.set_cons_zero]
            refine wpList_snocT rfl _ _ rfl rfl rfl HD2.out (HP2.out.ext hbz) (HT2.out.ext hbz) (hf9) (HDW.out) (hbz.size) HOB.out (hR9) HNM.out hol9 ?_
            intro a7 c7 LN w7 hLN hP7 hT7
            have HLN := Lib.hid hLN
            have HP7 := Lib.hid hP7
            have HT7 := Lib.hid hT7
            have d7 := hP7.m.c4
            have hz7 := hP7.m.rd.fre 4
            clear hLN hP7 hT7
            go_wp2_with fail
            have HP8 : Hid (PInv w (w7.setCell ⟨d, 4, none⟩ (.slice a7 LN c7)) d A1 A2 (.slice a7 (out ++ [F.mk nm (patchV y x')]).length c7)) := Lib.hid (by rw [← HLN.out]; exact HP7.out.set4 HD2.out _)
            have HT8 : Hid (TopF (d + 1) (w7.setCell ⟨d, 4, none⟩ (.slice a7 LN c7)) (out ++ [F.mk nm (patchV y x')]) (.slice a7 (out ++ [F.mk nm (patchV y x')]).length c7) (E ++ [.string nm :: [.int .i64 k5, .int .i64 n5, .string s5, .slice a5 m5 r5, .slice a6 m6 r6]])) := Lib.hid (by rw [← HLN.out]; exact topf_set4 HT7.out)
            clear d7 hz7
            go_wp2_with fail
            go_roundw
            case rel => exact ⟨q + 1, _, a7, c7, _, by omega, by go_num, HO2, HP8, HT8⟩
            case measure => simp [intOf]; omega
    · obtain rfl : q = fs.length := by omega
      have HO1 : Hid (out = patchFs fs ts ++ newF fs (ts.take 0)) := Lib.hid (by rw [HO.out, List.take_length, List.take_zero]; exact (List.append_nil _).symm)
      have c5 : X.cell? ⟨w.heap.size + 1, 4, none⟩ = some (.slice bf ts.length df) := (HP.out.rt.cell 4).trans H24.out
      clear hlt hq HO hol
      go_wp2_with fail
      go_loopw [83] (fun i wr => ∃ (q : Nat) (out : List F) (av : Option Addr) (cv : Nat) (E : List (List Value)), q ≤ ts.length ∧ i = .int .i64 (q : Int) ∧ Hid (out = patchFs fs ts ++ newF fs (ts.take q)) ∧ Hid (PInv w wr d A1 A2 (.slice av out.length cv)) ∧ Hid (TopF (d + 1) wr out (.slice av out.length cv) E)) (fun i _ => ts.length - (intOf i).toNat)
      case atStart => exact ⟨0, out, av, cv, E, Nat.zero_le _, rfl, HO1, HP, HT⟩
      case round =>
        clear HP HT HO1
        obtain ⟨q, out, av, cv, E, hq, rfl, HO, HP, HT⟩ := hrel
        generalize hXX : wr = X at *
        clear hXX c5
        have hol : out.length ≤ 200 := by
          have h1 := patchFs_len ts fs
          have h2 := newF_len fs (ts.take q)
          rw [List.length_take] at h2
          rw [HO.out, List.length_append]
          omega
        by_cases hlt : q < ts.length
        · obtain ⟨f, hfu⟩ : ∃ f, ts[q]? = some f := ⟨_, List.getElem?_eq_getElem hlt⟩
          obtain ⟨cy, hcy, hry0⟩ := All2.get HSV.out.2 hfu
          have hry := RepF.ext HP.out.m.bx hry0
          obtain ⟨p, o, e0, hp0, hcell⟩ := sl_elem (HSV.out.1.ext HP.out.m.bx) (all_len (fun _ _ => RepF.len) HSV.out.2) (by omega) hcy
          subst e0
          obtain ⟨nm, y⟩ := f
          have hry2 := hry
          simp only [RepF] at hry2
          obtain ⟨cv5, rfl, hnm, hrv⟩ := hry2
          obtain ⟨ky, ny, sy, a1, m1, r1, a2, m2, r2, rfl⟩ := V5 hrv
          have HFU := Lib.hid hfu
          have HNM := Lib.hid hnm
          have HRV := Lib.hid hrv
          have HINF := Lib.hid (f_info hry)
          have HONE := Lib.hid (all_arr (RepF.one hry))
          have hqi : (q : Int) < (ts.length : Int) := by omega
          clear hfu hcy hry0 hry hnm hrv hp0
          go_upto_region 16 with (first | (refine wpList_load_agg rfl _ _ rfl p (o + q * 6) (by rfl) [.string nm, .int .i64 ky, .int .i64 ny, .string sy, .slice a1 m1 r1, .slice a2 m2 r2] (fun j v hj => by rw [Nat.add_assoc]; exact hcell j v hj) _ Try.underlying38 rfl HINF.out ?_) | (refine wpList_store_row rfl _ _ _ rfl X.heap.size #[.string nm, .int .i64 ky, .int .i64 ny, .string sy, .slice a1 m1 r1, .slice a2 m2 r2] rfl rfl _ _ (RH.new _ _ _) HINF.out rfl HONE.out ?_))
          refine wp_stored fun Y hbY hRf => ?_
          have HPY := Lib.hid (HP.out.ext hbY)
          have HTY := Lib.hid (HT.out.ext hbY)
          have HRY := Lib.hid (RepV.ext hbY HRV.out)
          have HRF := Lib.hid hRf
          have HFD : Hid (Calls Try.prog 21 #[.slice af fs.length cf, .string nm] Y (FndPost fs nm Y)) := Lib.hid (find_at fs HU.out.1 (by omega) nm af cf _ Y (HSU.out.1.ext HPY.out.m.bx) (All2.mono (fun _ _ h => RepF.ext HPY.out.m.bx h) HSU.out.2))
          have t4 : Y.cell? ⟨w.heap.size, 4, none⟩ = some (.slice af fs.length cf) := (HPY.out.rf.cell 4).trans H14.out
          have f0 : Y.cell? ⟨X.heap.size, 0, none⟩ = some (.string nm) := hRf.cell 0
          generalize X.heap.size = fb at *
          clear hbY hRf hcell HP HT HRV HINF HONE
          go_wp2_with fail
          refine HFD.out.mono ?_
          rintro e w2 ⟨i, hb, rfl, hfa, hb2⟩
          clear t4 f0
          have HFA := Lib.hid hfa
          have HP2 := Lib.hid (HPY.out.ext hb2)
          have HT2 := Lib.hid (HTY.out.ext hb2)
          have HR2 := Lib.hid (RepV.ext hb2 HRY.out)
          have HRF2 := Lib.hid (HRF.out.ext hb2)
          have HIL := Lib.hid hfa.le
          have d4 : w2.cell? ⟨d, 4, none⟩ = some (.slice av out.length cv) := HP2.out.m.c4
          have f0 : w2.cell? ⟨fb, 0, none⟩ = some (.string nm) := HRF2.out.cell 0
          have f1 : w2.cell? ⟨fb, 1, none⟩ = some (.int .i64 ky) := HRF2.out.cell 1
          have f2 : w2.cell? ⟨fb, 2, none⟩ = some (.int .i64 ny) := HRF2.out.cell 2
          have f3 : w2.cell? ⟨fb, 3, none⟩ = some (.string sy) := HRF2.out.cell 3
          have f4 : w2.cell? ⟨fb, 4, none⟩ = some (.slice a1 m1 r1) := HRF2.out.cell 4
          have f5 : w2.cell? ⟨fb, 5, none⟩ = some (.slice a2 m2 r2) := HRF2.out.cell 5
          have HST : Hid (patchFs fs ts ++ newF fs (ts.take (q + 1)) = out ++ (if (lk fs nm).isNone = true then [F.mk nm y] else [])) := Lib.hid (by rw [take_snoc HFU.out, newF_snoc, ← List.append_assoc, ← HO.out]; rfl)
          have HCY : Hid (chkV y = 0) := Lib.hid (HV.out.2.1 _ (List.mem_of_getElem? HFU.out))
          clear hfa hb2 HPY HTY HRY HRF HFD HO
          have HOB : Hid (∀ q9, (Value.slice av out.length cv).ownBlock = some q9 → d < q9 ∧ q9 < w2.heap.size) := Lib.hid (fun q9 h9 => own_base HT2.out.own q9 h9)
          have HDW : Hid (d + 1 ≤ w2.heap.size) := Lib.hid HP2.out.m.rd.lt
          have hol9 : out.length ≤ 100000 := by omega
          cases hb
          · have HO2 : Hid (out ++ [F.mk nm y] = patchFs fs ts ++ newF fs (ts.take (q + 1))) := Lib.hid (by rw [HST.out, (HFA.out.gone HU.out.1).1]; rfl)
            have HXC : Hid (∀ W9, Below w2.heap.size w2 W9 → Calls Try.prog 20 #[.agg #[.int .i64 ky, .int .i64 ny, .string sy, .slice a1 m1 r1, .slice a2 m2 r2]] W9 (CopyPost y W9)) := Lib.hid (fun W9 hW => (xcV y) _ W9 (RepV.ext hW HR2.out) HCY.out)
            clear HST
            go_upto_region 18 with (fail)
            refine Grow.wp_region_grow 9 [TP.eq (.pointer (some ⟨d, 4, none⟩)), TP.eq (.slice av out.length cv), TP.eq (.pointer (some ⟨fb, 0, none⟩)), TP.eq (.string nm), TP.eq (.pointer (some ⟨fb, 1, none⟩)), TP.eq (.agg #[.int .i64 ky, .int .i64 ny, .string sy, .slice a1 m1 r1, .slice a2 m2 r2]), TPv w2.heap.size y, TPf w2.heap.size nm y, TPr w2.heap.size nm y] [[], [0], [], [2], [], [4], [5], [3, 6], [7]] (by kernel_rfl) (by kernel_rfl) ⟨?o0n, ?o1n, ?o2n, ?o3n, ?o4n, ?o5n, ?o6n, ?o7n, ?o8n, trivial⟩ ?tln
            case o0n =>
              intro w' hb
              show wpList _ _ _ _ _ _
              go_wp2
              exact ⟨rfl, Below.refl _ _, rfl⟩
            case o1n =>
              intro w' hb v0 hv0
              have d4' : w'.cell? ⟨d, 4, none⟩ = some (.slice av out.length cv) := (hb.cell (World.block_lt_of_cell? _ _ d4)).trans d4
              obtain rfl : v0 = _ := hv0
              show wpList _ _ _ _ _ _
              simp only [Grow.dstOf, List.getElem?_toArray, List.getElem?_cons_zero, Option.bind_some, Act.put, List.setIfInBounds_toArray, List.set_cons_succ, List.set_cons_zero]
              go_wp2
              exact ⟨rfl, Below.refl _ _, rfl⟩
            case o2n =>
              intro w' hb
              show wpList _ _ _ _ _ _
              go_wp2
              exact ⟨rfl, Below.refl _ _, rfl⟩
            case o3n =>
              intro w' hb v2 hv2
              have f0' : w'.cell? ⟨fb, 0, none⟩ = some (.string nm) := (hb.cell (World.block_lt_of_cell? _ _ f0)).trans f0
              obtain rfl : v2 = _ := hv2
              show wpList _ _ _ _ _ _
              simp only [Grow.dstOf, List.getElem?_toArray, List.getElem?_cons_succ, List.getElem?_cons_zero, Option.bind_some, Act.put, List.setIfInBounds_toArray, List.set_cons_succ, List.set_cons_zero]
              go_wp2
              exact ⟨rfl, Below.refl _ _, rfl⟩
            case o4n =>
              intro w' hb
              show wpList _ _ _ _ _ _
              go_wp2
              exact ⟨rfl, Below.refl _ _, rfl⟩
            case o5n =>
              intro w' hb v4 hv4
              have f1' : w'.cell? ⟨fb, 1, none⟩ = some (.int .i64 ky) := (hb.cell (World.block_lt_of_cell? _ _ f1)).trans f1
              have f2' : w'.cell? ⟨fb, 2, none⟩ = some (.int .i64 ny) := (hb.cell (World.block_lt_of_cell? _ _ f2)).trans f2
              have f3' : w'.cell? ⟨fb, 3, none⟩ = some (.string sy) := (hb.cell (World.block_lt_of_cell? _ _ f3)).trans f3
              have f4' : w'.cell? ⟨fb, 4, none⟩ = some (.slice a1 m1 r1) := (hb.cell (World.block_lt_of_cell? _ _ f4)).trans f4
              have f5' : w'.cell? ⟨fb, 5, none⟩ = some (.slice a2 m2 r2) := (hb.cell (World.block_lt_of_cell? _ _ f5)).trans f5
              obtain rfl : v4 = _ := hv4
              show wpList _ _ _ _ _ _
              simp only [Grow.dstOf, List.getElem?_toArray, List.getElem?_cons_succ, List.getElem?_cons_zero, Option.bind_some, Act.put, List.setIfInBounds_toArray, List.set_cons_succ, List.set_cons_zero]
              go_wp2
              exact ⟨rfl, Below.refl _ _, rfl⟩
            case o6n =>
              intro w' hb v5 hv5
              obtain rfl : v5 = _ := hv5
              show wpList _ _ _ _ _ _
              simp only [Grow.dstOf, List.getElem?_toArray, List.getElem?_cons_succ, List.getElem?_cons_zero, Option.bind_some, Act.put, List.setIfInBounds_toArray, List.set_cons_succ, List.set_cons_zero]
              go_wp2_with fail
              refine (HXC.out w' hb).mono ?_
              rintro e wz ⟨c9, rfl, hf9, hbz9⟩
              go_wp2
              exact ⟨⟨c9, rfl, Fresh.mono hf9 hb.size⟩, hbz9, rfl⟩
            case o7n =>
              intro w' hb v3 hv3 v6 hv6
              obtain rfl : v3 = _ := hv3
              obtain ⟨c9, rfl, hf9⟩ := hv6
              obtain ⟨k5, n5, s5, a5, m5, r5, a6, m6, r6, rfl⟩ := V5 hf9.now
              show wpList _ _ _ _ _ _
              simp only [Grow.dstOf, List.getElem?_toArray, List.getElem?_cons_succ, List.getElem?_cons_zero, Option.bind_some, Act.put, List.setIfInBounds_toArray, List.set_cons_succ, List.set_cons_zero]
              go_wp2
              exact ⟨⟨_, rfl, hf9⟩, Below.refl _ _, rfl⟩
            case o8n =>
              intro w' hb v7 hv7
              obtain ⟨c9, rfl, hf9⟩ := hv7
              obtain ⟨k5, n5, s5, a5, m5, r5, a6, m6, r6, rfl⟩ := V5 hf9.now
              show wpList _ _ _ _ _ _
              simp only [Grow.dstOf, List.getElem?_toArray, List.getElem?_cons_succ, List.getElem?_cons_zero, Option.bind_some, Act.put, List.setIfInBounds_toArray, List.set_cons_succ, List.set_cons_zero]
              go_wp2
              exact ⟨⟨_, _, rfl, RH.new _ _ _, Fresh.kept hf9 (ext_alloc _ _).size (Kept.below (ext_alloc _ _))⟩, ext_alloc _ _, rfl⟩
            case tln =>
              intro w3 hbz u0 hu0 u1 hu1 u2 hu2 u3 hu3 u4 hu4 u5 hu5 u6 hu6 u7 hu7 u8 hu8
              obtain rfl : u0 = _ := hu0
              obtain rfl : u1 = _ := hu1
              obtain rfl : u2 = _ := hu2
              obtain rfl : u3 = _ := hu3
              obtain rfl : u4 = _ := hu4
              obtain rfl : u5 = _ := hu5
              obtain ⟨g9, c9, rfl, hR9, hf9⟩ := hu8
              obtain ⟨k5, n5, s5, a5, m5, r5, a6, m6, r6, rfl⟩ := V5 hf9.now
              clear d4 f0 f1 f2 f3 f4 f5  hu6 hu7
              show wpList _ _ _ _ _ _
              simp only [Act.put, List.setIfInBounds_toArray, List.set_cons_succ, List.set_cons_zero]
              refine wpList_snocT rfl _ _ rfl rfl rfl HD2.out (HP2.out.ext hbz) (HT2.out.ext hbz) (hf9) (HDW.out) (hbz.size) HOB.out (hR9) HNM.out hol9 ?_
              intro a7 c7 LN w7 hLN hP7 hT7
              have HLN := Lib.hid hLN
              have HP7 := Lib.hid hP7
              have HT7 := Lib.hid hT7
              have d7 := hP7.m.c4
              have hz7 := hP7.m.rd.fre 4
              clear hLN hP7 hT7
              go_wp2_with fail
              have HP8 : Hid (PInv w (w7.setCell ⟨d, 4, none⟩ (.slice a7 LN c7)) d A1 A2 (.slice a7 (out ++ [F.mk nm (y)]).length c7)) := Lib.hid (by rw [← HLN.out]; exact HP7.out.set4 HD2.out _)
              have HT8 : Hid (TopF (d + 1) (w7.setCell ⟨d, 4, none⟩ (.slice a7 LN c7)) (out ++ [F.mk nm (y)]) (.slice a7 (out ++ [F.mk nm (y)]).length c7) (E ++ [.string nm :: [.int .i64 k5, .int .i64 n5, .string s5, .slice a5 m5 r5, .slice a6 m6 r6]])) := Lib.hid (by rw [← HLN.out]; exact topf_set4 HT7.out)
              clear d7 hz7
              go_wp2_with fail
              go_roundw
              case rel => exact ⟨q + 1, _, a7, c7, _, by omega, by go_num, HO2, HP8, HT8⟩
              case measure => simp [intOf]; omega
          · have HO2 : Hid (out = patchFs fs ts ++ newF fs (ts.take (q + 1))) := Lib.hid (by
              obtain ⟨x', _, hlk, _, _⟩ := HFA.out.there HU.out.1
              rw [HST.out, hlk]; exact (List.append_nil _).symm)
            clear HST HCY
            go_wp2_with fail
            go_roundw
            case rel => exact ⟨q + 1, _, av, cv, _, by omega, by go_num, HO2, HP2, HT2⟩
            case measure => simp [intOf]; omega
        · obtain rfl : q = ts.length := by omega
          have HOF : Hid (out = ents fs ts) := Lib.hid (by rw [HO.out, List.take_length]; rfl)
          have d4 : X.cell? ⟨d, 4, none⟩ = some (.slice av out.length cv) := HP.out.m.c4
          have HSO := Lib.hid (sortFld_at (d + 1) X out (by omega) (.slice av out.length cv) E HT.out)
          have HOB : Hid (∀ q9, (Value.slice av out.length cv).ownBlock = some q9 → d < q9 ∧ q9 < X.heap.size) := Lib.hid (fun q9 h9 => own_base HT.out.own q9 h9)
          clear HO hlt hq
          go_wp2_with fail
          refine HSO.out.mono ?_
          rintro e w2 ⟨rfl, S, E2, hpm, hso, hT2, hg2⟩
          have HP2 := Lib.hid (HP.out.grown HD2.out hg2 (fun q9 h9 => (HOB.out q9 h9).1))
          have HT2 := Lib.hid hT2
          have HSP : Hid (S = putAll [] (ents fs ts)) := Lib.hid (by rw [← HOF.out]; exact sorted_put hpm hso (by rw [HOF.out]; exact ents_ne HU.out.1 HV.out.1))
          obtain ⟨AR, hAR, hAS⟩ := HP2.out.m.rr
          have HAR := Lib.hid hAR
          have HRD := Lib.hid HP2.out.m.rd
          have HFIN : Hid (CopyPost (obj (putAll [] (ents fs ts))) w (.returned (.agg (vAr 5 0 eB (.slice none 0 0) (.slice av out.length cv)))) (w2.setRow (w.heap.size + 2) (vAr 5 0 eB (.slice none 0 0) (.slice av out.length cv)))) := Lib.hid ⟨_, rfl, fun w'' hk => by
            have hk2 : Kept (d + 1) w2 w'' := fun q9 h1 h2 => (hk q9 (by have := HD2.out; omega) (by rw [setRow_size]; exact h2)).trans (setRow_other _ _ _ _ (by have := HD2.out; omega))
            rw [← HSP.out]
            exact rep_mk (k := 5) (n := 0) (s := ByteArray.empty) (is := []) (EI := []) ⟨by unfold i64ok; omega, by unfold i64ok; omega, by decide⟩ (Sl.nil w'') trivial (HT2.out.fin hk2).1 (HT2.out.fin hk2).2, below_setRow HP2.out.m.bx (by omega) _⟩
          clear hAR hpm hso hT2 hg2 d4 HP HT HSO
          go_wp2_with (first | (refine wpList_load_agg rfl _ _ rfl d 0 (by rfl) [.int .i64 5, .int .i64 0, .string eB, .slice none 0 0, .slice av out.length cv] (vAr_cell HRD.out) _ Try.underlying25 rfl (v_inf5 5 0 eB (.slice none 0 0) (.slice av out.length cv)) ?_) | (refine wpList_store_row rfl _ _ _ rfl (w.heap.size + 2) (vAr 5 0 eB (.slice none 0 0) (.slice av out.length cv)) rfl rfl _ _ HAR.out (v_inf5 _ _ _ _ _) hAS (v_all5 _ _ _ _ _ _ _ _ _) ?_))
          (try simp only [Exit.inBlock, Exit.then])
          refine bodyPost_ret (v := .agg (vAr 5 0 eB (.slice none 0 0) (.slice av out.length cv))) (results_cell_row rfl _ _ _ _ _ _ _ rfl (HAR.out.row _) Try.underlying25 rfl (v_inf5 _ _ _ _ _)) rfl HFIN.out
/- patch at every value -/
mutual
theorem ptV : ∀ x : V, PtAt x
  | .mk k n s is fs => fun y cs cy w hx hy hcx hcy => by
    by_cases h : k = 5 ∧ kind y = 5
    · obtain ⟨rfl, h5⟩ := h
      exact pat_obj n s is fs (ptF fs) y cs cy w h5 hx hy hcx hcy
    · exact pat_not _ y cs cy w h hx hy hcy
theorem ptF : ∀ l : List F, ∀ f ∈ l, PtAt (vlF f)
  | [] => fun _ h => by cases h
  | .mk nm y :: l => fun f h => (List.mem_cons.1 h).elim (fun e => by rw [e]; exact ptV y) (fun h => ptF l f h)
end
end Fd
end Go.Proofs.Ytkjgifhklajifaa
