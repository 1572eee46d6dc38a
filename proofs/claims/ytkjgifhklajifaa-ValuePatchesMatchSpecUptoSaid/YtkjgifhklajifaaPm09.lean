/- merge of package value: an object is patched. Printed by gen_vmrg.py. -/
import Derived.Test.YtkjgifhklajifaaPm08
namespace Go.Proofs.Ytkjgifhklajifaa
open Go.RowKit
namespace Fd
open _root_.Go.Proofs.Ytkjgifhklajifaa.Nt (RH RH.cell RH.box RH.lt RH.new RH.ext RH.fre RH.set RH.other)
open _root_.Go.Proofs.Ytkjgifhklajifaa.Rw (All2 All2.get All2.length wpList_load_agg wp_stored fl_at Kept Fresh own_mono own_base)
set_option maxRecDepth 100000 in
set_option maxHeartbeats 16000000 in
theorem mrg_obj5 (n : Int) (s : ByteArray) (is : List V) (us : List F) (HI : ∀ f ∈ us, MgAt (vlF f)) : ∀ (x : V) (cs cp : List Value) (w : World), kind x = 5 → RepV w x cs → RepV w (.mk 5 n s is us) cp → chkV x = 0 → chkV (.mk 5 n s is us) = 0 → Calls Try.prog 11 #[.agg cs.toArray, .agg cp.toArray] w (CopyPost (mergeV x (.mk 5 n s is us)) w) := by
  intro x cs cp w hk hx hp hcx hcp
  obtain ⟨fs0, hfs0⟩ : ∃ fs0, fields (base x) = fs0 := ⟨_, rfl⟩
  have hm : mergeV x (.mk 5 n s is us) = obj (mergeFs fs0 us) := by
    simp only [mergeV, if_neg (show ¬ (5 : Int) ≠ 5 by simp)]
    rw [base_set hcx, hfs0]
  rw [hm]
  have HS0 : Hid (Srt fs0 ∧ (∀ f ∈ fs0, chkV (vlF f) = 0) ∧ fs0.length ≤ 100) := Lib.hid (by rw [← hfs0]; exact ⟨(base_right hcx).1, (base_right hcx).2, base_len hcx⟩)
  obtain ⟨_, _, hu1, hu2⟩ := chkV_ok hcp
  have hul : us.length ≤ 100 := (fs_len hcp).1
  have HU := Lib.hid (And.intro hu1 hu2)
  obtain ⟨ai, ci, af, cf, EI, EF, rfl, i1, i2, i3, hV⟩ := RepV.open hp
  have HSU := Lib.hid (And.intro hV.sf hV.rf)
  have HMG := Lib.hid HI
  obtain ⟨kx, nx, sx, isx, fsx⟩ := x
  have HK9 : Hid (kx = 5) := Lib.hid hk
  clear hk
  obtain ⟨bi, di, bf, df, XI0, XF0, rfl, j1, j2, j3, hVx⟩ := RepV.open hx
  have HX := Lib.hid hx
  have HCX := Lib.hid hcx
  clear hm hx hp hV hVx i1 i2 i3 j1 j2 j3 hcp hu1 hu2 HI
  go_enter Try.func11, Try.ntmps11
  go_upto_region 1 with (fail)
  refine wp_vr3 fun W hbW hR1 hR2 hR3 => ?_
  have a0 : W.cell? ⟨w.heap.size, 0, none⟩ = some (.int .i64 kx) := hR1.cell 0
  have a1 : W.cell? ⟨w.heap.size, 1, none⟩ = some (.int .i64 nx) := hR1.cell 1
  have a2 : W.cell? ⟨w.heap.size, 2, none⟩ = some (.string sx) := hR1.cell 2
  have a3 : W.cell? ⟨w.heap.size, 3, none⟩ = some (.slice bi isx.length di) := hR1.cell 3
  have a4 : W.cell? ⟨w.heap.size, 4, none⟩ = some (.slice bf fsx.length df) := hR1.cell 4
  have c0 : W.cell? ⟨w.heap.size + 1, 0, none⟩ = some (.int .i64 5) := hR2.cell 0
  have HR1 := Lib.hid hR1
  have HR2 := Lib.hid hR2
  have HR3 := Lib.hid hR3
  have HBW := Lib.hid hbW
  have hdW : w.heap.size + 2 < W.heap.size := hR3.lt
  clear hR1 hR2 hR3 hbW
  go_upto_region 4 with (first | (refine wpList_store_row rfl _ _ _ rfl W.heap.size (vAr 5 0 eB (.slice none 0 0) (.slice none 0 0)) rfl rfl _ _ (RH.new _ _ _) (v_inf5 _ _ _ _ _) rfl (v_all5 _ _ _ _ _ _ _ _ _) ?_))
  refine wp_stored fun WV hbV hRd => ?_
  replace a0 : WV.cell? ⟨w.heap.size, 0, none⟩ = some (.int .i64 kx) := (HR1.out.ext hbV).cell 0
  replace a1 : WV.cell? ⟨w.heap.size, 1, none⟩ = some (.int .i64 nx) := (HR1.out.ext hbV).cell 1
  replace a2 : WV.cell? ⟨w.heap.size, 2, none⟩ = some (.string sx) := (HR1.out.ext hbV).cell 2
  replace a3 : WV.cell? ⟨w.heap.size, 3, none⟩ = some (.slice bi isx.length di) := (HR1.out.ext hbV).cell 3
  replace a4 : WV.cell? ⟨w.heap.size, 4, none⟩ = some (.slice bf fsx.length df) := (HR1.out.ext hbV).cell 4
  have HD2 := Lib.hid hdW
  have HM0 : Hid (MInv w WV W.heap.size (.slice none 0 0) (.slice none 0 0)) := Lib.hid ⟨hRd, ⟨_, HR3.out.ext hbV, rfl⟩, ext_trans HBW.out hbV⟩
  have HP0 := Lib.hid (HR2.out.ext hbV)
  have HVs : Hid (W.heap.size + 1 ≤ WV.heap.size) := Lib.hid hRd.lt
  clear c0 hbV hRd HR1 HR2 HR3 HBW hdW
  generalize W.heap.size = d at *
  have hk := HK9.out
  clear HK9
  have e5 : V.mk kx nx sx isx fsx = .mk 5 0 ByteArray.empty [] fsx := obj_is HCX.out hk
  injection e5 with e1 e2 e3 e4 _
  subst e1 e2 e3 e4
  obtain rfl : fs0 = fsx := by rw [← hfs0, base_obj rfl]; rfl
  clear hfs0 hk
  have HXC : Hid (Calls Try.prog 20 #[.agg #[.int .i64 5, .int .i64 0, .string ByteArray.empty, .slice bi ([] : List V).length di, .slice bf fs0.length df]] WV (CopyTop (.mk 5 0 ByteArray.empty [] fs0) WV)) := Lib.hid (xcT _ _ _ (RepV.ext HM0.out.bx HX.out) HCX.out)
  simp only [List.length_nil] at HXC a3
  go_wp2_with fail
  refine HXC.out.mono ?_
  rintro e w3 ⟨vi, vf, E, rfl, _, h2, h3, h4⟩
  obtain ⟨EI3, hi1, hi2⟩ := h2.now
  obtain ⟨ai3, ci3, rfl, hi3⟩ := id hi1
  obtain ⟨av, cv, rfl⟩ := h3.shape
  have HSI : Hid (∀ W9, Sl W9 (.slice ai3 0 ci3) 0 []) := Lib.hid (fun W9 => by
    obtain ⟨a9, c9, e9, g1, g2, g3, _⟩ := hi1
    exact ⟨a9, c9, e9, g1, g2, g3, fun i x hx => by simp at hx⟩)
  have HT := Lib.hid (h3.mono HVs.out)
  have HM3 := Lib.hid (HM0.out.ext h4)
  have HP3 := Lib.hid (HP0.out.ext h4)
  simp only [List.length_nil]
  clear a0 a1 a2 a3 a4 HXC h2 h3 h4 hi1 hi2 hi3
  go_upto_region 6 with (refine wpList_store_row rfl _ _ _ rfl d (vAr 5 0 eB (.slice ai3 0 ci3) (.slice av fs0.length cv)) rfl rfl _ _ HM3.out.rd (v_inf5 _ _ _ _ _) rfl (v_all5 _ _ _ _ _ _ _ _ _) ?_)
  have HM4 : Hid (MInv w (w3.setRow d (vAr 5 0 eB (.slice ai3 0 ci3) (.slice av fs0.length cv))) d (.slice ai3 0 ci3) (.slice av fs0.length cv)) := Lib.hid ⟨HM3.out.rd.row _, by obtain ⟨A, a, b⟩ := HM3.out.rr; exact ⟨A, a.row_other (by have := HD2.out; omega) _, b⟩, below_setRow HM3.out.bx (by have := HD2.out; omega) _⟩
  have HT4 : Hid (TopF (d + 1) (w3.setRow d (vAr 5 0 eB (.slice ai3 0 ci3) (.slice av fs0.length cv))) fs0 (.slice av fs0.length cv) E) := Lib.hid (HT.out.kept (by rw [setRow_size]; exact Nat.le_refl _) (fun q h1 h2 => setRow_other _ _ _ _ (by omega)))
  have c4 : (w3.setRow d (vAr 5 0 eB (.slice ai3 0 ci3) (.slice av fs0.length cv))).cell? ⟨w.heap.size + 1, 4, none⟩ = some (.slice af us.length cf) := (HP3.out.row_other (by have := HD2.out; omega) _).cell 4
  clear HM3 HT HP3 HM0 HP0 HX HCX HVs
  generalize w3.setRow d (vAr 5 0 eB (.slice ai3 0 ci3) (.slice av fs0.length cv)) = X0 at *
  have HO0 : Hid (fs0 = mergeFs fs0 (us.take 0)) := Lib.hid (by rw [List.take_zero]; simp only [mergeFs])
  go_wp2_with fail
  go_loopw [24] (fun i wr => ∃ (q : Nat) (out : List F) (av : Option Addr) (cv : Nat) (E : List (List Value)), q ≤ us.length ∧ i = .int .i64 (q : Int) ∧ Hid (out = mergeFs fs0 (us.take q)) ∧ Hid (MInv w wr d (.slice ai3 0 ci3) (.slice av out.length cv)) ∧ Hid (TopF (d + 1) wr out (.slice av out.length cv) E)) (fun i _ => us.length - (intOf i).toNat)
  case atStart => exact ⟨0, fs0, av, cv, E, by omega, rfl, HO0, HM4, HT4⟩
  case round =>
    clear HM4 HT4 HO0
    obtain ⟨q, out, av, cv, E, hq, rfl, HO, HM, HT⟩ := hrel
    generalize hXX : wr = X at *
    clear hXX c4
    have hol : out.length ≤ 200 := by
      have h1 := merge_len (us.take q) fs0
      rw [← HO.out, List.length_take] at h1
      have := HS0.out.2.2
      omega
    have HSO : Hid (Srt out) := Lib.hid (by rw [HO.out]; exact srt_mergeFs HS0.out.1)
    by_cases hlt : q < us.length
    · obtain ⟨f, hfu⟩ : ∃ f, us[q]? = some f := ⟨_, List.getElem?_eq_getElem hlt⟩
      obtain ⟨cy, hcy, hry0⟩ := All2.get HSU.out.2 hfu
      have hry := RepF.ext HM.out.bx hry0
      obtain ⟨p, o, e0, hp0, hcell⟩ := sl_elem (HSU.out.1.ext HM.out.bx) (all_len (fun _ _ => RepF.len) HSU.out.2) (by omega) hcy
      subst e0
      obtain ⟨nm, y⟩ := f
      have hry2 := hry
      simp only [RepF] at hry2
      obtain ⟨cv5, rfl, hnm, hrv⟩ := hry2
      obtain ⟨ky, ny, sy, a1, m1, r1, a2, m2, r2, rfl⟩ := V5 hrv
      have HKY := Lib.hid (rep_kind hrv)
      have HFU := Lib.hid hfu
      have HNM := Lib.hid hnm
      have HRV := Lib.hid hrv
      have HINF := Lib.hid (f_info hry)
      have HONE := Lib.hid (all_arr (RepF.one hry))
      have hqi : (q : Int) < (us.length : Int) := by omega
      clear hfu hcy hry0 hry hnm hrv hp0
      go_upto_region 9 with (first | (refine wpList_load_agg rfl _ _ rfl p (o + q * 6) (by rfl) [.string nm, .int .i64 ky, .int .i64 ny, .string sy, .slice a1 m1 r1, .slice a2 m2 r2] (fun j v hj => by rw [Nat.add_assoc]; exact hcell j v hj) _ Try.underlying38 rfl HINF.out ?_) | (refine wpList_store_row rfl _ _ _ rfl X.heap.size #[.string nm, .int .i64 ky, .int .i64 ny, .string sy, .slice a1 m1 r1, .slice a2 m2 r2] rfl rfl _ _ (RH.new _ _ _) HINF.out rfl HONE.out ?_))
      refine wp_stored fun Y hbY hRf => ?_
      have HMY := Lib.hid (HM.out.ext hbY)
      have HTY := Lib.hid (HT.out.ext hbY)
      have HRY := Lib.hid (RepV.ext hbY HRV.out)
      have HRF := Lib.hid hRf
      have HFD : Hid (Calls Try.prog 21 #[.slice av out.length cv, .string nm] Y (FndPost out nm Y)) := Lib.hid (find_at out HSO.out (by omega) nm av cv E Y HTY.out.sl HTY.out.rep)
      have d4 : Y.cell? ⟨d, 4, none⟩ = some (.slice av out.length cv) := HMY.out.c4
      have f0 : Y.cell? ⟨X.heap.size, 0, none⟩ = some (.string nm) := hRf.cell 0
      generalize X.heap.size = fb at *
      clear hbY hRf hcell HM HT HRV HINF HONE
      go_wp2_with fail
      refine HFD.out.mono ?_
      rintro e w2 ⟨i, hb, rfl, hfa, hb2⟩
      have HFA := Lib.hid hfa
      have HM2 := Lib.hid (HMY.out.ext hb2)
      have HT2 := Lib.hid (HTY.out.ext hb2)
      have HR2 := Lib.hid (RepV.ext hb2 HRY.out)
      have HRF2 := Lib.hid (HRF.out.ext hb2)
      have HIL := Lib.hid hfa.le
      replace d4 : w2.cell? ⟨d, 4, none⟩ = some (.slice av out.length cv) := HM2.out.c4
      replace f0 : w2.cell? ⟨fb, 0, none⟩ = some (.string nm) := HRF2.out.cell 0
      have f1 : w2.cell? ⟨fb, 1, none⟩ = some (.int .i64 ky) := HRF2.out.cell 1
      have f2 : w2.cell? ⟨fb, 2, none⟩ = some (.int .i64 ny) := HRF2.out.cell 2
      have f3 : w2.cell? ⟨fb, 3, none⟩ = some (.string sy) := HRF2.out.cell 3
      have f4 : w2.cell? ⟨fb, 4, none⟩ = some (.slice a1 m1 r1) := HRF2.out.cell 4
      have f5 : w2.cell? ⟨fb, 5, none⟩ = some (.slice a2 m2 r2) := HRF2.out.cell 5
      have HST : Hid (mergeFs fs0 (us.take (q + 1)) = if kind y = 0 then dropF nm out else putF nm (mergeV ((lk out nm).getD V0) y) out) := Lib.hid (by rw [take_snoc HFU.out, mergeFs_snoc, ← HO.out])
      have HLK : Hid (∀ x', lk out nm = some x' → chkV x' = 0) := Lib.hid (fun x' hx' => by
        rw [HO.out, lk_untouched HU.out.1 HS0.out.1 HFU.out] at hx'
        exact HS0.out.2.1 _ (lk_mem hx'))
      have HCY : Hid (chkV y = 0) := Lib.hid (HU.out.2 _ (List.mem_of_getElem? HFU.out))
      have HMC : Hid (MgAt y) := Lib.hid (HMG.out _ (List.mem_of_getElem? HFU.out))
      clear hfa hb2 HMY HTY HRY HRF HFD HO
      by_cases hk0 : ky = 0
      · subst hk0
        cases hb
        · have HO2 : Hid (out = mergeFs fs0 (us.take (q + 1))) := Lib.hid (by rw [HST.out, if_pos HKY.out, (HFA.out.gone HSO.out).2.1])
          clear HST HLK HMC
          go_wp2
          go_roundw
          case rel => exact ⟨q + 1, out, av, cv, E, by omega, by go_num, HO2, HM2, HT2⟩
          case measure => simp [intOf]; omega
        · obtain ⟨x', hx', hlk, hdrop, _⟩ := HFA.out.there HSO.out
          have hil : i < out.length := (List.getElem?_eq_some_iff.1 hx').1
          obtain ⟨g, cap, hgv, hgN, hgw⟩ := HT2.out.form (by omega)
          injection hgv with hg1 _ hg2
          subst hg1 hg2
          have HO2 : Hid (out.take i ++ out.drop (i + 1) = mergeFs fs0 (us.take (q + 1))) := Lib.hid (by rw [HST.out, if_pos HKY.out, hdrop])
          have HDL := Lib.hid (delF_at w2 (d + 1) g out.length cv i (i + 1) E.flatten HT2.out.own (Nat.lt_succ_self i) hil (by omega) HT2.out.one)
          rw [show ((i + 1 : Nat) : Int) = (i : Int) + 1 by omega] at HDL
          have HGD := Lib.hid (show d < g by omega)
          have hii : IntKind.i64.wrap ((i : Int) + 1) = (i : Int) + 1 := by rw [IntKind.wrap_i64]; omega
          generalize hmm : i + (out.length - (i + 1)) = mm at HDL
          have HLN : Hid ((out.take i ++ out.drop (i + 1)).length = mm) := Lib.hid (by rw [List.length_append, List.length_take, List.length_drop, ← hmm]; omega)
          have HMM := Lib.hid hmm
          clear hmm HST HLK HMC hlk hdrop hx'
          go_wp2_with fail
          refine HDL.out.mono ?_
          rintro e w3 ⟨rfl, ho3, hg3⟩
          have HM3 := Lib.hid (HM2.out.grown HD2.out hg3 (fun q hq => by cases hq; exact HGD.out))
          have hT3 := HT2.out.del hil (by rw [HMM.out]; exact ho3) hg3
          rw [HMM.out] at hT3
          have HT4 : Hid (TopF (d + 1) (w3.setCell ⟨d, 4, none⟩ (.slice (some ⟨g, 0, none⟩) mm cv)) (out.take i ++ out.drop (i + 1)) (.slice (some ⟨g, 0, none⟩) (out.take i ++ out.drop (i + 1)).length cv) (E.take i ++ E.drop (i + 1))) := Lib.hid (by rw [HLN.out]; exact topf_set4 hT3)
          have HM4 : Hid (MInv w (w3.setCell ⟨d, 4, none⟩ (.slice (some ⟨g, 0, none⟩) mm cv)) d (.slice ai3 0 ci3) (.slice (some ⟨g, 0, none⟩) (out.take i ++ out.drop (i + 1)).length cv)) := Lib.hid (by rw [HLN.out]; exact HM3.out.set4 HD2.out _)
          have d5 : w3.cell? ⟨d, 4, none⟩ = some (.slice (some ⟨g, 0, none⟩) out.length cv) := HM3.out.c4
          have hz : w3.frozen? ⟨d, 4, none⟩ = false := HM3.out.rd.fre 4
          clear d4 f0 f1 f2 f3 f4 f5 ho3 hg3 HDL hT3
          go_wp2
          go_roundw
          case rel => exact ⟨q + 1, _, some ⟨g, 0, none⟩, cv, _, by omega, by go_num, HO2, HM4, HT4⟩
          case measure => simp [intOf]; omega
      · have hkb : (ky == 0) = false := by simpa using hk0
        have HKN : Hid (kind y ≠ 0) := Lib.hid (by rw [HKY.out]; exact hk0)
        cases hb
        · have hgn := HFA.out.gone HSO.out
          have HO2 : Hid (out.take i ++ F.mk nm (mergeV V0 y) :: out.drop i = mergeFs fs0 (us.take (q + 1))) := Lib.hid (by rw [HST.out, if_neg HKN.out, hgn.1, hgn.2.2]; rfl)
          have HMGC : Hid (∀ W9, Below w2.heap.size w2 W9 → Calls Try.prog 11 #[.agg #[.int .i64 0, .int .i64 0, .string eB, .slice none 0 0, .slice none 0 0], .agg #[.int .i64 ky, .int .i64 ny, .string sy, .slice a1 m1 r1, .slice a2 m2 r2]] W9 (CopyPost (mergeV V0 y) W9)) := Lib.hid (fun W9 hW => HMC.out V0 _ _ W9 (rep_zero W9) (RepV.ext hW HR2.out) chk_zero HCY.out)
          have HOB : Hid (∀ q9, (Value.slice av out.length cv).ownBlock = some q9 → d < q9 ∧ q9 < w2.heap.size) := Lib.hid (fun q9 h9 => own_base HT2.out.own q9 h9)
          have HDW : Hid (d + 1 ≤ w2.heap.size) := Lib.hid HM2.out.rd.lt
          have hol2 : out.length ≤ 100000 := by omega
          clear hgn HST HLK HMC hk0
          go_wp2_with fail
          go_region_with (first
            | (go_at_call 11; refine (HMGC.out _ (Below.refl w2.heap.size w2).drew).mono ?_; rintro e w5 ⟨c', rfl, hf, hb5⟩; obtain ⟨k5, n5, s5, a5, m5, r5, a6, m6, r6, rfl⟩ := V5 hf.now; have hb6 := ext_trans ((Below.refl w2.heap.size w2).drew) hb5; have HT5 := Lib.hid (HT2.out.ext hb6); have HM5 := Lib.hid (HM2.out.ext hb6); have HF5 := Lib.hid hf; have HS5 := Lib.hid hb6.size; have d5 := HM5.out.c4; have hnd0 : d < w5.heap.size := HM5.out.rd.lt; have hnd : ¬ d = w5.heap.size := Nat.ne_of_lt hnd0; have hnd2 : ¬ w5.heap.size = d := (Nat.ne_of_lt hnd0).symm; have f05 : w5.cell? ⟨fb, 0, none⟩ = some (.string nm) := (HRF2.out.ext hb6).cell 0; clear hb5 hb6 hf)
            | (go_at_call 23; refine (insF_at _ (d + 1) (.slice av out.length cv) out.length i E.flatten (HT5.out.ext (ext_alloc _ _)).own HIL.out _ _ [.string nm, .int .i64 k5, .int .i64 n5, .string s5, .slice a5 m5 r5, .slice a6 m6 r6] rfl 38 (RH.new _ _ _) (RepF.one (fre_field HF5.out HNM.out).now) HT5.out.one (fun e9 => by have h9 := (HOB.out _ e9).2; have := HS5.out; omega) hol2 (Nat.le_trans (Nat.le_trans HDW.out HS5.out) (ext_alloc _ _).size)).mono ?_; rintro e w7 ⟨v7, rfl, ho7, hg7, hv7⟩; have hT7 := TopF.ins (M := w2.heap.size) (w1 := w5) (HT5.out.ext (ext_alloc _ _)) HIL.out HNM.out HF5.out HDW.out (ext_alloc _ _).size (Kept.below (ext_alloc _ _)) (fun q9 h9 => (HOB.out q9 h9).2) ho7 hg7 hv7; have HM7 := Lib.hid ((HM5.out.ext (ext_alloc _ _)).grown HD2.out hg7 (fun q9 h9 => (HOB.out q9 h9).1)); obtain ⟨a7, c7, e7⟩ := hT7.shape; generalize hLN7 : (out.take i ++ F.mk nm (mergeV V0 y) :: out.drop i).length = LN7 at e7; have HLN7 := Lib.hid hLN7; subst e7; have HT7 := Lib.hid hT7; have d7 := HM7.out.c4; have hz7 := HM7.out.rd.fre 4; clear ho7 hg7 hv7 hT7 hLN7))
          all_goals
            have HM8 : Hid (MInv w (w7.setCell ⟨d, 4, none⟩ (.slice a7 LN7 c7)) d (.slice ai3 0 ci3) (.slice a7 (out.take i ++ F.mk nm (mergeV V0 y) :: out.drop i).length c7)) := Lib.hid (by rw [HLN7.out]; exact HM7.out.set4 HD2.out _)
            have HT8 : Hid (TopF (d + 1) (w7.setCell ⟨d, 4, none⟩ (.slice a7 LN7 c7)) (out.take i ++ F.mk nm (mergeV V0 y) :: out.drop i) (.slice a7 (out.take i ++ F.mk nm (mergeV V0 y) :: out.drop i).length c7) (E.take i ++ (.string nm :: [.int .i64 k5, .int .i64 n5, .string s5, .slice a5 m5 r5, .slice a6 m6 r6]) :: E.drop i)) := Lib.hid (by rw [HLN7.out]; exact topf_set4 HT7.out)
            clear d5 f05 hnd0 hnd hnd2 d7 hz7
            go_wp2_with fail
            go_roundw
            case rel => exact ⟨q + 1, _, a7, c7, _, by omega, by go_num, HO2, HM8, HT8⟩
            case measure => simp [intOf]; omega
        · obtain ⟨x', hx', hlk, _, hput⟩ := HFA.out.there HSO.out
          have hil : i < out.length := (List.getElem?_eq_some_iff.1 hx').1
          obtain ⟨g, cap, hgv, hgN, hgw⟩ := HT2.out.form (by omega)
          injection hgv with hg1 _ hg2
          subst hg1 hg2
          obtain ⟨cx0, hcx0, hrx0⟩ := All2.get HT2.out.rep hx'
          simp only [RepF] at hrx0
          obtain ⟨cx, rfl, _, hrx⟩ := hrx0
          obtain ⟨kx2, nx2, sx2, a3, m3, r3, a4, m4, r4, rfl⟩ := V5 hrx
          have HO2 : Hid (out.set i (.mk nm (mergeV x' y)) = mergeFs fs0 (us.take (q + 1))) := Lib.hid (by rw [HST.out, if_neg HKN.out, hlk, hput]; rfl)
          have HMGC : Hid (∀ W9, Below w2.heap.size w2 W9 → Calls Try.prog 11 #[.agg #[.int .i64 kx2, .int .i64 nx2, .string sx2, .slice a3 m3 r3, .slice a4 m4 r4], .agg #[.int .i64 ky, .int .i64 ny, .string sy, .slice a1 m1 r1, .slice a2 m2 r2]] W9 (CopyPost (mergeV x' y) W9)) := Lib.hid (fun W9 hW => HMC.out x' _ _ W9 (RepV.ext hW hrx) (RepV.ext hW HR2.out) (HLK.out x' hlk) HCY.out)
          have HROW : Hid (∀ W9, TopF (d + 1) W9 out (.slice (some ⟨g, 0, none⟩) out.length cv) E → ∀ (j : Nat) (v : Value), [Value.string nm, .int .i64 kx2, .int .i64 nx2, .string sx2, .slice a3 m3 r3, .slice a4 m4 r4][j]? = some v → W9.cell? ⟨g, i * 6 + j, none⟩ = some v) := Lib.hid (fun W9 hT j v hj => by
            rw [hT.own.cellAt (i * 6 + j) (by have := (List.getElem?_eq_some_iff.1 hj).1; simp at this; omega)]
            exact fl_at hT.six hcx0 hj)
          have HCX0 := Lib.hid hcx0
          have HGD := Lib.hid (show d < g by omega)
          have HGW := Lib.hid hgw
          have HDW : Hid (d + 1 ≤ w2.heap.size) := Lib.hid HM2.out.rd.lt
          have r1' := HROW.out _ HT2.out 1 _ rfl
          have r2' := HROW.out _ HT2.out 2 _ rfl
          have r3' := HROW.out _ HT2.out 3 _ rfl
          have r4' := HROW.out _ HT2.out 4 _ rfl
          have r5' := HROW.out _ HT2.out 5 _ rfl
          have hz0 := HT2.out.own.frozenAt
          have hi0 : (0 : Int) ≤ (i : Int) := Int.natCast_nonneg _
          have hi1 : (i : Int) < (out.length : Int) := by omega
          clear hcx0 hrx hlk hput hx' HST HLK HMC hgN hgw hk0
          go_wp2_with fail
          go_region_with (go_at_call 11; refine (HMGC.out _ (Below.refl w2.heap.size w2).drew).mono ?_; rintro e w5 ⟨c', rfl, hf, hb5⟩; obtain ⟨k5, n5, s5, a5, m5, r5, a6, m6, r6, rfl⟩ := V5 hf.now; have hb6 := ext_trans ((Below.refl w2.heap.size w2).drew) hb5; have HT5 := Lib.hid (HT2.out.ext hb6); have HM5 := Lib.hid (HM2.out.ext hb6); have hz := HT5.out.own.frozenAt; have z1 := HROW.out _ HT5.out 1 _ rfl; have z2 := HROW.out _ HT5.out 2 _ rfl; have z3 := HROW.out _ HT5.out 3 _ rfl; have z4 := HROW.out _ HT5.out 4 _ rfl; have z5 := HROW.out _ HT5.out 5 _ rfl; have HF5 := Lib.hid hf; have HS5 := Lib.hid hb6.size; have d5 := HM5.out.c4; clear hb5 hb6 hf)
          all_goals
            have HP := TopF.put (M := w2.heap.size) (c := [.int .i64 k5, .int .i64 n5, .string s5, .slice a5 m5 r5, .slice a6 m6 r6]) HT5.out HCX0.out HNM.out HF5.out rfl HDW.out HGW.out
            rw [setCells_eq5] at HP
            generalize World.setCell _ _ _ = Z at *
            have HM6 : Hid (MInv w Z d (.slice ai3 0 ci3) (.slice (some ⟨g, 0, none⟩) (out.set i (.mk nm (mergeV x' y))).length cv)) := Lib.hid (by rw [List.length_set]; exact HM5.out.grown HD2.out HP.2 (fun q9 h9 => by cases h9; exact HGD.out))
            have HT6 : Hid (TopF (d + 1) Z (out.set i (.mk nm (mergeV x' y))) (.slice (some ⟨g, 0, none⟩) (out.set i (.mk nm (mergeV x' y))).length cv) (E.set i (.string nm :: [.int .i64 k5, .int .i64 n5, .string s5, .slice a5 m5 r5, .slice a6 m6 r6]))) := Lib.hid (by rw [List.length_set]; exact HP.1)
            clear HP z1 z2 z3 z4 z5 hz d5
            go_wp2_with fail
            go_roundw
            case rel => exact ⟨q + 1, _, some ⟨g, 0, none⟩, cv, _, by omega, by go_num, HO2, HM6, HT6⟩
            case measure => simp [intOf]; omega
    · obtain rfl : q = us.length := by omega
      have HOF : Hid (out = mergeFs fs0 us) := Lib.hid (by rw [HO.out, List.take_length])
      obtain ⟨AR, hAR, hAS⟩ := HM.out.rr
      have HAR := Lib.hid hAR
      have HRD := Lib.hid HM.out.rd
      have HFIN : Hid (CopyPost (obj (mergeFs fs0 us)) w (.returned (.agg (vAr 5 0 eB (.slice ai3 0 ci3) (.slice av out.length cv)))) (X.setRow (w.heap.size + 2) (vAr 5 0 eB (.slice ai3 0 ci3) (.slice av out.length cv)))) := Lib.hid ⟨_, rfl, fun w'' hk => by
        have hk2 : Kept (d + 1) X w'' := fun q9 h1 h2 => (hk q9 (by have := HD2.out; omega) (by rw [setRow_size]; exact h2)).trans (setRow_other _ _ _ _ (by have := HD2.out; omega))
        rw [← HOF.out]
        exact rep_mk (k := 5) (n := 0) (s := ByteArray.empty) (is := []) (EI := []) ⟨by unfold i64ok; omega, by unfold i64ok; omega, by decide⟩ (HSI.out w'') trivial (HT.out.fin hk2).1 (HT.out.fin hk2).2, below_setRow HM.out.bx (by omega) _⟩
      clear hAR HO hlt hq
      go_wp2_with (first | (refine wpList_load_agg rfl _ _ rfl d 0 (by rfl) [.int .i64 5, .int .i64 0, .string eB, .slice ai3 0 ci3, .slice av out.length cv] (vAr_cell HRD.out) _ Try.underlying25 rfl (v_inf5 5 0 eB (.slice ai3 0 ci3) (.slice av out.length cv)) ?_) | (refine wpList_store_row rfl _ _ _ rfl (w.heap.size + 2) (vAr 5 0 eB (.slice ai3 0 ci3) (.slice av out.length cv)) rfl rfl _ _ HAR.out (v_inf5 _ _ _ _ _) hAS (v_all5 _ _ _ _ _ _ _ _ _) ?_))
      (try simp only [Exit.inBlock, Exit.then])
      refine bodyPost_ret (v := .agg (vAr 5 0 eB (.slice ai3 0 ci3) (.slice av out.length cv))) (results_cell_row rfl _ _ _ _ _ _ _ rfl (HAR.out.row _) Try.underlying25 rfl (v_inf5 _ _ _ _ _)) rfl HFIN.out
end Fd
end Go.Proofs.Ytkjgifhklajifaa
